/- A region whose first operation is a select of one case with a default, in one goroutine: a rule for the walk. -/
import Derived.Test.YtfigfkfjcjkdiaaSl
namespace Go.Sl
open Go.RowKit Go.Conc

theorem comm_any {P : Program} {b : Frame} {a : Act} {k : List Item} {cs : List Frame} {w w' : World} {ops : Array Oper} {i : Nat} {rest : List Nat} {o : Oper} {cases_ : Array CommCase} {blocking : Bool} {shape : CommShape}
    (ho : ops[i]? = some o) (hw : Region.wanted o (yielded ops a.tmps) = true) (hr : (execOp a.eval o).run P w = .ok (.comm cases_ blocking shape) w') :
    ∃ es, stepG P true (G (b.at a (.inRegion ops (i :: rest) :: k)) cs) w = .comm (G (b.at a (.inRegion ops (i :: rest) :: k)) cs) cases_ blocking shape w' es := by
  by_cases hk : b.kind = .early
  · refine ⟨?_, ?_⟩
    rotate_left
    · show stepG P true { frame := b.at a (.inRegion ops (i :: rest) :: k), callers := cs, status := .running, dying := none } w = _
      rw [stepG_op ho hw]
      simp [stepG.apply, Sem.runT_eq, hr, G, GStep.after]
      rfl
  · exact ⟨_, stepG_comm ho hw hk hr⟩

theorem wp_select {P : Program} {id : Nat} {o : Oper} {l : List Oper} {a : Act} {w w' : World} {Q : Exit → Act → World → Prop} (v : Value)
    (hstep : ∀ (b : Frame) (k : List Item) (cs : List Frame), step P (solo (G (b.at a (.inRegion (o :: l).toArray (0 :: List.range' 1 l.length) :: k)) cs) w) =
      .next (solo (G ((b.at a (.inRegion (o :: l).toArray (0 :: List.range' 1 l.length) :: k)).finish v) cs) w'))
    (h : wpList P (o :: l).toArray Q l (a.put o.dst v) w') : (Code.region id (o :: l).toArray false).wp P Q a w := by
  intro b k cs
  have h' : wpOps P (o :: l).toArray Q (List.range' 1 l.length) (a.put o.dst v) w' := by
    rw [wpOps_eq_wpList l 1 (fun j => by simp [Nat.add_comm 1 j])]; exact h
  obtain ⟨e, a', w'', q, harr⟩ := wp_ops _ _ _ h' b k cs
  refine ⟨e, a', w'', q, .of_steps (Steps.trans (.one step_region) (.one ?_)) harr⟩
  have hs := hstep b k cs
  rw [Frame.finish_at] at hs
  have e1 : List.range (o :: l).toArray.size = 0 :: List.range' 1 l.length := by
    simp [List.range_eq_range', List.range'_succ]
  rw [e1]
  simp at hs
  exact hs

/-- The receive case is ready. -/
theorem wp_select_recv {P : Program} {id : Nat} {o : Oper} {l : List Oper} {a : Act} {w : World} {Q : Exit → Act → World → Prop} {c cap s r : Nat} {buf : Array Value} {closed tm : Bool} {z : Value} (hg : o.guard = none)
    (hr : (execOp a.eval o).run P w = .ok (.comm #[rcase c z] false .select) w) (hc : w.heap[c]? = some (.chan cap buf closed s r tm)) (hsome : 0 < buf.size)
    (h : wpList P (o :: l).toArray Q l (a.put o.dst (.tuple #[goInt 0, .bool true, buf.getD 0 undef])) (w.setChan c cap (buf.extract 1 buf.size) closed s (r + 1) tm)) : (Code.region id (o :: l).toArray false).wp P Q a w := by
  refine wp_select _ (fun b k cs => ?_) h
  obtain ⟨es, he⟩ := comm_any (P := P) (b := b) (a := a) (k := k) (cs := cs) (w := w) (ops := (o :: l).toArray) (i := 0) (rest := List.range' 1 l.length) (o := o) rfl (by simp [Region.wanted, hg]) hr
  exact step_lone_select_recv_buf he hc hsome
/-- Nothing is there: the default. -/
theorem wp_select_none {P : Program} {id : Nat} {o : Oper} {l : List Oper} {a : Act} {w : World} {Q : Exit → Act → World → Prop} {c cap s r : Nat} {tm : Bool} {z : Value} (hg : o.guard = none)
    (hr : (execOp a.eval o).run P w = .ok (.comm #[rcase c z] false .select) w) (hc : w.heap[c]? = some (.chan cap #[] false s r tm))
    (h : wpList P (o :: l).toArray Q l (a.put o.dst (.tuple #[goInt (-1), .bool false, z])) w) : (Code.region id (o :: l).toArray false).wp P Q a w := by
  refine wp_select _ (fun b k cs => ?_) h
  obtain ⟨es, he⟩ := comm_any (P := P) (b := b) (a := a) (k := k) (cs := cs) (w := w) (ops := (o :: l).toArray) (i := 0) (rest := List.range' 1 l.length) (o := o) rfl (by simp [Region.wanted, hg]) hr
  exact step_lone_select_default he hc
/-- The send case has room. -/
theorem wp_select_send {P : Program} {id : Nat} {o : Oper} {l : List Oper} {a : Act} {w : World} {Q : Exit → Act → World → Prop} {c cap s r : Nat} {buf : Array Value} {tm : Bool} {v z : Value} (hg : o.guard = none)
    (hr : (execOp a.eval o).run P w = .ok (.comm #[scase c v z] false .select) w) (hc : w.heap[c]? = some (.chan cap buf false s r tm)) (hroom : buf.size < cap)
    (h : wpList P (o :: l).toArray Q l (a.put o.dst (.tuple #[goInt 0, .bool false])) (w.setChan c cap (buf.push v) false (s + 1) r tm)) : (Code.region id (o :: l).toArray false).wp P Q a w := by
  refine wp_select _ (fun b k cs => ?_) h
  obtain ⟨es, he⟩ := comm_any (P := P) (b := b) (a := a) (k := k) (cs := cs) (w := w) (ops := (o :: l).toArray) (i := 0) (rest := List.range' 1 l.length) (o := o) rfl (by simp [Region.wanted, hg]) hr
  exact step_lone_select_send_room he hc hroom
/-- len of a channel. -/
theorem run_len_chan {P : Program} {w : World} {t e : TypeId} {dir : ChanDir} (ty : TypeId) {c cap s r : Nat} {buf : Array Value} {closed : Bool} (ht : P.underlying t = some (.chan dir e)) (hc : w.heap[c]? = some (.chan cap buf closed s r false)) :
    (Builtin.len_ #[t] ty #[.chan (some c)]).run P w = .ok (goInt buf.size) w := by
  have hg : (getObj c).run P w = .ok (.chan cap buf closed s r false) w := by simp [getObj, Sem.run, hc]
  simp [Builtin.len_, run_underlying ht, hg]
end Go.Sl
