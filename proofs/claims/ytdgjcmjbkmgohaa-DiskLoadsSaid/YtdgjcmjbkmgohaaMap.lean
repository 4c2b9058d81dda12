/- Maps whose keys are strings, as association lists: look-up, store, deletion, length. -/
import Derived.Test.YtdgjcmjbkmgohaaSl
import Derived.MapKept
import Derived.Maps.OwnSet
namespace Go.Sl
open Go.RowKit Go.MapKept

/-- A key as a value. -/
def kv (k : List UInt8) : Value := .string ⟨k.toArray⟩
theorem kv_inj {a b : List UInt8} (h : kv a = kv b) : a = b := by
  unfold kv at h
  injection h with h; injection h with h
  simpa using congrArg Array.toList h

/-- A map's block: its entries are these, in this order; each key once. -/
def MapO (l : List (List UInt8 × Value)) (o : Obj) : Prop :=
  ∃ es clock, o = .map es clock ∧ Stamped es clock ∧ es.toList.map (fun e => (e.key, e.val)) = l.map (fun p => (kv p.1, p.2))

def lookM (l : List (List UInt8 × Value)) (k : List UInt8) : Option Value := (l.find? (fun p => p.1 == k)).map (·.2)
def putM : List (List UInt8 × Value) → List UInt8 → Value → List (List UInt8 × Value)
  | [], k, v => [(k, v)]
  | p :: r, k, v => if p.1 == k then (k, v) :: r else p :: putM r k v

theorem mapO_new : MapO [] (.map #[] 0) := ⟨#[], 0, rfl, stamped_empty 0, rfl⟩

/-- Where a key stands. -/
theorem find_str (k : List UInt8) : ∀ (es : List MapEntry) (l : List (List UInt8 × Value)) (i : Nat), es.map (fun e => (e.key, e.val)) = l.map (fun p => (kv p.1, p.2)) →
    (Instr.findNow .string (kv k) es i = some none ∧ lookM l k = none ∧ putM l k = (fun v => l ++ [(k, v)]) ∧ ∀ e ∈ es, e.key ≠ kv k) ∨
    ∃ j v, Instr.findNow .string (kv k) es i = some (some (i + j, v)) ∧ lookM l k = some v ∧ j < es.length ∧ (es[j]?).map (·.key) = some (kv k) ∧ putM l k = (fun v => l.set j (k, v)) := by
  intro es
  induction es with
  | nil =>
    intro l i h
    obtain rfl : l = [] := by simpa using h.symm
    exact .inl ⟨rfl, rfl, rfl, fun e he => by cases he⟩
  | cons e es ih =>
    intro l i h
    cases l with
    | nil => simp at h
    | cons p l =>
      simp only [List.map_cons, List.cons.injEq, Prod.mk.injEq] at h
      obtain ⟨⟨h1, h2⟩, h3⟩ := h
      by_cases hk : p.1 = k
      · right
        refine ⟨0, e.val, ?_, ?_, by simp, by simp [h1, hk], ?_⟩
        · obtain ⟨r, hr, hiff⟩ := sameNow_of_keys (d := .string) (a := kv k) (b := e.key) (by simp [kv, IsKey]) (by rw [h1]; simp [kv, IsKey])
          have ht : r = true := hiff.2 (by rw [h1, hk])
          subst ht
          simp [Instr.findNow, hr]
        · simp [lookM, hk, h2]
        · funext v; simp [putM, hk]
      · have hb : (p.1 == k) = false := beq_eq_false_iff_ne.2 hk
        have hne : kv p.1 ≠ kv k := fun q => hk (kv_inj q)
        have hs : Instr.sameNow .string (kv k) e.key = some false := by
          obtain ⟨r, hr, hiff⟩ := sameNow_of_keys (d := .string) (a := kv k) (b := e.key) (by simp [kv, IsKey]) (by rw [h1]; simp [kv, IsKey])
          cases r with
          | false => exact hr
          | true => exact absurd (h1.symm.trans (hiff.1 rfl).symm) hne
        rcases ih l (i + 1) h3 with ⟨f1, f2, f3, f4⟩ | ⟨j, v, f1, f2, f3, f4, f5⟩
        · refine .inl ⟨by simp [Instr.findNow, hs, f1], by simpa [lookM, hb] using f2, ?_, ?_⟩
          · funext v; simp [putM, hb, f3]
          · intro x hx
            rcases List.mem_cons.1 hx with rfl | hx
            · rw [h1]; exact hne
            · exact f4 x hx
        · refine .inr ⟨j + 1, v, by simp [Instr.findNow, hs, f1]; omega, by simpa [lookM, hb] using f2, by simpa using f3, by simpa using f4, ?_⟩
          funext v'; simp [putM, hb, f5]

section
variable {P : Program} {w : World} {T K E : TypeId} {b : Nat} {o : Obj} {l : List (List UInt8 × Value)}

theorem run_look (hT : P.underlying T = some (.map K E)) (hK : P.underlying K = some .string) (hb : w.heap[b]? = some o) (ho : MapO l o) (k : List UInt8) {z : Value} (hz : (zeroValue E).run P w = .ok z w) (ok : Bool) :
    (Instr.lookup T (.map (some b)) (kv k) ok).run P w = .ok (if ok then .tuple #[(lookM l k).getD z, .bool (lookM l k).isSome] else (lookM l k).getD z) w := by
  obtain ⟨es, clock, rfl, hs, hl⟩ := ho
  have hc : ∀ e, (Instr.checkKey e 10000 K (kv k)).run P w = .ok () w := fun e => MapKept.run_checkKey (k := kv k) hK (by simp [kv, IsKey]) e 9999
  rcases find_str k es.toList l 0 hl with ⟨f1, f2, _, _⟩ | ⟨j, v, f1, f2, _, _, _⟩
  · simp [Instr.lookup, run_underlying hT, MapKept.run_getObj_map hb, hc, MapKept.run_findKey hK f1, Result.andThen, f2, hz]
  · simp [Instr.lookup, run_underlying hT, MapKept.run_getObj_map hb, hc, MapKept.run_findKey hK f1, Result.andThen, f2]

theorem run_putM (hT : P.underlying T = some (.map K E)) (hK : P.underlying K = some .string) (hb : w.heap[b]? = some o) (ho : MapO l o) (k : List UInt8) (v : Value) :
    ∃ o', (Instr.mapUpdate T (.map (some b)) (kv k) v).run P w = .ok () { w with heap := w.heap.setIfInBounds b o' } ∧ MapO (putM l k v) o' := by
  obtain ⟨es, clock, rfl, hs, hl⟩ := ho
  have hc : ∀ e, (Instr.checkKey e 10000 K (kv k)).run P w = .ok () w := fun e => MapKept.run_checkKey (k := kv k) hK (by simp [kv, IsKey]) e 9999
  rcases find_str k es.toList l 0 hl with ⟨f1, _, f3, f4⟩ | ⟨j, v', f1, _, f3, f4, f5⟩
  · refine ⟨_, by simp [Instr.mapUpdate, run_underlying hT, MapKept.run_getObj_map hb, hc, MapKept.run_findKey hK f1, Result.andThen, MapKept.run_setObj_map _ hb], es.push { key := kv k, val := v, born := clock }, clock + 1, rfl, stamped_push hs f4, ?_⟩
    rw [f3]; simp [hl]
  · have hkey : ((es[j]?).map (·.key)).getD (kv k) = kv k := by rw [← Array.getElem?_toList, f4]; rfl
    have hst : (Instr.keyThatStays (kv k) (kv k)).run P w = .ok (kv k) w := run_keyThatStays (d := .string) (by simp [kv, IsKey])
    refine ⟨_, by simp [Instr.mapUpdate, run_underlying hT, MapKept.run_getObj_map hb, hc, MapKept.run_findKey hK f1, Result.andThen, MapKept.run_setObj_map _ hb, hkey, hst], es.modify j fun e => { e with key := kv k, val := v }, clock, rfl, ?_, ?_⟩
    · refine stamped_modify hs j _ (fun _ _ => rfl) (fun e _ hj => ?_)
      rw [← Array.getElem?_toList] at hj
      rw [hj] at f4
      exact (Option.some.inj f4).symm
    · rw [f5]
      apply List.ext_getElem?
      intro i
      have hli : ∀ i : Nat, (es[i]?).map (fun e : MapEntry => (e.key, e.val)) = (l[i]?).map (fun p : List UInt8 × Value => (kv p.1, p.2)) := fun i => by
        have := congrArg (fun x => x[i]?) hl
        simpa using this
      by_cases e : j = i
      · subst e
        have hlen : es.toList.length = l.length := by simpa using congrArg List.length hl
        have h1 : j < es.size := by simpa using f3
        have h2 : j < l.length := by rw [← hlen]; exact f3
        simp [h1, h2]
      · simp [e, hli i]

theorem run_lenM (hT : P.underlying T = some (.map K E)) (hb : w.heap[b]? = some o) (ho : MapO l o) (ty : TypeId) : (Builtin.len_ #[T] ty #[.map (some b)]).run P w = .ok (goInt l.length) w := by
  obtain ⟨es, clock, rfl, hs, hl⟩ := ho
  have : es.size = l.length := by simpa using congrArg List.length hl
  simp [Builtin.len_, run_underlying hT, MapKept.run_getObj_map hb, Result.andThen, this]
end

/-- m[k] = v, in a walk. -/
theorem wpList_put {P : Program} {w : World} {ops : Array Oper} {rest : List Oper} {o : Oper} {a : Act} {Q : Exit → Act → World → Prop} (hg : o.guard = none) (m x v : Operand) (T K E : TypeId) (hop : o.op = Op.mapUpdate T m x v)
    (hT : P.underlying T = some (.map K E)) (hK : P.underlying K = some .string) (b : Nat) (ob : Obj) (L : Frag) (hm : a.eval m = .map (some b)) (hH : Holds w ((b, ob) :: L)) (l : List (List UInt8 × Value)) (ho : MapO l ob)
    (k : List UInt8) (hx : a.eval x = kv k) (val : Value) (hv : a.eval v = val)
    (hKK : ∀ w' o', MapO (putM l k val) o' → Moves w w' [(b, ob)] [(b, o')] → wpList P ops Q rest (a.put o.dst undef) w') : wpList P ops Q (o :: rest) a w := by
  refine wpList_plain hg fun K' hK' => ?_
  obtain ⟨o', hrun, ho'⟩ := run_putM (P := P) hT hK (hH.get (List.mem_cons_self ..)) ho k val
  unfold Oper.wp
  simp [execOp, hop, hm, hx, hv, hrun, Result.andThen]
  refine hK' _ _ (hKK _ o' ho' ((Moves.refl w [(b, ob)]).put ⟨rfl, rfl, rfl, by simp⟩ (fun hb => ?_) (fun k hk => ?_)))
  · have := (Array.getElem?_eq_some_iff.1 hb).1
    simp [this]
  · simp [Ne.symm hk]

end Go.Sl
