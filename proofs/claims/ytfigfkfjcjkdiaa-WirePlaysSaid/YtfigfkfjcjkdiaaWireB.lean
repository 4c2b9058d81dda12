/- Calls of the program's wire that change it: Next, Lose, Send. -/
import Derived.Test.YtfigfkfjcjkdiaaWireA
import Derived.Deep.Cut
namespace Go.Proofs.Ytfigfkfjcjkdiaa
open Go.RowKit Go.Sl Go.Conc

set_option maxHeartbeats 400000 in
theorem next_out (v : Value) (ss : List Lane) (L : Frag) (way : Int) (w : World) (h : WireF v ss L) (hL : Holds w L) (hw : NoWay ss way) :
    Calls Try.prog 8 #[v, .int .i64 way] w fun e w' => e = .returned (.tuple #[.slice none 0 0, .int .i64 1]) ∧ w = w' := by
  go_enter Try.func8, Try.ntmps8
  go_wp2_with (go_at_call 19; refine (lane_out v ss L way w h hL hw).mono ?_; rintro e w' ⟨rfl, rfl⟩)
  go_ret2
  exact ⟨rfl, rfl⟩

set_option maxHeartbeats 400000 in
theorem next_none (v : Value) (ss : List Lane) (L : Frag) (k : Nat) (w : World) (h : WireF v ss L) (hL : Holds w L) (hk : k < ss.length) (hn : ss[k].bag.length ≤ ss[k].gone) :
    Calls Try.prog 8 #[v, .int .i64 k] w fun e w' => e = .returned (.tuple #[.slice none 0 0, .int .i64 9]) ∧ w = w' := by
  obtain ⟨b, g, cap, cur, c, bb, A, B, C, rfl, rfl, e1, e2, hR, _, _⟩ := h.open hk
  obtain ⟨cc, buf, sn, rn, vs, Lq, Lr, Lb, rfl, hq, hr, hb, hg, hm, rfl⟩ := hR
  have c0 := hL.cell0 (o := 0) rfl
  have c1 := hL.cell1 e1
  have c3 : w.heap[cc]? = some (.chan 200 buf false sn rn false) := hL.get (List.mem_cons_of_mem _ (List.mem_cons_of_mem _ (List.mem_append_right _ (List.mem_append_left _ (List.mem_cons_self ..)))))
  have hlen : buf = #[] := by have := hq.length; rw [List.length_drop] at this; exact Array.eq_empty_of_size_eq_zero (by simp at this; omega)
  subst hlen
  clear hq hr hb hL e1 e2 h hg hm
  go_enter Try.func8, Try.ntmps8
  go_upto_region 5 with (go_at_call 19; refine (lane_in b g ss.length k cap w c0 hk).mono ?_; rintro e w' ⟨rfl, rfl⟩)
  refine wp_select_none (c := cc) (cap := 200) (s := sn) (r := rn) (tm := false) (z := .slice none 0 0) rfl ?hr c3 ?hn
  case hr => simp [go_sem, rcase]
  go_wp2
  go_ret2
  exact ⟨rfl, rfl⟩

set_option maxHeartbeats 400000 in
theorem next_some (v : Value) (ss : List Lane) (L : Frag) (k : Nat) (w : World) (h : WireF v ss L) (hL : Holds w L) (hk : k < ss.length) (hn : ss[k].gone < ss[k].bag.length) :
    Calls Try.prog 8 #[v, .int .i64 k] w fun e w' => ∃ v' L1 L2, e = .returned (.tuple #[v', .int .i64 0]) ∧ BytesF v' ss[k].bag[ss[k].gone] L1 ∧
      WireF v (ss.set k { ss[k] with gone := ss[k].gone + 1 }) L2 ∧ Moves w w' L (L1 ++ L2) := by
  obtain ⟨b, g, cap, cur, c, bb, A, B, C, rfl, rfl, e1, e2, hR, hset, _⟩ := h.open hk
  obtain ⟨cc, buf, sn, rn, vs, Lq, Lr, Lb, rfl, hq, hr, hb, hg, hm, rfl⟩ := hR
  have c0 := hL.cell0 (o := 0) rfl
  have c1 := hL.cell1 e1
  have c3 : w.heap[cc]? = some (.chan 200 buf false sn rn false) := hL.get (List.mem_cons_of_mem _ (List.mem_cons_of_mem _ (List.mem_append_right _ (List.mem_append_left _ (List.mem_cons_self ..)))))
  rw [List.drop_eq_getElem_cons hn] at hq
  obtain ⟨f, fs, hbuf⟩ : ∃ f fs, buf.toList = f :: fs := by
    cases hb' : buf.toList with
    | nil => rw [hb'] at hq; exact hq.elim
    | cons f fs => exact ⟨f, fs, rfl⟩
  rw [hbuf] at hq
  obtain ⟨Lf, Lq', hf, hq', rfl⟩ := hq
  have hpos : 0 < buf.size := by rw [← Array.length_toList, hbuf]; simp
  have hget : buf[0]'hpos = f := by
    have : buf[0]? = some f := by rw [← Array.getElem?_toList, hbuf]; rfl
    rw [Array.getElem?_eq_getElem hpos] at this; exact Option.some.inj this
  have hext : (buf.extract 1 buf.size).toList = fs := by rw [Array.toList_extract, hbuf]; simp [← Array.length_toList, hbuf]
  have hnew := hset bb { ss[k] with gone := ss[k].gone + 1 } ((cc, .chan 200 (buf.extract 1 buf.size) false sn (rn + 1) false) :: (Lq' ++ (Lr ++ Lb)))
    ⟨cc, _, sn, rn + 1, vs, Lq', Lr, Lb, rfl, by rw [hext]; exact hq', hr, hb, hn, hm, rfl⟩
  have hself : cur.setIfInBounds (k * 2 + 1) bb = cur := by
    apply Array.toList_inj.1; rw [Array.toList_setIfInBounds]; exact set_self (by simpa using e2)
  rw [hself] at hnew
  have HG := Lib.hid hget
  have HM : Hid (Moves w (w.setChan cc 200 (buf.extract 1 buf.size) false sn (rn + 1) false) ((b, .cells #[.slice (some ⟨g, 0, none⟩) ss.length cap] 49 (0, 0)) :: (g, .cells cur 53 (0, 0)) :: (A ++ ((cc, .chan 200 buf false sn rn false) :: (Lf ++ Lq' ++ (Lr ++ Lb)) ++ C)))
      (Lf ++ ((b, .cells #[.slice (some ⟨g, 0, none⟩) ss.length cap] 49 (0, 0)) :: (g, .cells cur 53 (0, 0)) :: (A ++ ((cc, .chan 200 (buf.extract 1 buf.size) false sn (rn + 1) false) :: (Lq' ++ (Lr ++ Lb)) ++ C))))) := by
    refine ((Moves.refl w ((cc, .chan 200 buf false sn rn false) :: (Lf ++ ((b, .cells #[.slice (some ⟨g, 0, none⟩) ss.length cap] 49 (0, 0)) :: (g, .cells cur 53 (0, 0)) :: (A ++ (Lq' ++ (Lr ++ Lb) ++ C)))))).setChan 200 (buf.extract 1 buf.size) false sn (rn + 1) false).re fun f g' h0 hc ha => ?_
    simp only [hc, ha]
    omega
  clear hq' hr hb hL e1 e2 h hg hm hset hext hself
  have HH := Lib.hid hnew
  have HF := Lib.hid hf
  clear hnew hf hget
  go_enter Try.func8, Try.ntmps8
  go_upto_region 5 with (go_at_call 19; refine (lane_in b g ss.length k cap w c0 hk).mono ?_; rintro e w' ⟨rfl, rfl⟩)
  refine wp_select_recv (c := cc) (cap := 200) (buf := buf) (s := sn) (r := rn) (closed := false) (tm := false) (z := .slice none 0 0) rfl ?hr c3 hpos ?hn
  case hr => simp [go_sem, rcase]
  go_wp2
  go_ret2
  refine ⟨_, Lf, _, ?_, HF.out, HH.out, HM.out⟩
  show Ending.returned (.tuple #[buf[0], .int .i64 0]) = _
  rw [HG.out]


set_option maxHeartbeats 400000 in
theorem lose_out (v : Value) (ss : List Lane) (L : Frag) (way : Int) (w : World) (h : WireF v ss L) (hL : Holds w L) (hw : NoWay ss way) :
    Calls Try.prog 10 #[v, .int .i64 way] w fun e w' => e = .returned (.int .i64 1) ∧ w = w' := by
  go_enter Try.func10, Try.ntmps10
  go_wp2_with (go_at_call 8; refine (next_out v ss L way w h hL hw).mono ?_; rintro e w' ⟨rfl, rfl⟩)
  go_ret
  exact ⟨rfl, rfl⟩
set_option maxHeartbeats 400000 in
theorem lose_none (v : Value) (ss : List Lane) (L : Frag) (k : Nat) (w : World) (h : WireF v ss L) (hL : Holds w L) (hk : k < ss.length) (hn : ss[k].bag.length ≤ ss[k].gone) :
    Calls Try.prog 10 #[v, .int .i64 k] w fun e w' => e = .returned (.int .i64 9) ∧ w = w' := by
  go_enter Try.func10, Try.ntmps10
  go_wp2_with (go_at_call 8; refine (next_none v ss L k w h hL hk hn).mono ?_; rintro e w' ⟨rfl, rfl⟩)
  go_ret
  exact ⟨rfl, rfl⟩
set_option maxHeartbeats 400000 in
theorem lose_some (v : Value) (ss : List Lane) (L : Frag) (k : Nat) (w : World) (h : WireF v ss L) (hL : Holds w L) (hk : k < ss.length) (hn : ss[k].gone < ss[k].bag.length) :
    Calls Try.prog 10 #[v, .int .i64 k] w fun e w' => ∃ L2, e = .returned (.int .i64 0) ∧
      WireF v (ss.set k { ss[k] with gone := ss[k].gone + 1 }) L2 ∧ Moves w w' L L2 := by
  go_enter Try.func10, Try.ntmps10
  go_wp2_with (go_at_call 8; refine (next_some v ss L k w h hL hk hn).mono ?_; rintro e w' ⟨v', L1, L2, rfl, _, hF, hM⟩)
  go_ret
  exact ⟨L2, rfl, hF, hM.drop⟩

/-! Send -/
set_option maxHeartbeats 400000 in
theorem send_out (v x : Value) (ss : List Lane) (L : Frag) (way : Int) (w : World) (h : WireF v ss L) (hL : Holds w L) (hw : NoWay ss way) :
    Calls Try.prog 13 #[v, .int .i64 way, x] w fun e w' => e = .returned (.int .i64 1) ∧ w = w' := by
  go_enter Try.func13, Try.ntmps13
  go_wp2_with (go_at_call 19; refine (lane_out v ss L way w h hL hw).mono ?_; rintro e w' ⟨rfl, rfl⟩)
  go_ret
  exact ⟨rfl, rfl⟩

set_option maxRecDepth 100000 in
set_option maxHeartbeats 400000 in
theorem send_full (v : Value) (ss : List Lane) (L : Frag) (k : Nat) (a : Option Addr) (n c : Nat) (w : World) (h : WireF v ss L) (hL : Holds w L) (hk : k < ss.length) (hn : n ≤ 131072) (hf : 200 ≤ ss[k].bag.length) :
    Calls Try.prog 13 #[v, .int .i64 k, .slice a n c] w fun e w' => e = .returned (.int .i64 10) ∧ w = w' := by
  obtain ⟨b, g, cap, cur, cv, bb, A, B, C, rfl, rfl, e1, e2, hR, _, _⟩ := h.open hk
  obtain ⟨cc, buf, sn, rn, vs, Lq, Lr, Lb, rfl, hq, hr, hb, hg, hm, rfl⟩ := hR
  have c0 := hL.cell0 (o := 0) rfl
  have c2 := hL.cell1 e2
  obtain ⟨ba, bcap, rfl⟩ := RowF.shape hr
  clear hq hr hb hL e1 e2 h hg hm
  go_enter Try.func13, Try.ntmps13
  go_wp2_with (go_at_call 19; refine (lane_in b g ss.length k cap w c0 hk).mono ?_; rintro e w' ⟨rfl, rfl⟩)
  go_ret
  exact ⟨rfl, rfl⟩

end Go.Proofs.Ytfigfkfjcjkdiaa
