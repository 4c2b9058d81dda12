/- Calls of the program's wire that only read: Waiting, Pick. -/
import Derived.Test.YtfigfkfjcjkdiaaWire
namespace Go.Proofs.Ytfigfkfjcjkdiaa
open Go.RowKit Go.Sl

set_option maxHeartbeats 400000 in
theorem waiting_out (v : Value) (ss : List Lane) (L : Frag) (way : Int) (w : World) (h : WireF v ss L) (hL : Holds w L) (hw : NoWay ss way) :
    Calls Try.prog 17 #[v, .int .i64 way] w fun e w' => e = .returned (.int .i64 0) ∧ w = w' := by
  go_enter Try.func17, Try.ntmps17
  go_wp2_with (go_at_call 19; refine (lane_out v ss L way w h hL hw).mono ?_; rintro e w' ⟨rfl, rfl⟩)
  go_ret
  exact ⟨rfl, rfl⟩

set_option maxHeartbeats 400000 in
theorem waiting_in (v : Value) (ss : List Lane) (L : Frag) (k : Nat) (w : World) (h : WireF v ss L) (hL : Holds w L) (hk : k < ss.length) :
    Calls Try.prog 17 #[v, .int .i64 k] w fun e w' => e = .returned (.int .i64 (ss[k].bag.length - ss[k].gone : Nat)) ∧ w = w' := by
  obtain ⟨b, g, cap, cur, c, bb, A, B, C, rfl, rfl, e1, e2, hR, _, _⟩ := h.open hk
  obtain ⟨cc, buf, sn, rn, vs, Lq, Lr, Lb, rfl, hq, hr, hb, hg, hm, rfl⟩ := hR
  have c0 := hL.cell0 (o := 0) rfl
  have c1 := hL.cell1 e1
  have c3 : w.heap[cc]? = some (.chan 200 buf false sn rn false) := hL.get (List.mem_cons_of_mem _ (List.mem_cons_of_mem _ (List.mem_append_right _ (List.mem_append_left _ (List.mem_cons_self ..)))))
  have hlen : buf.size = ss[k].bag.length - ss[k].gone := by have := hq.length; simpa using this
  clear hq hr hb hL e1 e2 h hg hm
  have H := Lib.hid hlen
  have hl := fun ty => run_len_chan (P := Try.prog) ty Try.underlying50 c3
  clear hlen c3
  go_enter Try.func17, Try.ntmps17
  go_wp2_with (go_at_call 19; refine (lane_in b g ss.length k cap w c0 hk).mono ?_; rintro e w' ⟨rfl, rfl⟩)
  go_ret
  exact ⟨by rw [H.out]; rfl, rfl⟩

set_option maxHeartbeats 400000 in
theorem pick_out (v : Value) (ss : List Lane) (L : Frag) (way at_ : Int) (w : World) (h : WireF v ss L) (hL : Holds w L) (hw : NoWay ss way) :
    Calls Try.prog 11 #[v, .int .i64 way, .int .i64 at_] w fun e w' => e = .returned (.tuple #[.slice none 0 0, .int .i64 1]) ∧ w = w' := by
  go_enter Try.func11, Try.ntmps11
  go_wp2_with (go_at_call 19; refine (lane_out v ss L way w h hL hw).mono ?_; rintro e w' ⟨rfl, rfl⟩)
  go_ret2
  exact ⟨rfl, rfl⟩

set_option maxHeartbeats 400000 in
theorem pick_bad (v : Value) (ss : List Lane) (L : Frag) (k : Nat) (at_ : Int) (w : World) (h : WireF v ss L) (hL : Holds w L) (hk : k < ss.length) (ha : at_ < 0 ∨ (0 ≤ at_ ∧ (ss[k].bag.length : Int) ≤ at_)) :
    Calls Try.prog 11 #[v, .int .i64 k, .int .i64 at_] w fun e w' => e = .returned (.tuple #[.slice none 0 0, .int .i64 9]) ∧ w = w' := by
  obtain ⟨b, g, cap, cur, c, bb, A, B, C, rfl, rfl, e1, e2, hR, _, _⟩ := h.open hk
  obtain ⟨cc, buf, sn, rn, vs, Lq, Lr, Lb, rfl, hq, hr, hb, hg, hm, rfl⟩ := hR
  have c0 := hL.cell0 (o := 0) rfl
  have c2 := hL.cell1 e2
  obtain ⟨ba, bcap, rfl⟩ := RowF.shape hr
  clear hq hr hb hL e1 e2 h hg hm
  rcases ha with ha | ⟨h0, ha⟩
  all_goals
    go_enter Try.func11, Try.ntmps11
    go_wp2_with (go_at_call 19; refine (lane_in b g ss.length k cap w c0 hk).mono ?_; rintro e w' ⟨rfl, rfl⟩)
    go_ret2
    exact ⟨rfl, rfl⟩

set_option maxHeartbeats 400000 in
theorem pick_in (v : Value) (ss : List Lane) (L : Frag) (k j : Nat) (w : World) (h : WireF v ss L) (hL : Holds w L) (hk : k < ss.length) (hj : j < ss[k].bag.length) (hsmall : ss[k].bag[j].length ≤ 131072) :
    Calls Try.prog 11 #[v, .int .i64 k, .int .i64 j] w fun e w' => ∃ v' L', e = .returned (.tuple #[v', .int .i64 0]) ∧ BytesF v' ss[k].bag[j] L' ∧ Moves w w' [] L' := by
  obtain ⟨b, g, cap, cur, c, bb, A, B, C, rfl, rfl, e1, e2, hR, _, _⟩ := h.open hk
  obtain ⟨cc, buf, sn, rn, vs, Lq, Lr, Lb, rfl, hq, hr, hb, hg, hm, rfl⟩ := hR
  have c0 := hL.cell0 (o := 0) rfl
  have c2 := hL.cell1 e2
  obtain ⟨fv, A', B', C', f1, f2, rfl⟩ := hb.get j hj
  have hL1 := (hL.right (A := [_, _])).right (A := A)
  have hLr : Holds w Lr := (hL1.left.right (A := [_])).right (A := Lq) |>.left
  have hLb := ((hL1.left.right (A := [_])).right (A := Lq)).right (A := Lr)
  obtain ⟨g', bcap, rfl, _, _, hcells⟩ := RowF.some hr hLr (by omega)
  have c4 := hcells j fv f1
  have hbytes := f2.at (hLb.right (A := A')).left
  clear hq hr hb hL e1 e2 h hg hm hcells f1 f2 hLr hLb hL1
  have hj' : (j : Int) < (ss[k].bag.length : Int) := by omega
  go_enter Try.func11, Try.ntmps11
  go_wp2_with (first | (go_at_call 19; refine (lane_in b g ss.length k cap w c0 hk).mono ?_; rintro e w' ⟨rfl, rfl⟩) | (go_at_call 21; refine (clone_any _ _ _ hbytes (by omega)).mono ?_; rintro e w' ⟨va, vc, L', rfl, hF, hM⟩))
  go_ret2
  exact ⟨_, _, rfl, hF, hM⟩

end Go.Proofs.Ytfigfkfjcjkdiaa
