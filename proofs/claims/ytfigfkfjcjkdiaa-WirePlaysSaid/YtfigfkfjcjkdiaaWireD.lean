/- The document's net: its calls. -/
import Derived.Test.YtfigfkfjcjkdiaaWireC
import Derived.StillTailTactics
namespace Go.Proofs.Ytfigfkfjcjkdiaa
open Go.RowKit Go.Sl Go.Conc

set_option maxHeartbeats 400000 in
theorem is_out (v : Value) (ss : List Lane) (L : Frag) (way : Int) (w : World) (h : RefF v ss L) (hL : Holds w L) (hw : NoWay ss way) :
    Calls Try.prog 20 #[v, .int .i64 way] w fun e w' => e = .returned (.bool false) ∧ w = w' := by
  obtain ⟨b, g, cap, rfl, hc⟩ := h.head hL
  rcases hw with h | ⟨h0, h⟩
  · go_enter Try.func20, Try.ntmps20
    go_wp2
    go_ret
    exact ⟨rfl, rfl⟩
  · go_enter Try.func20, Try.ntmps20
    go_wp2
    go_ret
    exact ⟨by simp; omega, rfl⟩
set_option maxHeartbeats 400000 in
theorem is_in (b g n k cap : Nat) (w : World) (hc : w.cell? ⟨b, 0, none⟩ = some (.slice (some ⟨g, 0, none⟩) n cap)) (h : k < n) :
    Calls Try.prog 20 #[.pointer (some ⟨b, 0, none⟩), .int .i64 k] w fun e w' => e = .returned (.bool true) ∧ w = w' := by
  go_enter Try.func20, Try.ntmps20
  go_wp2
  go_ret
  exact ⟨by simp, rfl⟩

set_option maxHeartbeats 400000 in
theorem rpick_out (v : Value) (ss : List Lane) (L : Frag) (way at_ : Int) (w : World) (h : RefF v ss L) (hL : Holds w L) (hw : NoWay ss way) :
    Calls Try.prog 12 #[v, .int .i64 way, .int .i64 at_] w fun e w' => e = .returned (.tuple #[.slice none 0 0, .int .i64 1]) ∧ w = w' := by
  go_enter Try.func12, Try.ntmps12
  go_wp2_with (go_at_call 20; refine (is_out v ss L way w h hL hw).mono ?_; rintro e w' ⟨rfl, rfl⟩)
  go_ret2
  exact ⟨rfl, rfl⟩

set_option maxHeartbeats 400000 in
theorem rpick_bad (v : Value) (ss : List Lane) (L : Frag) (k : Nat) (at_ : Int) (w : World) (h : RefF v ss L) (hL : Holds w L) (hk : k < ss.length) (ha : at_ < 0 ∨ (0 ≤ at_ ∧ (ss[k].bag.length : Int) ≤ at_)) :
    Calls Try.prog 12 #[v, .int .i64 k, .int .i64 at_] w fun e w' => e = .returned (.tuple #[.slice none 0 0, .int .i64 9]) ∧ w = w' := by
  obtain ⟨b, g, cap, cur, c, bb, A, B, C, rfl, rfl, e1, e2, hR, _, _⟩ := h.open hk
  obtain ⟨vs, Lr, Lb, rfl, hr, hb, hg, hm, rfl⟩ := hR
  have c0 := hL.cell0 (o := 0) rfl
  have c2 := hL.cell1 e1
  obtain ⟨ba, bcap, rfl⟩ := RowF.shape hr
  clear hr hb hL e1 e2 h hg hm
  rcases ha with ha | ⟨h0, ha⟩
  all_goals
    go_enter Try.func12, Try.ntmps12
    go_wp2_with (go_at_call 20; refine (is_in b g ss.length k cap w c0 hk).mono ?_; rintro e w' ⟨rfl, rfl⟩)
    go_ret2
    exact ⟨rfl, rfl⟩

/-- What a way holds at place j, read. -/
theorem WayF.frame {bv gv : Value} {s : Lane} {L : Frag} (h : WayF bv gv s L) {w : World} (hL : Holds w L) {j : Nat} (hj : j < s.bag.length) :
    ∃ g cap fv, bv = .slice (some ⟨g, 0, none⟩) s.bag.length cap ∧ w.cell? ⟨g, j, none⟩ = some fv ∧ (∀ w', Holds w' L → BytesAt w' fv s.bag[j]) ∧ ∃ a c, fv = .slice a s.bag[j].length c := by
  obtain ⟨vs, Lr, Lb, rfl, hr, hb, hg, hm, rfl⟩ := h
  obtain ⟨fv, A', B', C', f1, f2, rfl⟩ := hb.get j hj
  obtain ⟨g', bcap, rfl, _, _, hcells⟩ := RowF.some hr hL.left (by omega)
  exact ⟨g', bcap, fv, rfl, hcells j fv f1, fun w' h' => f2.at (h'.right.right (A := A')).left, RowF.shape f2⟩

set_option maxHeartbeats 400000 in
theorem rpick_in (v : Value) (ss : List Lane) (L : Frag) (k j : Nat) (w : World) (h : RefF v ss L) (hL : Holds w L) (hk : k < ss.length) (hj : j < ss[k].bag.length) :
    Calls Try.prog 12 #[v, .int .i64 k, .int .i64 j] w fun e w' => ∃ a c, e = .returned (.tuple #[.slice a ss[k].bag[j].length c, .int .i64 0]) ∧ (∀ w', Holds w' L → BytesAt w' (.slice a ss[k].bag[j].length c) ss[k].bag[j]) ∧ w = w' := by
  obtain ⟨b, g, cap, cur, c, bb, A, B, C, rfl, rfl, e1, e2, hR, _, _⟩ := h.open hk
  have hLB := ((hL.right (A := [_, _])).right (A := A)).left
  obtain ⟨g', bcap, fv, rfl, c4, hbytes, fa, fc, rfl⟩ := hR.frame hLB hj
  have c0 := hL.cell0 (o := 0) rfl
  have c2 := hL.cell1 e1
  have hj' : (j : Int) < (ss[k].bag.length : Int) := by omega
  have HB := Lib.hid hbytes
  clear hbytes hL e1 e2 h hLB hR
  go_enter Try.func12, Try.ntmps12
  go_wp2_with (go_at_call 20; refine (is_in b g ss.length k cap w c0 hk).mono ?_; rintro e w' ⟨rfl, rfl⟩)
  go_ret2
  exact ⟨fa, fc, rfl, fun w' h' => HB.out w' ((h'.right (A := [_, _])).right (A := A)).left, rfl⟩

set_option maxHeartbeats 400000 in
theorem rnext_out (v : Value) (ss : List Lane) (L : Frag) (way : Int) (w : World) (h : RefF v ss L) (hL : Holds w L) (hw : NoWay ss way) :
    Calls Try.prog 9 #[v, .int .i64 way] w fun e w' => e = .returned (.tuple #[.slice none 0 0, .int .i64 1]) ∧ w = w' := by
  go_enter Try.func9, Try.ntmps9
  go_wp2_with (go_at_call 20; refine (is_out v ss L way w h hL hw).mono ?_; rintro e w' ⟨rfl, rfl⟩)
  go_ret2
  exact ⟨rfl, rfl⟩

set_option maxHeartbeats 400000 in
theorem rnext_none (v : Value) (ss : List Lane) (L : Frag) (k : Nat) (w : World) (h : RefF v ss L) (hL : Holds w L) (hk : k < ss.length) (hn : ss[k].bag.length ≤ ss[k].gone) :
    Calls Try.prog 9 #[v, .int .i64 k] w fun e w' => e = .returned (.tuple #[.slice none 0 0, .int .i64 9]) ∧ Moves w w' [] [] := by
  obtain ⟨b, g, cap, cur, c, bb, A, B, C, rfl, rfl, e1, e2, hR, _, _⟩ := h.open hk
  obtain ⟨vs, Lr, Lb, rfl, hr, hb, hg, hm, rfl⟩ := hR
  have c0 := hL.cell0 (o := 0) rfl
  have c1 := hL.cell1 e1
  have c2 := hL.cell1 e2
  obtain ⟨ba, bcap, rfl⟩ := RowF.shape hr
  clear hr hb hL e1 e2 h
  go_enter Try.func9, Try.ntmps9
  go_wp2_with (go_at_call 20; refine (is_in b g ss.length k cap w c0 hk).mono ?_; rintro e w' ⟨rfl, rfl⟩)
  go_ret2
  exact ⟨rfl, (Moves.refl w []).waste _⟩

set_option maxHeartbeats 400000 in
theorem rnext_some (v : Value) (ss : List Lane) (L : Frag) (k : Nat) (w : World) (h : RefF v ss L) (hL : Holds w L) (hk : k < ss.length) (hn : ss[k].gone < ss[k].bag.length) :
    Calls Try.prog 9 #[v, .int .i64 k] w fun e w' => ∃ a c L2, e = .returned (.tuple #[.slice a ss[k].bag[ss[k].gone].length c, .int .i64 0]) ∧
      (∀ w', Holds w' L2 → BytesAt w' (.slice a ss[k].bag[ss[k].gone].length c) ss[k].bag[ss[k].gone]) ∧ RefF v (ss.set k { ss[k] with gone := ss[k].gone + 1 }) L2 ∧ Moves w w' L L2 := by
  obtain ⟨b, g, cap, cur, c, bb, A, B, C, rfl, rfl, e1, e2, hR, hset, _⟩ := h.open hk
  have hLB := ((hL.right (A := [_, _])).right (A := A)).left
  obtain ⟨g', bcap, fv, rfl, c4, hbytes, fa, fc, rfl⟩ := hR.frame hLB hn
  obtain ⟨vs, Lr, Lb, rfl, hr, hb, hg, hm, rfl⟩ := hR
  have c0 := hL.cell0 (o := 0) rfl
  have c1 := hL.cell1 e1
  have c2 := hL.cell1 e2
  have f2 := hL.free1 (k * 2 + 1)
  have l0 := cell_lt c0
  have l1 := cell_lt c1
  have l4 := cell_lt c4
  have hnew := hset (.int .i64 ((ss[k].gone : Int) + 1)) { ss[k] with gone := ss[k].gone + 1 } (Lr ++ Lb) ⟨vs, Lr, Lb, by simp, hr, hb, hn, hm, rfl⟩
  have HN := Lib.hid hnew
  have HB := Lib.hid hbytes
  have hj' : (ss[k].gone : Int) < (ss[k].bag.length : Int) := by omega
  have hno : g' ≠ g := by
    intro e
    subst e
    have h1 := hL.1
    rcases hr.2 with ⟨e1, _⟩ | ⟨_, _, _, e1, rfl, _⟩
    · cases e1
    · injection e1 with e1; injection e1 with e1; injection e1 with e1
      subst e1
      simp at h1
  clear hbytes hL e1 e2 h hLB hr hb hset hnew
  go_enter Try.func9, Try.ntmps9
  go_wp2_with (go_at_call 20; refine (is_in b g ss.length k cap w c0 hk).mono ?_; rintro e w' ⟨rfl, rfl⟩)
  go_ret2
  refine ⟨fa, fc, _, rfl, fun w' h' => HB.out w' ((h'.right (A := [_, _])).right (A := A)).left, HN.out, ?_⟩
  exact ((((Moves.refl w _).reR (M' := (g, .cells cur 61 (0, 0)) :: (b, .cells #[.slice (some ⟨g, 0, none⟩) ss.length cap] 56 (0, 0)) :: (A ++ (Lr ++ Lb ++ C))) fun f g h0 hc ha => by simp only [hc, ha]; omega).setCell (k * 2 + 1) _).waste _).reR fun f g h0 hc ha => by simp only [hc, ha]; omega

/-! Send -/
set_option maxHeartbeats 400000 in
theorem rsend_out (v x : Value) (ss : List Lane) (L : Frag) (way : Int) (w : World) (h : RefF v ss L) (hL : Holds w L) (hw : NoWay ss way) :
    Calls Try.prog 14 #[v, .int .i64 way, x] w fun e w' => e = .returned (.int .i64 1) ∧ w = w' := by
  go_enter Try.func14, Try.ntmps14
  go_wp2_with (go_at_call 20; refine (is_out v ss L way w h hL hw).mono ?_; rintro e w' ⟨rfl, rfl⟩)
  go_ret
  exact ⟨rfl, rfl⟩

set_option maxRecDepth 100000 in
set_option maxHeartbeats 400000 in
theorem rsend_full (v : Value) (ss : List Lane) (L : Frag) (k : Nat) (a : Option Addr) (n c : Nat) (w : World) (h : RefF v ss L) (hL : Holds w L) (hk : k < ss.length) (hn : n ≤ 131072) (hf : 200 ≤ ss[k].bag.length) :
    Calls Try.prog 14 #[v, .int .i64 k, .slice a n c] w fun e w' => e = .returned (.int .i64 10) ∧ w = w' := by
  obtain ⟨b, g, cap, cur, cv, bb, A, B, C, rfl, rfl, e1, e2, hR, _, _⟩ := h.open hk
  obtain ⟨vs, Lr, Lb, rfl, hr, hb, hg, hm, rfl⟩ := hR
  have c0 := hL.cell0 (o := 0) rfl
  have c2 := hL.cell1 e1
  obtain ⟨ba, bcap, rfl⟩ := RowF.shape hr
  clear hr hb hL e1 e2 h hg hm
  go_enter Try.func14, Try.ntmps14
  go_wp2_with (go_at_call 20; refine (is_in b g ss.length k cap w c0 hk).mono ?_; rintro e w' ⟨rfl, rfl⟩)
  go_ret
  exact ⟨rfl, rfl⟩

/-- append(append(nil, a...), b...) of bytes. -/
theorem both_nil (x : Value) (l : List UInt8) (w : World) (h : BytesAt w x l) (hl : l.length ≤ 140737488355328) :
    Calls Try.prog 22 #[.slice none 0 0, x] w fun e w' => ∃ a c L, e = .returned (.slice a l.length c) ∧ BytesF (.slice a l.length c) l L ∧ Moves w w' [] L := by
  obtain ⟨i0, hi, hz0, hz1, hz2⟩ := info_parts infoU8
  go_enter Try.func22, Try.ntmps22
  go_wp2_with (first
    | (at_builtin; refine wpList_append_R rfl (.tmp 6) (.tmp 7) 29 rfl 5 i0 (.int .u8 0) 1 1 Try.underlying29 hi hz0 hz1 hz2 rfl _ 0 [] [] rfl ⟨rfl, .inl ⟨rfl, rfl, rfl⟩⟩ (Holds.nil w) _ 0 [] rfl rfl (.inl ⟨rfl, rfl, rfl⟩) (fun u hu => by cases hu) (by omega) (by omega) ?_; intro v1 w1 L1 hF1 hM1 hnil1; have e1 := hnil1.2 ⟨rfl, rfl⟩; subst e1; clear hnil1)
    | (at_builtin; refine wpList_append_R rfl (.tmp 9) (.tmp 10) 29 rfl 5 i0 (.int .u8 0) 1 1 Try.underlying29 hi hz0 hz1 hz2 rfl _ 0 [] [] rfl ⟨rfl, .inl ⟨rfl, rfl, rfl⟩⟩ (Holds.nil _) _ l.length (bs l) rfl (by simp) (h.moves (hM1.dropR (A := []) (B := L1))) (bs_one l) (by omega) (by omega) ?_; intro v2 w2 L2 hF2 hM2 hnil2; clear hnil2))
  go_ret
  rw [Nat.zero_add, List.nil_append] at hF2
  obtain ⟨a, c, rfl⟩ := RowF.shape hF2
  exact ⟨a, c, L2, rfl, hF2, ((hM1.dropR (A := []) (B := L1))).trans hM2⟩

end Go.Proofs.Ytfigfkfjcjkdiaa
