/- The document's net: Counts. -/
import Derived.Test.YtfigfkfjcjkdiaaWireD
namespace Go.Proofs.Ytfigfkfjcjkdiaa
open Go.RowKit Go.Sl Go.Conc

set_option maxHeartbeats 400000 in
theorem counts_out (v : Value) (ss : List Lane) (L : Frag) (way : Int) (w : World) (h : RefF v ss L) (hL : Holds w L) (hw : NoWay ss way) :
    Calls Try.prog 18 #[v, .int .i64 way] w fun e w' => e = .returned (.agg #[.int .i64 0, .int .i64 0]) ∧ Moves w w' [] [] := by
  have H := Lib.hid hL
  have hL' := fun o => ((Moves.refl w []).waste o).to _ H.out
  go_enter Try.func18, Try.ntmps18
  go_wp2_with (go_at_call 20; refine (is_out v ss L way _ h (hL' _) hw).mono ?_; rintro e w' ⟨rfl, rfl⟩)
  refine bodyPost_ret (v := .agg #[.int .i64 0, .int .i64 0]) (by simp [results, Try.results18, go_sem]) rfl ⟨rfl, (Moves.refl w []).waste _⟩

set_option maxHeartbeats 1000000 in
theorem counts_in (v : Value) (ss : List Lane) (L : Frag) (k : Nat) (w : World) (h : RefF v ss L) (hL : Holds w L) (hk : k < ss.length) :
    Calls Try.prog 18 #[v, .int .i64 k] w fun e w' => e = .returned (.agg #[.int .i64 ss[k].bag.length, .int .i64 ((ss[k].bag.length : Int) - ss[k].gone)]) ∧ Moves w w' [] [] := by
  obtain ⟨b, g, cap, cur, c, bb, A, B, C, rfl, rfl, e1, e2, hR, _, _⟩ := h.open hk
  obtain ⟨vs, Lr, Lb, rfl, hr, hb, hg, hm, rfl⟩ := hR
  have c0 := hL.cell0 (o := 0) rfl
  have c1 := hL.cell1 e1
  have c2 := hL.cell1 e2
  have l0 := cell_lt c0
  have l1 := cell_lt c1
  have c0' : ∀ o, (w.alloc o).cell? ⟨b, 0, none⟩ = some (.slice (some ⟨g, 0, none⟩) ss.length cap) := fun o => by rw [World.cell?_alloc_past _ _ _ l0]; exact c0
  obtain ⟨ba, bcap, rfl⟩ := RowF.shape hr
  clear hr hb hL e1 e2 h
  go_enter Try.func18, Try.ntmps18
  go_upto_region 3 with (go_at_call 20; refine (is_in b g ss.length k cap _ (c0' _) hk).mono ?_; rintro e w' ⟨rfl, rfl⟩)
  refine wp_still_tail 28 (by kernel_rfl) (by kernel_rfl) ?_
  simp only [List.take_succ_cons, List.take_zero, List.drop_succ_cons, List.drop_zero]
  repeat still_step
  refine wpStill_nil ?_
  go_wp2
  refine bodyPost_ret (v := .agg #[.int .i64 ss[k].bag.length, .int .i64 ((ss[k].bag.length : Int) - ss[k].gone)]) (by simp [results, Try.results18, go_sem]) rfl ⟨rfl, ?_⟩
  exact ((Moves.refl w []).waste _).drew

end Go.Proofs.Ytfigfkfjcjkdiaa
