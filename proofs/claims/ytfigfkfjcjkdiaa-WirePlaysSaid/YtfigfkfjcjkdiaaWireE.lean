/- The document's net: Send on a way that has room; Counts. -/
import Derived.Test.YtfigfkfjcjkdiaaWireD
namespace Go.Proofs.Ytfigfkfjcjkdiaa
open Go.RowKit Go.Sl Go.Conc

set_option maxRecDepth 100000 in
set_option maxHeartbeats 2000000 in
theorem rsend_in (v x : Value) (l : List UInt8) (ss : List Lane) (L F : Frag) (k : Nat) (w : World) (h : RefF v ss L) (hL : Holds w (L ++ F)) (hx : ∀ w', Holds w' F → BytesAt w' x l) (hk : k < ss.length) (hn : l.length ≤ 131072) (hf : ss[k].bag.length < 200) :
    Calls Try.prog 14 #[v, .int .i64 k, x] w fun e w' => ∃ L2, e = .returned (.int .i64 0) ∧ RefF v (ss.set k { ss[k] with bag := ss[k].bag ++ [l] }) L2 ∧ Moves w w' L L2 := by
  obtain ⟨i0, hi, hz0, hz1, hz2⟩ := info_parts infoSl
  obtain ⟨b, g, cap, cur, bb, cv, A, B, C, rfl, rfl, e1, e2, hR, _, hset⟩ := h.open hk
  obtain ⟨vs, Lr, Lb, rfl, hr, hb, hg, hm, rfl⟩ := hR
  have c0 := hL.left.cell0 (o := 0) rfl
  have c1 := hL.left.cell1 e1
  have hxw := hx w hL.right
  have hxd := hx w.drew hL.right
  obtain ⟨xa, xc, rfl⟩ : ∃ xa xc, x = .slice xa l.length xc := by
    rcases hxw with ⟨h1, h2, _⟩ | ⟨b', cap', h1, _⟩
    · exact ⟨none, 0, by rw [h1, h2]⟩
    · exact ⟨_, _, h1⟩
  obtain ⟨ba, bcap, hbb⟩ := RowF.shape hr
  subst hbb
  have HL := Lib.hid hL
  have HR := Lib.hid hr
  have e1 := Lib.hid e1
  have hlen := hf
  have HS := Lib.hid hset
  have HB := Lib.hid hb
  clear hL hx e2 h hm hf hset hb hr hxw
  obtain ⟨X0, hX0⟩ : ∃ X : Frag, X = [(b, .cells #[.slice (some ⟨g, 0, none⟩) ss.length cap] 56 (0, 0))] := ⟨_, rfl⟩
  obtain ⟨T, hT⟩ : ∃ T : Frag, T = (g, .cells cur 61 (0, 0)) :: (b, .cells #[.slice (some ⟨g, 0, none⟩) ss.length cap] 56 (0, 0)) :: (A ++ (Lb ++ C)) := ⟨_, rfl⟩
  have HT := Lib.hid hT
  clear hT
  have M0 := Lib.hid (Moves.refl w ((b, .cells #[.slice (some ⟨g, 0, none⟩) ss.length cap] 56 (0, 0)) :: (g, .cells cur 61 (0, 0)) :: (A ++ ((Lr ++ Lb) ++ C)))).drew
  go_enter Try.func14, Try.ntmps14
  go_upto_region 7 with (go_at_call 20; refine (is_in b g ss.length k cap w c0 hk).mono ?_; rintro e w' ⟨rfl, rfl⟩)
  go_region_law (first
    | (go_simp; go_at_call 22; refine (both_nil _ _ _ hxd (by omega)).mono ?_; rintro e w3 ⟨va2, vc2, L2, rfl, hF2, hM2⟩; have M3 := Lib.hid ((M0.out.call hM2).reR (M' := Lr ++ (L2 ++ T)) fun f g h0 hc ha => by simp only [hc, ha, HT.out]; omega); have e30 : w3.cell? ⟨b, 0, none⟩ = some (.slice (some ⟨g, 0, none⟩) ss.length cap) := (M3.out.to _ HL.out).cell (c := #[_]) (List.mem_append_left _ (List.mem_append_right _ (List.mem_append_right _ (by rw [HT.out]; exact List.mem_cons_of_mem _ (List.mem_cons_self ..))))) rfl; have e3 : w3.cell? ⟨g, k * 2, none⟩ = some (.slice ba ss[k].bag.length bcap) := (M3.out.to _ HL.out).cell (List.mem_append_left _ (List.mem_append_right _ (List.mem_append_right _ (by rw [HT.out]; exact List.mem_cons_self ..)))) e1.out; have l30 := cell_lt e30; have l3 := cell_lt e3)
    | (refine step_append_R rfl (.tmp 36) (.tmp 39) 51 rfl 29 i0 (.slice none 0 0) 1 24 Try.underlying51 hi hz0 hz1 hz2 rfl _ ss[k].bag.length vs Lr rfl HR.out ?_ _ 1 [.slice va2 l.length vc2] rfl rfl (rowAt_one _ _ _) ?_ ?_ ?_ ?_; exact ((M3.out.waste _).to _ HL.out).left.left; (intro u hu; rw [List.mem_singleton.1 hu]; rfl); omega; omega; intro v3 w4 L3 hF3 hM4 _; obtain ⟨va3, vc3, e7⟩ := RowF.shape hF3; subst e7; have M5 := Lib.hid ((M3.out.waste (.cells #[.slice va2 l.length vc2] 29)).calls hM4); clear hM4; have e50 : w4.cell? ⟨b, 0, none⟩ = some (.slice (some ⟨g, 0, none⟩) ss.length cap) := (M5.out.to _ HL.out).cell (c := #[_]) (List.mem_append_left _ (List.mem_append_right _ (List.mem_append_right _ (by rw [HT.out]; exact List.mem_cons_of_mem _ (List.mem_cons_self ..))))) rfl; have e5 : w4.cell? ⟨g, k * 2, none⟩ = some (.slice ba ss[k].bag.length bcap) := (M5.out.to _ HL.out).cell (List.mem_append_left _ (List.mem_append_right _ (List.mem_append_right _ (by rw [HT.out]; exact List.mem_cons_self ..)))) e1.out; have e6 : w4.frozen? ⟨g, k * 2, none⟩ = false := (M5.out.to _ HL.out).free (c := cur) (T := 61) (List.mem_append_left _ (List.mem_append_right _ (List.mem_append_right _ (by rw [HT.out]; exact List.mem_cons_self ..)))) _))
  all_goals
    go_wp2
    go_ret
    have hset := HS.out
    refine ⟨_, rfl, hset (.slice va3 (ss[k].bag.length + 1) vc3) { ss[k] with bag := ss[k].bag ++ [l] } _ ⟨vs ++ [.slice va2 l.length vc2], L3, Lb ++ L2, rfl, ?_, HB.out.snoc hF2, ?_, ?_, rfl⟩, ?_⟩
    · show RowF _ _ _ (ss[k].bag ++ [l]).length _ _
      rw [List.length_append]
      exact hF3
    · show ss[k].gone ≤ (ss[k].bag ++ [l]).length
      rw [List.length_append]; omega
    · show (ss[k].bag ++ [l]).length ≤ 200
      rw [List.length_append]; simp; omega
    · have M6 := (M5.out.reR (M' := (g, .cells cur 61 (0, 0)) :: ((b, .cells #[.slice (some ⟨g, 0, none⟩) ss.length cap] 56 (0, 0)) :: (A ++ (Lb ++ (C ++ (L3 ++ L2)))))) fun f g h0 hc ha => by simp only [hc, ha, HT.out]; omega).setCell (k * 2) (.slice va3 (ss[k].bag.length + 1) vc3)
      exact M6.reR fun f g h0 hc ha => by simp only [hc, ha]; omega

end Go.Proofs.Ytfigfkfjcjkdiaa
