/- Send on a way that has room. -/
import Derived.Test.YtfigfkfjcjkdiaaWireB
import Derived.Deep.RegionLaw
namespace Go.Proofs.Ytfigfkfjcjkdiaa
open Go.RowKit Go.Sl Go.Conc

theorem infoSl : (Try.prog.info? 29).map (fun i => (i.zero, i.size, i.bytes)) = some (some (.slice none 0 0), 1, 24) := by kernel_rfl

set_option maxRecDepth 100000 in
set_option maxHeartbeats 1000000 in
theorem send_in (v x : Value) (l : List UInt8) (ss : List Lane) (L F : Frag) (k : Nat) (w : World) (h : WireF v ss L) (hL : Holds w (L ++ F)) (hx : ∀ w', Holds w' F → BytesAt w' x l) (hk : k < ss.length) (hn : l.length ≤ 131072) (hf : ss[k].bag.length < 200) :
    Calls Try.prog 13 #[v, .int .i64 k, x] w fun e w' => ∃ L2, e = .returned (.int .i64 0) ∧ WireF v (ss.set k { ss[k] with bag := ss[k].bag ++ [l] }) L2 ∧ Moves w w' L L2 := by
  obtain ⟨i0, hi, hz0, hz1, hz2⟩ := info_parts infoSl
  obtain ⟨b, g, cap, cur, cv, bb, A, B, C, rfl, rfl, e1, e2, hR, hset, _⟩ := h.open hk
  obtain ⟨cc, buf, sn, rn, vs, Lq, Lr, Lb, rfl, hq, hr, hb, hg, hm, rfl⟩ := hR
  have c0 := hL.left.cell0 (o := 0) rfl
  have c1 := hL.left.cell1 e1
  have c2 := hL.left.cell1 e2
  have c3 : w.heap[cc]? = some (.chan 200 buf false sn rn false) := hL.left.get (List.mem_cons_of_mem _ (List.mem_cons_of_mem _ (List.mem_append_right _ (List.mem_append_left _ (List.mem_cons_self ..)))))
  have hroom : buf.size < 200 := by have := hq.length; simp at this; omega
  have hxw := hx w hL.right
  obtain ⟨xa, xc, rfl⟩ : ∃ xa xc, x = .slice xa l.length xc := by
    rcases hxw with ⟨h1, h2, _⟩ | ⟨b', cap', h1, _⟩
    · exact ⟨none, 0, by rw [h1, h2]⟩
    · exact ⟨_, _, h1⟩
  obtain ⟨ba, bcap, hbb⟩ := RowF.shape hr
  subst hbb
  have HL := Lib.hid hL
  have HX := Lib.hid hx
  have HR := Lib.hid hr
  have e2 := Lib.hid e2
  have hlen := hf
  have HS := Lib.hid hset
  have HB := Lib.hid hb
  have HQ := Lib.hid hq
  clear hL hx e1 h hm hf hset hb hq hr
  go_enter Try.func13, Try.ntmps13
  go_upto_region 10 with (first | (go_at_call 19; refine (lane_in b g ss.length k cap w c0 hk).mono ?_; rintro e w' ⟨rfl, rfl⟩) | (go_at_call 21; refine (clone_any _ _ _ hxw (by omega)).mono ?_; rintro e w1 ⟨va1, vc1, L1, rfl, hF1, hM1⟩))
  obtain ⟨X0, hX0⟩ : ∃ X : Frag, X = [(b, .cells #[.slice (some ⟨g, 0, none⟩) ss.length cap] 49 (0, 0))] := ⟨_, rfl⟩
  have M1 : Moves w w1 ((b, .cells #[.slice (some ⟨g, 0, none⟩) ss.length cap] 49 (0, 0)) :: (g, .cells cur 53 (0, 0)) :: (A ++ ((cc, .chan 200 buf false sn rn false) :: (Lq ++ (Lr ++ Lb)) ++ C)))
      ((cc, .chan 200 buf false sn rn false) :: (L1 ++ ((g, .cells cur 53 (0, 0)) :: (X0 ++ (A ++ (Lq ++ (Lr ++ (Lb ++ C)))))))) :=
    (hM1.frame ((b, .cells #[.slice (some ⟨g, 0, none⟩) ss.length cap] 49 (0, 0)) :: (g, .cells cur 53 (0, 0)) :: (A ++ ((cc, .chan 200 buf false sn rn false) :: (Lq ++ (Lr ++ Lb)) ++ C)))).re fun f g' h0 hc ha => by simp only [h0, hc, ha, hX0]; omega
  have M2 := M1.setChan 200 (buf.push (.slice va1 l.length vc1)) false (sn + 1) rn false
  have c3' : w1.heap[cc]? = some (.chan 200 buf false sn rn false) := (M1.to _ HL.out).get (List.mem_cons_self ..)
  clear c3
  refine wp_select_send (c := cc) (cap := 200) (buf := buf) (s := sn) (r := rn) (tm := false) (v := .slice va1 l.length vc1) (z := .slice none 0 0) rfl ?hr c3' hroom ?hn
  case hr => simp [go_sem, scase]
  have hsz : (w1.setChan cc 200 (buf.push (.slice va1 l.length vc1)) false (sn + 1) rn false).heap.size = w1.heap.size := Go.Conc.size_setChan ..
  have W2 : ∃ w2, w2 = w1.setChan cc 200 (buf.push (.slice va1 l.length vc1)) false (sn + 1) rn false := ⟨_, rfl⟩
  obtain ⟨w2, hw2⟩ := W2
  rw [← hw2] at M2 ⊢
  clear hsz hw2 c3' c0 c1 c2
  have H2 := M2.to _ HL.out
  have d2 : w2.drew.cell? ⟨g, k * 2 + 1, none⟩ = some (.slice ba ss[k].bag.length bcap) := (M2.drew.to _ HL.out).cell (List.mem_append_left _ (List.mem_cons_of_mem _ (List.mem_append_right _ (List.mem_cons_self ..)))) e2.out
  have hx2 := HX.out w2.drew (M2.drew.to _ HL.out).right
  have M2' := Lib.hid M2
  clear M2 H2 hxw M1
  obtain ⟨T, hT⟩ : ∃ T : Frag, T = (g, .cells cur 53 (0, 0)) :: (cc, .chan 200 (buf.push (.slice va1 l.length vc1)) false (sn + 1) rn false) :: (L1 ++ (X0 ++ (A ++ (Lq ++ (Lb ++ C))))) := ⟨_, rfl⟩
  have hone : ∀ u ∈ [Value.slice va1 l.length vc1], u.oneCell' = true := by simp [Value.oneCell']
  go_upto_region 12 with (fail)
  have M2 := M2'.out.drew
  go_region_law (first
    | (go_simp; go_at_call 21; refine (clone_any _ _ _ hx2 (by omega)).mono ?_; rintro e w3 ⟨va2, vc2, L2, rfl, hF2, hM2⟩; have M3 := Lib.hid ((M2.call hM2).reR (M' := Lr ++ (L2 ++ T)) fun f g h0 hc ha => by simp only [h0, hc, ha, hT, hX0]; omega); have e3 : w3.cell? ⟨g, k * 2 + 1, none⟩ = some (.slice ba ss[k].bag.length bcap) := (M3.out.to _ HL.out).cell (List.mem_append_left _ (List.mem_append_right _ (List.mem_append_right _ (by rw [hT]; exact List.mem_cons_self ..)))) e2.out; have e3' : ∀ o, (w3.alloc o).cell? ⟨g, k * 2 + 1, none⟩ = some (.slice ba ss[k].bag.length bcap) := fun o => ((M3.out.waste o).to _ HL.out).cell (List.mem_append_left _ (List.mem_append_right _ (List.mem_append_right _ (by rw [hT]; exact List.mem_cons_self ..)))) e2.out)
    | (refine step_append_R rfl (.tmp 38) (.tmp 41) 51 rfl 29 i0 (.slice none 0 0) 1 24 Try.underlying51 hi hz0 hz1 hz2 rfl _ ss[k].bag.length vs Lr rfl HR.out ?_ _ 1 [.slice va2 l.length vc2] rfl rfl (rowAt_one _ _ _) ?_ ?_ ?_ ?_; exact ((M3.out.waste _).to _ HL.out).left.left; (intro u hu; rw [List.mem_singleton.1 hu]; rfl); omega; omega; intro v3 w4 L3 hF3 hM4 _; obtain ⟨va3, vc3, e7⟩ := RowF.shape hF3; subst e7; have M5 := Lib.hid ((M3.out.waste (.cells #[.slice va2 l.length vc2] 29)).calls hM4); clear hM4; have e5 : w4.cell? ⟨g, k * 2 + 1, none⟩ = some (.slice ba ss[k].bag.length bcap) := (M5.out.to _ HL.out).cell (List.mem_append_left _ (List.mem_append_right _ (List.mem_append_right _ (by rw [hT]; exact List.mem_cons_self ..)))) e2.out; have e6 : w4.frozen? ⟨g, k * 2 + 1, none⟩ = false := (M5.out.to _ HL.out).free (c := cur) (T := 53) (List.mem_append_left _ (List.mem_append_right _ (List.mem_append_right _ (by rw [hT]; exact List.mem_cons_self ..)))) _))
  all_goals
    go_wp2
    go_ret
    have hset := HS.out
    refine ⟨_, rfl, hset (.slice va3 (ss[k].bag.length + 1) vc3) { ss[k] with bag := ss[k].bag ++ [l] } _ ⟨cc, buf.push (.slice va1 l.length vc1), sn + 1, rn, vs ++ [.slice va2 l.length vc2], Lq ++ L1, L3, Lb ++ L2, rfl, ?_, ?_, HB.out.snoc hF2, ?_, ?_, rfl⟩, ?_⟩
    · rw [Array.toList_push]
      show FramesF _ ((ss[k].bag ++ [l]).drop ss[k].gone) _
      rw [List.drop_append_of_le_length hg]
      exact HQ.out.snoc hF1
    · show RowF _ _ _ (ss[k].bag ++ [l]).length _ _
      rw [List.length_append]
      exact hF3
    · show ss[k].gone ≤ (ss[k].bag ++ [l]).length
      rw [List.length_append]; omega
    · show (ss[k].bag ++ [l]).length ≤ 200
      rw [List.length_append]; simp; omega
    · have M6 := (M5.out.reR (M' := (g, .cells cur 53 (0, 0)) :: ((cc, .chan 200 (buf.push (.slice va1 l.length vc1)) false (sn + 1) rn false) :: (L1 ++ (X0 ++ (A ++ (Lq ++ (Lb ++ (C ++ (L3 ++ L2))))))))) fun f g h0 hc ha => by simp only [hc, ha, hT, hX0]; omega).setCell (k * 2 + 1) (.slice va3 (ss[k].bag.length + 1) vc3)
      exact M6.reR fun f g h0 hc ha => by simp only [h0, hc, ha, hX0]; omega

end Go.Proofs.Ytfigfkfjcjkdiaa
