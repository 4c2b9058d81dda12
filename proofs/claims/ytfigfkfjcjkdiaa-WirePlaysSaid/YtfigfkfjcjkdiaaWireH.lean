/- awake: the example. -/
import Derived.Test.YtfigfkfjcjkdiaaWireG
import Derived.Lib.SlBytesConst
namespace Go.Proofs.Ytfigfkfjcjkdiaa
open Go.RowKit Go.Sl Go.Conc

set_option maxRecDepth 100000 in
set_option maxHeartbeats 1000000 in
theorem awake_any (w : World) : Calls Try.prog 7 #[] w fun e w' => e = .returned (.bool true) ∧ Moves w w' [] [] := by
  have kc := fun (w : World) (C : Array Value) (n c : Nat) => Lib.run_convert_bytes_const (P := Try.prog) w 29 5 C n c Try.underlying29 Try.underlying5
  go_enter Try.func7, Try.ntmps7
  go_wp2_with (fail)
  refine (new_in 1 _ (by omega) (by omega)).mono ?_
  rintro e w1 ⟨b, L1, rfl, hW1, hM1⟩
  change WireF _ [⟨[], 0⟩] L1 at hW1
  go_wp2_with (fail)
  have hB : ∀ (g : Nat) (x : UInt8) (w' : World), Holds w' [(g, .cells #[.int .u8 x.toNat] 5 (1, 2))] → BytesAt w' (.slice (some ⟨g, 0, none⟩) 1 1) [x] := fun g x w' h => rowAt_frag h (by unfold maxLen; omega)
  have HB := Lib.hid hB
  clear hB
  have M1 := Lib.hid ((hM1.alloc (.cells #[.int .u8 97] 5 (1, 2))).reR (M' := L1 ++ [(w1.heap.size, .cells #[.int .u8 97] 5 (1, 2))]) fun f g h0 hc ha => by simp only [h0, hc, ha]; omega)
  refine (send_in _ _ [97] _ L1 _ 0 _ hW1 (M1.out.here (Holds.nil w)) (HB.out w1.heap.size 97) (by decide) (by decide) (by decide)).mono ?_
  rintro e w2 ⟨L2, rfl, hW2, hM2⟩
  change WireF _ [⟨[[97]], 0⟩] L2 at hW2
  have M2 := Lib.hid ((M1.out.calls hM2).dropR)
  clear hM1 hM2 M1 hW1
  go_wp2_with (fail)
  have M3 := Lib.hid ((M2.out.alloc (.cells #[.int .u8 98] 5 (1, 2))).reR (M' := L2 ++ [(w2.heap.size, .cells #[.int .u8 98] 5 (1, 2))]) fun f g h0 hc ha => by simp only [h0, hc, ha]; omega)
  refine (send_in _ _ [98] _ L2 _ 0 _ hW2 (M3.out.here (Holds.nil w)) (HB.out w2.heap.size 98) (by decide) (by decide) (by decide)).mono ?_
  rintro e w3 ⟨L3, rfl, hW3, hM3⟩
  change WireF _ [⟨[[97], [98]], 0⟩] L3 at hW3
  have M4 := Lib.hid ((M3.out.calls hM3).dropR)
  clear hM3 M3 M2 hW2
  go_wp2_with (fail)
  refine (next_some _ _ L3 0 _ hW3 (M4.out.here (Holds.nil w)) (by decide) (by decide)).mono ?_
  rintro e w4 ⟨v4, L4, L5, rfl, hF4, hW4, hM4⟩
  change BytesF v4 [97] L4 at hF4
  change WireF _ [⟨[[97], [98]], 1⟩] L5 at hW4
  have M5 := Lib.hid ((M4.out.trans hM4).reR (M' := L5 ++ L4) fun f g h0 hc ha => by simp only [ha]; omega)
  clear hM4 M4 hW3
  go_wp2_with (fail)
  refine (pick_in _ _ L5 0 0 _ hW4 (M5.out.here (Holds.nil w)).left (by decide) (by decide) (by decide)).mono ?_
  rintro e w5 ⟨v5, L6, rfl, hF5, hM5⟩
  change BytesF v5 [97] L6 at hF5
  have M6 := Lib.hid ((M5.out.call hM5).reR (M' := L5 ++ (L4 ++ L6)) fun f g h0 hc ha => by simp only [ha]; omega)
  clear hM5 M5
  go_wp2_with (fail)
  refine (next_some _ _ L5 0 _ hW4 (M6.out.here (Holds.nil w)).left (by decide) (by decide)).mono ?_
  rintro e w6 ⟨v6, L7, L8, rfl, hF6, hW6, hM6⟩
  change BytesF v6 [98] L7 at hF6
  change WireF _ [⟨[[97], [98]], 2⟩] L8 at hW6
  have M7 := Lib.hid ((M6.out.calls hM6).reR (M' := L8 ++ (L4 ++ (L6 ++ L7))) fun f g h0 hc ha => by simp only [ha]; omega)
  clear hM6 M6 hW4
  go_wp2_with (fail)
  refine (next_none _ _ L8 0 _ hW6 (M7.out.here (Holds.nil w)).left (by decide) (by decide)).mono ?_
  rintro e w7 ⟨rfl, rfl⟩
  have H7 := (M7.out.here (Holds.nil w)).right
  have r4 := run_string_of_bytes (P := Try.prog) (hF4.at H7.left) 29 5 9 Try.underlying29 Try.underlying5 Try.underlying9
  have r5 := run_string_of_bytes (P := Try.prog) (hF5.at H7.right.left) 29 5 9 Try.underlying29 Try.underlying5 Try.underlying9
  have r6 := run_string_of_bytes (P := Try.prog) (hF6.at H7.right.right) 29 5 9 Try.underlying29 Try.underlying5 Try.underlying9
  have M8 := Lib.hid (M7.out.dropR (A := []) (B := _))
  clear H7 hF4 hF5 hF6 hW6 M7
  go_wp2
  go_ret
  exact ⟨by simp, M8.out⟩

end Go.Proofs.Ytfigfkfjcjkdiaa
