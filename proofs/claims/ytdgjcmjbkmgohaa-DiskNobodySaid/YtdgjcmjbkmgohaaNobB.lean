/- DiskNobody, walked. -/
import Derived.Test.YtdgjcmjbkmgohaaNobA
namespace Go.Proofs.Ytdgjcmjbkmgohaa
open Go.RowKit Go.Sl

set_option maxHeartbeats 1000000 in
theorem few_one (g : Nat) (s t : ByteArray) (fa ca : Option Addr) (fn fc cn cc : Nat) (w : World) (c1 : w.cell? ⟨g, 1, none⟩ = some (.string s)) (c2 : w.cell? ⟨g, 2, none⟩ = some (.string t)) (c3 : w.cell? ⟨g, 3, none⟩ = some (.slice fa fn fc)) (c5 : w.cell? ⟨g, 5, none⟩ = some (.slice ca cn cc)) :
    Calls Try.prog 30 #[.slice (some ⟨g, 0, none⟩) 1 1, .int .i64 1] w fun e w' => (∃ b, e = .returned (.bool b)) ∧ w = w' := by
  go_enter Try.func30, Try.ntmps30
  go_wp2_with (fail)
  go_loopw [5] (fun i wr => ∃ k : Nat, k ≤ 1 ∧ i = .int .i64 k ∧ wr = w) (fun i _ => 1 - (intOf i).toNat)
  case atStart => exact ⟨0, by omega, rfl, rfl⟩
  case round =>
    obtain ⟨k, hk, rfl, rfl⟩ := hrel
    by_cases h : k = 0
    · subst h
      go_wp2_with (fail)
      all_goals first
        | (go_ret; exact ⟨by simp, rfl⟩)
        | (go_roundw; (case rel => exact ⟨1, by omega, by go_num, by simp⟩); (case measure => simp [intOf]))
    · obtain rfl : k = 1 := by omega
      go_wp2_with (fail)
      go_ret
      exact ⟨by simp, rfl⟩

set_option maxRecDepth 100000 in
set_option maxHeartbeats 4000000 in
theorem nobody_any (k n : Int) (s t : List UInt8) (fa ca : Option Addr) (fn fc cn cc : Nat) (w : World) :
    Calls Try.prog 7 #[.agg #[.int .u8 k, .string ⟨s.toArray⟩, .string ⟨t.toArray⟩, .slice fa fn fc, .int .i64 n, .slice ca cn cc]] w fun e w' => e = .returned (.bool true) ∧ Moves w w' [] [] := by
  obtain ⟨oA, hoA⟩ : ∃ o : Obj, o = .cells #[.int .u8 k, .string ⟨s.toArray⟩, .string ⟨t.toArray⟩, .slice fa fn fc, .int .i64 n, .slice ca cn cc] 63 (0, 0) := ⟨_, rfl⟩
  go_enter Try.func7, Try.ntmps7
  go_upto_region 1 with (fail)
  have M1 := Lib.hid ((Moves.refl w []).alloc (.cells #[.int .u8 k, .string ⟨s.toArray⟩, .string ⟨t.toArray⟩, .slice fa fn fc, .int .i64 n, .slice ca cn cc] 63))
  obtain ⟨w1, hw1⟩ : ∃ w1, w1 = w.alloc (.cells #[.int .u8 k, .string ⟨s.toArray⟩, .string ⟨t.toArray⟩, .slice fa fn fc, .int .i64 n, .slice ca cn cc] 63) := ⟨_, rfl⟩
  obtain ⟨bx, hbx⟩ : ∃ bx, bx = w.heap.size := ⟨_, rfl⟩
  rw [← hw1, ← hbx] at M1
  rw [← hw1, ← hbx]
  clear hw1 hbx
  have H1 := M1.out.here (Holds.nil w)
  have b0 := H1.cell0 (o := 0) rfl
  have b1 := H1.cell0 (o := 1) rfl
  have b2 := H1.cell0 (o := 2) rfl
  have b3 := H1.cell0 (o := 3) rfl
  have b4 := H1.cell0 (o := 4) rfl
  have b5 := H1.cell0 (o := 5) rfl
  clear H1
  obtain ⟨g, hg⟩ : ∃ g, g = w1.heap.size := ⟨_, rfl⟩
  have MF := Lib.hid (M1.out.alloc (.cells #[.int .u8 k, .string ⟨s.toArray⟩, .string ⟨t.toArray⟩, .slice fa fn fc, .int .i64 n, .slice ca cn cc] 63))
  have HF := MF.out.here (Holds.nil w)
  rw [← hg] at HF MF
  have FW := Lib.hid (few_one g ⟨s.toArray⟩ ⟨t.toArray⟩ fa ca fn fc cn cc _ (HF.cell0 rfl) (HF.cell0 rfl) (HF.cell0 rfl) (HF.cell0 rfl))
  clear HF
  go_wp2_with (fail)
  rw [← hg]
  refine FW.out.mono ?_
  rintro e w2 ⟨⟨bv, rfl⟩, rfl⟩
  clear FW
  obtain ⟨w2, hw2⟩ : ∃ w2, w2 = w1.alloc (.cells #[.int .u8 k, .string ⟨s.toArray⟩, .string ⟨t.toArray⟩, .slice fa fn fc, .int .i64 n, .slice ca cn cc] 63) := ⟨_, rfl⟩
  rw [← hw2] at MF ⊢
  have M2 := Lib.hid (MF.out.drop (A := [_]))
  clear MF M1 b0 b1 b2 b3 b4 b5 hw2 hg
  cases bv
  · go_wp2_with (go_at_call 8; refine (awake_any _).mono ?_; rintro e w4 ⟨rfl, hM4⟩)
    go_ret
    exact ⟨rfl, (M2.out.dropR (A := [])).trans hM4⟩
  go_upto_region 4 with (fail)
  have M3 := Lib.hid (((M2.out.alloc (.cells #[.pointer none, .map none] 70)).alloc (.cells #[.pointer none, .pointer (some ⟨w2.heap.size, 0, none⟩)] 40)))
  have hsz : (w2.alloc (.cells #[.pointer none, .map none] 70)).heap.size = w2.heap.size + 1 := by simp
  rw [hsz] at M3
  obtain ⟨w3, hw3⟩ : ∃ w3, w3 = (w2.alloc (.cells #[.pointer none, .map none] 70)).alloc (.cells #[.pointer none, .pointer (some ⟨w2.heap.size, 0, none⟩)] 40) := ⟨_, rfl⟩
  rw [← hw3] at M3 ⊢
  obtain ⟨gz, hgz⟩ : ∃ gz, gz = w2.heap.size := ⟨_, rfl⟩
  rw [← hgz] at M3 ⊢
  clear hw3 hgz hsz M2
  go_wp2_with (fail)
  obtain ⟨L, hL⟩ : ∃ L : Frag, L = [(gz + 1, .cells #[.pointer none, .pointer (some ⟨gz, 0, none⟩)] 40 (0, 0)), (gz, .cells #[.pointer none, .map none] 70 (0, 0)), (bx, .cells #[.int .u8 k, .string ⟨s.toArray⟩, .string ⟨t.toArray⟩, .slice fa fn fc, .int .i64 n, .slice ca cn cc] 63 (0, 0))] := ⟨_, rfl⟩
  have LE := Lib.hid hL
  have M3' : Hid (Moves w w3 [] L) := by show Moves _ _ _ _; rw [hL]; exact M3.out
  clear hL M3
  go_loopw [4] (fun i wr => ∃ j : Nat, j ≤ 2 ∧ i = .int .i64 j ∧ Moves w wr [] L) (fun i _ => 2 - (intOf i).toNat)
  case atStart => exact ⟨0, by omega, rfl, M3'.out⟩
  case round =>
    obtain ⟨j, hj, rfl, hM⟩ := hrel
    clear M3'
    have M := Lib.hid hM
    clear hM
    by_cases hlt : j < 2
    · obtain ⟨v, hv, HV⟩ : ∃ v, #[Value.pointer none, .pointer (some ⟨gz, 0, none⟩)][j]? = some v ∧ Hid (∀ u, Moves w u [] L → NoDisk u v) := by
        match j, hlt with
        | 0, _ => exact ⟨_, rfl, fun u _ => .inl rfl⟩
        | 1, _ => exact ⟨_, rfl, fun u hu => .inr ⟨gz, rfl, by rw [LE.out] at hu; exact ((hu.here (Holds.nil w)).right (A := [_])).cell0 rfl⟩⟩
      have H0 := M.out.here (Holds.nil w)
      rw [LE.out] at H0
      have n0 : wr.cell? ⟨gz + 1, j, none⟩ = some v := H0.cell0 hv
      clear H0 hv
      have HB := M.out.here (Holds.nil w)
      rw [LE.out] at HB
      have b1 := (HB.right (A := [_, _])).cell0 (o := 1) rfl
      have b2 := (HB.right (A := [_, _])).cell0 (o := 2) rfl
      have b3 := (HB.right (A := [_, _])).cell0 (o := 3) rfl
      have b5 := (HB.right (A := [_, _])).cell0 (o := 5) rfl
      clear HB
      go_wp2_with (fail)
      refine (crash_no v _ _ (HV.out _ M.out)).mono ?_
      rintro e w4 ⟨rfl, rfl⟩
      go_wp2_with (fail)
      refine (read_no v s _ (HV.out _ M.out)).mono ?_
      rintro e w4 ⟨rfl, hM4⟩
      have M4 := Lib.hid (M.out.trans (hM4.frame L))
      rw [List.nil_append] at M4
      clear hM4 M b1 b2 b3 b5
      have M := M4
      clear M4
      have HB := M.out.here (Holds.nil w)
      rw [LE.out] at HB
      have b1 := (HB.right (A := [_, _])).cell0 (o := 1) rfl
      have b2 := (HB.right (A := [_, _])).cell0 (o := 2) rfl
      have b3 := (HB.right (A := [_, _])).cell0 (o := 3) rfl
      have b5 := (HB.right (A := [_, _])).cell0 (o := 5) rfl
      clear HB
      go_wp2_with (fail)
      refine (names_no v _ (HV.out _ M.out)).mono ?_
      rintro e w4 ⟨rfl, rfl⟩
      go_wp2_with (fail)
      refine (image_no v _ (HV.out _ M.out)).mono ?_
      rintro e w4 ⟨rfl, rfl⟩
      go_wp2_with (fail)
      refine (create_no v s _ (HV.out _ M.out)).mono ?_
      rintro e w4 ⟨rfl, hM4⟩
      have M4 := Lib.hid (M.out.trans (hM4.frame L))
      rw [List.nil_append] at M4
      clear hM4 M b1 b2 b3 b5
      have M := M4
      clear M4
      have HB := M.out.here (Holds.nil w)
      rw [LE.out] at HB
      have b1 := (HB.right (A := [_, _])).cell0 (o := 1) rfl
      have b2 := (HB.right (A := [_, _])).cell0 (o := 2) rfl
      have b3 := (HB.right (A := [_, _])).cell0 (o := 3) rfl
      have b5 := (HB.right (A := [_, _])).cell0 (o := 5) rfl
      clear HB
      go_wp2_with (fail)
      refine (append_no v _ s _ (HV.out _ M.out)).mono ?_
      rintro e w4 ⟨rfl, hM4⟩
      have M4 := Lib.hid (M.out.trans (hM4.frame L))
      rw [List.nil_append] at M4
      clear hM4 M b1 b2 b3 b5
      have M := M4
      clear M4
      have HB := M.out.here (Holds.nil w)
      rw [LE.out] at HB
      have b1 := (HB.right (A := [_, _])).cell0 (o := 1) rfl
      have b2 := (HB.right (A := [_, _])).cell0 (o := 2) rfl
      have b3 := (HB.right (A := [_, _])).cell0 (o := 3) rfl
      have b5 := (HB.right (A := [_, _])).cell0 (o := 5) rfl
      clear HB
      go_wp2_with (fail)
      refine (sync_no v s _ (HV.out _ M.out)).mono ?_
      rintro e w4 ⟨rfl, hM4⟩
      have M4 := Lib.hid (M.out.trans (hM4.frame L))
      rw [List.nil_append] at M4
      clear hM4 M b1 b2 b3 b5
      have M := M4
      clear M4
      have HB := M.out.here (Holds.nil w)
      rw [LE.out] at HB
      have b1 := (HB.right (A := [_, _])).cell0 (o := 1) rfl
      have b2 := (HB.right (A := [_, _])).cell0 (o := 2) rfl
      have b3 := (HB.right (A := [_, _])).cell0 (o := 3) rfl
      have b5 := (HB.right (A := [_, _])).cell0 (o := 5) rfl
      clear HB
      go_wp2_with (fail)
      refine (rename_no v s t _ (HV.out _ M.out)).mono ?_
      rintro e w4 ⟨rfl, hM4⟩
      have M4 := Lib.hid (M.out.trans (hM4.frame L))
      rw [List.nil_append] at M4
      clear hM4 M b1 b2 b3 b5
      have M := M4
      clear M4
      have HB := M.out.here (Holds.nil w)
      rw [LE.out] at HB
      have b1 := (HB.right (A := [_, _])).cell0 (o := 1) rfl
      have b2 := (HB.right (A := [_, _])).cell0 (o := 2) rfl
      have b3 := (HB.right (A := [_, _])).cell0 (o := 3) rfl
      have b5 := (HB.right (A := [_, _])).cell0 (o := 5) rfl
      clear HB
      go_wp2_with (fail)
      refine (remove_no v s _ (HV.out _ M.out)).mono ?_
      rintro e w4 ⟨rfl, hM4⟩
      have M4 := Lib.hid (M.out.trans (hM4.frame L))
      rw [List.nil_append] at M4
      clear hM4 M b1 b2 b3 b5
      have M := M4
      clear M4
      have HB := M.out.here (Holds.nil w)
      rw [LE.out] at HB
      have b1 := (HB.right (A := [_, _])).cell0 (o := 1) rfl
      have b2 := (HB.right (A := [_, _])).cell0 (o := 2) rfl
      have b3 := (HB.right (A := [_, _])).cell0 (o := 3) rfl
      have b5 := (HB.right (A := [_, _])).cell0 (o := 5) rfl
      clear HB
      go_wp2_with (fail)
      refine (edit_no v _ _ _ (HV.out _ M.out)).mono ?_
      rintro e w4 ⟨rfl, rfl⟩
      go_wp2_with (fail)
      refine (load_no v _ _ (HV.out _ M.out)).mono ?_
      rintro e w4 ⟨rfl, rfl⟩
      go_wp2_with (fail)
      go_roundw
      case rel => exact ⟨j + 1, by omega, by go_num, M.out⟩
      case measure => simp [intOf]; omega
    · obtain rfl : j = 2 := by omega
      go_wp2_with (go_at_call 8; refine (awake_any _).mono ?_; rintro e w4 ⟨rfl, hM4⟩)
      go_ret
      exact ⟨rfl, (M.out.dropR (A := [])).trans hM4⟩

end Go.Proofs.Ytdgjcmjbkmgohaa
