/- awake. -/
import Derived.Test.YtdgjcmjbkmgohaaDiskH
import Derived.Lib.SlBytesConst
namespace Go.Proofs.Ytdgjcmjbkmgohaa
open Go.RowKit Go.Sl

/-- Bytes in a new row are read there. -/
theorem bytesAt_frag {g : Nat} {T : TypeId} {fz : Nat × Nat} (l : List UInt8) (hl : l.length ≤ 140737488355328) : ∀ w', Holds w' [(g, .cells (bs l).toArray T fz)] → BytesAt w' (.slice (some ⟨g, 0, none⟩) l.length l.length) l := by
  intro w' h
  have := rowAt_frag h (n := l.length) (by unfold maxLen; omega)
  simpa [BytesAt] using this

theorem act_plug : Pw.plug.act.2 = Pw.plug := rfl
theorem mend_plug : Pw.plug.mend = Pw.plug := rfl
theorem named_a : Named [97] := ⟨by decide, by decide⟩
theorem plug_ok : Pw.plug.ok := ⟨by decide, by decide⟩

set_option maxRecDepth 100000 in
set_option maxHeartbeats 4000000 in
theorem awake_any (w : World) : Calls Try.prog 8 #[] w fun e w' => e = .returned (.bool true) ∧ Moves w w' [] [] := by
  have kc := fun (w : World) (C : Array Value) (n c : Nat) => Lib.run_convert_bytes_const (P := Try.prog) w 39 5 C n c Try.underlying39 Try.underlying5
  go_enter Try.func8, Try.ntmps8
  go_wp2_with (fail)
  refine (plug_any _).mono ?_
  rintro e w1 ⟨p, rfl, hM1⟩
  go_wp2_with (fail)
  refine (new_disk _ _).mono ?_
  rintro e w2 ⟨b, L2, rfl, hD2, hM2⟩
  have M2 := Lib.hid ((hM1.call hM2).reR (M' := (p, Pw.plug.obj) :: L2) fun f g h0 hc ha => by simp only [h0, hc, ha]; omega)
  clear hM1 hM2
  go_wp2_with (fail)
  refine (create_ok b p Pw.plug [] L2 [97] _ hD2 (M2.out.here (Holds.nil w)) ⟨by decide, by decide⟩ rfl (.inr (by decide)) rfl plug_ok).mono ?_
  rintro e w3 ⟨L3, rfl, hD3, hM3⟩
  have M3 := Lib.hid (M2.out.trans hM3)
  clear hM3 hD2 M2
  change DiskF b _ [([97], ⟨[], 0⟩)] _ at hD3
  go_wp2_with (fail)
  have M4 := Lib.hid ((M3.out.alloc (.cells (bs [97, 98, 99]).toArray 5 (3, 4))).reR (M' := (((p, Pw.plug.obj) :: L3) ++ [(w3.heap.size, .cells (bs [97, 98, 99]).toArray 5 (3, 4))])) fun f g h0 hc ha => by simp only [h0, hc, ha, act_plug]; omega)
  refine (append_ok b p Pw.plug _ L3 _ [97] ⟨[], 0⟩ (.slice (some ⟨w3.heap.size, 0, none⟩) 3 3) [97, 98, 99] _ hD3 (M4.out.here (Holds.nil w)) (bytesAt_frag [97, 98, 99] (by decide)) named_a rfl rfl (by decide) rfl plug_ok).mono ?_
  rintro e w5 ⟨L5, rfl, hD5, hM5⟩
  change DiskF b _ [([97], ⟨[97, 98, 99], 0⟩)] _ at hD5
  have M5 := Lib.hid ((M4.out.calls hM5).dropR)
  clear hM5 M4 hD3 M3
  go_wp2_with (fail)
  refine (sync_ok b p Pw.plug _ L5 [97] ⟨[97, 98, 99], 0⟩ _ hD5 (M5.out.here (Holds.nil w)) named_a rfl rfl rfl plug_ok).mono ?_
  rintro e w6 ⟨L6, rfl, hD6, hM6⟩
  change DiskF b _ [([97], ⟨[97, 98, 99], 3⟩)] _ at hD6
  have M6 := Lib.hid (M5.out.trans hM6)
  clear hM6 M5 hD5
  go_wp2_with (fail)
  have M7 := Lib.hid ((M6.out.alloc (.cells (bs [100, 101]).toArray 5 (2, 3))).reR (M' := (((p, Pw.plug.obj) :: L6) ++ [(w6.heap.size, .cells (bs [100, 101]).toArray 5 (2, 3))])) fun f g h0 hc ha => by simp only [h0, hc, ha, act_plug]; omega)
  refine (append_ok b p Pw.plug _ L6 _ [97] ⟨[97, 98, 99], 3⟩ (.slice (some ⟨w6.heap.size, 0, none⟩) 2 2) [100, 101] _ hD6 (M7.out.here (Holds.nil w)) (bytesAt_frag [100, 101] (by decide)) named_a rfl rfl (by decide) rfl plug_ok).mono ?_
  rintro e w8 ⟨L8, rfl, hD8, hM8⟩
  change DiskF b _ [([97], ⟨[97, 98, 99, 100, 101], 3⟩)] _ at hD8
  have M8 := Lib.hid ((M7.out.calls hM8).dropR)
  clear hM8 M7 hD6 M6
  go_wp2_with (fail)
  have M9 := Lib.hid ((M8.out.alloc (.cells #[.int .i64 4] 3)).reR (M' := (((p, Pw.plug.obj) :: L8) ++ [(w8.heap.size, .cells #[.int .i64 4] 3 (0, 0))])) fun f g h0 hc ha => by simp only [h0, hc, ha, act_plug]; omega)
  refine (crash_any b p Pw.plug _ L8 _ (.slice (some ⟨w8.heap.size, 0, none⟩) 1 1) [4] _ hD8 (M9.out.here (Holds.nil w)) (fun w' h => rowAt_frag h (by unfold maxLen; omega)) (by decide) (by decide) (by decide) (by intro q hq; obtain rfl := List.mem_singleton.1 hq; exact ⟨by decide, by decide⟩)).mono ?_
  rintro e w10 ⟨L10, rfl, hD10, hM10⟩
  have fs10 : crashTo [4] (namesOf [([97], (⟨[97, 98, 99, 100, 101], 3⟩ : FileR))]) [([97], ⟨[97, 98, 99, 100, 101], 3⟩)] [([97], (⟨[97, 98, 99, 100, 101], 3⟩ : FileR))].length = [([97], ⟨[97, 98, 99, 100], 4⟩)] := by
    have : namesOf [([97], (⟨[97, 98, 99, 100, 101], 3⟩ : FileR))] = [[97]] := by simp [namesOf]
    rw [this]; rfl
  have hD10 : DiskF b (some ⟨p, 0, none⟩) [([97], ⟨[97, 98, 99, 100], 4⟩)] L10 := by rw [← fs10]; exact hD10
  have M10 := Lib.hid ((M9.out.calls hM10).dropR)
  clear hM10 M9 hD8 M8
  go_wp2_with (fail)
  have M11 := Lib.hid (M10.out.reR (M' := (p, Pw.plug.obj) :: L10) fun f g h0 hc ha => by simp only [mend_plug])
  refine (read_ok b p Pw.plug _ L10 [97] ⟨[97, 98, 99, 100], 4⟩ _ hD10 (M11.out.here (Holds.nil w)) named_a rfl rfl (by decide)).mono ?_
  rintro e w12 ⟨ra, rc, N, rfl, hN, hM12⟩
  change BytesF (.slice ra 4 rc) [97, 98, 99, 100] N at hN
  have M12 := Lib.hid (M11.out.call hM12)
  have hB := BytesF.at hN (M12.out.here (Holds.nil w)).left
  have hstr := run_string_of_bytes (P := Try.prog) hB 39 5 9 Try.underlying39 Try.underlying5 Try.underlying9
  have HNN := Lib.hid (append_none b p Pw.plug _ L10 [98] (.slice none 0 0) w12 hD10 ((M12.out.here (Holds.nil w)).right) ⟨by decide, by decide⟩ rfl rfl)
  clear hM12 hN hB M10 M11
  go_wp2_with (go_at_call 19; refine HNN.out.mono ?_; rintro e w13 ⟨rfl, hM13⟩)
  go_ret
  refine ⟨rfl, ?_⟩
  have h := M12.out.call hM13
  exact (h.reR (M' := (N ++ ((p, Pw.plug.obj) :: L10)) ++ []) fun f g h0 hc ha => by simp only [h0, hc, ha]; omega).drop

end Go.Proofs.Ytdgjcmjbkmgohaa
