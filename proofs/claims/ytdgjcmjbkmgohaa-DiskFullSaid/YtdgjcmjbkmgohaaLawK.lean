/- DiskKept, walked. -/
import Derived.Test.YtdgjcmjbkmgohaaLawB
namespace Go.Proofs.Ytdgjcmjbkmgohaa
open Go.RowKit Go.Sl

theorem crash_one (cuts : List Int) (k : List UInt8) (f : FileR) : crashTo cuts (namesOf [(k, f)]) [(k, f)] [(k, f)].length = [(k, cutFile cuts 0 f)] := by
  have : namesOf [(k, f)] = [k] := by simp [namesOf]
  rw [this]
  simp [crashTo, lookF, putF]
theorem put_one (k : List UInt8) (f g : FileR) : putF [(k, f)] k g = [(k, g)] := by simp [putF]
theorem look_one (k : List UInt8) (f : FileR) : lookF [(k, f)] k = some f := by simp [lookF]

theorem bytes_shape {w : World} {v : Value} {l : List UInt8} (h : BytesAt w v l) : ∃ a c, v = .slice a l.length c := shape_at h

/-- What comes in is read wherever the old blocks are. -/
theorem bytes_whole {w : World} {v : Value} {l : List UInt8} (h : BytesAt w v l) : ∀ w', Holds w' (whole w) → BytesAt w' v l := fun _ hw => RowAt.whole h hw

theorem wrap64_id (n : Int) (h : -9223372036854775808 ≤ n ∧ n ≤ 9223372036854775807) : wrap64 n = n := by unfold wrap64; omega
/-- The first bytes. -/
theorem bytesAt_take {w : World} {a : Option Addr} {k cap : Nat} {l : List UInt8} (h : BytesAt w (.slice a k cap) l) (hk : l.length = k) (n : Nat) (hn : n ≤ k) : BytesAt w (.slice a n cap) (l.take n) := by
  have hlen : (l.take n).length = n := by rw [List.length_take]; omega
  show RowAt _ _ _ _
  rw [hlen]
  rcases h with ⟨h1, h2, _⟩ | ⟨a', cap', h1, h2, h3, h4⟩
  · injection h1 with e1 e2 e3
    have : n = 0 := by omega
    subst this
    subst e1 e3
    exact .inl ⟨rfl, rfl, by simp [bs]⟩
  · injection h1 with e1 e2 e3
    subst e1 e3
    refine .inr ⟨a', cap, rfl, by omega, h3, fun j u hu => h4 j u ?_⟩
    have : bs (l.take n) = (bs l).take n := by simp [bs, List.map_take]
    rw [this, List.getElem?_take] at hu
    split at hu
    · exact hu
    · cases hu

set_option maxRecDepth 100000 in
set_option maxHeartbeats 4000000 in
theorem kept_any (v0 v1 : Value) (l m : List UInt8) (c : Int) (w : World) (h0 : BytesAt w v0 l) (h1 : BytesAt w v1 m) (hc1 : -9223372036854775808 ≤ c) (hc2 : c ≤ 9223372036854775807) :
    Calls Try.prog 4 #[v0, v1, .int .i64 c] w fun e w' => e = .returned (.bool true) ∧ Moves w w' [] [] := by
  have kc := fun (w : World) (C : Array Value) (n c : Nat) => Lib.run_convert_bytes_const (P := Try.prog) w 39 5 C n c Try.underlying39 Try.underlying5
  obtain ⟨i0, hi, hz0, hz1, hz2⟩ := info_parts infoU8
  obtain ⟨a0, b0, rfl⟩ := shape_at h0
  obtain ⟨a1, b1, rfl⟩ := shape_at h1
  have HA := Lib.hid (bytes_whole h0)
  have HB := Lib.hid (bytes_whole h1)
  have HW := Lib.hid (holds_whole w)
  clear h0 h1
  by_cases hsm : l.length ≤ 2000 ∧ m.length ≤ 2000
  · obtain ⟨hl, hm⟩ := hsm
    go_enter Try.func4, Try.ntmps4
    go_wp2_with (fail)
    refine (plug_any _).mono ?_
    rintro e w1 ⟨p, rfl, hM1⟩
    go_wp2_with (fail)
    refine (new_disk _ _).mono ?_
    rintro e w2 ⟨b, L2, rfl, hD2, hM2⟩
    have M2 := Lib.hid ((hM1.call hM2).reR (M' := (p, Pw.plug.obj) :: L2) fun f g h0 hc ha => by simp only [h0, hc, ha]; omega)
    clear hM1 hM2
    go_wp2_with (fail)
    refine (create_ok b p Pw.plug [] L2 [102] _ hD2 (M2.out.here (Holds.nil w)) ⟨by decide, by decide⟩ rfl (.inr (by decide)) rfl plug_ok).mono ?_
    rintro e w3 ⟨L3, rfl, hD3, hM3⟩
    change DiskF b _ [([102], ⟨[], 0⟩)] _ at hD3
    have M3 := Lib.hid (M2.out.trans hM3)
    clear hM3 hD2 M2
    go_wp2_with (fail)
    refine (append_ok b p Pw.plug _ L3 _ [102] ⟨[], 0⟩ _ l _ hD3 (M3.out.to _ HW.out) HA.out ⟨by decide, by decide⟩ rfl (look_one _ _) (by simp; omega) rfl plug_ok).mono ?_
    rintro e w4 ⟨L4, rfl, hD4, hM4⟩
    rw [put_one, List.nil_append] at hD4
    have M4 := Lib.hid (M3.out.trans hM4)
    clear hM4 hD3 M3
    go_wp2_with (fail)
    refine (sync_ok b p Pw.plug _ L4 [102] ⟨l, 0⟩ _ hD4 (M4.out.here (Holds.nil w)) ⟨by decide, by decide⟩ rfl (look_one _ _) rfl plug_ok).mono ?_
    rintro e w5 ⟨L5, rfl, hD5, hM5⟩
    rw [put_one] at hD5
    have M5 := Lib.hid (M4.out.trans hM5)
    clear hM5 hD4 M4
    go_wp2_with (fail)
    refine (append_ok b p Pw.plug _ L5 _ [102] ⟨l, l.length⟩ _ m _ hD5 (M5.out.to _ HW.out) HB.out ⟨by decide, by decide⟩ rfl (look_one _ _) (by simp; omega) rfl plug_ok).mono ?_
    rintro e w6 ⟨L6, rfl, hD6, hM6⟩
    rw [put_one] at hD6
    have M6 := Lib.hid (M5.out.trans hM6)
    clear hM6 hD5 M5
    go_wp2_with (fail)
    refine (fuse_any p Pw.plug 0 _ ((M6.out.here (Holds.nil w)).left (A := [_]))).mono ?_
    rintro e w7 ⟨rfl, hM7⟩
    have M7 := Lib.hid (M6.out.calls (A := [_]) hM7)
    clear hM7 M6
    go_wp2_with (fail)
    have M8 := Lib.hid (M7.out.waste (.cells (bs [108, 111, 115, 116]).toArray 5 (4, 5)))
    refine (append_off b p (Pw.plug.fuse 0) _ L6 [102] ⟨l ++ m, l.length⟩ _ 4 _ _ hD6 (M8.out.here (Holds.nil w)) ⟨by decide, by decide⟩ rfl (look_one _ _) (by simp; omega) rfl ⟨by decide, by decide⟩).mono ?_
    rintro e w9 ⟨rfl, hM9⟩
    have M9 := Lib.hid (M8.out.trans hM9)
    clear hM9 M8 M7
    go_wp2_with (fail)
    have M10 := Lib.hid ((M9.out.alloc (.cells #[.int .i64 c] 3)).reR (M' := (((p, (Pw.plug.fuse 0).act.2.obj) :: L6) ++ [(w9.heap.size, .cells #[.int .i64 c] 3 (0, 0))])) fun f g h0 hc ha => by simp only [h0, hc, ha]; omega)
    refine (crash_any b p (Pw.plug.fuse 0).act.2 _ L6 _ (.slice (some ⟨w9.heap.size, 0, none⟩) 1 1) [c] _ hD6 (M10.out.here (Holds.nil w)) (fun w' h => rowAt_frag h (by unfold maxLen; omega)) (by intro x hx; obtain rfl := List.mem_singleton.1 hx; exact ⟨hc1, hc2⟩) (by intro q hq; obtain rfl := List.mem_singleton.1 hq; show 1 ≤ 40; omega) (by simp) (by intro q hq; obtain rfl := List.mem_singleton.1 hq; exact ⟨by simp, by simp; omega⟩)).mono ?_
    rintro e w11 ⟨L11, rfl, hD11, hM11⟩
    rw [crash_one] at hD11
    have M11 : Hid (Moves w w11 [] ((p, Pw.plug.obj) :: L11)) := Lib.hid ((M10.out.calls hM11).dropR)
    clear hM11 hD6 M10 M9
    obtain ⟨n, hn⟩ : ∃ n, n = l.length + cutN [c] 0 ⟨l ++ m, l.length⟩ := ⟨_, rfl⟩
    have hf : Hid (cutFile [c] 0 ⟨l ++ m, l.length⟩ = ⟨(l ++ m).take n, n⟩) := by show _ = _; rw [hn]; rfl
    rw [hf.out] at hD11
    have hnle : n ≤ l.length + m.length := by
      have := cutN_le [c] 0 ⟨l ++ m, l.length⟩ (by simp)
      rw [hn]; simpa using this
    have HN := Lib.hid hn
    clear hn
    have htl : ((l ++ m).take n).length = n := by rw [List.length_take, List.length_append]; omega
    go_wp2_with (fail)
    refine (read_ok b p Pw.plug _ L11 [102] ⟨(l ++ m).take n, n⟩ _ hD11 (M11.out.here (Holds.nil w)) ⟨by decide, by decide⟩ rfl (look_one _ _) (by simp only [htl]; omega)).mono ?_
    rintro e w12 ⟨ra, rc, N1, rfl, hN1, hM12⟩
    simp only [htl]
    rw [show (⟨(l ++ m).take n, n⟩ : FileR).data = (l ++ m).take n from rfl, htl] at hN1
    have M12 := Lib.hid (M11.out.call hM12)
    have HN1 := Lib.hid hN1
    clear hM12 M11 hN1
    have MV : Hid (∀ u N, Moves w u [] N → BytesAt u (.slice a0 l.length b0) l ∧ BytesAt u (.slice a1 m.length b1) m) := by
      show ∀ u N, _ → _
      intro u N hM
      have h := (hM.to _ HW.out).right
      exact ⟨HA.out _ h, HB.out _ h⟩
    have M13 := Lib.hid (M12.out.alloc (.cells #[] 5))
    obtain ⟨wa, hwa⟩ : ∃ wa, wa = w12.alloc (.cells #[] 5) := ⟨_, rfl⟩
    obtain ⟨gA, hgA⟩ : ∃ gA, gA = w12.heap.size := ⟨_, rfl⟩
    have R13 : Hid (RowF 5 1 (.slice (some ⟨gA, 0, none⟩) 0 0) 0 (bs []) [(gA, .cells #[] 5 (0, 0))]) := ⟨rfl, .inr ⟨gA, 0, #[], rfl, rfl, Nat.le_refl _, Nat.zero_le _, by simp, rfl⟩⟩
    rw [← hwa, ← hgA] at M13
    have hw13 := MV.out _ _ M13.out
    go_upto_region 13 with (fail)
    go_wp2_with (first
      | (at_builtin; rw [← hwa, ← hgA]; refine wpList_append_R rfl (.tmp 53) (.tmp 54) 39 rfl 5 i0 (.int .u8 0) 1 1 Try.underlying39 hi hz0 hz1 hz2 rfl _ 0 (bs []) [(gA, .cells #[] 5 (0, 0))] rfl R13.out (M13.out.here (Holds.nil w) |>.left (A := [_])) _ l.length (bs l) rfl (by simp) hw13.1 (bs_one l) (by omega) (by omega) ?_; intro v14 w14 B14 hF14 hM14 _; have M14 : Hid (Moves w w14 [] (B14 ++ (N1 ++ ((p, Pw.plug.obj) :: L11)))) := Lib.hid (M13.out.calls (A := [_]) hM14); have hw14 := MV.out _ _ M14.out; have F14 := Lib.hid hF14; have H14 := Lib.hid ((M14.out.here (Holds.nil w)).left); clear hF14 hM14)
      | (at_builtin; refine wpList_append_R rfl (.tmp 55) (.tmp 56) 39 rfl 5 i0 (.int .u8 0) 1 1 Try.underlying39 hi hz0 hz1 hz2 rfl v14 (0 + l.length) (bs [] ++ bs l) B14 rfl F14.out H14.out _ m.length (bs m) rfl (by simp) hw14.2 (bs_one m) (by omega) (by omega) ?_; intro v15 w15 B15 hF15 hM15 _; have M15 := Lib.hid (M14.out.calls hM15); have F15 := Lib.hid hF15; obtain ⟨va15, vc15, rfl⟩ := RowF.shape hF15; clear hM15 hF15))
    have hslot : wrap64 ((l.length : Int) + wrap64 ((IntKind.u64.wrap c).tmod ((m.length : Int) + 1))) = (n : Int) := by
      have hmod : (c % 18446744073709551616).toNat % (m.length + 1) < m.length + 1 := Nat.mod_lt _ (by omega)
      rw [wrap_u64, tmod_u64, wrap64_id (((c % 18446744073709551616).toNat % (m.length + 1) : Nat) : Int) (by omega), wrap64_id _ (by omega), HN.out]
      have : (l ++ m).length - l.length = m.length := by simp
      simp only [cutN, List.getElem?_cons_zero, Option.map_some, Option.getD_some, this]
      omega
    rw [hslot]
    clear hslot
    have M16 := Lib.hid (M15.out.reR (M' := ((p, Pw.plug.obj) :: L11) ++ (B15 ++ N1)) fun f g h0 hc ha => by simp only [hc, ha]; omega)
    refine (crash_any b p Pw.plug _ L11 _ (.slice none 0 0) [] _ hD11 (M16.out.here (Holds.nil w)) (fun w' h => .inl ⟨rfl, rfl, rfl⟩) (by intro x hx; cases hx) (by intro q hq; obtain rfl := List.mem_singleton.1 hq; show 1 ≤ 40; omega) (by simp) (by intro q hq; obtain rfl := List.mem_singleton.1 hq; exact ⟨by simp only [htl]; omega, by simp only [htl]; omega⟩)).mono ?_
    rintro e w17 ⟨L17, rfl, hD17, hM17⟩
    rw [crash_one] at hD17
    have hf2 : cutFile [] 0 ⟨(l ++ m).take n, n⟩ = ⟨(l ++ m).take n, n⟩ := by simp [cutFile, cutN, List.take_take]
    rw [hf2] at hD17
    have M17 : Hid (Moves w w17 [] (((p, Pw.plug.obj) :: L17) ++ (B15 ++ N1))) := Lib.hid (M16.out.calls hM17)
    clear hM17 hD11 M16 M15
    go_wp2_with (fail)
    refine (read_ok b p Pw.plug _ L17 [102] ⟨(l ++ m).take n, n⟩ _ hD17 (M17.out.here (Holds.nil w)).left ⟨by decide, by decide⟩ rfl (look_one _ _) (by simp only [htl]; omega)).mono ?_
    rintro e w18 ⟨rb, rd, N2, rfl, hN2, hM18⟩
    simp only [htl]
    rw [show (⟨(l ++ m).take n, n⟩ : FileR).data = (l ++ m).take n from rfl, htl] at hN2
    have M18 := Lib.hid (M17.out.call hM18)
    have h18 := (M18.out.here (Holds.nil w))
    have E1 := BytesF.at hN2 h18.left
    have E2 := BytesF.at HN1.out h18.right.right.right
    have F15' : BytesF (.slice va15 (l.length + m.length) vc15) (l ++ m) B15 := by
      have := F15.out
      show RowF _ _ _ _ _ _
      simpa [bs] using this
    have E3 := BytesF.at F15' h18.right.right.left
    have hcap : n ≤ vc15 := by
      rcases F15'.2 with ⟨e1, e2, _⟩ | ⟨g, cap, cur, e1, _, e3, _⟩
      · injection e1 with _ e4 e5; omega
      · injection e1 with _ e4 e5
        have : (l ++ m).length = l.length + m.length := List.length_append
        omega
    have E4 : ∀ v', v' = Value.slice va15 n vc15 → BytesAt w18 v' ((l ++ m).take n) := by
      rintro _ rfl
      exact bytesAt_take E3 (by rw [List.length_append]) n hnle
    have HE1 := Lib.hid E1
    have HE2 := Lib.hid E2
    have HE4 := Lib.hid E4
    clear E1 E2 E3 E4 h18 hM18 hN2 hD17
    go_wp2_with (fail)
    refine (equal_any _ _ ((l ++ m).take n) ((l ++ m).take n) _ HE2.out (HE4.out _ rfl)).mono ?_
    rintro e w19 ⟨rfl, rfl⟩
    rw [beq_self_eq_true]
    go_wp2_with (fail)
    refine (equal_any _ _ ((l ++ m).take n) ((l ++ m).take n) _ HE1.out HE2.out).mono ?_
    rintro e w19 ⟨rfl, rfl⟩
    rw [beq_self_eq_true]
    go_wp2_with (fail)
    refine (awake_any _).mono ?_
    rintro e w20 ⟨rfl, hM20⟩
    go_wp2
    go_ret
    exact ⟨rfl, (M18.out.dropR (A := []) (B := _)).trans hM20⟩
  · go_enter Try.func4, Try.ntmps4
    by_cases hl : l.length ≤ 2000
    · have hm : ¬ m.length ≤ 2000 := fun h => hsm ⟨hl, h⟩
      go_wp2_with (go_at_call 8; refine (awake_any _).mono ?_; rintro e w4 ⟨rfl, hM4⟩)
      go_ret
      exact ⟨rfl, hM4⟩
    · go_wp2_with (go_at_call 8; refine (awake_any _).mono ?_; rintro e w4 ⟨rfl, hM4⟩)
      go_ret
      exact ⟨rfl, hM4⟩

end Go.Proofs.Ytdgjcmjbkmgohaa
