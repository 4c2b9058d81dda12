/- DiskFull, walked. -/
import Derived.Test.YtdgjcmjbkmgohaaLawK
import Derived.Test.YtdgjcmjbkmgohaaDiskI
namespace Go.Proofs.Ytdgjcmjbkmgohaa
open Go.RowKit Go.Sl

/-- The k-th name. -/
def nameOf (k : Nat) : List UInt8 := [UInt8.ofNat (97 + k / 10), UInt8.ofNat (48 + k % 10)]
theorem nameOf_inj : ∀ i < 70, ∀ j < 70, nameOf i = nameOf j → i = j := by decide +kernel
theorem nameOf_named (k : Nat) : Named (nameOf k) := ⟨by simp [nameOf], by simp [nameOf]⟩
/-- Files behind k rounds. -/
def fullFs (k : Nat) : List (List UInt8 × FileR) := (List.range (min k 64)).map fun i => (nameOf i, ⟨[], 0⟩)
theorem fullFs_length (k : Nat) : (fullFs k).length = min k 64 := by simp [fullFs]
theorem putF_new {fs : List (List UInt8 × FileR)} {k : List UInt8} {f : FileR} (h : k ∉ fs.map Prod.fst) : putF fs k f = fs ++ [(k, f)] := by
  induction fs with
  | nil => rfl
  | cons p r ih =>
    have h1 : p.1 ≠ k := fun e => h (by simp [e])
    have h2 : k ∉ r.map Prod.fst := fun e => h (by simp at e ⊢; exact .inr e)
    simp [putF, h1, ih h2]
theorem lookF_new {fs : List (List UInt8 × FileR)} {k : List UInt8} (h : k ∉ fs.map Prod.fst) : lookF fs k = none := by
  cases hl : lookF fs k with
  | none => rfl
  | some f => exact absurd (List.mem_map.2 ⟨_, lookF_mem hl, rfl⟩) h
theorem fullFs_not (k : Nat) (hk : k < 70) : nameOf k ∉ (fullFs (min k 64)).map Prod.fst := by
  intro h
  obtain ⟨p, hp, he⟩ := List.mem_map.1 h
  obtain ⟨i, hi, rfl⟩ := List.mem_map.1 hp
  simp at hi
  have := nameOf_inj i (by omega) k hk he
  omega
theorem fullFs_min (k : Nat) : fullFs (min k 64) = fullFs k := by simp [fullFs]
theorem fullFs_put (k : Nat) (hk : k < 64) : putF (fullFs k) (nameOf k) ⟨[], 0⟩ = fullFs (k + 1) := by
  have h := fullFs_not k (by omega)
  rw [fullFs_min] at h
  rw [putF_new h]
  simp only [fullFs]
  rw [Nat.min_eq_left (by omega : k ≤ 64), Nat.min_eq_left (by omega : k + 1 ≤ 64), List.range_succ, List.map_append]
  rfl
theorem fullFs_look (k : Nat) (hk : k < 70) : lookF (fullFs k) (nameOf k) = none := by
  have h := fullFs_not k hk
  rw [fullFs_min] at h
  exact lookF_new h
theorem fullFs_stay (k : Nat) (hk : 64 ≤ k) : fullFs (k + 1) = fullFs k := by simp only [fullFs]; rw [Nat.min_eq_right (by omega), Nat.min_eq_right (by omega)]

set_option maxRecDepth 100000 in
set_option maxHeartbeats 4000000 in
theorem full_law (n : Nat) (hn : n ≤ 255) (w : World) :
    Calls Try.prog 5 #[.int .u8 n] w fun e w' => e = .returned (.bool true) ∧ Moves w w' [] [] := by
  obtain ⟨N, hN⟩ : ∃ N, N = n % 70 := ⟨_, rfl⟩
  have hN70 : N < 70 := by omega
  have hNi : ((n : Int)).tmod 70 = (N : Int) := by rw [Int.tmod_eq_emod_of_nonneg (by omega)]; omega
  go_enter Try.func5, Try.ntmps5
  go_wp2_with (fail)
  refine (plug_any _).mono ?_
  rintro e w1 ⟨p, rfl, hM1⟩
  go_wp2_with (fail)
  refine (new_disk _ _).mono ?_
  rintro e w2 ⟨b, L2, rfl, hD2, hM2⟩
  have M2 := Lib.hid ((hM1.call hM2).reR (M' := (p, Pw.plug.obj) :: L2) fun f g h0 hc ha => by simp only [h0, hc, ha]; omega)
  have D2 := Lib.hid hD2
  clear hM1 hM2 hD2
  go_wp2_with (fail)
  go_loopw [4] (fun i wr => ∃ (k : Nat) (L : Frag), k ≤ N ∧ i = .int .i64 k ∧ DiskF b (some ⟨p, 0, none⟩) (fullFs k) L ∧ Moves w wr [] ((p, Pw.plug.obj) :: L)) (fun i _ => N - (intOf i).toNat)
  case atStart => exact ⟨0, L2, Nat.zero_le _, rfl, D2.out, M2.out⟩
  case round =>
    clear M2 D2
    obtain ⟨k, L, hk, rfl, hD, hM⟩ := hrel
    have M := Lib.hid hM
    have D := Lib.hid hD
    clear hM hD
    by_cases hlt : k < N
    · have hstr : ∀ u : World, (convert 39 9 (.slice (some ⟨u.heap.size, 0, none⟩) 2 2)).run Try.prog (u.alloc (.cells #[.int .u8 (97 + (k : Int) / 10), .int .u8 (48 + (k : Int) % 10)] 5)) = .ok (.string ⟨(nameOf k).toArray⟩) (u.alloc (.cells #[.int .u8 (97 + (k : Int) / 10), .int .u8 (48 + (k : Int) % 10)] 5)) := by
        intro u
        have hb : BytesAt (u.alloc (.cells #[.int .u8 (97 + (k : Int) / 10), .int .u8 (48 + (k : Int) % 10)] 5)) (.slice (some ⟨u.heap.size, 0, none⟩) 2 2) (nameOf k) := by
          have := rowAt_new u #[.int .u8 (97 + (k : Int) / 10), .int .u8 (48 + (k : Int) % 10)] 5 2 (by unfold maxLen; omega)
          have e1 : ((UInt8.ofNat (97 + k / 10)).toNat : Int) = 97 + (k : Int) / 10 := by simp; omega
          have e2 : ((UInt8.ofNat (48 + k % 10)).toNat : Int) = 48 + (k : Int) % 10 := by simp; omega
          show RowAt _ _ 2 _
          simp only [nameOf, bs, List.map_cons, List.map_nil, e1, e2]
          exact this
        exact run_string_of_bytes (P := Try.prog) hb 39 5 9 Try.underlying39 Try.underlying5 Try.underlying9
      have MW := Lib.hid (M.out.waste (.cells #[.int .u8 (97 + (k : Int) / 10), .int .u8 (48 + (k : Int) % 10)] 5))
      by_cases h64 : 64 ≤ k
      · have hfl : (lookF (fullFs k) (nameOf k)).isSome = false := by rw [fullFs_look k (by omega)]; rfl
        have h6l : 64 ≤ (fullFs k).length := by rw [fullFs_length]; omega
        by_cases hev : (k : Int) % 2 = 0
        · go_wp2_with (fail)
          refine (create_full b p Pw.plug (fullFs k) L (nameOf k) _ D.out (MW.out.here (Holds.nil w)) (nameOf_named k) rfl hfl h6l).mono ?_
          rintro e w4 ⟨rfl, hM4⟩
          have M4 := Lib.hid (MW.out.trans (hM4.frame ((p, Pw.plug.obj) :: L)))
          clear hM4
          go_wp2_with (fail)
          go_roundw
          case rel => exact ⟨k + 1, L, by omega, by go_num, by rw [fullFs_stay k h64]; exact D.out, M4.out⟩
          case measure => simp [intOf]; omega
        · have hod : (k : Int) % 2 = 1 := by omega
          go_wp2_with (fail)
          refine (edit_full b (some ⟨p, 0, none⟩) (fullFs k) L (nameOf k) none 0 0 _ D.out ((MW.out.here (Holds.nil w)).right (A := [_])) (nameOf_named k) (by omega) hfl h6l).mono ?_
          rintro e w4 ⟨rfl, hM4⟩
          have M4 := Lib.hid (MW.out.trans (hM4.frame ((p, Pw.plug.obj) :: L)))
          clear hM4
          go_wp2_with (fail)
          go_roundw
          case rel => exact ⟨k + 1, L, by omega, by go_num, by rw [fullFs_stay k h64]; exact D.out, M4.out⟩
          case measure => simp [intOf]; omega
      · have h6l : (fullFs k).length < 64 := by rw [fullFs_length]; omega
        by_cases hev : (k : Int) % 2 = 0
        · go_wp2_with (fail)
          refine (create_ok b p Pw.plug (fullFs k) L (nameOf k) _ D.out (MW.out.here (Holds.nil w)) (nameOf_named k) rfl (.inr h6l) rfl plug_ok).mono ?_
          rintro e w4 ⟨L4, rfl, hD4, hM4⟩
          rw [fullFs_put k (by omega)] at hD4
          have D4 := Lib.hid hD4
          have M4 := Lib.hid (MW.out.trans hM4)
          clear hM4 hD4
          go_wp2_with (fail)
          go_roundw
          case rel => exact ⟨k + 1, L4, by omega, by go_num, D4.out, M4.out⟩
          case measure => simp [intOf]; omega
        · have hod : (k : Int) % 2 = 1 := by omega
          go_wp2_with (fail)
          refine (edit_ok b (some ⟨p, 0, none⟩) (fullFs k) L [] (nameOf k) (.slice none 0 0) [] _ D.out (by rw [List.append_nil]; exact (MW.out.here (Holds.nil w)).right (A := [_])) (fun _ _ => .inl ⟨rfl, rfl, rfl⟩) (nameOf_named k) (by simp) (.inr h6l)).mono ?_
          rintro e w4 ⟨L4, rfl, hD4, hM4⟩
          have D4 : Hid (DiskF b (some ⟨p, 0, none⟩) (fullFs (k + 1)) L4) := by show DiskF _ _ _ _; rw [← fullFs_put k (by omega)]; exact hD4
          have M4 := Lib.hid ((MW.out.reR (M' := L ++ [(p, Pw.plug.obj)]) fun f g h0 hc ha => by simp only [h0, hc, ha]; omega).calls hM4 |>.reR (M' := (p, Pw.plug.obj) :: L4) fun f g h0 hc ha => by simp only [h0, hc, ha]; omega)
          clear hM4 hD4
          go_wp2_with (fail)
          go_roundw
          case rel => exact ⟨k + 1, L4, by omega, by go_num, D4.out, M4.out⟩
          case measure => simp [intOf]; omega
    · obtain rfl : k = N := by omega
      by_cases h0 : k = 0
      · subst h0
        have hz : (n : Int) % 70 = 0 := by omega
        clear hN hNi
        go_wp2_with (fail)
        refine (names_ok b (some ⟨p, 0, none⟩) (fullFs 0) L _ D.out ((M.out.here (Holds.nil w)).right (A := [_])) (by intro q hq; simp [fullFs] at hq) (by rw [fullFs_length]; omega)).mono ?_
        rintro e w4 ⟨v, R, rfl, hR, hM4⟩
        obtain ⟨na, nc, rfl⟩ := RowF.shape hR
        have hl0 : (fullFs 0).length = 0 := by rw [fullFs_length]; rfl
        rw [hl0]
        have M4 := Lib.hid (M.out.call hM4)
        have hcmp : ((0 : Int) == max (min ((n : Int) % 70) 64) 0) = true := by rw [beq_iff_eq]; omega
        clear hM4 hR hl0 hlt hk hz
        go_wp2_with (fail)
        refine (awake_any _).mono ?_
        rintro e w5 ⟨rfl, hM5⟩
        go_wp2
        go_ret
        exact ⟨rfl, (M4.out.dropR (A := [])).trans hM5⟩
      · have hz : ¬ (n : Int) % 70 = 0 := by omega
        have hzb : ((n : Int) % 70 == 0) = false := by simp [hz]
        have hmem : nameOf 0 ∈ (fullFs k).map Prod.fst := List.mem_map.2 ⟨(nameOf 0, ⟨[], 0⟩), List.mem_map.2 ⟨0, by simp; omega, rfl⟩, rfl⟩
        obtain ⟨f0, hf0⟩ := lookF_some hmem
        go_wp2_with (fail)
        refine (create_ok b p Pw.plug (fullFs k) L [97, 48] _ D.out (M.out.here (Holds.nil w)) (nameOf_named 0) rfl (.inl (by show (lookF (fullFs k) (nameOf 0)).isSome = true; rw [hf0]; rfl)) rfl plug_ok).mono ?_
        rintro e w4 ⟨L4, rfl, hD4, hM4⟩
        have hkeys : (putF (fullFs k) [97, 48] ⟨[], 0⟩).map Prod.fst = (fullFs k).map Prod.fst := putF_keys hmem
        have hlen : (putF (fullFs k) [97, 48] ⟨[], 0⟩).length = min k 64 := by
          have := congrArg List.length hkeys
          rw [List.length_map, List.length_map, fullFs_length] at this
          exact this
        have M4 := Lib.hid (M.out.trans hM4)
        have D4 := Lib.hid hD4
        have HK := Lib.hid hkeys
        have HLn := Lib.hid hlen
        clear hM4 hD4 hkeys hlen hmem hf0
        go_wp2_with (fail)
        refine (names_ok b (some ⟨p, 0, none⟩) _ L4 _ D4.out ((M4.out.here (Holds.nil w)).right (A := [_])) (by
          intro q hq
          have : q.1 ∈ (fullFs k).map Prod.fst := by rw [← HK.out]; exact List.mem_map_of_mem hq
          obtain ⟨r, hr, he⟩ := List.mem_map.1 this
          obtain ⟨j, _, rfl⟩ := List.mem_map.1 hr
          rw [← he]; exact (nameOf_named j).2) (by rw [HLn.out]; omega)).mono ?_
        rintro e w5 ⟨v, R, rfl, hR, hM5⟩
        obtain ⟨na, nc, rfl⟩ := RowF.shape hR
        rw [HLn.out]
        have M5 := Lib.hid (M4.out.call hM5)
        clear hM5 hR
        have hcmp : (((min k 64 : Nat) : Int) == max (min ((n : Int) % 70) 64) 0) = true := by rw [beq_iff_eq]; omega
        clear hN hNi
        go_wp2_with (fail)
        refine (awake_any _).mono ?_
        rintro e w6 ⟨rfl, hM6⟩
        go_wp2
        go_ret
        exact ⟨rfl, (M5.out.dropR (A := [])).trans hM6⟩

theorem full_law_int (n : Int) (h0 : 0 ≤ n) (h1 : n ≤ 255) (w : World) :
    Calls Try.prog 5 #[.int .u8 n] w fun e w' => e = .returned (.bool true) ∧ Moves w w' [] [] := by
  obtain ⟨k, rfl⟩ := Int.eq_ofNat_of_zero_le h0
  exact full_law k (by omega) w

end Go.Proofs.Ytdgjcmjbkmgohaa
