/- DiskPower, walked. -/
import Derived.Test.YtdgjcmjbkmgohaaLawA
namespace Go.Proofs.Ytdgjcmjbkmgohaa
open Go.RowKit Go.Sl

/-- Integers read as a slice. -/
def IntsAt (w : World) (v : Value) (l : List Int) : Prop := RowAt w v l.length (l.map fun c => .int .i64 c)

/-- One of them. -/
theorem IntsAt.get {w : World} {v : Value} {l : List Int} (h : IntsAt w v l) (k : Nat) (hk : k < l.length) : ∃ b off cap, v = .slice (some ⟨b, off, none⟩) l.length cap ∧ w.cell? ⟨b, off + k, none⟩ = some (.int .i64 l[k]) := by
  obtain ⟨a, cap, hv, _, _, hc⟩ := h.resolve_left (by rintro ⟨_, h, _⟩; omega)
  subst hv
  have hne : (l.map fun c => Value.int .i64 c) ≠ [] := fun e => by have := congrArg List.length e; simp at this; rw [this] at hk; simp at hk
  have ha := (RowAt.lt h hne).2
  obtain ⟨b, off, spot⟩ := a
  obtain rfl : spot = none := by injection ha
  refine ⟨b, off, cap, rfl, ?_⟩
  have := hc k (.int .i64 l[k]) (by simp [hk])
  rwa [Addr.add_lit] at this
theorem IntsAt.shape {w : World} {v : Value} {l : List Int} (h : IntsAt w v l) : ∃ a c, v = .slice a l.length c := by
  rcases h with ⟨h1, h2, _⟩ | ⟨a, c, h1, _⟩
  · exact ⟨none, 0, by rw [h1, h2]⟩
  · exact ⟨_, _, h1⟩

/-- The power that no call made. -/
def Pw.zero : Pw := ⟨false, false, 0, false⟩

theorem zero_fuse (n : Int) : Pw.zero.fuse n = Pw.zero := rfl
theorem zero_act1 : Pw.zero.act.1 = 8 := rfl
theorem zero_act2 : Pw.zero.act.2 = Pw.zero := rfl
theorem zero_mend : Pw.zero.mend = Pw.zero := rfl

theorem quo_le (c : Int) (h : c ≤ 9223372036854775807) : c.tdiv 4 ≤ 9223372036854775807 := by
  rcases Int.lt_or_le c 0 with h0 | h0
  · obtain ⟨d, rfl⟩ : ∃ d, c = -d := ⟨-c, by omega⟩
    rw [Int.neg_tdiv, Int.tdiv_eq_ediv_of_nonneg (by omega)]
    omega
  · rw [Int.tdiv_eq_ediv_of_nonneg h0]; omega

set_option maxRecDepth 100000 in
set_option maxHeartbeats 4000000 in
theorem power_any (v : Value) (l : List Int) (w : World) (h : IntsAt w v l) (hr : ∀ c ∈ l, -9223372036854775808 ≤ c ∧ c ≤ 9223372036854775807) :
    Calls Try.prog 3 #[v] w fun e w' => e = .returned (.bool true) ∧ Moves w w' [] [] := by
  obtain ⟨va, vc, rfl⟩ := h.shape
  have HI := Lib.hid h
  have HR := Lib.hid hr
  clear h hr
  go_enter Try.func3, Try.ntmps3
  by_cases h60 : l.length ≤ 60
  · go_wp2_with (fail)
    refine (plug_any _).mono ?_
    rintro e w1 ⟨p, rfl, hM1⟩
    go_wp2_with (fail)
    refine (rplug_any _).mono ?_
    rintro e w2 ⟨x, rfl, hM2⟩
    have M2 := Lib.hid (hM1.call hM2)
    clear hM1 hM2
    go_wp2_with (fail)
    go_loopw [5] (fun i wr => ∃ (k : Nat) (P : Pw) (X : RPw), k ≤ l.length ∧ i = .int .i64 k ∧ Agree P X ∧ Moves w wr [] [(x, X.obj), (p, P.obj)]) (fun i _ => l.length - (intOf i).toNat)
    case atStart => exact ⟨0, _, _, Nat.zero_le _, rfl, agree_plug, M2.out⟩
    case round =>
      clear M2
      obtain ⟨k, P, X, hk, rfl, hA, hM⟩ := hrel
      have HM := Lib.hid hM
      have HA := Lib.hid hA
      by_cases hlt : k < l.length
      · obtain ⟨b, off, cap, hv, hc⟩ := IntsAt.get (HI.out.moves (hM.dropR (A := []) (B := _))) k hlt
        injection hv with hv1 _ hv3
        subst hv1 hv3
        have hcr := HR.out l[k] (List.getElem_mem hlt)
        obtain ⟨c, hcl⟩ : ∃ c, c = l[k] := ⟨_, rfl⟩
        rw [← hcl] at hc hcr
        have HG : Hid (∀ wr N, Moves w wr [] N → wr.cell? ⟨b, off + k, none⟩ = some (.int .i64 c)) := by
          show ∀ wr N, _ → _
          intro wr N hM
          obtain ⟨b', off', cap', hv', hc'⟩ := IntsAt.get (HI.out.moves (hM.dropR (A := []) (B := _))) k hlt
          injection hv' with e1 _ _
          injection e1 with e1
          injection e1 with e1 e2 _
          rw [e1, e2, hcl]; exact hc'
        clear hcl hM hA
        go_upto_region 10 with (fail)
        obtain ⟨q, hq⟩ : ∃ q, q = (IntKind.u64.wrap c).tmod 4 := ⟨_, rfl⟩
        rw [← hq]
        clear hq
        obtain ⟨n, hn⟩ : ∃ n, n = c.tdiv 4 := ⟨_, rfl⟩
        have hnb : n ≤ 9223372036854775807 := by rw [hn]; exact quo_le c hcr.2
        by_cases hq0 : q = 0
        · subst hq0
          go_wp2_with (fail)
          rw [← hn]
          refine (fuse_any p P n _ ((HM.out.here (Holds.nil w)).right (A := [_]))).mono ?_
          rintro e w3 ⟨rfl, hM3⟩
          have M3 := Lib.hid ((HM.out.reR (M' := [(p, P.obj)] ++ [(x, X.obj)]) fun f g h0 hc ha => by simp only [hc, ha]; omega).calls hM3)
          have hc3 := HG.out _ _ M3.out
          clear hM3 hc
          go_wp2_with (fail)
          rw [← hn]
          refine (rfuse_any x X n _ ((M3.out.here (Holds.nil w)).right (A := [_]))).mono ?_
          rintro e w4 ⟨rfl, hM4⟩
          have M4 := Lib.hid ((M3.out.reR (M' := [(x, X.obj)] ++ [(p, (P.fuse n).obj)]) fun f g h0 hc ha => by simp only [hc, ha]; omega).calls hM4)
          clear hM4 hc3 M3
          have AG := Lib.hid (agree_fuse HA.out n hnb)
          have HON := Lib.hid (on_any p (P.fuse n) _ ((M4.out.drew.here (Holds.nil w)).right (A := [_])))
          have x0 := (M4.out.here (Holds.nil w)).cell0 (o := 0) rfl
          have x1 := (M4.out.drew.here (Holds.nil w)).cell0 (o := 0) rfl
          have AO := Lib.hid (agree_on AG.out)
          go_upto_region 16 with (fail)
          go_region_held3 (fun w' => w'.cell? ⟨x, 0, none⟩ = some (.bool (X.fuse n).off)) (first | exact x0 | exact x1) (first
            | (go_simp; go_at_call 16; refine HON.out.mono ?_; rintro e w7 ⟨rfl, rfl⟩; rw [AO.out]))
          all_goals
            have hne : ((!(X.fuse n).off) == (X.fuse n).off) = false := by cases (X.fuse n).off <;> rfl
            go_wp2_with (fail)
            go_roundw
            case rel => exact ⟨k + 1, _, _, by omega, by go_num, AG.out, M4.out.drew⟩
            case measure => simp [intOf]; omega
        · by_cases hq1 : q = 1
          · subst hq1
            go_wp2_with (fail)
            refine (mend_any p P _ ((HM.out.here (Holds.nil w)).right (A := [_]))).mono ?_
            rintro e w3 ⟨rfl, hM3⟩
            have M3 := Lib.hid ((HM.out.reR (M' := [(p, P.obj)] ++ [(x, X.obj)]) fun f g h0 hc ha => by simp only [hc, ha]; omega).calls hM3)
            clear hM3 hc
            have H3 := (M3.out.here (Holds.nil w)).right (A := [_])
            have x0 := H3.cell0 (o := 0) rfl
            have x1 := H3.cell0 (o := 1) rfl
            have fx0 := H3.free0 0
            have fx1 := H3.free0 1
            have lx := H3.lt0
            clear H3
            have M4 : Hid (Moves w ((w3.setCell ⟨x, 0, none⟩ (.bool false)).setCell ⟨x, 1, none⟩ (.int .i64 (-1))) [] [(x, RPw.obj ⟨false, -1⟩), (p, P.mend.obj)]) := Lib.hid (((M3.out.reR (M' := [(x, X.obj), (p, P.mend.obj)]) fun f g h0 hc ha => by simp only [hc, ha]; omega).setCell 0 (.bool false)).setCell 1 (.int .i64 (-1)))
            have AG := Lib.hid (agree_mend HA.out)
            go_upto_region 16 with (fail)
            obtain ⟨w4, hw4⟩ : ∃ w4, w4 = (w3.setCell ⟨x, 0, none⟩ (.bool false)).setCell ⟨x, 1, none⟩ (.int .i64 (-1)) := ⟨_, rfl⟩
            rw [← hw4] at M4 ⊢
            clear hw4 x0 x1 fx0 fx1 lx M3
            have HON := Lib.hid (on_any p (P.mend) _ ((M4.out.drew.here (Holds.nil w)).right (A := [_])))
            have x0 := (M4.out.here (Holds.nil w)).cell0 (o := 0) rfl
            have x1 := (M4.out.drew.here (Holds.nil w)).cell0 (o := 0) rfl
            have AO := Lib.hid (agree_on AG.out)
            go_upto_region 16 with (fail)
            go_region_held3 (fun w' => w'.cell? ⟨x, 0, none⟩ = some (.bool (RPw.mk false (-1)).off)) (first | exact x0 | exact x1) (first
              | (go_simp; go_at_call 16; refine HON.out.mono ?_; rintro e w7 ⟨rfl, rfl⟩; rw [AO.out]))
            all_goals
              have hne : ((!(RPw.mk false (-1)).off) == (RPw.mk false (-1)).off) = false := by cases (RPw.mk false (-1)).off <;> rfl
              go_wp2_with (fail)
              go_roundw
              case rel => exact ⟨k + 1, _, _, by omega, by go_num, AG.out, M4.out.drew⟩
              case measure => simp [intOf]; omega
          · have b0 : (q == 0) = false := by simp [hq0]
            have b1 : (q == 1) = false := by simp [hq1]
            have AA := Lib.hid (agree_act HA.out)
            have hpl := HA.out.2.2
            go_wp2_with (fail)
            refine (act_any p P _ ((HM.out.here (Holds.nil w)).right (A := [_])) (by omega) (by omega)).mono ?_
            rintro e w3 ⟨rfl, hM3⟩
            have M3 := Lib.hid ((HM.out.reR (M' := [(p, P.obj)] ++ [(x, X.obj)]) fun f g h0 hc ha => by simp only [hc, ha]; omega).calls hM3)
            clear hM3 hc
            go_wp2_with (fail)
            refine (ract_any x X _ ((M3.out.here (Holds.nil w)).right (A := [_])) (by omega)).mono ?_
            rintro e w4 ⟨rfl, hM4⟩
            have M4 := Lib.hid ((M3.out.reR (M' := [(x, X.obj)] ++ [(p, P.act.2.obj)]) fun f g h0 hc ha => by simp only [hc, ha]; omega).calls hM4)
            clear hM4 M3 hpl
            rw [AA.out.1]
            have hsame : (X.act.1 == X.act.1) = true := by simp
            have AG := Lib.hid AA.out.2
            have HON := Lib.hid (on_any p (P.act.2) _ ((M4.out.drew.here (Holds.nil w)).right (A := [_])))
            have x0 := (M4.out.here (Holds.nil w)).cell0 (o := 0) rfl
            have x1 := (M4.out.drew.here (Holds.nil w)).cell0 (o := 0) rfl
            have AO := Lib.hid (agree_on AG.out)
            go_upto_region 16 with (fail)
            go_region_held3 (fun w' => w'.cell? ⟨x, 0, none⟩ = some (.bool (X.act.2).off)) (first | exact x0 | exact x1) (first
              | (go_simp; go_at_call 16; refine HON.out.mono ?_; rintro e w7 ⟨rfl, rfl⟩; rw [AO.out]))
            all_goals
              have hne : ((!(X.act.2).off) == (X.act.2).off) = false := by cases (X.act.2).off <;> rfl
              go_wp2_with (fail)
              go_roundw
              case rel => exact ⟨k + 1, _, _, by omega, by go_num, AG.out, M4.out.drew⟩
              case measure => simp [intOf]; omega
      · clear hM hA HA
        have M3 := Lib.hid (HM.out.dropR (A := []))
        clear HM
        go_upto_region 19 with (fail)
        have M4 := Lib.hid ((M3.out.alloc Pw.zero.obj).alloc (.cells #[.pointer none, .pointer (some ⟨wr.heap.size, 0, none⟩)] 24))
        have hsz : (wr.alloc Pw.zero.obj).heap.size = wr.heap.size + 1 := by simp
        rw [hsz] at M4
        obtain ⟨wa, hwa⟩ : ∃ wa, wa = (wr.alloc Pw.zero.obj).alloc (.cells #[.pointer none, .pointer (some ⟨wr.heap.size, 0, none⟩)] 24) := ⟨_, rfl⟩
        have hwa' : (wr.alloc (.cells #[.bool false, .bool false, .int .i64 0, .bool false] 36)).alloc (.cells #[.pointer none, .pointer (some ⟨wr.heap.size, 0, none⟩)] 24) = wa := hwa.symm
        rw [← hwa] at M4
        rw [hwa']
        obtain ⟨gz, hgz⟩ : ∃ gz, gz = wr.heap.size := ⟨_, rfl⟩
        rw [← hgz] at M4 ⊢
        clear hwa hwa' hgz hsz M3
        go_wp2_with (fail)
        go_loopw [7] (fun i wr => ∃ k : Nat, k ≤ 2 ∧ i = .int .i64 k ∧ Moves w wr [] [(gz + 1, .cells #[.pointer none, .pointer (some ⟨gz, 0, none⟩)] 24 (0, 0)), (gz, Pw.zero.obj)]) (fun i _ => 2 - (intOf i).toNat)
        case atStart => exact ⟨0, by omega, rfl, M4.out⟩
        case round =>
          clear M4
          obtain ⟨k2, hk2, rfl, hM⟩ := hrel
          have H := hM.here (Holds.nil w)
          have n0 := H.cell0 (o := 0) rfl
          have n1 := H.cell0 (o := 1) rfl
          have HM := Lib.hid hM
          clear hM H
          by_cases h0 : k2 = 0
          · subst h0
            go_wp2_with (first
              | (go_at_call 11; refine (fuse_nil 3 _).mono ?_; rintro e w4 ⟨rfl, rfl⟩)
              | (go_at_call 13; refine (mend_nil _).mono ?_; rintro e w4 ⟨rfl, rfl⟩)
              | (go_at_call 16; refine (on_nil _).mono ?_; rintro e w4 ⟨rfl, rfl⟩)
              | (go_at_call 14; refine (act_nil _).mono ?_; rintro e w4 ⟨rfl, rfl⟩))
            go_roundw
            case rel => exact ⟨1, by omega, by go_num, HM.out⟩
            case measure => simp [intOf]
          by_cases h1 : k2 = 1
          · subst h1
            have HP := HM.out.here (Holds.nil w) |>.right (A := [_])
            go_wp2_with (fail)
            refine (fuse_any gz Pw.zero 3 _ HP).mono ?_
            rintro e w4 ⟨rfl, hM4⟩
            have M5 := Lib.hid (((HM.out.reR (M' := [(gz, Pw.zero.obj)] ++ [(gz + 1, .cells #[.pointer none, .pointer (some ⟨gz, 0, none⟩)] 24 (0, 0))]) fun f g h0 hc ha => by simp only [hc, ha]; omega).calls hM4).reR (M' := [(gz + 1, .cells #[.pointer none, .pointer (some ⟨gz, 0, none⟩)] 24 (0, 0)), (gz, Pw.zero.obj)]) fun f g h0 hc ha => by simp only [hc, ha, zero_fuse]; omega)
            clear hM4 n0 n1 HP
            have n1 := (M5.out.here (Holds.nil w)).cell0 (o := 1) rfl
            have HP := M5.out.here (Holds.nil w) |>.right (A := [_])
            go_wp2_with (fail)
            refine (mend_any gz Pw.zero _ HP).mono ?_
            rintro e w5 ⟨rfl, hM6⟩
            have M6 := Lib.hid (((M5.out.reR (M' := [(gz, Pw.zero.obj)] ++ [(gz + 1, .cells #[.pointer none, .pointer (some ⟨gz, 0, none⟩)] 24 (0, 0))]) fun f g h0 hc ha => by simp only [hc, ha]; omega).calls hM6).reR (M' := [(gz + 1, .cells #[.pointer none, .pointer (some ⟨gz, 0, none⟩)] 24 (0, 0)), (gz, Pw.zero.obj)]) fun f g h0 hc ha => by simp only [hc, ha, zero_mend]; omega)
            clear hM6 n1 HP M5 HM
            have n1 := (M6.out.here (Holds.nil w)).cell0 (o := 1) rfl
            have HP := M6.out.here (Holds.nil w) |>.right (A := [_])
            go_wp2_with (fail)
            refine (on_any gz Pw.zero _ HP).mono ?_
            rintro e w6 ⟨rfl, rfl⟩
            go_wp2_with (fail)
            refine (act_any gz Pw.zero _ HP (by decide) (by decide)).mono ?_
            rintro e w7 ⟨rfl, hM7⟩
            have M7 := Lib.hid (((M6.out.reR (M' := [(gz, Pw.zero.obj)] ++ [(gz + 1, .cells #[.pointer none, .pointer (some ⟨gz, 0, none⟩)] 24 (0, 0))]) fun f g h0 hc ha => by simp only [hc, ha]; omega).calls hM7).reR (M' := [(gz + 1, .cells #[.pointer none, .pointer (some ⟨gz, 0, none⟩)] 24 (0, 0)), (gz, Pw.zero.obj)]) fun f g h0 hc ha => by simp only [hc, ha, zero_act2]; omega)
            rw [zero_act1]
            clear hM7 n1 HP M6
            go_wp2_with (fail)
            go_roundw
            case rel => exact ⟨2, by omega, by go_num, M7.out⟩
            case measure => simp [intOf]
          · obtain rfl : k2 = 2 := by omega
            go_wp2_with (go_at_call 8; refine (awake_any _).mono ?_; rintro e w4 ⟨rfl, hM4⟩)
            go_ret
            exact ⟨rfl, (HM.out.dropR (A := [])).trans hM4⟩
  · go_wp2_with (go_at_call 8; refine (awake_any _).mono ?_; rintro e w4 ⟨rfl, hM4⟩)
    go_ret
    exact ⟨rfl, hM4⟩

end Go.Proofs.Ytdgjcmjbkmgohaa
