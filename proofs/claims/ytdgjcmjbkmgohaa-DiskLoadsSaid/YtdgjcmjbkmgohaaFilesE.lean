/- Load. -/
import Derived.Test.YtdgjcmjbkmgohaaFilesD
import Derived.Test.YtdgjcmjbkmgohaaDiskI
namespace Go.Proofs.Ytdgjcmjbkmgohaa
open Go.RowKit Go.Sl

/-- A map of files as a disk has it. -/
def Fine (fs : List (List UInt8 × FileR)) : Prop := (∀ q ∈ fs, q.1.length ≤ 40) ∧ AllOk fs
theorem fine_nil : Fine [] := ⟨by simp, by intro q hq; cases hq⟩
theorem okFile_iff {x : FV} (h : okFile x = true) : 1 ≤ x.name.length ∧ x.name.length ≤ 40 ∧ x.data.length ≤ 1048576 ∧ 0 ≤ x.kept ∧ x.kept ≤ x.data.length := by
  simp only [okFile, namedB, Bool.and_eq_true, decide_eq_true_eq] at h
  exact ⟨h.1.1, h.1.2, h.2.1, h.2.2.1, h.2.2.2⟩
theorem fine_put {fs : List (List UInt8 × FileR)} (h : Fine fs) {x : FV} (hx : okFile x = true) : Fine (putF fs x.name ⟨x.data, x.kept.toNat⟩) := by
  obtain ⟨_, h1, h2, h3, h4⟩ := okFile_iff hx
  refine ⟨fun q hq => ?_, fun q hq => ?_⟩
  · rcases putF_mem q hq with rfl | hq
    · exact h1
    · exact h.1 q hq
  · rcases putF_mem q hq with rfl | hq
    · exact ⟨by simp only; omega, by simp only; omega⟩
    · exact h.2 q hq

/-- At the head of a round of Load. -/
def LoadInv (w : World) (m : Nat) (xs : List FV) (i : Value) (wr : World) : Prop :=
  ∃ (k : Nat) (om : Obj) (l : List (List UInt8 × Value)) (fs : List (List UInt8 × FileR)) (Lf : Frag), k ≤ xs.length ∧ i = .int .i64 k ∧ MapO l om ∧ FilesF l fs Lf ∧ Twin fs ((xs.take k).foldl putR []) ∧ Fine fs ∧ (xs.take k).all okFile = true ∧ Moves w wr [] ((m, om) :: Lf)
def LoadPost (w : World) (b : Nat) (pv : Option Addr) (L : Frag) (xs : List FV) (e : Ending) (w' : World) : Prop :=
  (loadR xs = none ∧ e = .returned (.int .i64 1) ∧ Moves w w' [] []) ∨
  ∃ out fs L', loadR xs = some out ∧ e = .returned (.int .i64 0) ∧ DiskF b pv fs L' ∧ Twin fs out ∧ Fine fs ∧ Moves w w' L L'

set_option maxRecDepth 100000 in
set_option maxHeartbeats 4000000 in
theorem load_any (b : Nat) (pv : Option Addr) (fs : List (List UInt8 × FileR)) (L F : Frag) (v : Value) (xs : List FV) (w : World) (hD : DiskF b pv fs L) (hL : Holds w (L ++ F)) (hv : ∀ w', Holds w' F → FilesAt w' v xs ∧ DataAt w' xs) (hn : xs.length ≤ 4096) (hb : ∀ x ∈ xs, x.name.length ≤ 140737488355328 ∧ x.data.length ≤ 140737488355328) :
    Calls Try.prog 26 #[.pointer (some ⟨b, 0, none⟩), v] w (LoadPost w b pv L xs) := by
  have hmm := @run_makeMap Try.prog
  have hF := hL.right
  obtain ⟨va, vc, rfl⟩ := (hv w hF).1.shape
  have HV := Lib.hid (hv w hF).1
  have HDT := Lib.hid (hv w hF).2
  have HB := Lib.hid hb
  obtain ⟨m, om, l, Lf, rfl, ho, hf⟩ := hD
  have c1 := hL.left.cell0 (o := 1) rfl
  have HL := Lib.hid hL
  clear hv hb hF hL ho hf
  go_enter Try.func26, Try.ntmps26
  go_wp2_with (go_at_call 37; refine (made_any b m _ c1).mono ?_; rintro e w' ⟨rfl, rfl⟩)
  have M0 := Lib.hid ((Moves.refl w []).alloc (.map #[] 0))
  obtain ⟨w0, hw0⟩ : ∃ w0, w0 = w.alloc (.map #[] 0) := ⟨_, rfl⟩
  obtain ⟨m2, hm2⟩ : ∃ m2, m2 = w.heap.size := ⟨_, rfl⟩
  rw [← hw0, ← hm2] at M0 ⊢
  clear hw0 hm2 hmm c1
  go_loopw [14] (fun i wr => LoadInv w m2 xs i wr) (fun i _ => xs.length - (intOf i).toNat)
  case atStart => exact ⟨0, _, [], [], [], Nat.zero_le _, rfl, mapO_new, rfl, twin_nil, fine_nil, rfl, M0.out⟩
  case round =>
    clear M0
    obtain ⟨k, om2, l2, fs2, Lf2, hk, rfl, ho, hf, htw, hfi, hall, hM⟩ := hrel
    have M := Lib.hid hM
    have HO := Lib.hid ho
    have HF := Lib.hid hf
    have HTW := Lib.hid htw
    have HFI := Lib.hid hfi
    have HA := Lib.hid hall
    clear hM ho hf htw hfi hall
    by_cases hlt : k < xs.length
    · obtain ⟨y, hy⟩ : ∃ y, xs[k]? = some y := ⟨_, List.getElem?_eq_getElem hlt⟩
      have hmem := List.mem_of_getElem? hy
      obtain ⟨yb, off, cap, hv, hG⟩ := FilesAt.always HV.out hy
      injection hv with hv1 _ hv3
      subst hv1 hv3
      obtain ⟨c0, c1, c2⟩ := hG _ (M.out.dropR (A := []))
      clear hG
      obtain ⟨nm, dv, data, kept⟩ := y
      obtain ⟨da, dc, hdv⟩ := shape_at (HDT.out _ hmem)
      dsimp only at hdv
      subst hdv
      dsimp only at c0 c1 c2
      obtain ⟨hb1, hb2⟩ := HB.out _ hmem
      dsimp only at hb1 hb2
      have HBY := Lib.hid (show BytesAt w (.slice da data.length dc) data from HDT.out _ hmem)
      have HY := Lib.hid hy
      have HM := Lib.hid hmem
      clear hy hmem
      obtain ⟨nb, hnb⟩ : ∃ nb, nb = namedB nm := ⟨_, rfl⟩
      have HN := Lib.hid hnb
      clear hnb
      have hok : Hid (okFile ⟨nm, .slice da data.length dc, data, kept⟩ = (nb && (decide (data.length ≤ 1048576) && (decide (0 ≤ kept) && decide (kept ≤ data.length))))) := by show _ = _; rw [HN.out]; rfl
      go_upto_region 7 with (fail)
      have M2 := Lib.hid (M.out.alloc (.cells #[.string ⟨nm.toArray⟩, .slice da data.length dc, .int .i64 kept] 54))
      obtain ⟨wa, hwa⟩ : ∃ wa, wa = wr.alloc (.cells #[.string ⟨nm.toArray⟩, .slice da data.length dc, .int .i64 kept] 54) := ⟨_, rfl⟩
      rw [← hwa] at M2 ⊢
      obtain ⟨Bx, hBx⟩ : ∃ Bx, Bx = wr.heap.size := ⟨_, rfl⟩
      rw [← hBx] at M2 ⊢
      clear hwa hBx c0 c1 c2
      have H2 := M2.out.here (Holds.nil w)
      have x0 := H2.cell0 (o := 0) rfl
      have x1 := H2.cell0 (o := 1) rfl
      have x2 := H2.cell0 (o := 2) rfl
      clear H2 M
      cases nb
      · have hno : Hid (loadR xs = none) := Lib.hid (not_all HM.out (by rw [hok.out]; rfl))
        go_wp2_with (go_at_call 39; refine (named_any nm _ hb1).mono ?_; rintro e w3 ⟨rfl, rfl⟩; rw [← HN.out])
        go_ret
        exact .inl ⟨hno.out, rfl, M2.out.dropR (A := [])⟩
      by_cases hd : data.length ≤ 1048576
      · by_cases hk0 : 0 ≤ kept
        · by_cases hkd : kept ≤ data.length
          · have hoky : Hid (okFile ⟨nm, .slice da data.length dc, data, kept⟩ = true) := by show _ = _; rw [hok.out]; simp [hd, hk0, hkd]
            have hyes : Hid ((xs.take (k + 1)).all okFile = true) := by
              show _ = _
              rw [take_all_succ HY.out, HA.out, hoky.out]; rfl
            go_upto_region 9 with (go_at_call 39; refine (named_any nm _ hb1).mono ?_; rintro e w3 ⟨rfl, rfl⟩; rw [← HN.out])
            have hbw := Lib.hid (HBY.out.moves (M2.out.drew.dropR (A := [])))
            have HC := Lib.hid (clone_any _ data wa.drew hbw.out hb2)
            have s0 := (M2.out.here (Holds.nil w)).cell0 (o := 0) (v := .string ⟨nm.toArray⟩) rfl
            have s1 := (M2.out.here (Holds.nil w)).cell0 (o := 1) (v := .slice da data.length dc) rfl
            have s2 := (M2.out.here (Holds.nil w)).cell0 (o := 2) (v := .int .i64 kept) rfl
            clear x0 x1 x2
            go_region_held3 (fun w' => w'.cell? ⟨Bx, 0, none⟩ = some (.string ⟨nm.toArray⟩) ∧ w'.cell? ⟨Bx, 1, none⟩ = some (.slice da data.length dc) ∧ w'.cell? ⟨Bx, 2, none⟩ = some (.int .i64 kept)) (first | exact ⟨s0, s1, s2⟩ | exact ⟨q0, q1, q2⟩ | exact ⟨r0, r1, r2⟩) (first
              | (go_simp; go_at_call 38; refine HC.out.mono ?_; rintro e w4 ⟨ca, cc, NC, rfl, hNC, hM4⟩; have M4 := Lib.hid (M2.out.drew.call hM4); have HNC := Lib.hid hNC; have q0 := (M4.out.here (Holds.nil w)).right.cell0 (o := 0) (v := .string ⟨nm.toArray⟩) rfl; have q1 := (M4.out.here (Holds.nil w)).right.cell0 (o := 1) (v := .slice da data.length dc) rfl; have q2 := (M4.out.here (Holds.nil w)).right.cell0 (o := 2) (v := .int .i64 kept) rfl; obtain ⟨w5, o5, hput, ho5, hM5⟩ := put_run (P := Try.prog) Try.underlying68 Try.underlying9 ((M4.out.here (Holds.nil w)).right.right (A := [_]) |>.get (List.mem_cons_self ..)) HO.out nm (.agg #[.slice ca data.length cc, .int .i64 kept]); have M5 := Lib.hid ((M4.out.reR (M' := [(m2, om2)] ++ ((Bx, .cells #[.string ⟨nm.toArray⟩, .slice da data.length dc, .int .i64 kept] 54 (0, 0)) :: (NC ++ Lf2))) fun f g h0 hc ha => by simp only [h0, hc, ha]; omega).calls hM5); have r0 := (M5.out.here (Holds.nil w)).right.cell0 (o := 0) (v := .string ⟨nm.toArray⟩) rfl; have r1 := (M5.out.here (Holds.nil w)).right.cell0 (o := 1) (v := .slice da data.length dc) rfl; have r2 := (M5.out.here (Holds.nil w)).right.cell0 (o := 2) (v := .int .i64 kept) rfl; clear hM4 hNC hM5))
            have htn : Hid (Twin (putF fs2 nm ⟨data, kept.toNat⟩) ((xs.take (k + 1)).foldl putR [])) := by
              show Twin _ _
              rw [take_foldl_succ HY.out]
              exact twin_put HTW.out ⟨nm, .slice da data.length dc, data, kept⟩ hk0
            have hfn : Hid (Fine (putF fs2 nm ⟨data, kept.toNat⟩)) := Lib.hid (fine_put HFI.out hoky.out)
            have hfF : Hid (FileF (.agg #[.slice ca data.length cc, .int .i64 kept]) ⟨data, kept.toNat⟩ NC) := Lib.hid ⟨_, by simp only [Int.toNat_of_nonneg hk0], HNC.out⟩
            go_wp2_with (fail)
            go_roundw
            case rel =>
              rcases HF.out.look nm with ⟨_, _, h3⟩ | ⟨v, f, A, B, C, _, _, hfv, e6, h5⟩
              · exact ⟨k + 1, o5, _, _, _, by omega, by go_num, ho5, h3 _ _ NC hfF.out, htn.out, hfn.out, hyes.out, (M5.out.reR (M' := [(Bx, .cells #[.string ⟨nm.toArray⟩, .slice da data.length dc, .int .i64 kept] 54 (0, 0))] ++ ((m2, o5) :: (Lf2 ++ NC))) fun f g h0 hc ha => by simp only [h0, hc, ha]; omega).drop⟩
              · exact ⟨k + 1, o5, _, _, _, by omega, by go_num, ho5, h5 _ _ NC hfF.out, htn.out, hfn.out, hyes.out, (M5.out.reR (M' := ((Bx, .cells #[.string ⟨nm.toArray⟩, .slice da data.length dc, .int .i64 kept] 54 (0, 0)) :: B) ++ ((m2, o5) :: (A ++ (NC ++ C)))) fun f g h0 hc ha => by simp only [h0, hc, ha, e6]; omega).drop⟩
            case measure => simp [intOf]; omega
          · have hno : Hid (loadR xs = none) := Lib.hid (not_all HM.out (by rw [hok.out]; simp [hkd]))
            go_wp2_with (go_at_call 39; refine (named_any nm _ hb1).mono ?_; rintro e w3 ⟨rfl, rfl⟩; rw [← HN.out])
            go_ret
            exact .inl ⟨hno.out, rfl, M2.out.dropR (A := [])⟩
        · have hno : Hid (loadR xs = none) := Lib.hid (not_all HM.out (by rw [hok.out]; simp [hk0]))
          go_wp2_with (go_at_call 39; refine (named_any nm _ hb1).mono ?_; rintro e w3 ⟨rfl, rfl⟩; rw [← HN.out])
          go_ret
          exact .inl ⟨hno.out, rfl, M2.out.dropR (A := [])⟩
      · have hno : Hid (loadR xs = none) := Lib.hid (not_all HM.out (by rw [hok.out]; simp [hd]))
        go_wp2_with (go_at_call 39; refine (named_any nm _ hb1).mono ?_; rintro e w3 ⟨rfl, rfl⟩; rw [← HN.out])
        go_ret
        exact .inl ⟨hno.out, rfl, M2.out.dropR (A := [])⟩
    · obtain rfl : k = xs.length := by omega
      have htk : xs.take xs.length = xs := List.take_length
      have hall := HA.out
      rw [htk] at hall
      have hld : Hid (loadR xs = if !(decide ((xs.foldl putR []).length < xs.length) || decide (64 < xs.length)) then some (xs.foldl putR []) else none) := by
        show _ = _
        simp [loadR, hall]
      have htw := HTW.out
      rw [htk] at htw
      obtain ⟨out, ho⟩ : ∃ out, out = xs.foldl putR [] := ⟨_, rfl⟩
      rw [← ho] at hld htw
      have hlen : l2.length = out.length := by rw [HF.out.length, twin_length htw]
      have HT2 := Lib.hid htw
      have hm : wr.heap[m2]? = some om2 := (M.out.here (Holds.nil w)).get (List.mem_cons_self ..)
      have hln : ∀ ty, (Builtin.len_ #[68] ty #[.map (some m2)]).run Try.prog wr = .ok (goInt out.length) wr := fun ty => by rw [← hlen]; exact run_lenM (P := Try.prog) Try.underlying68 hm HO.out ty
      clear ho hall htk htw hlen hm
      by_cases hl1 : out.length < xs.length
      · have hno : Hid (loadR xs = none) := by show _ = _; rw [hld.out]; simp [hl1]
        go_wp2_with (fail)
        go_ret
        exact .inl ⟨hno.out, rfl, M.out.dropR (A := [])⟩
      · by_cases hl2 : 64 < xs.length
        · have hno : Hid (loadR xs = none) := by show _ = _; rw [hld.out]; simp [hl2]
          go_wp2_with (fail)
          go_ret
          exact .inl ⟨hno.out, rfl, M.out.dropR (A := [])⟩
        · have hyes : Hid (loadR xs = some out) := by show _ = _; rw [hld.out]; simp [hl1, hl2]
          have M5 := Lib.hid ((M.out.frame ((b, .cells #[.pointer pv, .map (some m)] 70 (0, 0)) :: (m, om) :: Lf)).reR (M' := (b, .cells #[.pointer pv, .map (some m)] 70 (0, 0)) :: (((m, om) :: Lf) ++ ((m2, om2) :: Lf2))) fun f g h0 hc ha => by simp only [h0, hc, ha]; omega)
          have H5 := (M.out.to _ HL.out).right
          have x0 := H5.left.cell0 (o := 0) rfl
          have x1 := H5.left.cell0 (o := 1) rfl
          have f1 := H5.left.free0 1
          clear H5
          go_wp2_with (fail)
          go_ret
          exact .inr ⟨out, fs2, (b, .cells #[.pointer pv, .map (some m2)] 70 (0, 0)) :: (m2, om2) :: Lf2, hyes.out, rfl, ⟨m2, om2, l2, Lf2, rfl, HO.out, HF.out⟩, HT2.out, HFI.out, ((M5.out.setCell 1 (.map (some m2))).reR (M' := ((m, om) :: Lf) ++ ((b, .cells #[.pointer pv, .map (some m2)] 70 (0, 0)) :: (m2, om2) :: Lf2)) fun f g h0 hc ha => by simp only [h0, hc, ha]; simp; omega).drop⟩
end Go.Proofs.Ytdgjcmjbkmgohaa
