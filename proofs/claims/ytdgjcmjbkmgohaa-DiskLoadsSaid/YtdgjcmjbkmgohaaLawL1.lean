/- DiskLoads, walked. -/
import Derived.Test.YtdgjcmjbkmgohaaLawL0
import Derived.Deep.RegionWith
namespace Go.Proofs.Ytdgjcmjbkmgohaa
open Go.RowKit Go.Sl

theorem fRowF_new (g : Nat) : FRowF (.slice (some ⟨g, 0, none⟩) 0 0) [] [(g, .cells #[] 54 (0, 0))] :=
  ⟨rfl, .inr ⟨g, 0, #[], rfl, rfl, Nat.le_refl _, Nat.zero_le _, Nat.le_refl _, rfl⟩⟩
theorem fRowF_more {v : Value} {xs ys : List FV} {L : Frag} (h : RowF 54 3 v (xs.length + ys.length) (fcells xs ++ fcells ys) L) : FRowF v (xs ++ ys) L := by
  unfold FRowF
  rw [fcells_append, List.length_append]
  exact h

/-- Where both disks stand: what the program's holds and what the document's. -/
def St (w : World) (b X p q : Nat) (all : List FV) (w' : World) : Prop :=
  ∃ fs out lv L N, Both b (some ⟨p, 0, none⟩) fs out lv L N ∧ (∀ x ∈ out, x ∈ all ∧ okFile x = true) ∧
    Moves w w' [] (L ++ ((X, rdisk (some ⟨q, 0, none⟩) lv) :: (N ++ [(q, RPw.plug.obj), (p, Pw.plug.obj)])))
theorem both_next {b : Nat} {pv : Option Addr} {fs fs' : List (List UInt8 × FileR)} {out : List FV} {lv lv' : Value} {L N L' N' : Frag} {xs all : List FV} (h : Both b pv fs out lv L N) (ho : ∀ x ∈ out, x ∈ all ∧ okFile x = true) (hx : ∀ x ∈ xs, x ∈ all) (h1 : ∀ x ∈ all, x.dv.oneCell' = true)
    (hd : DiskF b pv fs' L' ∧ Twin fs' (outOf xs out) ∧ Fine fs') (hr : FRowF lv' (outOf xs out) N') : Both b pv fs' (outOf xs out) lv' L' N' ∧ ∀ x ∈ outOf xs out, x ∈ all ∧ okFile x = true := by
  have ha : ∀ x ∈ outOf xs out, x ∈ all ∧ okFile x = true := fun x hx' => by
    rcases outOf_mem hx' with hh | ⟨hh, hk⟩
    · exact ho x hh
    · exact ⟨hx x hh, hk⟩
  exact ⟨⟨hd.1, hr, hd.2.1, hd.2.2, outOf_len h.len, fun x hx' => h1 x (ha x hx').1⟩, ha⟩
theorem load_back (b : Nat) (pv : Option Addr) (L F : Frag) (v : Value) (xs : List FV) (w : World) (hD : DiskF b pv [] L) (hL : Holds w (L ++ F)) (hv : ∀ w', Holds w' F → FilesAt w' v xs ∧ DataAt w' xs) (hr : Rises xs) (hk : ∀ x ∈ xs, okFile x = true) (hlen : xs.length ≤ 64) :
    Calls Try.prog 26 #[.pointer (some ⟨b, 0, none⟩), v] w fun e w' => ∃ fs L', e = .returned (.int .i64 0) ∧ DiskF b pv fs L' ∧ Twin fs xs ∧ Fine fs ∧ Moves w w' L L' := by
  refine (load_any b pv [] L F v xs w hD hL hv (by omega) (fun x hx => by have := okFile_iff (hk x hx); omega)).mono ?_
  have hs := loadR_rises hr hk hlen
  rintro e w' (⟨h1, _⟩ | ⟨out', fs', L', h1, h2, h3, h4, h5, h6⟩)
  · rw [hs] at h1; cases h1
  · rw [hs] at h1
    obtain rfl := Option.some.inj h1
    exact ⟨fs', L', h2, h3, h4, h5, h6⟩
theorem moves_data {w w' : World} {L : Frag} {xs : List FV} (h : DataAt w xs) (hM : Moves w w' [] L) : DataAt w' xs := fun x hx => (h x hx).moves (hM.dropR (A := []))

set_option maxRecDepth 100000 in
set_option maxHeartbeats 4000000 in
theorem loads_any (v0 v1 : Value) (xs ys : List FV) (w : World) (h0 : FilesAt w v0 xs) (d0 : DataAt w xs) (h1 : FilesAt w v1 ys) (d1 : DataAt w ys) (hb : ∀ x ∈ xs ++ ys, x.name.length ≤ 9223372036854775807 ∧ x.data.length ≤ 9223372036854775807)  :
    Calls Try.prog 6 #[v0, v1] w fun e w' => e = .returned (.bool true) ∧ Moves w w' [] [] := by
  obtain ⟨i0, hi, hz0, hz1, hz2⟩ := info_parts infoFile
  obtain ⟨a0, b0, rfl⟩ := h0.shape
  obtain ⟨a1, b1, rfl⟩ := h1.shape
  have H0 := Lib.hid h0
  have H1 := Lib.hid h1
  have DA : Hid (DataAt w (xs ++ ys)) := by
    show ∀ x ∈ xs ++ ys, _
    intro x hx
    rcases List.mem_append.1 hx with hx | hx
    · exact d0 x hx
    · exact d1 x hx
  have HB := Lib.hid hb
  have HW := Lib.hid (holds_whole w)
  have O0 : Hid (∀ x ∈ xs ++ ys, x.dv.oneCell' = true) := by
    show ∀ x ∈ xs ++ ys, _
    intro x hx
    obtain ⟨a, c, e⟩ := shape_at (DA.out x hx)
    rw [e]; rfl
  clear h0 h1 d0 d1 hb
  by_cases hsm : xs.length ≤ 70 ∧ ys.length ≤ 70
  · obtain ⟨hx70, hy70⟩ := hsm
    go_enter Try.func6, Try.ntmps6
    go_wp2_with (fail)
    have hal : Hid ((xs ++ ys).length = xs.length + ys.length) := Lib.hid List.length_append
    go_loopw [5] (fun i wr => GuardInv w (xs ++ ys) i wr) (fun i _ => xs.length + ys.length - (intOf i).toNat)
    case atStart => exact ⟨0, Nat.zero_le _, rfl, by simp, Moves.refl w _⟩
    case round =>
      obtain ⟨k, hk, rfl, hsm, hM⟩ := hrel
      rw [hal.out] at hk
      have M := Lib.hid hM
      have HS := Lib.hid hsm
      clear hM hsm
      by_cases hlt : k < xs.length + ys.length
      · obtain ⟨y, hy⟩ : ∃ y, (xs ++ ys)[k]? = some y := ⟨_, List.getElem?_eq_getElem (by rw [hal.out]; exact hlt)⟩
        have hmem := List.mem_of_getElem? hy
        obtain ⟨hb1, hb2⟩ := HB.out _ hmem
        obtain ⟨da, dc, hdv⟩ := shape_at (DA.out _ hmem)
        have HDV := Lib.hid hdv
        have HM := Lib.hid hmem
        have HY := Lib.hid hy
        clear hmem hy hdv
        have f0 := Lib.hid (H0.out.moves M.out)
        have f1 := Lib.hid (H1.out.moves M.out)
        go_upto_region 6 with (fail)
        have Mn := Lib.hid (M.out.alloc (.cells #[] 54))
        obtain ⟨wn, hwn⟩ : ∃ wn, wn = wr.alloc (.cells #[] 54) := ⟨_, rfl⟩
        obtain ⟨gn, hgn⟩ : ∃ gn, gn = wr.heap.size := ⟨_, rfl⟩
        rw [← hwn, ← hgn] at Mn
        have fn0 := Lib.hid (H0.out.moves (Mn.out.dropR (A := [])))
        have Rn := Lib.hid (fRowF_new gn)
        by_cases hn60 : y.name.length ≤ 60
        · by_cases hd200 : y.data.length ≤ 200
          · have HS2 : Hid (∀ x ∈ (xs ++ ys).take (k + 1), x.name.length ≤ 60 ∧ x.data.length ≤ 200) := by
              show ∀ x ∈ (xs ++ ys).take (k + 1), _
              intro x hx
              rw [List.take_add_one, HY.out] at hx
              rcases List.mem_append.1 hx with hx | hx
              · exact HS.out x hx
              · obtain rfl : x = y := by simpa using hx
                exact ⟨hn60, hd200⟩
            go_wp2_with (first
              | (at_builtin; rw [← hwn, ← hgn]; refine wpList_append_R rfl (.tmp 28) (.tmp 29) 52 rfl 54 i0 _ 3 48 Try.underlying52 hi hz0 hz1 hz2 rfl _ 0 (fcells []) _ rfl Rn.out (Mn.out.here (Holds.nil w)).left _ xs.length (fcells xs) rfl (fcells_length _) fn0.out (fcells_one _ (fun x hx => O0.out x (List.mem_append_left _ hx))) (by omega) (by omega) ?_; intro v5 w5 L5 hF5 hM5 _; have M5 := Lib.hid (Mn.out.calls hM5); have HF5 := Lib.hid hF5; have fn1 := Lib.hid (H1.out.moves (M5.out.dropR (A := []))); clear hF5 hM5)
              | (at_builtin; refine wpList_append_R rfl (.tmp 30) (.tmp 31) 52 rfl 54 i0 _ 3 48 Try.underlying52 hi hz0 hz1 hz2 rfl _ (0 + xs.length) (fcells [] ++ fcells xs) L5 rfl HF5.out (M5.out.here (Holds.nil w)).left _ ys.length (fcells ys) rfl (fcells_length _) fn1.out (fcells_one _ (fun x hx => O0.out x (List.mem_append_right _ hx))) (by omega) (by omega) ?_; intro v6 w6 L6 hF6 hM6 _; have M6 := Lib.hid (M5.out.calls hM6); rw [fcells_nil, List.nil_append, Nat.zero_add] at hF6; have HF6 := Lib.hid (fRowF_more hF6); obtain ⟨b6, off6, cap6, e6, c0, c1, c2⟩ := FilesAt.get (RowF.at HF6.out (M6.out.here (Holds.nil w)).left) HY.out; subst e6; rw [HDV.out] at c1; unfold kv at c0; clear hF6 hM6))
            go_roundw
            case rel => exact ⟨k + 1, by rw [List.length_append]; omega, by go_num, HS2.out, (M6.out.waste _).dropR (A := [])⟩
            case measure => simp [intOf]; omega
          · go_wp2_with (first
              | (at_builtin; rw [← hwn, ← hgn]; refine wpList_append_R rfl (.tmp 28) (.tmp 29) 52 rfl 54 i0 _ 3 48 Try.underlying52 hi hz0 hz1 hz2 rfl _ 0 (fcells []) _ rfl Rn.out (Mn.out.here (Holds.nil w)).left _ xs.length (fcells xs) rfl (fcells_length _) fn0.out (fcells_one _ (fun x hx => O0.out x (List.mem_append_left _ hx))) (by omega) (by omega) ?_; intro v5 w5 L5 hF5 hM5 _; have M5 := Lib.hid (Mn.out.calls hM5); have HF5 := Lib.hid hF5; have fn1 := Lib.hid (H1.out.moves (M5.out.dropR (A := []))); clear hF5 hM5)
              | (at_builtin; refine wpList_append_R rfl (.tmp 30) (.tmp 31) 52 rfl 54 i0 _ 3 48 Try.underlying52 hi hz0 hz1 hz2 rfl _ (0 + xs.length) (fcells [] ++ fcells xs) L5 rfl HF5.out (M5.out.here (Holds.nil w)).left _ ys.length (fcells ys) rfl (fcells_length _) fn1.out (fcells_one _ (fun x hx => O0.out x (List.mem_append_right _ hx))) (by omega) (by omega) ?_; intro v6 w6 L6 hF6 hM6 _; have M6 := Lib.hid (M5.out.calls hM6); rw [fcells_nil, List.nil_append, Nat.zero_add] at hF6; have HF6 := Lib.hid (fRowF_more hF6); obtain ⟨b6, off6, cap6, e6, c0, c1, c2⟩ := FilesAt.get (RowF.at HF6.out (M6.out.here (Holds.nil w)).left) HY.out; subst e6; rw [HDV.out] at c1; unfold kv at c0; clear hF6 hM6)
              | (go_at_call 8; refine (awake_any _).mono ?_; rintro e w8 ⟨rfl, hM8⟩))
            go_ret
            exact ⟨rfl, ((M6.out.waste _).dropR (A := [])).trans hM8⟩
        · go_wp2_with (first
            | (at_builtin; rw [← hwn, ← hgn]; refine wpList_append_R rfl (.tmp 28) (.tmp 29) 52 rfl 54 i0 _ 3 48 Try.underlying52 hi hz0 hz1 hz2 rfl _ 0 (fcells []) _ rfl Rn.out (Mn.out.here (Holds.nil w)).left _ xs.length (fcells xs) rfl (fcells_length _) fn0.out (fcells_one _ (fun x hx => O0.out x (List.mem_append_left _ hx))) (by omega) (by omega) ?_; intro v5 w5 L5 hF5 hM5 _; have M5 := Lib.hid (Mn.out.calls hM5); have HF5 := Lib.hid hF5; have fn1 := Lib.hid (H1.out.moves (M5.out.dropR (A := []))); clear hF5 hM5)
            | (at_builtin; refine wpList_append_R rfl (.tmp 30) (.tmp 31) 52 rfl 54 i0 _ 3 48 Try.underlying52 hi hz0 hz1 hz2 rfl _ (0 + xs.length) (fcells [] ++ fcells xs) L5 rfl HF5.out (M5.out.here (Holds.nil w)).left _ ys.length (fcells ys) rfl (fcells_length _) fn1.out (fcells_one _ (fun x hx => O0.out x (List.mem_append_right _ hx))) (by omega) (by omega) ?_; intro v6 w6 L6 hF6 hM6 _; have M6 := Lib.hid (M5.out.calls hM6); rw [fcells_nil, List.nil_append, Nat.zero_add] at hF6; have HF6 := Lib.hid (fRowF_more hF6); obtain ⟨b6, off6, cap6, e6, c0, c1, c2⟩ := FilesAt.get (RowF.at HF6.out (M6.out.here (Holds.nil w)).left) HY.out; subst e6; rw [HDV.out] at c1; unfold kv at c0; clear hF6 hM6)
            | (go_at_call 8; refine (awake_any _).mono ?_; rintro e w8 ⟨rfl, hM8⟩))
          go_ret
          exact ⟨rfl, ((M6.out.waste _).dropR (A := [])).trans hM8⟩
      · obtain rfl : k = xs.length + ys.length := by omega
        have hall : Hid (∀ x ∈ xs ++ ys, x.name.length ≤ 60 ∧ x.data.length ≤ 200) := by
          have := HS.out
          rw [List.take_of_length_le (by rw [hal.out]; omega)] at this
          exact this
        clear HS
        go_wp2_with (fail)
        refine (plug_any _).mono ?_
        rintro e w1 ⟨p, rfl, hM1⟩
        go_wp2_with (fail)
        refine (new_disk _ _).mono ?_
        rintro e w2 ⟨b, L2, rfl, hD2, hM2⟩
        go_wp2_with (fail)
        refine (rplug_any _).mono ?_
        rintro e w3 ⟨q, rfl, hM3⟩
        have M3 := Lib.hid (((M.out.call hM1).call hM2).call hM3)
        clear hM1 hM2 hM3 M
        go_upto_region 10 with (fail)
        obtain ⟨R, hR⟩ : ∃ R : Frag, R = [(q, RPw.plug.obj), (p, Pw.plug.obj)] := ⟨_, rfl⟩
        obtain ⟨X, hX⟩ : ∃ X, X = w3.heap.size := ⟨_, rfl⟩
        have Ms := Lib.hid ((M3.out.alloc (rdisk (some ⟨q, 0, none⟩) (.slice none 0 0))).reR (M' := L2 ++ ((w3.heap.size, rdisk (some ⟨q, 0, none⟩) (.slice none 0 0)) :: ([] ++ R))) fun f g h0 hc ha => by rw [hR]; simp only [h0, hc, ha]; omega)
        have hwD : w3.alloc (.cells #[.pointer (some ⟨q, 0, none⟩), .slice none 0 0] 57) = w3.alloc (rdisk (some ⟨q, 0, none⟩) (.slice none 0 0)) := rfl
        rw [hwD]
        obtain ⟨w4, hw4⟩ : ∃ w4, w4 = w3.alloc (rdisk (some ⟨q, 0, none⟩) (.slice none 0 0)) := ⟨_, rfl⟩
        rw [← hX, ← hw4] at Ms
        rw [← hX, ← hw4]
        have HRR := Lib.hid hR
        clear hR hX hwD hw4 M3
        obtain ⟨lv, hlv⟩ : ∃ lv, lv = Value.slice none 0 0 := ⟨_, rfl⟩
        obtain ⟨N, hN⟩ : ∃ N : Frag, N = [] := ⟨_, rfl⟩
        have Ms0 := Ms
        clear Ms
        obtain ⟨fs, hfs⟩ : ∃ fs : List (List UInt8 × FileR), fs = [] := ⟨_, rfl⟩
        obtain ⟨out, hout⟩ : ∃ out : List FV, out = [] := ⟨_, rfl⟩
        obtain ⟨L, hL⟩ : ∃ L, L = L2 := ⟨_, rfl⟩
        have HBo : Hid (Both b (some ⟨p, 0, none⟩) fs out lv L N) := by
          show Both _ _ _ _ _ _ _
          subst hlv hN hfs hout hL
          exact ⟨hD2, fRowF_nil, twin_nil, fine_nil, by simp, by simp⟩
        have HOo : Hid (∀ x ∈ out, x ∈ xs ++ ys ∧ okFile x = true) := by show ∀ x ∈ out, _; rw [hout]; simp
        have Ms : Hid (Moves w w4 [] (L ++ ((X, rdisk (some ⟨q, 0, none⟩) lv) :: (N ++ R)))) := by
          show Moves _ _ _ _
          rw [hlv, hN, hL]
          exact Ms0.out
        clear Ms0 hlv hN hfs hout hL hD2
        have HV0 : Hid (∀ w', Holds w' (whole w) → FilesAt w' (.slice a0 xs.length b0) xs ∧ DataAt w' xs) := by
          show ∀ w', _
          intro w' h
          exact ⟨RowAt.whole H0.out h, fun x hx => RowAt.whole (DA.out x (List.mem_append_left _ hx)) h⟩
        have HV1 : Hid (∀ w', Holds w' (whole w) → FilesAt w' (.slice a1 ys.length b1) ys ∧ DataAt w' ys) := by
          show ∀ w', _
          intro w' h
          exact ⟨RowAt.whole H1.out h, fun x hx => RowAt.whole (DA.out x (List.mem_append_right _ hx)) h⟩
        have HN0 : Hid (∀ x ∈ xs, x.name.length ≤ 140737488355328 ∧ x.data.length ≤ 140737488355328) := by
          show ∀ x ∈ xs, _
          intro x hx
          have := hall.out x (List.mem_append_left _ hx)
          omega
        have HN1 : Hid (∀ x ∈ ys, x.name.length ≤ 140737488355328 ∧ x.data.length ≤ 140737488355328) := by
          show ∀ x ∈ ys, _
          intro x hx
          have := hall.out x (List.mem_append_right _ hx)
          omega
        have HX0 : Hid (∀ x ∈ xs, x ∈ xs ++ ys) := Lib.hid fun x hx => List.mem_append_left _ hx
        have HX1 : Hid (∀ x ∈ ys, x ∈ xs ++ ys) := Lib.hid fun x hx => List.mem_append_right _ hx
        obtain ⟨rA, hrA⟩ : ∃ rA, rA = loadE xs := ⟨_, rfl⟩
        have HRA := Lib.hid hrA
        clear hrA
        go_cut [68] from 52 to 68 (fun t wc => t = .bool false ∧ St w b X p q (xs ++ ys) wc)
        case first =>
          go_region_with (first
            | (go_at_call 26; refine (load_both b _ fs out lv _ L N (((X, rdisk (some ⟨q, 0, none⟩) lv) :: (N ++ R)) ++ whole w) xs _ HBo.out (by have := Ms.out.drew.to _ HW.out; rw [List.append_assoc] at this; exact this) (fun w' h => HV0.out w' h.right) (by omega) HN0.out).mono ?_; rintro e wA ⟨fsA, LA, rfl, hA, hMA⟩; have MA := Lib.hid ((Ms.out.drew.calls hMA).reR (M' := ((X, rdisk (some ⟨q, 0, none⟩) lv) :: N) ++ (LA ++ R)) fun f g h0 hc ha => by simp only [h0, hc, ha]; omega); have HAx := Lib.hid hA; clear hMA hA; rw [← HRA.out])
            | (go_at_call 27; refine (rload_both X _ b _ fs out lv _ L N ((N ++ (LA ++ R)) ++ whole w) xs _ HBo.out (MA.out.to _ HW.out) (fun w' h => HV0.out w' h.right) (by omega) HN0.out).mono ?_; rintro e wB ⟨lvB, NB, rfl, hRB, hMB⟩; have MB := Lib.hid ((MA.out.calls hMB).reR (M' := LA ++ ((X, rdisk (some ⟨q, 0, none⟩) lvB) :: (NB ++ R))) fun f g h0 hc ha => by simp only [h0, hc, ha]; omega); have HB2 := Lib.hid (both_next HBo.out HOo.out HX0.out O0.out HAx.out hRB); have x1 := (MB.out.here (Holds.nil w)).right.cell0 (o := 1) (v := lvB) rfl; clear hMB hRB; rw [← HRA.out])
            | (go_at_call 29; refine (image_any b _ fsA LA _ HB2.out.1.disk (MB.out.here (Holds.nil w)).left HB2.out.1.fine.1 (by rw [twin_length HB2.out.1.twin]; have := HB2.out.1.len; omega) HB2.out.1.fine.2).mono ?_; rintro e wC ⟨vI, im, NI, rfl, hIm, ⟨NI1, NI2, hWI1, hWI2, hNI⟩, hMI⟩; have MC := Lib.hid (MB.out.call hMI); have HIm := Lib.hid (hIm.trans (twin_image HB2.out.1.twin)); have HW1 := Lib.hid hWI1; have HW2 := Lib.hid hWI2; have HNI := Lib.hid hNI; have x1c := (MC.out.here (Holds.nil w)).right.right.cell0 (o := 1) (v := lvB) rfl; clear hMI hIm hWI1 hWI2 hNI)
            | (go_at_call 28; refine (same_any vI lvB im (outOf xs out) _ (RowF.at HW1.out (by have := (MC.out.here (Holds.nil w)).left; rw [HNI.out] at this; exact this.left)) (HW2.out.at (by have := (MC.out.here (Holds.nil w)).left; rw [HNI.out] at this; exact this.right)) (RowF.at HB2.out.1.row ((MC.out.here (Holds.nil w)).right.right.right (A := [_])).left) (fun x hx => moves_data DA.out MC.out x (HB2.out.2 x hx).1) (by have h1 := congrArg List.length HIm.out; simp only [List.length_map] at h1; have := HB2.out.1.len; omega) (by have := HB2.out.1.len; omega)).mono ?_; rintro e wD ⟨rfl, hMD⟩; rw [show decide (im.map FV.file = (outOf xs out).map FV.file) = true from decide_eq_true HIm.out]; have MD := Lib.hid (MC.out.call hMD); clear hMD))
          all_goals
            go_wp2_with (fail)
            go_meet
            case rel => exact ⟨rfl, fsA, outOf xs out, lvB, LA, NB, HB2.out.1, HB2.out.2, by rw [← HRR.out]; exact (MD.out.drop (A := [])).drop⟩
        case rest =>
          obtain ⟨rfl, fs, out, lv, L, N, hBo, hOo, hMs⟩ := hcut
          rw [← HRR.out] at hMs
          have HBo := Lib.hid hBo
          have HOo := Lib.hid hOo
          have Ms := Lib.hid hMs
          clear hBo hOo hMs
          obtain ⟨rA, hrA⟩ : ∃ rA, rA = loadE ys := ⟨_, rfl⟩
          have HRA := Lib.hid hrA
          clear hrA
          go_upto_region 12 with (fail)
          go_cut [85] from 69 to 85 (fun t wc => t = .bool false ∧ St w b X p q (xs ++ ys) wc)
          case first =>
            go_region_with (first
              | (go_at_call 26; refine (load_both b _ fs out lv _ L N (((X, rdisk (some ⟨q, 0, none⟩) lv) :: (N ++ R)) ++ whole w) ys _ HBo.out (by have := Ms.out.drew.to _ HW.out; rw [List.append_assoc] at this; exact this) (fun w' h => HV1.out w' h.right) (by omega) HN1.out).mono ?_; rintro e wA ⟨fsA, LA, rfl, hA, hMA⟩; have MA := Lib.hid ((Ms.out.drew.calls hMA).reR (M' := ((X, rdisk (some ⟨q, 0, none⟩) lv) :: N) ++ (LA ++ R)) fun f g h0 hc ha => by simp only [h0, hc, ha]; omega); have HAx := Lib.hid hA; clear hMA hA; rw [← HRA.out])
              | (go_at_call 27; refine (rload_both X _ b _ fs out lv _ L N ((N ++ (LA ++ R)) ++ whole w) ys _ HBo.out (MA.out.to _ HW.out) (fun w' h => HV1.out w' h.right) (by omega) HN1.out).mono ?_; rintro e wB ⟨lvB, NB, rfl, hRB, hMB⟩; have MB := Lib.hid ((MA.out.calls hMB).reR (M' := LA ++ ((X, rdisk (some ⟨q, 0, none⟩) lvB) :: (NB ++ R))) fun f g h0 hc ha => by simp only [h0, hc, ha]; omega); have HB2 := Lib.hid (both_next HBo.out HOo.out HX1.out O0.out HAx.out hRB); have x1 := (MB.out.here (Holds.nil w)).right.cell0 (o := 1) (v := lvB) rfl; clear hMB hRB; rw [← HRA.out])
              | (go_at_call 29; refine (image_any b _ fsA LA _ HB2.out.1.disk (MB.out.here (Holds.nil w)).left HB2.out.1.fine.1 (by rw [twin_length HB2.out.1.twin]; have := HB2.out.1.len; omega) HB2.out.1.fine.2).mono ?_; rintro e wC ⟨vI, im, NI, rfl, hIm, ⟨NI1, NI2, hWI1, hWI2, hNI⟩, hMI⟩; have MC := Lib.hid (MB.out.call hMI); have HIm := Lib.hid (hIm.trans (twin_image HB2.out.1.twin)); have HW1 := Lib.hid hWI1; have HW2 := Lib.hid hWI2; have HNI := Lib.hid hNI; have x1c := (MC.out.here (Holds.nil w)).right.right.cell0 (o := 1) (v := lvB) rfl; clear hMI hIm hWI1 hWI2 hNI)
              | (go_at_call 28; refine (same_any vI lvB im (outOf ys out) _ (RowF.at HW1.out (by have := (MC.out.here (Holds.nil w)).left; rw [HNI.out] at this; exact this.left)) (HW2.out.at (by have := (MC.out.here (Holds.nil w)).left; rw [HNI.out] at this; exact this.right)) (RowF.at HB2.out.1.row ((MC.out.here (Holds.nil w)).right.right.right (A := [_])).left) (fun x hx => moves_data DA.out MC.out x (HB2.out.2 x hx).1) (by have h1 := congrArg List.length HIm.out; simp only [List.length_map] at h1; have := HB2.out.1.len; omega) (by have := HB2.out.1.len; omega)).mono ?_; rintro e wD ⟨rfl, hMD⟩; rw [show decide (im.map FV.file = (outOf ys out).map FV.file) = true from decide_eq_true HIm.out]; have MD := Lib.hid (MC.out.call hMD); clear hMD))
            all_goals
              go_wp2_with (fail)
              go_meet
              case rel => exact ⟨rfl, fsA, outOf ys out, lvB, LA, NB, HB2.out.1, HB2.out.2, by rw [← HRR.out]; exact (MD.out.drop (A := [])).drop⟩
          case rest =>
            obtain ⟨rfl, fs, out, lv, L, N, hBo, hOo, hMs⟩ := hcut
            rw [← HRR.out] at hMs
            have HBo := Lib.hid hBo
            have HOo := Lib.hid hOo
            have Ms := Lib.hid hMs
            clear hBo hOo hMs
            go_wp2_with (fail)
            refine (new_disk none _).mono ?_
            rintro e wE ⟨y, LY, rfl, hDY, hMY⟩
            have ME := Lib.hid (Ms.out.call hMY)
            have HDY := Lib.hid hDY
            clear hMY hDY Ms
            go_upto_region 15 with (fail)
            go_region_with (first
              | (go_at_call 29; refine (image_any y _ fsY LZ _ HDZ.out (MG.out.here (Holds.nil w)).left HFZ.out.1 (by rw [twin_length HTZ.out]; have := HLI.out; omega) HFZ.out.2).mono ?_; rintro e wH ⟨vJ, jm, NJ, rfl, hJm, ⟨NJ1, NJ2, hWJ1, hWJ2, hNJ⟩, hMJ⟩; have MH := Lib.hid (MG.out.call hMJ); have HJm := Lib.hid ((hJm.trans (twin_image HTZ.out)).trans HIm.out); have HW1 := Lib.hid hWJ1; have HW2 := Lib.hid hWJ2; have HNJ := Lib.hid hNJ; have x1c := (MH.out.here (Holds.nil w)).right.right.right.right.cell0 (o := 1) (v := lv) rfl; clear hMJ hJm hWJ1 hWJ2 hNJ)
              | (go_at_call 29; refine (image_any b _ fs L _ HBo.out.disk ((ME.out.drew.here (Holds.nil w)).right.left) HBo.out.fine.1 (by rw [twin_length HBo.out.twin]; have := HBo.out.len; omega) HBo.out.fine.2).mono ?_; rintro e wF ⟨vI, im, NI, rfl, hIm, ⟨NI1, NI2, hWI1, hWI2, hNI⟩, hMI⟩; have MF := Lib.hid ((ME.out.drew.call hMI).reR (M' := LY ++ (NI ++ (L ++ ((X, rdisk (some ⟨q, 0, none⟩) lv) :: (N ++ R))))) fun f g h0 hc ha => by simp only [h0, hc, ha]; omega); have HIm := Lib.hid (hIm.trans (twin_image HBo.out.twin)); have HNI := Lib.hid hNI; have HVI : Hid (∀ w', Holds w' (NI ++ (L ++ ((X, rdisk (some ⟨q, 0, none⟩) lv) :: (N ++ R)))) → FilesAt w' vI im ∧ DataAt w' im) := Lib.hid (fun w' h => by have h2 := h.left; rw [hNI] at h2; exact ⟨RowF.at hWI1 h2.left, hWI2.at h2.right⟩); have HRI := Lib.hid (rises_congr HBo.out.twin.rises HIm.out); have HKI := Lib.hid (ok_congr (fun x hx => (HOo.out x hx).2) HIm.out); have HLI : Hid (im.length ≤ 64) := Lib.hid (by have h1 := congrArg List.length HIm.out; simp only [List.length_map] at h1; have := HBo.out.len; omega); clear hMI hIm hWI1 hWI2 hNI)
              | (go_at_call 26; refine (load_back y none LY (NI ++ (L ++ ((X, rdisk (some ⟨q, 0, none⟩) lv) :: (N ++ R)))) vI im _ HDY.out (MF.out.here (Holds.nil w)) HVI.out HRI.out HKI.out HLI.out).mono ?_; rintro e wG ⟨fsY, LZ, rfl, hDZ, hTZ, hFZ, hMG⟩; have MG := Lib.hid (MF.out.calls hMG); have x1 := (MG.out.here (Holds.nil w)).right.right.right.cell0 (o := 1) (v := lv) rfl; have HDZ := Lib.hid hDZ; have HTZ := Lib.hid hTZ; have HFZ := Lib.hid hFZ; clear hMG hDZ hTZ hFZ)
              | (go_at_call 28; refine (same_any vJ lv jm out _ (RowF.at HW1.out (by have := (MH.out.here (Holds.nil w)).left; rw [HNJ.out] at this; exact this.left)) (HW2.out.at (by have := (MH.out.here (Holds.nil w)).left; rw [HNJ.out] at this; exact this.right)) (RowF.at HBo.out.row ((MH.out.here (Holds.nil w)).right.right.right.right.right (A := [_])).left) (fun x hx => moves_data DA.out MH.out x (HOo.out x hx).1) (by have h1 := congrArg List.length HJm.out; simp only [List.length_map] at h1; have := HBo.out.len; omega) (by have := HBo.out.len; omega)).mono ?_; rintro e wI ⟨rfl, hMD⟩; rw [show decide (jm.map FV.file = out.map FV.file) = true from decide_eq_true HJm.out]; have MI := Lib.hid (MH.out.call hMD); clear hMD)
              | (go_at_call 18; refine (create_down y none fsY LZ [97] _ HDZ.out ((MI.out.here (Holds.nil w)).right.right.left) named_a (fun _ => on_nil _)).mono ?_; rintro e wJ ⟨rfl, hMK⟩; have MK := Lib.hid (MI.out.call hMK); clear hMK)
              | (go_at_call 8; refine (awake_any _).mono ?_; rintro e wK ⟨rfl, hML⟩))
            all_goals
              go_wp2_with (fail)
              go_ret
              exact ⟨rfl, (MK.out.dropR (A := [])).trans hML⟩
  · by_cases hx7 : xs.length ≤ 70
    · have hy7 : ¬ ys.length ≤ 70 := fun h => hsm ⟨hx7, h⟩
      go_enter Try.func6, Try.ntmps6
      go_wp2_with (go_at_call 8; refine (awake_any _).mono ?_; rintro e w4 ⟨rfl, hM4⟩)
      go_ret
      exact ⟨rfl, hM4⟩
    · go_enter Try.func6, Try.ntmps6
      go_wp2_with (go_at_call 8; refine (awake_any _).mono ?_; rintro e w4 ⟨rfl, hM4⟩)
      go_ret
      exact ⟨rfl, hM4⟩
end Go.Proofs.Ytdgjcmjbkmgohaa
