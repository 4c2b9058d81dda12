/- Are two lists of files the same? -/
import Derived.Test.YtdgjcmjbkmgohaaFilesB
namespace Go.Proofs.Ytdgjcmjbkmgohaa
open Go.RowKit Go.Sl

/-- At the head of a round of Same. -/
def SameInv (w : World) (xs ys : List FV) (i : Value) (wr : World) : Prop :=
  ∃ k : Nat, k ≤ xs.length ∧ i = .int .i64 k ∧ (xs.take k).map FV.file = (ys.take k).map FV.file ∧ Moves w wr [] []
def SamePost (w : World) (xs ys : List FV) (e : Ending) (w' : World) : Prop := e = .returned (.bool (decide (xs.map FV.file = ys.map FV.file))) ∧ Moves w w' [] []

theorem same_no {xs ys : List FV} {k : Nat} {x y : FV} (hx : xs[k]? = some x) (hy : ys[k]? = some y) (h : x.file ≠ y.file) : decide (xs.map FV.file = ys.map FV.file) = false := by
  rw [decide_eq_false_iff_not]
  intro e
  have := congrArg (fun l => l[k]?) e
  simp [hx, hy] at this
  exact h this
theorem same_succ {xs ys : List FV} {k : Nat} {x y : FV} (hx : xs[k]? = some x) (hy : ys[k]? = some y) (h : x.file = y.file) (e : (xs.take k).map FV.file = (ys.take k).map FV.file) : (xs.take (k + 1)).map FV.file = (ys.take (k + 1)).map FV.file := by
  rw [List.take_add_one, List.take_add_one, hx, hy, List.map_append, List.map_append, e]
  simp [h]

set_option maxRecDepth 100000 in
set_option maxHeartbeats 4000000 in
theorem same_any (va vb : Value) (xs ys : List FV) (w : World) (h1 : FilesAt w va xs) (d1 : DataAt w xs) (h2 : FilesAt w vb ys) (d2 : DataAt w ys) (hn : xs.length ≤ 4096) (hb : ys.length ≤ 4096) :
    Calls Try.prog 28 #[va, vb] w (SamePost w xs ys) := by
  obtain ⟨a1, e1, rfl⟩ := h1.shape
  obtain ⟨a2, e2, rfl⟩ := h2.shape
  have H1 := Lib.hid h1
  have H2 := Lib.hid h2
  have D1 := Lib.hid d1
  have D2 := Lib.hid d2
  clear h1 h2 d1 d2
  by_cases hle : xs.length = ys.length
  · go_enter Try.func28, Try.ntmps28
    obtain ⟨n, hn1⟩ : ∃ n, n = xs.length := ⟨_, rfl⟩
    rw [← hle, ← hn1]
    have hN := Lib.hid hn1
    have hN2 : Hid (n = ys.length) := Lib.hid (hn1.trans hle)
    have hnn : n ≤ 4096 := by omega
    clear hle hn1 hn hb
    go_wp2_with (fail)
    go_loopw [5] (fun i wr => SameInv w xs ys i wr) (fun i _ => n - (intOf i).toNat)
    case atStart => exact ⟨0, Nat.zero_le _, rfl, rfl, Moves.refl w _⟩
    case round =>
      obtain ⟨k, hk, rfl, htk, hM⟩ := hrel
      rw [← hN.out] at hk
      have HT := Lib.hid htk
      have M := Lib.hid hM
      clear htk hM
      by_cases hlt : k < n
      · obtain ⟨x, hx⟩ : ∃ x, xs[k]? = some x := ⟨_, List.getElem?_eq_getElem (by rw [← hN.out]; exact hlt)⟩
        obtain ⟨y, hy⟩ : ∃ y, ys[k]? = some y := ⟨_, List.getElem?_eq_getElem (by rw [← hN2.out]; exact hlt)⟩
        obtain ⟨b, off, cap, hv, hG⟩ := FilesAt.always H1.out hx
        injection hv with hv1 _ hv3
        subst hv1 hv3
        obtain ⟨c0, c1, c2⟩ := hG _ M.out
        obtain ⟨b', off', cap', hv, hG'⟩ := FilesAt.always H2.out hy
        injection hv with hv1 _ hv3
        subst hv1 hv3
        obtain ⟨c0', c1', c2'⟩ := hG' _ M.out
        clear hG hG'
        have hs := fun n => run_string_of_bytes (P := Try.prog) ((D1.out x (List.mem_of_getElem? hx)).moves (M.out.drewN n)) 39 5 9 Try.underlying39 Try.underlying5 Try.underlying9
        have hs' := fun n => run_string_of_bytes (P := Try.prog) ((D2.out y (List.mem_of_getElem? hy)).moves (M.out.drewN n)) 39 5 9 Try.underlying39 Try.underlying5 Try.underlying9
        obtain ⟨da, dc, hdv⟩ := shape_at (D1.out x (List.mem_of_getElem? hx))
        obtain ⟨da', dc', hdv'⟩ := shape_at (D2.out y (List.mem_of_getElem? hy))
        rw [hdv] at hs c1
        rw [hdv'] at hs' c1'
        have HX := Lib.hid hx
        have HY := Lib.hid hy
        clear hx hy hdv hdv'
        by_cases t1 : x.name = y.name
        · have t1b : (x.name != y.name) = false := by simp [t1]
          have t1c : (x.name == y.name) = true := by simp [t1]
          have T1 := Lib.hid t1
          clear t1
          by_cases t2 : x.kept = y.kept
          · have t2b : (x.kept != y.kept) = false := by simp [t2]
            have t2c : (x.kept == y.kept) = true := by simp [t2]
            have T2 := Lib.hid t2
            clear t2
            by_cases t3 : x.data = y.data
            · have t3b : (x.data != y.data) = false := by simp [t3]
              have t3c : (x.data == y.data) = true := by simp [t3]
              have HS := Lib.hid (same_succ HX.out HY.out (by simp [FV.file, T1.out, T2.out, t3]) HT.out)
              clear t3
              go_wp2_with (fail)
              go_quiet (fail)
              have M2 := Lib.hid (M.out.drewN nq)
              go_wp2_with (fail)
              go_roundw
              case rel => exact ⟨k + 1, by rw [← hN.out]; omega, by go_num, HS.out, M2.out⟩
              case measure => simp [intOf]; omega
            · have t3b : (x.data != y.data) = true := by simp [t3]
              have t3c : (x.data == y.data) = false := by simp [t3]
              have HS := Lib.hid (same_no HX.out HY.out (by simp [FV.file, t3]))
              clear t3
              go_wp2_with (fail)
              go_quiet (fail)
              have M2 := Lib.hid (M.out.drewN nq)
              go_wp2_with (fail)
              go_ret
              exact ⟨by rw [HS.out]; rfl, M2.out⟩
          · have t2b : (x.kept != y.kept) = true := by simp [t2]
            have t2c : (x.kept == y.kept) = false := by simp [t2]
            have HS := Lib.hid (same_no HX.out HY.out (by simp [FV.file, t2]))
            clear t2
            go_wp2_with (fail)
            go_quiet (fail)
            have M2 := Lib.hid (M.out.drewN nq)
            go_wp2_with (fail)
            go_ret
            exact ⟨by rw [HS.out]; rfl, M2.out⟩
        · have t1b : (x.name != y.name) = true := by simp [t1]
          have t1c : (x.name == y.name) = false := by simp [t1]
          have HS := Lib.hid (same_no HX.out HY.out (by simp [FV.file, t1]))
          clear t1
          go_wp2_with (fail)
          go_quiet (fail)
          have M2 := Lib.hid (M.out.drewN nq)
          go_wp2_with (fail)
          go_ret
          exact ⟨by rw [HS.out]; rfl, M2.out⟩
      · obtain rfl : k = n := by omega
        have HS : Hid (decide (xs.map FV.file = ys.map FV.file) = true) := by
          show _ = _
          have h1 := HT.out
          rw [List.take_of_length_le (by rw [← hN.out]; omega), List.take_of_length_le (by rw [← hN2.out]; omega)] at h1
          simp [h1]
        clear hk hlt
        go_wp2_with (fail)
        go_ret
        exact ⟨by rw [HS.out]; rfl, M.out⟩
  · have HS : Hid (decide (xs.map FV.file = ys.map FV.file) = false) := by
      show _ = _
      rw [decide_eq_false_iff_not]
      intro e
      exact hle (by simpa using congrArg List.length e)
    have h1 : ((xs.length : Int) == (ys.length : Int)) = false := by simp; omega
    have h2 : ((xs.length : Int) != (ys.length : Int)) = true := by simp; omega
    go_enter Try.func28, Try.ntmps28
    go_wp2_with (fail)
    go_ret
    exact ⟨by rw [HS.out]; rfl, Moves.refl w _⟩
end Go.Proofs.Ytdgjcmjbkmgohaa
