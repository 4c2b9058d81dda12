/- The document's Load, walked. -/
import Derived.Test.YtdgjcmjbkmgohaaFilesA
namespace Go.Proofs.Ytdgjcmjbkmgohaa
open Go.RowKit Go.Sl

def namedB (k : List UInt8) : Bool := decide (1 ≤ k.length) && decide (k.length ≤ 40)
/-- May a file be laid? -/
def okFile (x : FV) : Bool := namedB x.name && (decide (x.data.length ≤ 1048576) && (decide (0 ≤ x.kept) && decide (x.kept ≤ x.data.length)))

theorem rnamed_any (k : List UInt8) (w : World) (hk : k.length ≤ 140737488355328) : Calls Try.prog 42 #[.string ⟨k.toArray⟩] w fun e w' => e = .returned (.bool (namedB k)) ∧ w = w' := by
  by_cases h1 : 1 ≤ k.length
  · by_cases h2 : k.length ≤ 40
    · have e : namedB k = true := by simp [namedB]; omega
      rw [e]
      go_enter Try.func42, Try.ntmps42
      go_wp2
      go_ret
      exact ⟨by simp; omega, rfl⟩
    · have e : namedB k = false := by simp [namedB]; omega
      rw [e]
      go_enter Try.func42, Try.ntmps42
      go_wp2
      go_ret
      exact ⟨by simp; omega, rfl⟩
  · have e : namedB k = false := by simp [namedB]; omega
    rw [e]
    have h0 : k.length = 0 := by omega
    obtain rfl := List.eq_nil_of_length_eq_zero h0
    go_enter Try.func42, Try.ntmps42
    go_wp2
    go_ret
    exact ⟨by simp, rfl⟩
theorem named_any (k : List UInt8) (w : World) (hk : k.length ≤ 140737488355328) : Calls Try.prog 39 #[.string ⟨k.toArray⟩] w fun e w' => e = .returned (.bool (namedB k)) ∧ w = w' := by
  by_cases h1 : 1 ≤ k.length
  · have e1 : k.isEmpty = false := by cases k <;> simp_all
    have e1' : k ≠ [] := by intro e; simp [e] at h1
    by_cases h2 : k.length ≤ 40
    · have e : namedB k = true := by simp [namedB]; omega
      rw [e]
      go_enter Try.func39, Try.ntmps39
      go_wp2
      go_ret
      exact ⟨by simp; omega, rfl⟩
    · have e : namedB k = false := by simp [namedB]; omega
      rw [e]
      go_enter Try.func39, Try.ntmps39
      go_wp2
      go_ret
      exact ⟨by simp; omega, rfl⟩
  · have e : namedB k = false := by simp [namedB]; omega
    rw [e]
    have h0 : k.length = 0 := by omega
    obtain rfl := List.eq_nil_of_length_eq_zero h0
    go_enter Try.func39, Try.ntmps39
    go_wp2
    go_ret
    exact ⟨by simp, rfl⟩

/-- The document's disk. -/
def rdisk (p : Option Addr) (v : Value) : Obj := .cells #[.pointer p, v] 57 (0, 0)
/-- What Load makes; none: it refuses. -/
def loadR (xs : List FV) : Option (List FV) := if xs.all okFile && !(decide ((xs.foldl putR []).length < xs.length) || decide (64 < xs.length)) then some (xs.foldl putR []) else none
def RLoadPost (w : World) (X : Nat) (p : Option Addr) (v : Value) (xs : List FV) (e : Ending) (w' : World) : Prop :=
  (loadR xs = none ∧ e = .returned (.int .i64 1) ∧ Moves w w' [] []) ∨
  ∃ out v' N, loadR xs = some out ∧ e = .returned (.int .i64 0) ∧ FRowF v' out N ∧ Moves w w' [(X, rdisk p v)] ((X, rdisk p v') :: N)

theorem fold_mem (xs : List FV) : ∀ (acc : List FV) (z : FV), z ∈ xs.foldl putR acc → z ∈ acc ∨ z ∈ xs := by
  induction xs with
  | nil => intro acc z h; exact .inl h
  | cons x xs ih =>
    intro acc z h
    rcases ih _ z h with h | h
    · rcases putGo_mem x _ acc z h with ⟨rfl, _⟩ | ⟨h, _⟩
      · exact .inr (List.mem_cons_self ..)
      · exact .inl h
    · exact .inr (List.mem_cons_of_mem _ h)
theorem putGo_length (x : FV) : ∀ (l : List FV), (putGo x false l).length ≤ l.length + 1
  | [] => by simp [putGo]
  | y :: r => by
    have ih := putGo_length x r
    have i2 : (putGo x true r).length ≤ r.length := by rw [putGo_true]; exact List.length_filter_le ..
    have i3 : (if (y.name != x.name) = true then [y] else []).length ≤ 1 := by split <;> simp
    simp only [putGo, List.length_append, List.length_cons]
    cases leB x.name y.name
    · simp only [Bool.not_false, Bool.and_false, Bool.false_eq_true, if_false, List.length_nil, Bool.or_self]
      omega
    · simp only [Bool.not_false, Bool.and_self, if_true, List.length_cons, List.length_nil, Bool.or_true]
      omega
theorem fold_length (xs : List FV) : ∀ acc : List FV, (xs.foldl putR acc).length ≤ acc.length + xs.length := by
  induction xs with
  | nil => intro acc; simp
  | cons x xs ih =>
    intro acc
    have h1 := ih (putR acc x)
    have h2 := putGo_length x acc
    simp only [List.foldl_cons, List.length_cons]
    unfold putR at h1 ⊢
    omega
theorem take_foldl_succ {xs : List FV} {k : Nat} {y : FV} (h : xs[k]? = some y) : (xs.take (k + 1)).foldl putR [] = putR ((xs.take k).foldl putR []) y := by
  rw [List.take_add_one, h]; simp
theorem take_all_succ {xs : List FV} {k : Nat} {y : FV} (h : xs[k]? = some y) : (xs.take (k + 1)).all okFile = ((xs.take k).all okFile && okFile y) := by
  rw [List.take_add_one, h]; simp

/-- At the head of a round of Load. -/
def RLoadInv (w : World) (xs : List FV) (o i : Value) (wr : World) : Prop :=
  ∃ (k : Nat) (L : Frag), k ≤ xs.length ∧ i = .int .i64 k ∧ FRowF o ((xs.take k).foldl putR []) L ∧ (xs.take k).all okFile = true ∧ Moves w wr [] L

theorem not_all {xs : List FV} {y : FV} (h : y ∈ xs) (hy : okFile y = false) : loadR xs = none := by
  have : xs.all okFile = false := by
    rw [← Bool.not_eq_true, List.all_eq_true]
    intro hh
    rw [hh y h] at hy; cases hy
  simp [loadR, this]

set_option maxRecDepth 100000 in
set_option maxHeartbeats 4000000 in
theorem rload_any (X : Nat) (p : Option Addr) (lv v : Value) (xs : List FV) (F : Frag) (w : World) (hL : Holds w ((X, rdisk p lv) :: F)) (hv : ∀ w', Holds w' F → FilesAt w' v xs ∧ DataAt w' xs) (hn : xs.length ≤ 4096) (hb : ∀ x ∈ xs, x.name.length ≤ 140737488355328 ∧ x.data.length ≤ 140737488355328) :
    Calls Try.prog 27 #[.pointer (some ⟨X, 0, none⟩), v] w (RLoadPost w X p lv xs) := by
  have hF := hL.right (A := [_])
  obtain ⟨va, vc, rfl⟩ := (hv w hF).1.shape
  have HV := Lib.hid (hv w hF).1
  have HDT := Lib.hid (hv w hF).2
  have HB := Lib.hid hb
  have H1 : Hid (∀ y ∈ xs, y.dv.oneCell' = true) := by
    show ∀ y ∈ xs, _
    intro y hy
    obtain ⟨a, c, e⟩ := shape_at (HDT.out y hy)
    rw [e]; rfl
  have HL := Lib.hid hL
  clear hv hb hF hL
  go_enter Try.func27, Try.ntmps27
  go_wp2_with (fail)
  go_loopw [5, 6] (fun o i wr => RLoadInv w xs o i wr) (fun _ i _ => xs.length - (intOf i).toNat)
  case atStart => exact ⟨0, [], Nat.zero_le _, rfl, fRowF_nil, rfl, Moves.refl w _⟩
  case round =>
    obtain ⟨k, L, hk, rfl, hrow, hall, hM⟩ := hrel
    have M := Lib.hid hM
    have HR := Lib.hid hrow
    have HA := Lib.hid hall
    obtain ⟨oa, oc, rfl⟩ := RowF.shape hrow
    clear hM hrow hall
    by_cases hlt : k < xs.length
    · obtain ⟨y, hy⟩ : ∃ y, xs[k]? = some y := ⟨_, List.getElem?_eq_getElem hlt⟩
      have hmem := List.mem_of_getElem? hy
      obtain ⟨b, off, cap, hv, hG⟩ := FilesAt.always HV.out hy
      injection hv with hv1 _ hv3
      subst hv1 hv3
      obtain ⟨c0, c1, c2⟩ := hG _ (M.out.dropR (A := []))
      have HG := Lib.hid hG
      clear hG
      obtain ⟨nm, dv, data, kept⟩ := y
      obtain ⟨da, dc, hdv⟩ := shape_at (HDT.out _ hmem)
      dsimp only at hdv
      subst hdv
      dsimp only at c0 c1 c2
      obtain ⟨hb1, hb2⟩ := HB.out _ hmem
      dsimp only at hb1 hb2
      have HY := Lib.hid hy
      have HM := Lib.hid hmem
      clear hy hmem
      obtain ⟨nb, hnb⟩ : ∃ nb, nb = namedB nm := ⟨_, rfl⟩
      have HN := Lib.hid hnb
      clear hnb
      have hok : Hid (okFile ⟨nm, .slice da data.length dc, data, kept⟩ = (nb && (decide (data.length ≤ 1048576) && (decide (0 ≤ kept) && decide (kept ≤ data.length))))) := by show _ = _; rw [HN.out]; rfl
      go_upto_region 6 with (fail)
      have M2 := Lib.hid (M.out.alloc (.cells #[.string ⟨nm.toArray⟩, .slice da data.length dc, .int .i64 kept] 54))
      obtain ⟨wa, hwa⟩ : ∃ wa, wa = wr.alloc (.cells #[.string ⟨nm.toArray⟩, .slice da data.length dc, .int .i64 kept] 54) := ⟨_, rfl⟩
      rw [← hwa] at M2 ⊢
      obtain ⟨Bx, hBx⟩ : ∃ Bx, Bx = wr.heap.size := ⟨_, rfl⟩
      rw [← hBx] at M2 ⊢
      clear hwa hBx c0 c1 c2
      have H2 := M2.out.here (Holds.nil w)
      have x0 := H2.cell0 (o := 0) rfl
      have x1 := H2.cell0 (o := 1) rfl
      have x2 := H2.cell0 (o := 2) rfl
      clear H2 M
      cases nb
      · have hno : Hid (loadR xs = none) := Lib.hid (not_all HM.out (by rw [hok.out]; rfl))
        go_wp2_with (go_at_call 42; refine (rnamed_any nm _ hb1).mono ?_; rintro e w3 ⟨rfl, rfl⟩; rw [← HN.out])
        go_ret
        exact .inl ⟨hno.out, rfl, M2.out.dropR (A := [])⟩
      by_cases hd : data.length ≤ 1048576
      · by_cases hk0 : 0 ≤ kept
        · by_cases hkd : kept ≤ data.length
          · have hyes : Hid ((xs.take (k + 1)).all okFile = true) := by
              show _ = _
              rw [take_all_succ HY.out, HA.out, hok.out]; simp [hd, hk0, hkd]
            have hfa : FilesAt wa (.slice oa ((xs.take k).foldl putR []).length oc) ((xs.take k).foldl putR []) := RowF.at HR.out ((M2.out.here (Holds.nil w)).right (A := [_]))
            have hfl := fold_length (xs.take k) []
            have htl : (xs.take k).length ≤ k := List.length_take_le ..
            simp only [List.length_nil, Nat.zero_add] at hfl
            have HC := Lib.hid (put_any _ _ ⟨nm, .slice da data.length dc, data, kept⟩ wa hfa (by omega) (fun z hz => by
              rcases fold_mem _ _ z hz with h | h
              · simp at h
              · exact H1.out z (List.mem_of_mem_take h)) rfl)
            clear hfa
            go_wp2_with (first
              | (go_at_call 42; refine (rnamed_any nm _ hb1).mono ?_; rintro e w3 ⟨rfl, rfl⟩; rw [← HN.out])
              | (go_at_call 43; refine HC.out.mono ?_; rintro e w4 ⟨v4, N4, rfl, hR4, hM4⟩; have M4 := Lib.hid (M2.out.call hM4); have HR4 := Lib.hid hR4; clear hM4 hR4))
            go_roundw
            case rel => exact ⟨k + 1, N4, by omega, by go_num, by rw [take_foldl_succ HY.out]; exact HR4.out, hyes.out, M4.out.dropR⟩
            case measure => simp [intOf]; omega
          · have hno : Hid (loadR xs = none) := Lib.hid (not_all HM.out (by rw [hok.out]; simp [hkd]))
            go_wp2_with (go_at_call 42; refine (rnamed_any nm _ hb1).mono ?_; rintro e w3 ⟨rfl, rfl⟩; rw [← HN.out])
            go_ret
            exact .inl ⟨hno.out, rfl, M2.out.dropR (A := [])⟩
        · have hno : Hid (loadR xs = none) := Lib.hid (not_all HM.out (by rw [hok.out]; simp [hk0]))
          go_wp2_with (go_at_call 42; refine (rnamed_any nm _ hb1).mono ?_; rintro e w3 ⟨rfl, rfl⟩; rw [← HN.out])
          go_ret
          exact .inl ⟨hno.out, rfl, M2.out.dropR (A := [])⟩
      · have hno : Hid (loadR xs = none) := Lib.hid (not_all HM.out (by rw [hok.out]; simp [hd]))
        go_wp2_with (go_at_call 42; refine (rnamed_any nm _ hb1).mono ?_; rintro e w3 ⟨rfl, rfl⟩; rw [← HN.out])
        go_ret
        exact .inl ⟨hno.out, rfl, M2.out.dropR (A := [])⟩
    · obtain rfl : k = xs.length := by omega
      have hall := HA.out
      rw [List.take_length] at hall
      have htk : xs.take xs.length = xs := List.take_length
      rw [htk]
      have hr : Hid (FRowF (.slice oa (xs.foldl putR []).length oc) (xs.foldl putR []) L) := by
        have := HR.out
        rw [htk] at this
        exact this
      have hld : Hid (loadR xs = if !(decide ((xs.foldl putR []).length < xs.length) || decide (64 < xs.length)) then some (xs.foldl putR []) else none) := by
        show _ = _
        simp [loadR, hall]
      obtain ⟨out, ho⟩ : ∃ out, out = xs.foldl putR [] := ⟨_, rfl⟩
      rw [← ho] at hr hld ⊢
      clear ho hall htk
      by_cases hl1 : out.length < xs.length
      · have hno : Hid (loadR xs = none) := by show _ = _; rw [hld.out]; simp [hl1]
        go_wp2_with (fail)
        go_ret
        exact .inl ⟨hno.out, rfl, M.out.dropR (A := [])⟩
      · by_cases hl2 : 64 < xs.length
        · have hno : Hid (loadR xs = none) := by show _ = _; rw [hld.out]; simp [hl2]
          go_wp2_with (fail)
          go_ret
          exact .inl ⟨hno.out, rfl, M.out.dropR (A := [])⟩
        · have hyes : Hid (loadR xs = some out) := by show _ = _; rw [hld.out]; simp [hl1, hl2]
          have M5 := Lib.hid ((M.out.frame [(X, rdisk p lv)]).reR (M' := (X, rdisk p lv) :: L) fun f g h0 hc ha => by simp only [h0, hc, ha]; omega)
          have H5 := (M.out.to _ HL.out).right
          have x0 := H5.cell0 (o := 0) rfl
          have x1 := H5.cell0 (o := 1) rfl
          have f1 := H5.free0 1
          clear H5
          go_wp2_with (fail)
          go_ret
          exact .inr ⟨out, _, L, hyes.out, rfl, hr.out, M5.out.setCell 1 _⟩
end Go.Proofs.Ytdgjcmjbkmgohaa
