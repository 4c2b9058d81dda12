/- A disk in memory; what its calls ask first. -/
import Derived.Test.YtdgjcmjbkmgohaaPower
import Derived.Test.YtdgjcmjbkmgohaaMap
namespace Go.Proofs.Ytdgjcmjbkmgohaa
open Go.RowKit Go.Sl

/-- A file: its bytes, and how many of them last. -/
structure FileR where
  data : List UInt8
  kept : Nat

/-- A file in a map: a pair of cells; its bytes lie in L. -/
def FileF (v : Value) (f : FileR) (L : Frag) : Prop := ∃ dv, v = .agg #[dv, .int .i64 f.kept] ∧ BytesF dv f.data L

def FilesF : List (List UInt8 × Value) → List (List UInt8 × FileR) → Frag → Prop
  | [], [], L => L = []
  | p :: l, q :: fs, L => ∃ A B, p.1 = q.1 ∧ FileF p.2 q.2 A ∧ FilesF l fs B ∧ L = A ++ B
  | _, _, _ => False

def lookF (fs : List (List UInt8 × FileR)) (k : List UInt8) : Option FileR := (fs.find? (fun p => p.1 == k)).map (·.2)
def putF : List (List UInt8 × FileR) → List UInt8 → FileR → List (List UInt8 × FileR)
  | [], k, v => [(k, v)]
  | p :: r, k, v => if p.1 == k then (k, v) :: r else p :: putF r k v

/-- A file that is there, and a map without it, put together anew. -/
theorem FilesF.look {l : List (List UInt8 × Value)} {fs : List (List UInt8 × FileR)} {L : Frag} (h : FilesF l fs L) (k : List UInt8) :
    (lookM l k = none ∧ lookF fs k = none ∧ ∀ v f B, FileF v f B → FilesF (putM l k v) (putF fs k f) (L ++ B)) ∨
    ∃ v f A B C, lookM l k = some v ∧ lookF fs k = some f ∧ FileF v f B ∧ L = A ++ (B ++ C) ∧ ∀ v' f' B', FileF v' f' B' → FilesF (putM l k v') (putF fs k f') (A ++ (B' ++ C)) := by
  induction l generalizing fs L with
  | nil =>
    cases fs with
    | nil => subst h; exact .inl ⟨rfl, rfl, fun v f B hv => ⟨B, [], rfl, hv, rfl, by simp⟩⟩
    | cons => exact h.elim
  | cons p l ih =>
    cases fs with
    | nil => exact h.elim
    | cons q fs =>
      obtain ⟨A, B, h1, h2, h3, rfl⟩ := h
      by_cases hk : p.1 = k
      · right
        refine ⟨p.2, q.2, [], A, B, by simp [lookM, hk], by simp [lookF, ← h1, hk], h2, by simp, fun v' f' B' hv => ?_⟩
        have e1 : putM (p :: l) k v' = (k, v') :: l := by simp [putM, hk]
        have e2 : putF (q :: fs) k f' = (k, f') :: fs := by simp [putF, ← h1, hk]
        rw [e1, e2]
        exact ⟨B', B, rfl, hv, h3, by simp⟩
      · have b1 : (p.1 == k) = false := beq_eq_false_iff_ne.2 hk
        have b2 : (q.1 == k) = false := by rw [← h1]; exact b1
        have e1 : ∀ v, putM (p :: l) k v = p :: putM l k v := fun v => by simp [putM, b1]
        have e2 : ∀ f, putF (q :: fs) k f = q :: putF fs k f := fun f => by simp [putF, b2]
        rcases ih h3 with ⟨g1, g2, g3⟩ | ⟨v, f, A', B', C', g1, g2, g3, rfl, g5⟩
        · refine .inl ⟨by simpa [lookM, b1] using g1, by simpa [lookF, b2] using g2, fun v f C hv => ?_⟩
          rw [e1, e2]
          exact ⟨A, B ++ C, h1, h2, g3 v f C hv, by simp⟩
        · refine .inr ⟨v, f, A ++ A', B', C', by simpa [lookM, b1] using g1, by simpa [lookF, b2] using g2, g3, by simp, fun v' f' D hv => ?_⟩
          rw [e1, e2]
          exact ⟨A, A' ++ (D ++ C'), h1, h2, g5 v' f' D hv, by simp⟩
theorem FilesF.length {l : List (List UInt8 × Value)} {fs : List (List UInt8 × FileR)} {L : Frag} (h : FilesF l fs L) : l.length = fs.length := by
  induction l generalizing fs L with
  | nil => cases fs with
    | nil => rfl
    | cons => exact h.elim
  | cons p l ih => cases fs with
    | nil => exact h.elim
    | cons q fs => obtain ⟨A, B, _, _, h3, _⟩ := h; simp [ih h3]

/-- A disk: its struct holds its power's pointer and its map. -/
def DiskF (b : Nat) (pv : Option Addr) (fs : List (List UInt8 × FileR)) (L : Frag) : Prop :=
  ∃ m om l Lf, L = (b, .cells #[.pointer pv, .map (some m)] 70 (0, 0)) :: (m, om) :: Lf ∧ MapO l om ∧ FilesF l fs Lf

theorem disk_nil (w : World) : Calls Try.prog 37 #[.pointer none] w fun e w' => e = .returned (.bool false) ∧ w = w' := by
  go_enter Try.func37, Try.ntmps37
  go_wp2
  go_ret
  exact ⟨rfl, rfl⟩
theorem made_any (b m : Nat) (w : World) (c1 : w.cell? ⟨b, 1, none⟩ = some (.map (some m))) : Calls Try.prog 37 #[.pointer (some ⟨b, 0, none⟩)] w fun e w' => e = .returned (.bool true) ∧ w = w' := by
  have hm := fun u : World => run_neq_map_nil (P := Try.prog) u _ _ _ (some m) Try.underlying68
  go_enter Try.func37, Try.ntmps37
  go_wp2
  go_ret
  exact ⟨rfl, rfl⟩
theorem made_new (b : Nat) (w : World) (c1 : w.cell? ⟨b, 1, none⟩ = some (.map none)) : Calls Try.prog 37 #[.pointer (some ⟨b, 0, none⟩)] w fun e w' => e = .returned (.bool false) ∧ w = w' := by
  have hm := fun u : World => run_neq_map_nil (P := Try.prog) u _ _ _ none Try.underlying68
  go_enter Try.func37, Try.ntmps37
  go_wp2
  go_ret
  exact ⟨rfl, rfl⟩

/-- A name that may be. -/
def Named (k : List UInt8) : Prop := 0 < k.length ∧ k.length ≤ 40

theorem named_yes (k : List UInt8) (w : World) (h : Named k) : Calls Try.prog 39 #[kv k] w fun e w' => e = .returned (.bool true) ∧ w = w' := by
  obtain ⟨h1, h2⟩ := h
  have e1 : k.isEmpty = false := by cases k <;> simp_all
  have e1' : k ≠ [] := by intro e; simp [e] at h1
  have e2 : (⟨k.toArray⟩ : ByteArray).size = k.length := by simp [ByteArray.size]
  unfold kv
  go_enter Try.func39, Try.ntmps39
  go_wp2
  go_ret
  exact ⟨by simp; omega, rfl⟩

set_option maxHeartbeats 400000 in
theorem contains_one (g : Nat) (k : List UInt8) (w : World) (c0 : w.cell? ⟨g, 0, none⟩ = some (kv k)) (h : Named k) :
    Calls Try.prog 44 #[.slice (some ⟨g, 0, none⟩) 1 1, .func (.func 45) #[] #[]] w fun e w' => e = .returned (.bool false) ∧ w = w' := by
  have idx : Calls Try.prog 49 #[.slice (some ⟨g, 0, none⟩) 1 1, .func (.func 45) #[] #[]] w fun e w' => e = .returned (.int .i64 (-1)) ∧ w = w' := by
    have f1 : Calls Try.prog 45 #[kv k] w fun e w' => e = .returned (.bool false) ∧ w = w' := by
      go_enter Try.func45, Try.ntmps45
      go_wp2_with (go_at_call 39; refine (named_yes k _ h).mono ?_; rintro e w' ⟨rfl, rfl⟩)
      go_ret
      exact ⟨rfl, rfl⟩
    have F1 := Lib.hid f1
    clear f1 h
    go_enter Try.func49, Try.ntmps49
    go_wp2
    go_loop [8] (fun i => ∃ j : Nat, j ≤ 1 ∧ i = .int .i64 j) (fun i => 1 - (intOf i).toNat)
    case atStart => exact ⟨0, Nat.zero_le _, rfl⟩
    case round =>
      obtain ⟨j, hj, rfl⟩ := hrel
      by_cases hlt : j < 1
      · obtain rfl : j = 0 := by omega
        go_wp2_with (go_at_call 45; refine F1.out.mono ?_; rintro e w' ⟨rfl, rfl⟩)
        go_round
        case rel => exact ⟨1, by omega, by simp⟩
        case measure => simp [intOf]
      · obtain rfl : j = 1 := by omega
        go_wp2
        go_ret
        exact ⟨rfl, rfl⟩
  have IX := Lib.hid idx
  clear idx c0 h
  go_enter Try.func44, Try.ntmps44
  go_wp2_with (go_at_call 49; refine IX.out.mono ?_; rintro e w' ⟨rfl, rfl⟩)
  go_ret
  exact ⟨by simp, rfl⟩

/-! ask -/
theorem ask_nil (x : Value) (w : World) : Calls Try.prog 33 #[.pointer none, x] w fun e w' => e = .returned (.int .i64 2) ∧ w = w' := by
  go_enter Try.func33, Try.ntmps33
  go_wp2_with (go_at_call 37; refine (disk_nil _).mono ?_; rintro e w' ⟨rfl, rfl⟩)
  go_ret
  exact ⟨rfl, rfl⟩
theorem ask_new (b : Nat) (x : Value) (w : World) (c1 : w.cell? ⟨b, 1, none⟩ = some (.map none)) : Calls Try.prog 33 #[.pointer (some ⟨b, 0, none⟩), x] w fun e w' => e = .returned (.int .i64 2) ∧ w = w' := by
  go_enter Try.func33, Try.ntmps33
  go_wp2_with (go_at_call 37; refine (made_new b _ c1).mono ?_; rintro e w' ⟨rfl, rfl⟩)
  go_ret
  exact ⟨rfl, rfl⟩

/-- The error that a disk's power makes. -/
def downE (on : Bool) : Int := if on then 0 else 8

set_option maxHeartbeats 400000 in
theorem ask_one (b m g : Nat) (pv : Option Addr) (on : Bool) (k : List UInt8) (w : World) (c0 : w.cell? ⟨b, 0, none⟩ = some (.pointer pv)) (c1 : w.cell? ⟨b, 1, none⟩ = some (.map (some m))) (h : Named k)
    (cg : w.cell? ⟨g, 0, none⟩ = some (kv k)) (hon : Calls Try.prog 16 #[.pointer pv] w fun e w' => e = .returned (.bool on) ∧ w = w') :
    Calls Try.prog 33 #[.pointer (some ⟨b, 0, none⟩), .slice (some ⟨g, 0, none⟩) 1 1] w fun e w' => e = .returned (.int .i64 (downE on)) ∧ w = w' := by
  have HO := Lib.hid hon
  have HC := Lib.hid (contains_one g k w cg h)
  clear hon h cg
  cases on
  all_goals
    go_enter Try.func33, Try.ntmps33
    go_wp2_with (first
      | (go_at_call 37; refine (made_any b m _ c1).mono ?_; rintro e w' ⟨rfl, rfl⟩)
      | (go_at_call 44; refine HC.out.mono ?_; rintro e w' ⟨rfl, rfl⟩)
      | (go_at_call 16; refine HO.out.mono ?_; rintro e w' ⟨rfl, rfl⟩))
    go_ret
    exact ⟨rfl, rfl⟩

end Go.Proofs.Ytdgjcmjbkmgohaa
