/- The power of a disk, of the program and of the document: its calls. -/
import Derived.Test.YtdgjcmjbkmgohaaBytes
import Derived.Deep.RegionLaw
import Derived.Deep.RegionHeld3
namespace Go.Proofs.Ytdgjcmjbkmgohaa
open Go.RowKit Go.Sl

/-- The program's power. -/
structure Pw where
  on : Bool
  bound : Bool
  left : Int
  made : Bool

/-- Its block. -/
def Pw.obj (p : Pw) : Obj := .cells #[.bool p.on, .bool p.bound, .int .i64 p.left, .bool p.made] 36 (0, 0)

def Pw.plug : Pw := ⟨true, false, 0, true⟩
def Pw.fuse (p : Pw) (n : Int) : Pw := if p.made then { p with bound := decide (0 ≤ n), left := max n 0 } else p
def Pw.mend (p : Pw) : Pw := if p.made then ⟨true, false, 0, true⟩ else p
def Pw.act (p : Pw) : Int × Pw :=
  if p.on then
    if p.bound then (if p.left == 0 then (8, { p with on := false }) else (0, { p with left := p.left - 1 }))
    else (0, p)
  else (8, p)

theorem plug_any (w : World) : Calls Try.prog 9 #[] w fun e w' => ∃ b, e = .returned (.pointer (some ⟨b, 0, none⟩)) ∧ Moves w w' [] [(b, Pw.plug.obj)] := by
  go_enter Try.func9, Try.ntmps9
  go_wp2
  go_ret
  exact ⟨_, rfl, (Moves.refl w []).alloc _⟩

theorem on_nil (w : World) : Calls Try.prog 16 #[.pointer none] w fun e w' => e = .returned (.bool false) ∧ w = w' := by
  go_enter Try.func16, Try.ntmps16
  go_wp2
  go_ret
  exact ⟨rfl, rfl⟩
theorem on_any (b : Nat) (p : Pw) (w : World) (hL : Holds w [(b, p.obj)]) : Calls Try.prog 16 #[.pointer (some ⟨b, 0, none⟩)] w fun e w' => e = .returned (.bool p.on) ∧ w = w' := by
  have c0 := hL.cell0 (o := 0) rfl
  go_enter Try.func16, Try.ntmps16
  go_wp2
  go_ret
  exact ⟨rfl, rfl⟩

theorem act_nil (w : World) : Calls Try.prog 14 #[.pointer none] w fun e w' => e = .returned (.int .i64 8) ∧ w = w' := by
  go_enter Try.func14, Try.ntmps14
  go_wp2_with (go_at_call 16; refine (on_nil _).mono ?_; rintro e w' ⟨rfl, rfl⟩)
  go_ret
  exact ⟨rfl, rfl⟩
set_option maxHeartbeats 1000000 in
theorem act_any (b : Nat) (p : Pw) (w : World) (hL : Holds w [(b, p.obj)]) (h1 : -9223372036854775807 ≤ p.left) (h2 : p.left ≤ 9223372036854775807) : Calls Try.prog 14 #[.pointer (some ⟨b, 0, none⟩)] w fun e w' => e = .returned (.int .i64 p.act.1) ∧ Moves w w' [(b, p.obj)] [(b, p.act.2.obj)] := by
  have HL := Lib.hid hL
  obtain ⟨on, bound, left, made⟩ := p
  have c0 := hL.cell0 (o := 0) rfl
  have c1 := hL.cell0 (o := 1) rfl
  have c2 := hL.cell0 (o := 2) rfl
  have f0 := hL.free0 0
  have f2 := hL.free0 2
  dsimp only at h1 h2
  clear hL
  cases on
  · go_enter Try.func14, Try.ntmps14
    go_wp2_with (go_at_call 16; refine (on_any b _ _ HL.out).mono ?_; rintro e w' ⟨rfl, rfl⟩)
    go_ret
    exact ⟨rfl, Moves.refl w _⟩
  cases bound
  · go_enter Try.func14, Try.ntmps14
    go_wp2_with (go_at_call 16; refine (on_any b _ _ HL.out).mono ?_; rintro e w' ⟨rfl, rfl⟩)
    go_ret
    exact ⟨rfl, Moves.refl w _⟩
  cases hl : left == 0
  · go_enter Try.func14, Try.ntmps14
    go_wp2_with (go_at_call 16; refine (on_any b _ _ HL.out).mono ?_; rintro e w' ⟨rfl, rfl⟩)
    go_ret
    refine ⟨by simp [Pw.act, hl], ?_⟩
    simp only [Pw.act, hl]
    exact (Moves.refl w _).setCell 2 _
  · go_enter Try.func14, Try.ntmps14
    go_wp2_with (go_at_call 16; refine (on_any b _ _ HL.out).mono ?_; rintro e w' ⟨rfl, rfl⟩)
    go_ret
    refine ⟨by simp [Pw.act, hl], ?_⟩
    simp only [Pw.act, hl]
    exact (Moves.refl w _).setCell 0 _

theorem fuse_nil (n : Int) (w : World) : Calls Try.prog 11 #[.pointer none, .int .i64 n] w fun e w' => e = .returned (.tuple #[]) ∧ w = w' := by
  go_enter Try.func11, Try.ntmps11
  go_wp2
  go_end0
  exact ⟨rfl, rfl⟩
set_option maxHeartbeats 1000000 in
theorem fuse_any (b : Nat) (p : Pw) (n : Int) (w : World) (hL : Holds w [(b, p.obj)]) : Calls Try.prog 11 #[.pointer (some ⟨b, 0, none⟩), .int .i64 n] w fun e w' => e = .returned (.tuple #[]) ∧ Moves w w' [(b, p.obj)] [(b, (p.fuse n).obj)] := by
  obtain ⟨on, bound, left, made⟩ := p
  have c1 := hL.cell0 (o := 1) rfl
  have c2 := hL.cell0 (o := 2) rfl
  have c3 := hL.cell0 (o := 3) rfl
  have f1 := hL.free0 1
  have f2 := hL.free0 2
  clear hL
  cases made
  · go_enter Try.func11, Try.ntmps11
    go_wp2
    go_end0
    exact ⟨rfl, Moves.refl w _⟩
  · go_enter Try.func11, Try.ntmps11
    go_wp2
    all_goals
      go_end0
      refine ⟨rfl, ?_⟩
      have hm : max n 0 = 0 ∨ max n 0 = n := by omega
      first
        | (have hm0 : max n 0 = 0 := by omega
           have := ((Moves.refl w [(b, (⟨on, bound, left, true⟩ : Pw).obj)]).setCell 1 (.bool (decide (0 ≤ n)))).setCell 2 (.int .i64 0)
           simpa [Pw.fuse, Pw.obj, hm0] using this)
        | (have hm0 : max n 0 = n := by omega
           have hd : decide (0 ≤ n) = true := by simp; omega
           have := ((Moves.refl w [(b, (⟨on, bound, left, true⟩ : Pw).obj)]).setCell 1 (.bool true)).setCell 2 (.int .i64 n)
           simpa [Pw.fuse, Pw.obj, hm0, hd] using this)

theorem mend_nil (w : World) : Calls Try.prog 13 #[.pointer none] w fun e w' => e = .returned (.tuple #[]) ∧ w = w' := by
  go_enter Try.func13, Try.ntmps13
  go_wp2
  go_end0
  exact ⟨rfl, rfl⟩
set_option maxHeartbeats 1000000 in
theorem mend_any (b : Nat) (p : Pw) (w : World) (hL : Holds w [(b, p.obj)]) : Calls Try.prog 13 #[.pointer (some ⟨b, 0, none⟩)] w fun e w' => e = .returned (.tuple #[]) ∧ Moves w w' [(b, p.obj)] [(b, p.mend.obj)] := by
  obtain ⟨on, bound, left, made⟩ := p
  have c0 := hL.cell0 (o := 0) rfl
  have c1 := hL.cell0 (o := 1) rfl
  have c2 := hL.cell0 (o := 2) rfl
  have c3 := hL.cell0 (o := 3) rfl
  have f0 := hL.free0 0
  have f1 := hL.free0 1
  have f2 := hL.free0 2
  have f3 := hL.free0 3
  clear hL
  cases made
  · go_enter Try.func13, Try.ntmps13
    go_wp2
    go_end0
    exact ⟨rfl, Moves.refl w _⟩
  · go_enter Try.func13, Try.ntmps13
    go_wp2
    go_end0
    refine ⟨rfl, ?_⟩
    exact ((((Moves.refl w _).setCell 0 _).setCell 1 _).setCell 2 _).setCell 3 _

/-! The document's power. -/
structure RPw where
  off : Bool
  left : Int
def RPw.obj (p : RPw) : Obj := .cells #[.bool p.off, .int .i64 p.left] 31 (0, 0)
def RPw.plug : RPw := ⟨false, -1⟩
def RPw.fuse (p : RPw) (n : Int) : RPw := { p with left := max n (-1) }
def RPw.act (p : RPw) : Int × RPw :=
  if p.left == 0 then (8, { p with off := true }) else if p.off then (8, p) else if 0 < p.left then (0, { p with left := p.left - 1 }) else (0, p)

theorem rplug_any (w : World) : Calls Try.prog 10 #[] w fun e w' => ∃ b, e = .returned (.pointer (some ⟨b, 0, none⟩)) ∧ Moves w w' [] [(b, RPw.plug.obj)] := by
  go_enter Try.func10, Try.ntmps10
  go_wp2
  go_ret
  exact ⟨_, rfl, (Moves.refl w []).alloc _⟩
set_option maxHeartbeats 1000000 in
theorem rfuse_any (b : Nat) (p : RPw) (n : Int) (w : World) (hL : Holds w [(b, p.obj)]) : Calls Try.prog 12 #[.pointer (some ⟨b, 0, none⟩), .int .i64 n] w fun e w' => e = .returned (.tuple #[]) ∧ Moves w w' [(b, p.obj)] [(b, (p.fuse n).obj)] := by
  obtain ⟨off, left⟩ := p
  have c1 := hL.cell0 (o := 1) rfl
  have f1 := hL.free0 1
  clear hL
  go_enter Try.func12, Try.ntmps12
  go_wp2
  all_goals
    go_end0
    refine ⟨rfl, ?_⟩
    first
      | (have hm0 : max n (-1) = -1 := by omega
         have := ((Moves.refl w [(b, (⟨off, left⟩ : RPw).obj)]).setCell 1 (.int .i64 (-1)))
         simpa [RPw.fuse, RPw.obj, hm0] using this)
      | (have hm0 : max n (-1) = n := by omega
         have := ((Moves.refl w [(b, (⟨off, left⟩ : RPw).obj)]).setCell 1 (.int .i64 n))
         simpa [RPw.fuse, RPw.obj, hm0] using this)
set_option maxHeartbeats 1000000 in
theorem ract_any (b : Nat) (p : RPw) (w : World) (hL : Holds w [(b, p.obj)]) (h2 : p.left ≤ 9223372036854775807) : Calls Try.prog 15 #[.pointer (some ⟨b, 0, none⟩)] w fun e w' => e = .returned (.int .i64 p.act.1) ∧ Moves w w' [(b, p.obj)] [(b, p.act.2.obj)] := by
  obtain ⟨off, left⟩ := p
  have c0 := hL.cell0 (o := 0) rfl
  have c1 := hL.cell0 (o := 1) rfl
  have f0 := hL.free0 0
  have f1 := hL.free0 1
  dsimp only at h2
  clear hL
  cases hl : left == 0
  · cases off
    · by_cases hp : 0 < left
      · go_enter Try.func15, Try.ntmps15
        go_wp2
        go_ret
        refine ⟨by simp [RPw.act, hl, hp], ?_⟩
        simp only [RPw.act, hl, hp]
        exact (Moves.refl w _).setCell 1 _
      · go_enter Try.func15, Try.ntmps15
        go_wp2
        go_ret
        have e : RPw.act ⟨false, left⟩ = (0, ⟨false, left⟩) := by simp only [RPw.act, hl]; rw [if_neg (by decide), if_neg (by decide), if_neg (by omega)]
        rw [e]
        exact ⟨rfl, Moves.refl w _⟩
    · go_enter Try.func15, Try.ntmps15
      go_wp2
      go_ret
      refine ⟨by simp [RPw.act, hl], ?_⟩
      simp only [RPw.act, hl]
      exact Moves.refl w _
  · go_enter Try.func15, Try.ntmps15
    go_wp2
    go_ret
    refine ⟨by simp [RPw.act, hl], ?_⟩
    simp only [RPw.act, hl]
    exact (Moves.refl w _).setCell 0 _

/-- Both powers agree. -/
def Agree (p : Pw) (x : RPw) : Prop := p.made = true ∧ p.on = !x.off ∧ 0 ≤ p.left ∧ p.left ≤ 9223372036854775807 ∧ ((p.bound = true ∧ x.left = p.left) ∨ (p.bound = false ∧ x.left = -1)) ∧ (x.left = 0 → p.bound = true)
theorem agree_plug : Agree .plug .plug := ⟨rfl, rfl, by decide, by decide, .inr ⟨rfl, rfl⟩, by decide⟩
theorem agree_mend {p : Pw} {x : RPw} (h : Agree p x) : Agree p.mend ⟨false, -1⟩ := by
  have e : p.mend = Pw.plug := by unfold Pw.mend; rw [h.1]; rfl
  rw [e]; exact agree_plug
theorem agree_fuse {p : Pw} {x : RPw} (h : Agree p x) (n : Int) (hn : n ≤ 9223372036854775807) : Agree (p.fuse n) (x.fuse n) := by
  obtain ⟨h1, h2, h3, h4, h5, h6⟩ := h
  unfold Pw.fuse RPw.fuse Agree
  rw [if_pos h1]
  dsimp only
  refine ⟨h1, h2, by omega, by omega, ?_, ?_⟩
  · by_cases hn0 : 0 ≤ n
    · exact .inl ⟨by simp [hn0], by omega⟩
    · exact .inr ⟨by simp [hn0], by omega⟩
  · intro h
    have : 0 ≤ n := by omega
    simp [this]
theorem agree_act {p : Pw} {x : RPw} (h : Agree p x) : p.act.1 = x.act.1 ∧ Agree p.act.2 x.act.2 := by
  obtain ⟨on, bound, left, made⟩ := p
  obtain ⟨off, xl⟩ := x
  obtain ⟨h1, h2, h3, h4, h5, h6⟩ := h
  dsimp only at h1 h2 h3 h4 h5 h6
  subst h1 h2
  unfold Pw.act RPw.act Agree
  rcases h5 with ⟨rfl, rfl⟩ | ⟨rfl, rfl⟩
  · by_cases h0 : xl = 0
    · subst h0; cases off <;> simp
    · have hp : 0 < xl := by omega
      have hb : (xl == 0) = false := by simp [h0]
      cases off <;> simp [hb, hp] <;> omega
  · cases off <;> simp <;> omega
theorem agree_on {p : Pw} {x : RPw} (h : Agree p x) : p.on = !x.off := h.2.1
end Go.Proofs.Ytdgjcmjbkmgohaa
