/- A disk that no call made: its calls. -/
import Derived.Test.YtdgjcmjbkmgohaaLawA
namespace Go.Proofs.Ytdgjcmjbkmgohaa
open Go.RowKit Go.Sl

/-- No call made it. -/
def NoDisk (w : World) (v : Value) : Prop := v = .pointer none ∨ ∃ b, v = .pointer (some ⟨b, 0, none⟩) ∧ w.cell? ⟨b, 1, none⟩ = some (.map none)

theorem NoDisk.moves {w w' : World} {v : Value} (h : NoDisk w v) (m : Moves w w' [] []) : NoDisk w' v := by
  rcases h with h | ⟨b, h1, h2⟩
  · exact .inl h
  · refine .inr ⟨b, h1, ?_⟩
    rw [World.cell?_of_block (w := w) (m.below.block _ (cell_lt h2))]
    exact h2
theorem NoDisk.alloc {w : World} {v : Value} (h : NoDisk w v) (o : Obj) : NoDisk (w.alloc o) v := h.moves ((Moves.refl w []).waste o)

theorem made_no (v : Value) (w : World) (h : NoDisk w v) : Calls Try.prog 37 #[v] w fun e w' => e = .returned (.bool false) ∧ w = w' := by
  rcases h with rfl | ⟨b, rfl, h⟩
  · exact disk_nil w
  · exact made_new b w h
theorem ask_no (v x : Value) (w : World) (h : NoDisk w v) : Calls Try.prog 33 #[v, x] w fun e w' => e = .returned (.int .i64 2) ∧ w = w' := by
  rcases h with rfl | ⟨b, rfl, h⟩
  · exact ask_nil x w
  · exact ask_new b x w h
theorem there_no (v x : Value) (w : World) (h : NoDisk w v) : Calls Try.prog 36 #[v, x] w fun e w' => e = .returned (.int .i64 2) ∧ w = w' := by
  have H := Lib.hid h
  clear h
  go_enter Try.func36, Try.ntmps36
  go_wp2_with (go_at_call 33; refine (ask_no _ _ _ H.out).mono ?_; rintro e w' ⟨rfl, rfl⟩)
  go_ret
  exact ⟨rfl, rfl⟩
theorem names_no (v : Value) (w : World) (h : NoDisk w v) : Calls Try.prog 25 #[v] w fun e w' => e = .returned (.slice none 0 0) ∧ w = w' := by
  have H := Lib.hid h
  clear h
  go_enter Try.func25, Try.ntmps25
  go_wp2_with (go_at_call 37; refine (made_no _ _ H.out).mono ?_; rintro e w' ⟨rfl, rfl⟩)
  go_ret
  exact ⟨rfl, rfl⟩
theorem crash_no (v x : Value) (w : World) (h : NoDisk w v) : Calls Try.prog 21 #[v, x] w fun e w' => e = .returned (.tuple #[]) ∧ w = w' := by
  have H := Lib.hid h
  clear h
  go_enter Try.func21, Try.ntmps21
  go_wp2_with (go_at_call 37; refine (made_no _ _ H.out).mono ?_; rintro e w' ⟨rfl, rfl⟩)
  exact bodyPost_ret (v := .tuple #[]) (by simp [results, Try.results21, go_sem]) rfl ⟨rfl, rfl⟩
theorem read_no (v : Value) (s : List UInt8) (w : World) (h : NoDisk w v) : Calls Try.prog 22 #[v, .string ⟨s.toArray⟩] w fun e w' => e = .returned (.tuple #[.slice none 0 0, .int .i64 2]) ∧ Moves w w' [] [] := by
  have H := Lib.hid h
  clear h
  go_enter Try.func22, Try.ntmps22
  go_wp2_with (go_at_call 36; refine (there_no _ _ _ (H.out.alloc _)).mono ?_; rintro e w' ⟨rfl, rfl⟩)
  refine bodyPost_ret (v := .tuple #[.slice none 0 0, .int .i64 2]) (by simp [results, Try.results22, go_sem]) rfl ⟨rfl, (Moves.refl w []).waste _⟩
theorem create_no (v : Value) (s : List UInt8) (w : World) (h : NoDisk w v) : Calls Try.prog 18 #[v, .string ⟨s.toArray⟩] w fun e w' => e = .returned (.int .i64 2) ∧ Moves w w' [] [] := by
  have H := Lib.hid h
  clear h
  go_enter Try.func18, Try.ntmps18
  go_wp2_with (go_at_call 33; refine (ask_no _ _ _ (H.out.alloc _)).mono ?_; rintro e w' ⟨rfl, rfl⟩)
  go_ret
  exact ⟨rfl, (Moves.refl w []).waste _⟩
theorem append_no (v x : Value) (s : List UInt8) (w : World) (h : NoDisk w v) : Calls Try.prog 19 #[v, .string ⟨s.toArray⟩, x] w fun e w' => e = .returned (.int .i64 2) ∧ Moves w w' [] [] := by
  have H := Lib.hid h
  clear h
  go_enter Try.func19, Try.ntmps19
  go_wp2_with (go_at_call 36; refine (there_no _ _ _ (H.out.alloc _)).mono ?_; rintro e w' ⟨rfl, rfl⟩)
  go_ret
  exact ⟨rfl, (Moves.refl w []).waste _⟩
theorem sync_no (v : Value) (s : List UInt8) (w : World) (h : NoDisk w v) : Calls Try.prog 20 #[v, .string ⟨s.toArray⟩] w fun e w' => e = .returned (.int .i64 2) ∧ Moves w w' [] [] := by
  have H := Lib.hid h
  clear h
  go_enter Try.func20, Try.ntmps20
  go_wp2_with (go_at_call 36; refine (there_no _ _ _ (H.out.alloc _)).mono ?_; rintro e w' ⟨rfl, rfl⟩)
  go_ret
  exact ⟨rfl, (Moves.refl w []).waste _⟩
theorem rename_no (v : Value) (s t : List UInt8) (w : World) (h : NoDisk w v) : Calls Try.prog 31 #[v, .string ⟨s.toArray⟩, .string ⟨t.toArray⟩] w fun e w' => e = .returned (.int .i64 2) ∧ Moves w w' [] [] := by
  have H := Lib.hid h
  clear h
  go_enter Try.func31, Try.ntmps31
  go_wp2_with (go_at_call 36; refine (there_no _ _ _ (H.out.alloc _)).mono ?_; rintro e w' ⟨rfl, rfl⟩)
  go_ret
  exact ⟨rfl, (Moves.refl w []).waste _⟩
theorem remove_no (v : Value) (s : List UInt8) (w : World) (h : NoDisk w v) : Calls Try.prog 32 #[v, .string ⟨s.toArray⟩] w fun e w' => e = .returned (.int .i64 2) ∧ Moves w w' [] [] := by
  have H := Lib.hid h
  clear h
  go_enter Try.func32, Try.ntmps32
  go_wp2_with (go_at_call 36; refine (there_no _ _ _ (H.out.alloc _)).mono ?_; rintro e w' ⟨rfl, rfl⟩)
  go_ret
  exact ⟨rfl, (Moves.refl w []).waste _⟩
theorem edit_no (v x y : Value) (w : World) (h : NoDisk w v) : Calls Try.prog 24 #[v, x, y] w fun e w' => e = .returned (.int .i64 2) ∧ w = w' := by
  have H := Lib.hid h
  clear h
  go_enter Try.func24, Try.ntmps24
  go_wp2_with (go_at_call 37; refine (made_no _ _ H.out).mono ?_; rintro e w' ⟨rfl, rfl⟩)
  go_ret
  exact ⟨rfl, rfl⟩
theorem load_no (v x : Value) (w : World) (h : NoDisk w v) : Calls Try.prog 26 #[v, x] w fun e w' => e = .returned (.int .i64 2) ∧ w = w' := by
  have H := Lib.hid h
  clear h
  go_enter Try.func26, Try.ntmps26
  go_wp2_with (go_at_call 37; refine (made_no _ _ H.out).mono ?_; rintro e w' ⟨rfl, rfl⟩)
  go_ret
  exact ⟨rfl, rfl⟩
theorem image_no (v : Value) (w : World) (h : NoDisk w v) : Calls Try.prog 29 #[v] w fun e w' => e = .returned (.slice none 0 0) ∧ w = w' := by
  have H := Lib.hid h
  clear h
  go_enter Try.func29, Try.ntmps29
  go_wp2_with (go_at_call 25; refine (names_no _ _ H.out).mono ?_; rintro e w' ⟨rfl, rfl⟩)
  go_loopw [3, 10] (fun o i wr => o = .slice none 0 0 ∧ i = .int .i64 0 ∧ wr = w) (fun _ _ _ => 0)
  case atStart => exact ⟨rfl, rfl, rfl⟩
  case round =>
    obtain ⟨rfl, rfl, rfl⟩ := hrel
    go_wp2
    go_ret
    exact ⟨rfl, rfl⟩

end Go.Proofs.Ytdgjcmjbkmgohaa
