/- bytes.Clone, bytes.Equal, intaglioref01.Both: what they answer, read and make. -/
import Derived.Test.YtdgjcmjbkmgohaaRows
import Derived.Test.YtdgjcmjbkmgohaaSl
import Derived.Lib.ConvBytes
import Derived.WalkSpells
import Derived.WalkLawsBesides
namespace Go.Proofs.Ytdgjcmjbkmgohaa
open Go.RowKit Go.Sl

theorem infoU8 : (Try.prog.info? 5).map (fun i => (i.zero, i.size, i.bytes)) = some (some (.int .u8 0), 1, 1) := by kernel_rfl

/-- Bytes that a slice value owns. -/
abbrev BytesF (v : Value) (l : List UInt8) (L : Frag) : Prop := RowF 5 1 v l.length (bs l) L

theorem BytesF.at {v : Value} {l : List UInt8} {L : Frag} (h : BytesF v l L) {w : World} (hL : Holds w L) : BytesAt w v l := RowF.at h hL
theorem bytesF_nil : BytesF (.slice none 0 0) [] [] := ⟨rfl, .inl ⟨rfl, rfl, rfl⟩⟩

theorem rowF_new (w : World) : RowF 5 1 (.slice (some ⟨w.heap.size, 0, none⟩) 0 0) 0 [] [(w.heap.size, .cells #[] 5 (0, 0))] :=
  ⟨rfl, .inr ⟨_, 0, #[], rfl, rfl, Nat.le_refl _, Nat.zero_le _, Nat.le_refl _, rfl⟩⟩

set_option maxHeartbeats 400000 in
theorem clone_any (v : Value) (l : List UInt8) (w : World) (h : BytesAt w v l) (hl : l.length ≤ 140737488355328) :
    Calls Try.prog 38 #[v] w fun e w' => ∃ a c L, e = .returned (.slice a l.length c) ∧ BytesF (.slice a l.length c) l L ∧ Moves w w' [] L := by
  obtain ⟨i0, hi, hz0, hz1, hz2⟩ := info_parts infoU8
  have hrun := fun (u : World) a n c => Lib.run_eql_slice_nil (P := Try.prog) u 39 5 a n c 0 0 Try.underlying39
  rcases h with ⟨rfl, h0, hx⟩ | ⟨b, cap, rfl, hn, hm, hc⟩
  · have : l = [] := List.eq_nil_of_length_eq_zero h0
    subst this
    go_enter Try.func38, Try.ntmps38
    go_wp2
    go_ret
    exact ⟨none, 0, [], rfl, bytesF_nil, Moves.refl w _⟩
  · go_enter Try.func38, Try.ntmps38
    go_wp2_with (at_builtin; refine wpList_append_R rfl (.tmp 5) (.tmp 6) 39 rfl 5 i0 (.int .u8 0) 1 1 Try.underlying39 hi hz0 hz1 hz2 rfl _ 0 [] _ rfl (rowF_new w) ?h1 _ l.length (bs l) rfl ?h4 ?h2 (bs_one l) ?h5 ?h6 ?h3)
    case h1 => exact (Holds.nil w).alloc _
    case h4 => simp
    case h5 => omega
    case h6 => omega
    case h2 => exact (show BytesAt w _ l from .inr ⟨b, cap, rfl, hn, hm, hc⟩).moves ((Moves.refl w []).waste _)
    intro v' w' L' hF hM _
    go_wp2
    go_ret
    obtain ⟨a, c, rfl⟩ := RowF.shape hF
    exact ⟨a, c, L', rfl, hF, ((Moves.refl w []).alloc _).trans hM⟩

theorem equal_any (v u : Value) (l m : List UInt8) (w : World) (h : BytesAt w v l) (k : BytesAt w u m) :
    Calls Try.prog 23 #[v, u] w fun e w' => e = .returned (.bool (l == m)) ∧ w = w' := by
  have h1 := fun d hd => run_string_of_bytes (P := Try.prog) h 39 5 d Try.underlying39 Try.underlying5 hd
  have h2 := fun d hd => run_string_of_bytes (P := Try.prog) k 39 5 d Try.underlying39 Try.underlying5 hd
  have h1' := h1 9 Try.underlying9
  have h2' := h2 9 Try.underlying9
  clear h1 h2
  go_enter Try.func23, Try.ntmps23
  go_wp2
  go_ret
  exact ⟨by simp, rfl⟩

end Go.Proofs.Ytdgjcmjbkmgohaa
