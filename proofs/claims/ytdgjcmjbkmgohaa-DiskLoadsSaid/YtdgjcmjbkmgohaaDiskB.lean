/- What must be there; whether it is full; acts; Create. -/
import Derived.Test.YtdgjcmjbkmgohaaDiskA
import Derived.Deep.Cut
import Derived.Deep.RegionHeld3
namespace Go.Proofs.Ytdgjcmjbkmgohaa
open Go.RowKit Go.Sl

theorem zeroFile (w : World) : (zeroValue 77).run Try.prog w = .ok (.agg #[.slice none 0 0, .int .i64 0]) w := by kernel_rfl
/-- The zero file. -/
abbrev zf : Value := .agg #[.slice none 0 0, .int .i64 0]

/-- A power pointer, and what it says. -/
def OnIs (pv : Option Addr) (on : Bool) (w : World) : Prop := Calls Try.prog 16 #[.pointer pv] w fun e w' => e = .returned (.bool on) ∧ w = w'

set_option maxRecDepth 100000 in
set_option maxHeartbeats 1000000 in
theorem there_down (b m g : Nat) (pv : Option Addr) (k : List UInt8) (w : World) (c0 : w.cell? ⟨b, 0, none⟩ = some (.pointer pv)) (c1 : w.cell? ⟨b, 1, none⟩ = some (.map (some m))) (h : Named k)
    (cg : w.cell? ⟨g, 0, none⟩ = some (.string ⟨k.toArray⟩)) (hon : OnIs pv false w) :
    Calls Try.prog 36 #[.pointer (some ⟨b, 0, none⟩), .slice (some ⟨g, 0, none⟩) 1 1] w fun e w' => e = .returned (.int .i64 8) ∧ w = w' := by
  have HA := Lib.hid (ask_one b m g pv false k w c0 c1 h cg hon)
  clear hon h
  go_enter Try.func36, Try.ntmps36
  go_wp2_with (go_at_call 33; refine HA.out.mono ?_; rintro e w' ⟨rfl, rfl⟩; simp only [downE])
  go_ret
  exact ⟨rfl, rfl⟩

/-- What 'there' answers of a file. -/
def thereE (fs : List (List UInt8 × FileR)) (k : List UInt8) : Int := if (lookF fs k).isSome then 0 else 9

set_option maxRecDepth 100000 in
set_option maxHeartbeats 1000000 in
theorem there_on (b m g : Nat) (pv : Option Addr) (k : List UInt8) (l : List (List UInt8 × Value)) (om : Obj) (w : World) (c0 : w.cell? ⟨b, 0, none⟩ = some (.pointer pv)) (c1 : w.cell? ⟨b, 1, none⟩ = some (.map (some m))) (h : Named k)
    (cg : w.cell? ⟨g, 0, none⟩ = some (.string ⟨k.toArray⟩)) (hon : OnIs pv true w) (hm : w.heap[m]? = some om) (ho : MapO l om) (hv : ∀ v, lookM l k = some v → ∃ a c d n, v = .agg #[.slice a c d, .int .i64 n]) :
    Calls Try.prog 36 #[.pointer (some ⟨b, 0, none⟩), .slice (some ⟨g, 0, none⟩) 1 1] w fun e w' => e = .returned (.int .i64 (if (lookM l k).isSome then 0 else 9)) ∧ Moves w w' [] [] := by
  have HA := Lib.hid (ask_one b m g pv true k w c0 c1 h cg hon)
  have lb := cell_lt c0
  have lg := cell_lt cg
  have lm := (Array.getElem?_eq_some_iff.1 hm).1
  have hm' : ∀ o, (w.alloc o).heap[m]? = some om := fun o => by rw [Below.heap_alloc _ _ _ lm]; exact hm
  have hl1 : (Instr.lookup 68 (.map (some m)) (.string ⟨k.toArray⟩) true).run Try.prog w.drew = .ok (.tuple #[(lookM l k).getD zf, .bool (lookM l k).isSome]) w.drew :=
    run_look (P := Try.prog) (w := w.drew) Try.underlying68 Try.underlying9 hm ho k (zeroFile _) true
  have hl2 : ∀ o, (Instr.lookup 68 (.map (some m)) (.string ⟨k.toArray⟩) true).run Try.prog (w.alloc o).drew = .ok (.tuple #[(lookM l k).getD zf, .bool (lookM l k).isSome]) (w.alloc o).drew := fun o =>
    run_look (P := Try.prog) (w := (w.alloc o).drew) Try.underlying68 Try.underlying9 (hm' o) ho k (zeroFile _) true
  obtain ⟨a, c, d, n, hd⟩ : ∃ a c d n, (lookM l k).getD zf = .agg #[.slice a c d, .int .i64 n] := by
    cases hlk : lookM l k with
    | none => exact ⟨_, _, _, _, rfl⟩
    | some v => exact hv v hlk
  rw [hd] at hl1 hl2
  have q1 : ∀ o, (w.alloc o).drew.cell? ⟨b, 1, none⟩ = some (.map (some m)) := fun o => by rw [show (w.alloc o).drew.cell? ⟨b, 1, none⟩ = (w.alloc o).cell? ⟨b, 1, none⟩ from rfl, World.cell?_alloc_past _ _ _ lb]; exact c1
  have q2 : ∀ o, (w.alloc o).drew.cell? ⟨g, 0, none⟩ = some (.string ⟨k.toArray⟩) := fun o => by rw [show (w.alloc o).drew.cell? ⟨g, 0, none⟩ = (w.alloc o).cell? ⟨g, 0, none⟩ from rfl, World.cell?_alloc_past _ _ _ lg]; exact cg
  clear hon h hm ho hv hd hm'
  generalize hs : (lookM l k).isSome = s at *
  clear hs
  have s1 := c1
  have s2 := cg
  cases s
  all_goals
    go_enter Try.func36, Try.ntmps36
    go_upto_region 4 with (go_at_call 33; refine HA.out.mono ?_; rintro e w' ⟨rfl, rfl⟩; simp only [downE])
    go_region_held3 (fun w' => w'.cell? ⟨b, 1, none⟩ = some (.map (some m)) ∧ w'.cell? ⟨g, 0, none⟩ = some (.string ⟨k.toArray⟩)) (first | exact ⟨s1, s2⟩ | exact ⟨q1 _, q2 _⟩) (first | fail)
    all_goals
      go_wp2
      go_ret
      exact ⟨by simp, ((Moves.refl w []).waste _).drew⟩

end Go.Proofs.Ytdgjcmjbkmgohaa
