/- Names. -/
import Derived.Test.YtdgjcmjbkmgohaaDiskE
import Derived.Test.YtdgjcmjbkmgohaaLays
namespace Go.Proofs
open Go.RowKit Go.Maps Go.Sort Go.Shelf

theorem Try.sorts40 (m : Nat) : AnyZ.SortsIn Try.prog Try.sorted40_ren Fence.wide m :=
  ⟨fun blk off cap ss W hH hblk hsz => callsIn_wide.2 (AnyM.slices_Sort_string Try.sort47 blk off cap ss W hH hblk hsz),
   fun p cap W => callsIn_wide.2 (AnyM.slices_Sort_string_none Try.sort47 p cap W)⟩

/-- **maps.Keys[map[string]intaglio/disk.file,string,intaglio/disk.file], at whatever map, the nil one too:** a function value over ONE NEW BLOCK, which holds the map. -/
theorem Try.maps_Keys_41 (mb : Option Nat) (W : World) : CallsIn Fence.wide 5 Try.prog 41 #[.map mb] W fun e w' => e = .returned (.func (.func 48) #[] #[.pointer (some ⟨W.heap.size, 0, none⟩)]) ∧ w' = W.alloc (.cells #[.map mb] 68) :=
  AnyZ.keys_in Try.keys41 Fence.wide 5 trivial rfl mb W

set_option maxHeartbeats 1000000 in
/-- **slices.Sorted[string] AT WHAT maps.Keys[map[string]intaglio/disk.file,string,intaglio/disk.file] HANDED BACK FOR A MAP THAT IS NOT nil** ('w': the world AHEAD of maps.Keys' call): A NEW SLICE THAT HOLDS THE MAP's KEYS, SORTED; nil just where it has none; nothing that lay before has turned. -/
theorem Try.slices_Sorted_keys_40_41 {H : Type} (b nn : Nat) (D0 : DataW H) (R : Value → Option (DataW H × List MemPlace)) (w : World) (hown : w.ownsMap Try.prog 9 R b nn D0) (hmax : Maps.size D0 ≤ maxLen) (hbytes : Maps.size D0 * 16 ≤ 140737488355328) :
    CallsIn Fence.wide 5 Try.prog 40 #[.func (.func 48) #[] #[.pointer (some ⟨w.heap.size, 0, none⟩)]] (w.alloc (.cells #[.map (some b)] 68)) fun e w' => ∃ (v : Value) (ss : List (List UInt8)), e = .returned v ∧ ss.Perm (strKeys D0) ∧
      w'.ownsRow (w.alloc (.cells #[.map (some b)] 68)).heap.size 9 1 v ss.length ((ss.mergeSort (fun x y => decide (x ≤ y))).map encStr) ∧ (v = .slice none 0 0 ↔ ss = []) ∧ Below (w.alloc (.cells #[.map (some b)] 68)).heap.size (w.alloc (.cells #[.map (some b)] 68)) w' := by
  have hbl := hown.lt
  have hseq : SeqGives Fence.wide 2 Try.prog 48 #[.pointer (some ⟨w.heap.size, 0, none⟩)] encStr (fun ss => ss.Perm (strKeys D0)) (Maps.size D0) (w.alloc (.cells #[.map (some b)] 68)) :=
    AnyZ.keys_gives (ρ := Try.keys41_ren) { Try.keys41 with } Fence.wide _ trivial rfl (by omega) w.heap.size b nn D0 _ (by simp) (by simp) (by
      obtain ⟨es, clock, hb, Ft, hs, hD⟩ := hown
      exact ⟨es, clock, (Below.heap_alloc _ _ b hbl).trans hb, Ft, hs, hD⟩)
  exact AnyZ.sorted_in Try.sorted40 Fence.wide 5 trivial trivial trivial trivial rfl (by omega) (Try.sorts40 _) (enters_of Try.func47 (by kernel_rfl) rfl) 48 #[.pointer (some ⟨w.heap.size, 0, none⟩)] trivial (enters_of Try.func48 (by kernel_rfl) rfl) _ _ hmax hbytes _ hseq

end Go.Proofs
namespace Go.Proofs.Ytdgjcmjbkmgohaa
open Go.RowKit Go.Sl

theorem perm_insert {H : Type} (x : Lit × DataW H) (l : List (Lit × DataW H)) : (DataW.insert x l).Perm (x :: l) := by
  induction l with
  | nil => exact List.Perm.refl _
  | cons y r ih =>
    unfold DataW.insert
    split
    · exact List.Perm.refl _
    · exact (ih.cons y).trans (List.Perm.swap x y r)
theorem perm_inserts {H : Type} (l : List (Lit × DataW H)) : (l.foldr DataW.insert []).Perm l := by
  induction l with
  | nil => exact List.Perm.refl _
  | cons x l ih => exact (perm_insert x _).trans (ih.cons x)

theorem map_inj {α β : Type} {f : α → β} (hf : ∀ a b, f a = f b → a = b) : ∀ {l m : List α}, l.map f = m.map f → l = m
  | [], [], _ => rfl
  | [], _ :: _, h => by cases h
  | _ :: _, [], h => by cases h
  | a :: l, b :: m, h => by
    simp only [List.map_cons, List.cons.injEq] at h
    rw [hf _ _ h.1, map_inj hf h.2]

/-- Elements of no account. -/
def noR : Value → Option (DataW Unit × List MemPlace) := fun _ => some (.nil, [])

/-- A map of strings, as the kit's law of its keys wants it. -/
theorem owns_of {w : World} {m : Nat} {om : Obj} {l : List (List UInt8 × Value)} (hm : w.heap[m]? = some om) (ho : MapO l om) (hk : ∀ p ∈ l, p.1.length ≤ maxLen) (hn : l.length ≤ maxLen) :
    ∃ D, w.ownsMap Try.prog 9 noR m l.length D ∧ (strKeys D).Perm (l.map Prod.fst) ∧ Maps.size D = l.length := by
  obtain ⟨es, clock, rfl, hs, hl⟩ := ho
  have hsz : es.toList.length = l.length := by simpa using congrArg List.length hl
  have hr : ∀ x ∈ es.toList, ∃ k, (k, x.val) ∈ l.map (fun p => (p.1, p.2)) ∧ x.key = kv k ∧ k.length ≤ maxLen := by
    intro x hx
    have : (x.key, x.val) ∈ es.toList.map (fun e => (e.key, e.val)) := List.mem_map.2 ⟨x, hx, rfl⟩
    rw [hl] at this
    obtain ⟨p, hp, he⟩ := List.mem_map.1 this
    injection he with h1 h2
    exact ⟨p.1, List.mem_map.2 ⟨p, hp, by rw [h2]⟩, h1.symm, hk p hp⟩
  have hrd : ∀ x ∈ es.toList, ∀ k, x.key = kv k → k.length ≤ maxLen → WideElems.rd Try.prog 9 noR x = some (.string k, .nil) := by
    intro x hx k hk1 hk2
    have : keyOf Try.prog 9 x.key = some (.string k) := by
      rw [hk1]; simp [kv, keyOf, Try.underlying9, mapKey, ByteArray.size, hk2]
    simp [WideElems.rd, this, noR]
  have hkeys : strKeys (.map ((es.toList.map (WideElems.rg Try.prog 9 noR)).foldr DataW.insert [])) = ((es.toList.map (WideElems.rg Try.prog 9 noR)).foldr DataW.insert []).map fun p => strOf p.1 := rfl
  refine ⟨_, ⟨es, clock, hm, ⟨by simpa [hsz] using (by rw [← Array.length_toList, hsz]; exact hn : es.size ≤ maxLen), hs, fun x hx => ?_⟩, by rw [← Array.length_toList, hsz]; exact Nat.le_refl _, rfl⟩, ?_, ?_⟩
  · obtain ⟨k, _, h1, h2⟩ := hr x hx
    exact ⟨_, hrd x hx k h1 h2⟩
  · rw [hkeys]
    refine ((perm_inserts _).map _).trans ?_
    have : (es.toList.map (WideElems.rg Try.prog 9 noR)).map (fun p => strOf p.1) = l.map Prod.fst := by
      have e2 : es.toList.map (fun e => e.key) = l.map (fun p => kv p.1) := by
        have := congrArg (List.map Prod.fst) hl
        simpa [List.map_map, Function.comp_def] using this
      have e3 : ((es.toList.map (WideElems.rg Try.prog 9 noR)).map (fun p => strOf p.1)).map kv = (l.map Prod.fst).map kv := by
        rw [List.map_map, List.map_map, List.map_map]
        refine Eq.trans ?_ e2
        refine List.map_congr_left fun x hx => ?_
        obtain ⟨k, _, h1, h2⟩ := hr x hx
        simp [WideElems.rg, hrd x hx k h1 h2, strOf, h1]
      exact map_inj (fun a b h => kv_inj h) e3
    rw [this]
  · show ((es.toList.map (WideElems.rg Try.prog 9 noR)).foldr DataW.insert []).length = l.length
    rw [(perm_inserts _).length_eq, List.length_map, hsz]

/-- A row that a law has made. -/
theorem rowF_of_owns {w w' : World} {e : TypeId} {v : Value} {n : Nat} {xs : List Value} (h : w'.ownsRow w.heap.size e 1 v n xs) (hb : Below w.heap.size w w') : ∃ L, RowF e 1 v n xs L ∧ Moves w w' [] L := by
  obtain ⟨h1, h2 | ⟨g, cap, cur, h2, h3, h4, h5, h6, h7, h8⟩⟩ := h
  · exact ⟨[], ⟨h1, .inl ⟨h2.1, h2.2, rfl⟩⟩, Moves.of_below hb⟩
  · refine ⟨[(g, .cells cur e (0, 0))], ⟨h1, .inr ⟨g, cap, cur, h2, rfl, h5, h6, by omega, h8⟩⟩, (Moves.of_below hb).ext, fun F hF => ⟨?_, fun p hp => ?_⟩⟩
    · rw [List.singleton_append, List.map_cons, List.nodup_cons]
      refine ⟨fun hm => ?_, hF.1⟩
      obtain ⟨p, hp, he⟩ := List.mem_map.1 hm
      have := hF.lt (p := p) (by simpa using hp)
      simp at he
      omega
    · rcases List.mem_cons.1 hp with rfl | hp
      · exact h4
      · exact ((Moves.of_below hb).to F (by simpa using hF)).2 p (by simpa using hp)

/-- The names of files, rising. -/
def namesOf (fs : List (List UInt8 × FileR)) : List (List UInt8) := (fs.map Prod.fst).mergeSort leB

theorem FilesF.keys {l : List (List UInt8 × Value)} {fs : List (List UInt8 × FileR)} {L : Frag} (h : FilesF l fs L) : l.map Prod.fst = fs.map Prod.fst := by
  induction l generalizing fs L with
  | nil => cases fs with
    | nil => rfl
    | cons => exact h.elim
  | cons p l ih => cases fs with
    | nil => exact h.elim
    | cons q fs => obtain ⟨A, B, h1, _, h3, _⟩ := h; simp [h1, ih h3]

set_option maxRecDepth 100000 in
set_option maxHeartbeats 1000000 in
theorem names_ok (b : Nat) (pv : Option Addr) (fs : List (List UInt8 × FileR)) (L : Frag) (w : World) (hD : DiskF b pv fs L) (hL : Holds w L) (hk : ∀ p ∈ fs, p.1.length ≤ 40) (hn : fs.length ≤ 4096) :
    Calls Try.prog 25 #[.pointer (some ⟨b, 0, none⟩)] w fun e w' => ∃ v N, e = .returned v ∧ RowF 9 1 v fs.length ((namesOf fs).map kv) N ∧ Moves w w' [] N := by
  obtain ⟨m, om, l, Lf, rfl, ho, hf⟩ := hD
  have d1 := hL.cell0 (o := 1) rfl
  have hlen := hf.length
  have hkeys := hf.keys
  obtain ⟨D, hown, hperm, hsz⟩ := owns_of (hL.get (List.mem_cons_of_mem _ (List.mem_cons_self ..))) ho (fun p hp => by
    have : p.1 ∈ fs.map Prod.fst := by rw [← hkeys]; exact List.mem_map_of_mem hp
    obtain ⟨q, hq, he⟩ := List.mem_map.1 this
    have := hk q hq
    rw [he] at this
    unfold maxLen; omega) (by unfold maxLen; omega)
  have HS := Lib.hid ((callsIn_wide (n := 5)).1 (Try.slices_Sorted_keys_40_41 m l.length D noR w hown (by unfold maxLen; omega) (by omega)))
  clear hown
  go_enter Try.func25, Try.ntmps25
  go_wp2_with (first
    | (go_at_call 37; refine (made_any b m _ d1).mono ?_; rintro e w' ⟨rfl, rfl⟩)
    | (go_at_call 41; refine ((callsIn_wide (n := 5)).1 (Try.maps_Keys_41 _ _)).mono ?_; rintro e w' ⟨rfl, rfl⟩)
    | (go_at_call 40; refine HS.out.mono ?_; rintro e w' ⟨v, ss, rfl, hS, hrow, hnil, hb⟩))
  go_ret
  obtain ⟨N, h1, h2⟩ := rowF_of_owns hrow hb
  have hp : ss.Perm (fs.map Prod.fst) := by rw [← hkeys]; exact hS.trans hperm
  have e1 : ss.length = fs.length := by simpa using hp.length_eq
  have e2 : ss.mergeSort (fun x y => decide (x ≤ y)) = namesOf fs := mergeSort_of_perm hp
  rw [e1, e2] at h1
  exact ⟨v, N, rfl, h1, ((Moves.refl w []).waste _).trans h2⟩

end Go.Proofs.Ytdgjcmjbkmgohaa
