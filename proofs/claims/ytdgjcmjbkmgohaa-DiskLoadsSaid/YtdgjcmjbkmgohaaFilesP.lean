/- Files as rows of three cells; the document's list of files, by rising names, and a map of files: plain. -/
import Derived.Test.YtdgjcmjbkmgohaaDiskG
namespace Go.Proofs.Ytdgjcmjbkmgohaa
open Go.RowKit Go.Sl

/-- A file as it stands in a row: its name, its bytes' slice and what that reads as, how many last. -/
structure FV where
  name : List UInt8
  dv : Value
  data : List UInt8
  kept : Int

def FV.cells (x : FV) : List Value := [kv x.name, x.dv, .int .i64 x.kept]
def FV.agg (x : FV) : Value := .agg #[kv x.name, x.dv, .int .i64 x.kept]
def fcells (xs : List FV) : List Value := xs.flatMap FV.cells
/-- What is asked of a file. -/
abbrev FT := List UInt8 × List UInt8 × Int
def FV.file (x : FV) : FT := (x.name, x.data, x.kept)

@[simp] theorem fcells_nil : fcells [] = [] := rfl
@[simp] theorem fcells_cons (x : FV) (xs : List FV) : fcells (x :: xs) = x.cells ++ fcells xs := rfl
theorem fcells_append (xs ys : List FV) : fcells (xs ++ ys) = fcells xs ++ fcells ys := by simp [fcells]
@[simp] theorem fcells_length (xs : List FV) : (fcells xs).length = xs.length * 3 := by
  induction xs with
  | nil => rfl
  | cons x xs ih => simp [ih, FV.cells]; omega
theorem fcells_get (xs : List FV) : ∀ (k : Nat) (x : FV), xs[k]? = some x → (fcells xs)[k * 3]? = some (kv x.name) ∧ (fcells xs)[k * 3 + 1]? = some x.dv ∧ (fcells xs)[k * 3 + 2]? = some (.int .i64 x.kept) := by
  induction xs with
  | nil => intro k x h; simp at h
  | cons y xs ih =>
    intro k x h
    match k, h with
    | 0, h =>
      obtain rfl : y = x := by simpa using h
      exact ⟨rfl, rfl, rfl⟩
    | k + 1, h =>
      obtain ⟨h1, h2, h3⟩ := ih k x (by simpa using h)
      have e : ∀ j, (fcells (y :: xs))[(k + 1) * 3 + j]? = (fcells xs)[k * 3 + j]? := fun j => by
        rw [fcells_cons, show (k + 1) * 3 + j = 3 + (k * 3 + j) by omega, List.getElem?_append_right (by simp [FV.cells])]
        simp [FV.cells]
      exact ⟨(e 0).trans h1, (e 1).trans h2, (e 2).trans h3⟩
theorem fcells_one (xs : List FV) (h : ∀ x ∈ xs, x.dv.oneCell' = true) : ∀ u ∈ fcells xs, u.oneCell' = true := by
  intro u hu
  simp only [fcells, List.mem_flatMap] at hu
  obtain ⟨x, hx, hu⟩ := hu
  simp only [FV.cells, List.mem_cons, List.not_mem_nil, or_false] at hu
  rcases hu with rfl | rfl | rfl
  · rfl
  · exact h x hx
  · rfl

/-- Files that a slice value reads as. -/
def FilesAt (w : World) (v : Value) (xs : List FV) : Prop := RowAt w v xs.length (fcells xs)
def DataAt (w : World) (xs : List FV) : Prop := ∀ x ∈ xs, BytesAt w x.dv x.data

theorem FilesAt.shape {w : World} {v : Value} {xs : List FV} (h : FilesAt w v xs) : ∃ a c, v = .slice a xs.length c := by
  rcases h with ⟨h1, h2, _⟩ | ⟨a, c, h1, _⟩
  · exact ⟨none, 0, by rw [h1, h2]⟩
  · exact ⟨_, _, h1⟩
/-- One of them: where it lies, and its cells. -/
theorem FilesAt.get {w : World} {v : Value} {xs : List FV} (h : FilesAt w v xs) {k : Nat} {x : FV} (hk : xs[k]? = some x) :
    ∃ b off cap, v = .slice (some ⟨b, off, none⟩) xs.length cap ∧ w.cell? ⟨b, off + k * 3, none⟩ = some (kv x.name) ∧ w.cell? ⟨b, off + k * 3 + 1, none⟩ = some x.dv ∧ w.cell? ⟨b, off + k * 3 + 2, none⟩ = some (.int .i64 x.kept) := by
  have hlt : k < xs.length := (List.getElem?_eq_some_iff.1 hk).1
  obtain ⟨a, cap, hv, _, _, hc⟩ := h.resolve_left (by rintro ⟨_, h, _⟩; omega)
  subst hv
  obtain ⟨g1, g2, g3⟩ := fcells_get xs k x hk
  have hne : fcells xs ≠ [] := fun e => by rw [e] at g1; simp at g1
  have ha := (RowAt.lt h hne).2
  obtain ⟨b, off, spot⟩ := a
  obtain rfl : spot = none := by injection ha
  refine ⟨b, off, cap, rfl, ?_, ?_, ?_⟩
  · have := hc _ _ g1; rwa [Addr.add_lit] at this
  · have := hc _ _ g2; rwa [Addr.add_lit] at this
  · have := hc _ _ g3; rwa [Addr.add_lit] at this

/-- One of them, wherever what was there is as it was. -/
theorem FilesAt.always {w : World} {v : Value} {xs : List FV} (h : FilesAt w v xs) {k : Nat} {x : FV} (hk : xs[k]? = some x) :
    ∃ b off cap, v = .slice (some ⟨b, off, none⟩) xs.length cap ∧ ∀ u, Moves w u [] [] → u.cell? ⟨b, off + k * 3, none⟩ = some (.string ⟨x.name.toArray⟩) ∧ u.cell? ⟨b, off + k * 3 + 1, none⟩ = some x.dv ∧ u.cell? ⟨b, off + k * 3 + 2, none⟩ = some (.int .i64 x.kept) := by
  obtain ⟨b, off, cap, hv, _⟩ := h.get hk
  refine ⟨b, off, cap, hv, fun u hM => ?_⟩
  obtain ⟨b', off', cap', hv', h1, h2, h3⟩ := FilesAt.get (v := v) (xs := xs) (RowAt.moves h hM) hk
  rw [hv] at hv'
  injection hv' with e1 _ _
  injection e1 with e1
  injection e1 with e1 e2 _
  rw [e1, e2]
  exact ⟨h1, h2, h3⟩

/-! The document's 'put'. -/
def putGo (x : FV) : Bool → List FV → List FV
  | laid, [] => if laid then [] else [x]
  | laid, y :: r => (if !laid && leB x.name y.name then [x] else []) ++ ((if y.name != x.name then [y] else []) ++ putGo x (laid || leB x.name y.name) r)
def putR (xs : List FV) (x : FV) : List FV := putGo x false xs

theorem putGo_mem (x : FV) : ∀ (laid : Bool) (l : List FV) (z : FV), z ∈ putGo x laid l → (z = x ∧ laid = false) ∨ (z ∈ l ∧ z.name ≠ x.name)
  | laid, [], z, h => by
    cases laid
    · simp [putGo] at h; exact .inl ⟨h, rfl⟩
    · simp [putGo] at h
  | laid, y :: r, z, h => by
    simp only [putGo, List.mem_append] at h
    rcases h with h | h | h
    · cases hl : (!laid && leB x.name y.name) with
      | false => rw [hl] at h; simp at h
      | true =>
        rw [hl] at h
        simp at h hl
        exact .inl ⟨h, hl.1⟩
    · cases hl : (y.name != x.name) with
      | false => rw [hl] at h; simp at h
      | true =>
        rw [hl] at h
        simp at h hl
        subst h
        exact .inr ⟨List.mem_cons_self .., hl⟩
    · rcases putGo_mem x _ r z h with ⟨h1, h2⟩ | ⟨h1, h2⟩
      · refine .inl ⟨h1, ?_⟩
        cases laid
        · rfl
        · simp at h2
      · exact .inr ⟨List.mem_cons_of_mem _ h1, h2⟩
theorem putGo_keep (x : FV) : ∀ (laid : Bool) (l : List FV) (z : FV), z ∈ l → z.name ≠ x.name → z ∈ putGo x laid l
  | laid, y :: r, z, h, hn => by
    simp only [putGo, List.mem_append]
    rcases List.mem_cons.1 h with rfl | h
    · right; left
      rw [if_pos (by simpa using hn)]; exact List.mem_cons_self ..
    · exact .inr (.inr (putGo_keep x _ r z h hn))
theorem putGo_new (x : FV) : ∀ (l : List FV), x ∈ putGo x false l
  | [] => by simp [putGo]
  | y :: r => by
    simp only [putGo, List.mem_append]
    cases hl : leB x.name y.name
    · exact .inr (.inr (by simpa using putGo_new x r))
    · left; simp

/-- Names rise. -/
def Rises (l : List FV) : Prop := l.Pairwise fun a b => a.name < b.name

theorem putGo_true (x : FV) : ∀ l : List FV, putGo x true l = l.filter fun y => y.name != x.name
  | [] => by simp [putGo]
  | y :: r => by
    have ih := putGo_true x r
    cases hl : (y.name != x.name) <;> simp [putGo, hl, ih]

theorem leB_iff {a b : List UInt8} : leB a b = true ↔ a ≤ b := by simp [leB]

theorem rises_put {l : List FV} (h : Rises l) (x : FV) : Rises (putR l x) := by
  unfold putR
  induction l with
  | nil => simp [putGo, Rises]
  | cons y r ih =>
    obtain ⟨h1, h2⟩ := List.pairwise_cons.1 h
    cases hl : leB x.name y.name with
    | true =>
      have hle := leB_iff.1 hl
      have e : putGo x false (y :: r) = x :: (y :: r).filter fun z => z.name != x.name := by
        simp [putGo, hl, putGo_true]
        by_cases hn : y.name = x.name <;> simp [hn]
      rw [e]
      refine List.pairwise_cons.2 ⟨fun z hz => ?_, List.Pairwise.filter _ h⟩
      obtain ⟨hz1, hz2⟩ := List.mem_filter.1 hz
      have hzn : z.name ≠ x.name := by simpa using hz2
      have hyz : y.name ≤ z.name := by
        rcases List.mem_cons.1 hz1 with rfl | hz1
        · exact List.le_refl _
        · exact List.le_of_lt (h1 z hz1)
      exact Std.lt_of_le_of_ne (List.le_trans hle hyz) (fun e => hzn e.symm)
    | false =>
      have hlt : y.name < x.name := by
        have : ¬ x.name ≤ y.name := fun hh => by rw [leB_iff.2 hh] at hl; cases hl
        exact List.not_le.1 this
      have hyn : y.name ≠ x.name := fun e => by rw [e] at hlt; exact List.lt_irrefl _ hlt
      have e : putGo x false (y :: r) = y :: putGo x false r := by simp [putGo, hl, hyn]
      rw [e]
      refine List.pairwise_cons.2 ⟨fun z hz => ?_, ih h2⟩
      rcases putGo_mem x _ r z hz with ⟨rfl, _⟩ | ⟨hz, _⟩
      · exact hlt
      · exact h1 z hz

/-- A map of files and a rising list of them: the same. -/
structure Twin (fs : List (List UInt8 × FileR)) (l : List FV) : Prop where
  rises : Rises l
  keys : (fs.map Prod.fst).Nodup
  has : ∀ x ∈ l, 0 ≤ x.kept ∧ lookF fs x.name = some ⟨x.data, x.kept.toNat⟩
  all : ∀ n ∈ fs.map Prod.fst, n ∈ l.map FV.name

theorem twin_nil : Twin [] [] := ⟨List.Pairwise.nil, by simp, by simp, by simp⟩

theorem lookF_put (fs : List (List UInt8 × FileR)) (k n : List UInt8) (f : FileR) : lookF (putF fs k f) n = if n = k then some f else lookF fs n := by
  induction fs with
  | nil =>
    by_cases h : n = k
    · subst h; simp [putF, lookF]
    · have h' : ¬ k = n := fun e => h e.symm
      simp [putF, lookF, h, h']
  | cons p r ih =>
    unfold putF
    by_cases hp : p.1 = k
    · have hb : (p.1 == k) = true := by simp [hp]
      rw [hb, if_pos rfl]
      by_cases h : n = k
      · subst h; simp [lookF]
      · have h' : ¬ k = n := fun e => h e.symm
        have h'' : ¬ p.1 = n := fun e => h (by rw [← e, hp])
        simp [lookF, h, h', hp]
    · have hb : (p.1 == k) = false := by simp [hp]
      rw [hb, if_neg (by decide)]
      by_cases hq : p.1 = n
      · have : ¬ n = k := fun e => hp (hq.trans e)
        simp [lookF, hq, this]
      · have e : ∀ l : List (List UInt8 × FileR), lookF (p :: l) n = lookF l n := fun l => by simp [lookF, hq]
        rw [e, e, ih]
theorem putF_keys_mem (fs : List (List UInt8 × FileR)) (k n : List UInt8) (f : FileR) : n ∈ (putF fs k f).map Prod.fst ↔ n = k ∨ n ∈ fs.map Prod.fst := by
  induction fs with
  | nil => simp [putF]
  | cons p r ih =>
    unfold putF
    by_cases hp : p.1 = k
    · have hb : (p.1 == k) = true := by simp [hp]
      rw [hb, if_pos rfl]
      simp only [List.map_cons, List.mem_cons, hp]
      constructor
      · rintro (h | h)
        · exact .inl h
        · exact .inr (.inr h)
      · rintro (h | h | h)
        · exact .inl h
        · exact .inl h
        · exact .inr h
    · have hb : (p.1 == k) = false := by simp [hp]
      rw [hb, if_neg (by decide)]
      simp only [List.map_cons, List.mem_cons, ih]
      constructor
      · rintro (h | h | h)
        · exact .inr (.inl h)
        · exact .inl h
        · exact .inr (.inr h)
      · rintro (h | h | h)
        · exact .inr (.inl h)
        · exact .inl h
        · exact .inr (.inr h)
theorem putF_nodup {fs : List (List UInt8 × FileR)} (h : (fs.map Prod.fst).Nodup) (k : List UInt8) (f : FileR) : ((putF fs k f).map Prod.fst).Nodup := by
  induction fs with
  | nil => simp [putF]
  | cons p r ih =>
    obtain ⟨h1, h2⟩ := List.nodup_cons.1 h
    unfold putF
    by_cases hp : p.1 = k
    · have hb : (p.1 == k) = true := by simp [hp]
      rw [hb, if_pos rfl]
      exact List.nodup_cons.2 ⟨by rw [← hp]; exact h1, h2⟩
    · have hb : (p.1 == k) = false := by simp [hp]
      rw [hb, if_neg (by decide)]
      refine List.nodup_cons.2 ⟨fun hm => ?_, ih h2⟩
      rcases (putF_keys_mem r k p.1 f).1 hm with h | h
      · exact hp h
      · exact h1 h

theorem twin_put {fs : List (List UInt8 × FileR)} {l : List FV} (h : Twin fs l) (x : FV) (hx : 0 ≤ x.kept) : Twin (putF fs x.name ⟨x.data, x.kept.toNat⟩) (putR l x) := by
  refine ⟨rises_put h.rises x, putF_nodup h.keys _ _, fun z hz => ?_, fun n hn => ?_⟩
  · rcases putGo_mem x _ l z hz with ⟨rfl, _⟩ | ⟨hz, hn⟩
    · exact ⟨hx, by rw [lookF_put, if_pos rfl]⟩
    · exact ⟨(h.has z hz).1, by rw [lookF_put, if_neg hn]; exact (h.has z hz).2⟩
  · rcases (putF_keys_mem _ _ _ _).1 hn with rfl | hn
    · exact List.mem_map.2 ⟨x, putGo_new x l, rfl⟩
    · obtain ⟨z, hz, rfl⟩ := List.mem_map.1 (h.all n hn)
      by_cases hzx : z.name = x.name
      · exact List.mem_map.2 ⟨x, putGo_new x l, hzx.symm⟩
      · exact List.mem_map.2 ⟨z, putGo_keep x _ l z hz hzx, rfl⟩

/-- What Image tells. -/
def imageOf (fs : List (List UInt8 × FileR)) : List FT := (namesOf fs).map fun n => (n, ((lookF fs n).getD ⟨[], 0⟩).data, ((lookF fs n).getD ⟨[], 0⟩).kept)

theorem rises_nodup {l : List FV} (h : Rises l) : (l.map FV.name).Nodup :=
  List.pairwise_map.2 (h.imp fun {a b} hab e => by rw [e] at hab; exact List.lt_irrefl _ hab)
theorem twin_names {fs : List (List UInt8 × FileR)} {l : List FV} (h : Twin fs l) : (fs.map Prod.fst).Perm (l.map FV.name) := by
  refine (List.perm_ext_iff_of_nodup h.keys (rises_nodup h.rises)).2 fun n => ⟨h.all n, fun hn => ?_⟩
  obtain ⟨x, hx, rfl⟩ := List.mem_map.1 hn
  exact List.mem_map.2 ⟨_, lookF_mem (h.has x hx).2, rfl⟩
theorem twin_length {fs : List (List UInt8 × FileR)} {l : List FV} (h : Twin fs l) : fs.length = l.length := by simpa using (twin_names h).length_eq
theorem twin_namesOf {fs : List (List UInt8 × FileR)} {l : List FV} (h : Twin fs l) : namesOf fs = l.map FV.name := by
  have e1 : namesOf fs = (l.map FV.name).mergeSort leB := mergeSort_of_perm (twin_names h)
  rw [e1]
  refine List.mergeSort_of_pairwise (List.pairwise_map.2 (h.rises.imp fun {a b} hab => ?_))
  exact leB_iff.2 (List.le_of_lt hab)
theorem twin_image {fs : List (List UInt8 × FileR)} {l : List FV} (h : Twin fs l) : imageOf fs = l.map FV.file := by
  unfold imageOf
  rw [twin_namesOf h, List.map_map]
  refine List.map_congr_left fun x hx => ?_
  obtain ⟨h1, h2⟩ := h.has x hx
  simp only [Function.comp_apply, h2, Option.getD_some, FV.file]
  rw [Int.toNat_of_nonneg h1]

end Go.Proofs.Ytdgjcmjbkmgohaa
