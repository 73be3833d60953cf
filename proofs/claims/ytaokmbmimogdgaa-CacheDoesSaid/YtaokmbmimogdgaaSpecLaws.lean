/- Plain laws of the row of places: order, search, what permutations keep. No program in sight. -/
import Derived.Test.YtaokmbmimogdgaaSpec
namespace Go.Proofs.Ytaokmbmimogdgaa

def Lt (x y : One) : Prop := before x.nic x.nxt y.nic y.nxt = true
def Sorted (l : List One) : Prop := l.Pairwise Lt
def key (x : One) : Int × Int := (x.nic, x.nxt)

theorem before_iff {a b c d : Int} : before a b c d = true ↔ a < c ∨ (a = c ∧ b < d) := by
  unfold before; simp
theorem Lt.trans {x y z : One} (h : Lt x y) (k : Lt y z) : Lt x z := by
  unfold Lt at *; rw [before_iff] at *; omega
theorem Lt.ne {x y : One} (h : Lt x y) : key x ≠ key y := by
  unfold Lt at h; rw [before_iff] at h
  intro e; simp [key] at e; omega
theorem is_iff {x : One} {n k : Int} : x.is n k = true ↔ key x = (n, k) := by
  unfold One.is key; simp

theorem Sorted.keys {l : List One} (h : Sorted l) : (l.map key).Nodup := by
  unfold Sorted at h
  rw [List.Nodup, List.pairwise_map]
  exact h.imp Lt.ne
theorem put_perm (x : One) : ∀ l, (put x l).Perm (x :: l)
  | [] => List.Perm.refl _
  | y :: r => by
    unfold put
    split
    · exact List.Perm.refl _
    · exact ((put_perm x r).cons y).trans (List.Perm.swap _ _ _)
theorem put_sorted {x : One} : ∀ {l : List One}, Sorted l → (∀ y ∈ l, key y ≠ key x) → Sorted (put x l)
  | [], _, _ => by simp [put, Sorted]
  | y :: r, h, hn => by
    unfold put
    unfold Sorted at h ⊢
    rw [List.pairwise_cons] at h
    split
    · rename_i hb
      rw [List.pairwise_cons]
      refine ⟨?_, List.pairwise_cons.2 h⟩
      intro z hz
      rcases List.mem_cons.1 hz with rfl | hz
      · exact hb
      · exact Lt.trans (y := y) hb (h.1 z hz)
    · rename_i hb
      have hy : Lt y x := by
        have := hn y (by simp)
        unfold Lt
        simp only [Bool.not_eq_true] at hb
        rw [before_iff]
        have hb' : ¬ (before x.nic x.nxt y.nic y.nxt = true) := by simp [hb]
        rw [before_iff] at hb'
        simp only [key, ne_eq, Prod.mk.injEq, not_and] at this
        by_cases e : y.nic = x.nic
        · have := this e; omega
        · omega
      rw [List.pairwise_cons]
      refine ⟨?_, put_sorted h.2 (fun z hz => hn z (by simp [hz]))⟩
      intro z hz
      rcases List.mem_cons.1 ((put_perm x r).subset hz) with rfl | hz
      · exact hy
      · exact h.1 z hz
theorem total_perm {l m : List One} (h : l.Perm m) : total l = total m := by
  induction h with
  | nil => rfl
  | cons x _ ih => simp [total, ih]
  | swap x y l => simp [total]; omega
  | trans _ _ h1 h2 => exact h1.trans h2
theorem total_append (l m : List One) : total (l ++ m) = total l + total m := by
  induction l with
  | nil => simp [total]
  | cons x l ih => simp [total, ih]; omega
theorem find_some {n k : Int} {l : List One} {i : Nat} (h : find n k l = some i) : ∃ x, l[i]? = some x ∧ key x = (n, k) := by
  obtain ⟨hi, hp, _⟩ := List.findIdx?_eq_some_iff_getElem.1 h
  exact ⟨l[i], List.getElem?_eq_getElem hi, is_iff.1 hp⟩
theorem find_none {n k : Int} {l : List One} (h : find n k l = none) : ∀ x ∈ l, key x ≠ (n, k) := by
  intro x hx e
  have := List.findIdx?_eq_none_iff.1 h x hx
  rw [is_iff.2 e] at this; simp at this
theorem find_of_mem {n k : Int} {l : List One} {x : One} (hs : Sorted l) (hx : x ∈ l) (hk : key x = (n, k)) : ∃ i, find n k l = some i ∧ l[i]? = some x := by
  cases hf : find n k l with
  | none => exact absurd hk (find_none hf x hx)
  | some i =>
    obtain ⟨y, hy, hky⟩ := find_some hf
    refine ⟨i, rfl, ?_⟩
    obtain ⟨j, hj⟩ := List.getElem?_of_mem hx
    have hn := hs.keys
    have h1 : (l.map key)[i]? = some (n, k) := by simp [List.getElem?_map, hy, hky]
    have h2 : (l.map key)[j]? = some (n, k) := by simp [List.getElem?_map, hj, hk]
    have hi' := (List.getElem?_eq_some_iff.1 h1).1
    have hj' := (List.getElem?_eq_some_iff.1 h2).1
    have : i = j := (List.getElem_inj (h₀ := hi') (h₁ := hj') hn).1 (by
      rw [← Option.some_inj, ← List.getElem?_eq_getElem hi', ← List.getElem?_eq_getElem hj', h1, h2])
    subst this
    exact hj
theorem erase_perm {α : Type} {x : α} : ∀ {l : List α} {i : Nat}, l[i]? = some x → l.Perm (x :: l.eraseIdx i)
  | [], i, h => by simp at h
  | a :: l, 0, h => by simp at h; subst h; simp
  | a :: l, i + 1, h => by
    have ih := erase_perm (l := l) (i := i) (by simpa using h)
    exact (ih.cons a).trans (List.Perm.swap _ _ _)
theorem set_perm {α : Type} (y : α) : ∀ {l : List α} {i : Nat}, i < l.length → (l.set i y).Perm (y :: l.eraseIdx i)
  | [], i, h => by simp at h
  | a :: l, 0, h => by simp
  | a :: l, i + 1, h => by
    have ih := set_perm y (l := l) (i := i) (by simpa using h)
    exact (ih.cons a).trans (List.Perm.swap _ _ _)
theorem perm_erase {α : Type} {l m : List α} {i j : Nat} {x : α} (h : l.Perm m) (hi : l[i]? = some x) (hj : m[j]? = some x) : (l.eraseIdx i).Perm (m.eraseIdx j) :=
  (List.perm_cons x).1 ((erase_perm hi).symm.trans (h.trans (erase_perm hj)))
theorem perm_set {α : Type} {l m : List α} {i j : Nat} {x : α} (h : l.Perm m) (hi : l[i]? = some x) (hj : m[j]? = some x) (y : α) : (l.set i y).Perm (m.set j y) :=
  (set_perm y (List.getElem?_eq_some_iff.1 hi).1).trans (((perm_erase h hi hj).cons y).trans (set_perm y (List.getElem?_eq_some_iff.1 hj).1).symm)
theorem total_erase {l : List One} {i : Nat} {x : One} (hi : l[i]? = some x) : total l = x.waits.length + total (l.eraseIdx i) := by
  rw [total_perm (erase_perm hi)]; rfl
theorem sorted_erase {l : List One} (h : Sorted l) (i : Nat) : Sorted (l.eraseIdx i) := h.sublist (List.eraseIdx_sublist _ _)
theorem modify_eq_set {α : Type} {l : List α} {i : Nat} {x : α} (hi : l[i]? = some x) (f : α → α) : l.modify i f = l.set i (f x) := by
  apply List.ext_getElem?
  intro k
  rw [List.getElem?_modify, List.getElem?_set]
  obtain ⟨hil, hx⟩ := List.getElem?_eq_some_iff.1 hi
  by_cases hk : i = k
  · subst hk; simp [hil, hx]
  · simp [hk]
theorem sorted_keys {l m : List One} (h : Sorted l) (hk : m.map key = l.map key) : Sorted m := by
  unfold Sorted at *
  have : (l.map key).Pairwise (fun a b => before a.1 a.2 b.1 b.2 = true) := List.pairwise_map.2 h
  rw [← hk] at this
  exact (List.pairwise_map (f := key)).1 this
theorem set_keys {l : List One} {i : Nat} {x y : One} (hi : l[i]? = some x) (hk : key y = key x) : (l.set i y).map key = l.map key := by
  apply List.ext_getElem?
  intro k
  rw [List.getElem?_map, List.getElem?_map, List.getElem?_set]
  obtain ⟨hil, hx⟩ := List.getElem?_eq_some_iff.1 hi
  by_cases hik : i = k
  · subst hik; simp [hil, hx, hk]
  · simp [hik]
theorem sorted_set {l : List One} {i : Nat} {x y : One} (h : Sorted l) (hi : l[i]? = some x) (hk : key y = key x) : Sorted (l.set i y) := sorted_keys h (set_keys hi hk)

end Go.Proofs.Ytaokmbmimogdgaa
