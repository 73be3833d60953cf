/- Tick, place by place: what a round does to the row and to the cache's memory. -/
import Derived.Test.YtaokmbmimogdgaaOrder
import Derived.Test.YtaokmbmimogdgaaCacheLearn2
namespace Go.Proofs.Ytaokmbmimogdgaa
open Go.RowKit Go.ChangeMaps

theorem tickRow_append (c : Cf) (now : Int) : ∀ a b, tickRow c now (a ++ b) = tickRow c now a ++ tickRow c now b
  | [], _ => rfl
  | x :: a, b => by
    simp only [List.cons_append, tickRow]
    cases fate c now x <;> simp [tickRow_append c now a b]
theorem tickAsks_append (c : Cf) (now : Int) : ∀ a b, tickAsks c now (a ++ b) = tickAsks c now a ++ tickAsks c now b
  | [], _ => rfl
  | x :: a, b => by
    simp only [List.cons_append, tickAsks]
    cases fate c now x <;> simp [tickAsks_append c now a b]
theorem tickLost_append (c : Cf) (now : Int) : ∀ a b, tickLost c now (a ++ b) = tickLost c now a + tickLost c now b
  | [], _ => by simp [tickLost]
  | x :: a, b => by
    simp only [List.cons_append, tickLost]
    cases fate c now x <;> simp [tickLost_append c now a b] <;> omega
theorem tickRow_keys (c : Cf) (now : Int) : ∀ a, ((tickRow c now a).map key).Sublist (a.map key)
  | [] => List.Sublist.refl _
  | x :: a => by
    simp only [tickRow]
    cases fate c now x
    · exact (tickRow_keys c now a).cons_cons _
    · exact (tickRow_keys c now a).cons_cons _
    · exact (tickRow_keys c now a).cons _
theorem tickAsks_length (c : Cf) (now : Int) : ∀ a, (tickAsks c now a).length ≤ a.length
  | [] => Nat.le_refl _
  | x :: a => by
    simp only [tickAsks]
    have := tickAsks_length c now a
    cases fate c now x <;> simp <;> omega
theorem sorted_iff_keys {l : List One} : Sorted l ↔ (l.map key).Pairwise (fun p q => before p.1 p.2 q.1 q.2 = true) := by
  rw [List.pairwise_map]; rfl
theorem sorted_sub {l m : List One} (h : Sorted l) (hk : (m.map key).Sublist (l.map key)) : Sorted m := sorted_iff_keys.2 ((sorted_iff_keys.1 h).sublist hk)

/-- The row when k places are done. -/
def mid (c : Cf) (now : Int) (l : List One) (k : Nat) : List One := tickRow c now (l.take k) ++ l.drop k
theorem mid_zero (c : Cf) (now : Int) (l : List One) : mid c now l 0 = l := rfl
theorem mid_all (c : Cf) (now : Int) (l : List One) : mid c now l l.length = tickRow c now l := by simp [mid]
theorem mid_sorted {l : List One} (h : Sorted l) (c : Cf) (now : Int) (k : Nat) : Sorted (mid c now l k) := by
  refine sorted_sub h ?_
  have e : l.map key = (l.take k).map key ++ (l.drop k).map key := by rw [← List.map_append, List.take_append_drop]
  rw [mid, List.map_append, e]
  exact (tickRow_keys c now _).append (List.Sublist.refl _)
theorem take_succ_one {α : Type} {l : List α} {k : Nat} {x : α} (h : l[k]? = some x) : l.take (k + 1) = l.take k ++ [x] := by
  rw [List.take_add_one, h]; rfl
theorem drop_one {α : Type} {l : List α} {k : Nat} {x : α} (h : l[k]? = some x) : l.drop k = x :: l.drop (k + 1) := by
  obtain ⟨hl, e⟩ := List.getElem?_eq_some_iff.1 h
  rw [← e]; exact List.drop_eq_getElem_cons hl

section
variable {c : Cf} {now : Int} {l : List One} {k : Nat} {x : One}
theorem mid_at (h : l[k]? = some x) : mid c now l k = tickRow c now (l.take k) ++ x :: l.drop (k + 1) := by rw [mid, drop_one h]
theorem mid_get (h : l[k]? = some x) : (mid c now l k)[(tickRow c now (l.take k)).length]? = some x := by rw [mid_at h]; simp
theorem mid_keep (h : l[k]? = some x) (hf : fate c now x = .keep) : mid c now l (k + 1) = mid c now l k := by
  rw [mid_at h, mid, take_succ_one h, tickRow_append]; simp [tickRow, hf]
theorem mid_ask (h : l[k]? = some x) (hf : fate c now x = .ask) : mid c now l (k + 1) = (mid c now l k).set (tickRow c now (l.take k)).length (asked now x) := by
  rw [mid_at h, mid, take_succ_one h, tickRow_append]; simp [tickRow, hf]
theorem mid_drop (h : l[k]? = some x) (hf : fate c now x = .drop) : mid c now l (k + 1) = (mid c now l k).eraseIdx (tickRow c now (l.take k)).length := by
  rw [mid_at h, mid, take_succ_one h, tickRow_append]
  simp [tickRow, hf, List.eraseIdx_append]
theorem asks_keep (h : l[k]? = some x) (hf : fate c now x ≠ .ask) : tickAsks c now (l.take (k + 1)) = tickAsks c now (l.take k) := by
  rw [take_succ_one h, tickAsks_append]; simp only [tickAsks]; cases hx : fate c now x <;> simp_all
theorem asks_ask (h : l[k]? = some x) (hf : fate c now x = .ask) : tickAsks c now (l.take (k + 1)) = tickAsks c now (l.take k) ++ [key x] := by
  rw [take_succ_one h, tickAsks_append]; simp [tickAsks, hf, key]
theorem lost_keep (h : l[k]? = some x) (hf : fate c now x ≠ .drop) : tickLost c now (l.take (k + 1)) = tickLost c now (l.take k) := by
  rw [take_succ_one h, tickLost_append]; simp only [tickLost]; cases hx : fate c now x <;> simp_all
theorem lost_drop (h : l[k]? = some x) (hf : fate c now x = .drop) : tickLost c now (l.take (k + 1)) = tickLost c now (l.take k) + x.waits.length := by
  rw [take_succ_one h, tickLost_append]; simp [tickLost, hf]
theorem fate_keep : fate c now x = .keep ↔ dueOf c x > now := by
  unfold fate dueOf
  by_cases h : now - x.since < waitOf c x
  · simp [h]; omega
  · rw [if_neg h]
    constructor
    · intro e; split at e <;> cases e
    · intro e; omega
theorem fate_ask : fate c now x = .ask ↔ ¬ dueOf c x > now ∧ x.known = false ∧ x.tries < c.tries := by
  unfold fate dueOf
  by_cases h : now - x.since < waitOf c x
  · rw [if_pos h]; constructor
    · intro e; cases e
    · rintro ⟨h1, _⟩; omega
  · rw [if_neg h]
    cases hk : x.known <;> simp <;> omega
theorem fate_dropK (h : ¬ dueOf c x > now) (hk : x.known = true) : fate c now x = .drop := by
  have h1 : fate c now x ≠ .keep := by rw [ne_eq, fate_keep]; exact h
  have h2 : fate c now x ≠ .ask := by rw [ne_eq, fate_ask, hk]; simp
  cases hx : fate c now x <;> simp_all
theorem fate_dropT (h : ¬ dueOf c x > now) (ht : ¬ x.tries < c.tries) : fate c now x = .drop := by
  have h1 : fate c now x ≠ .keep := by rw [ne_eq, fate_keep]; exact h
  have h2 : fate c now x ≠ .ask := by rw [ne_eq, fate_ask]; exact fun e => ht e.2.2
  cases hx : fate c now x <;> simp_all
theorem asked_due (hk : x.known = false) : dueOf c (asked now x) = now + clamp c.retry 1 4095 := by
  simp [dueOf, asked, waitOf, hk]
theorem tickLost_le (c : Cf) (now : Int) : ∀ l, tickLost c now l + total (tickRow c now l) = total l
  | [] => rfl
  | x :: l => by
    have := tickLost_le c now l
    simp only [tickLost, tickRow, total]
    cases fate c now x <;> simp [total, asked] <;> omega
end

/-- Where the map has the place that is next. -/
theorem mid_entry {c : Cf} {now : Int} {l : List One} {k : Nat} {x : One} {ents : List Ent} (hs : Sorted l) (hx : l[k]? = some x) (hp : (mid c now l k).Perm (rows ents)) :
    ∃ j t, idx (ents.map ekv) (key x) = some j ∧ ents[j]? = some t ∧ t.x = x := by
  have hm := mid_sorted hs c now k
  have hg := mid_get (c := c) (now := now) hx
  rcases idx_find hm hp x.nic x.nxt with ⟨h1, _⟩ | ⟨i, j, t, h1, h2, h3, h4, h5⟩
  · exact absurd rfl (find_none h1 x (List.mem_of_getElem? hg))
  · refine ⟨j, t, h2, h3, ?_⟩
    have e1 : ((mid c now l k).map key)[i]? = some (key x) := by rw [List.getElem?_map, h4, Option.map_some, h5]; rfl
    have e2 : ((mid c now l k).map key)[(tickRow c now (l.take k)).length]? = some (key x) := by rw [List.getElem?_map, hg]; rfl
    obtain ⟨i1, g1⟩ := List.getElem?_eq_some_iff.1 e1
    obtain ⟨i2, g2⟩ := List.getElem?_eq_some_iff.1 e2
    have : i = (tickRow c now (l.take k)).length := (List.getElem_inj hm.keys).1 (g1.trans g2.symm)
    rw [this, hg] at h4
    exact (Option.some.inj h4).symm

end Go.Proofs.Ytaokmbmimogdgaa
