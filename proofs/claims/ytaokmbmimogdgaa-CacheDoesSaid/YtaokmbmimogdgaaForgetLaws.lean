/- Nothing is known for ever: how many ticks a place has left. -/
import Derived.Test.YtaokmbmimogdgaaCacheCalls
namespace Go.Proofs.Ytaokmbmimogdgaa

def Due (c : Cf) (now : Int) (l : List One) : Prop := ∀ x ∈ l, now < x.since + waitOf c x
def pot (c : Cf) (now : Int) (x : One) : Int := x.since + waitOf c x - now + (if x.known then 0 else (if x.tries < c.tries then c.tries - x.tries else 0) * waitOf c x)
def Pot (c : Cf) (now p : Int) (l : List One) : Prop := ∀ x ∈ l, pot c now x ≤ p
def Small (c : Cf) : Prop := 0 ≤ c.age ∧ c.age ≤ 20 ∧ 0 ≤ c.retry ∧ c.retry ≤ 9 ∧ 0 ≤ c.tries ∧ c.tries ≤ 5

theorem waitOf_pos (c : Cf) (x : One) : 1 ≤ waitOf c x := by
  unfold waitOf clamp
  split <;> (repeat' split) <;> omega
theorem waitOf_small {c : Cf} (h : Small c) (x : One) : waitOf c x ≤ 20 ∧ (x.known = false → waitOf c x ≤ 9) := by
  obtain ⟨h1, h2, h3, h4, _⟩ := h
  unfold waitOf clamp
  cases x.known <;> simp <;> (repeat' split) <;> omega
theorem mulTerm {a w : Int} (ha : 0 ≤ a) (h4 : a ≤ 4) (hw0 : 0 ≤ w) (hw : w ≤ 9) : a * w ≤ 36 := by
  have : a * w ≤ 4 * 9 := Int.mul_le_mul h4 hw hw0 (by omega)
  omega

section
variable {c : Cf} {now p : Int} {l : List One}
theorem due_nil : Due c now [] := fun x h => by simp at h
theorem pot_nil : Pot c now p [] := fun x h => by simp at h
theorem due_fresh {x : One} (h : x.since = now) : now < x.since + waitOf c x := by have := waitOf_pos c x; omega
theorem pot_fresh (hc : Small c) {x : One} (h : x.since = now) (ht : x.known = true ∨ x.tries = 1) : pot c now x ≤ 50 := by
  have hw := waitOf_small hc x
  have hp := waitOf_pos c x
  obtain ⟨_, _, _, _, h5, h6⟩ := hc
  unfold pot
  cases hk : x.known with
  | true => simp; omega
  | false =>
    rcases ht with e | e
    · rw [hk] at e; cases e
    · have h9 := hw.2 hk
      simp only [Bool.false_eq_true, if_false]
      rw [e]
      by_cases hlt : (1 : Int) < c.tries
      · rw [if_pos hlt]
        have := mulTerm (a := c.tries - 1) (w := waitOf c x) (by omega) (by omega) (by omega) h9
        omega
      · rw [if_neg hlt]; omega
theorem addWait_pot (b : List Int) (x : One) : pot c now (addWait b x) = pot c now x ∧ waitOf c (addWait b x) = waitOf c x ∧ (addWait b x).since = x.since := ⟨rfl, rfl, rfl⟩
theorem due_want (hd : Due c now l) (n k : Int) (b : List Int) : Due c now (want c now l n k b).2 := by
  unfold want
  cases hf : find n k l with
  | some i =>
    obtain ⟨x, hi, hk⟩ := find_some hf
    simp only [hi]
    split
    · exact hd
    · split
      · exact hd
      · rw [modify_eq_set hi]
        intro y hy
        rcases List.mem_or_eq_of_mem_set hy with hy | rfl
        · exact hd y hy
        · exact hd x (List.mem_of_getElem? hi)
  | none =>
    simp only
    split
    · exact hd
    · split
      · exact hd
      · intro y hy
        rcases put_mem.1 hy with rfl | hy
        · exact due_fresh rfl
        · exact hd y hy
theorem pot_want (hc : Small c) (hd : Pot c now 50 l) (n k : Int) (b : List Int) : Pot c now 50 (want c now l n k b).2 := by
  unfold want
  cases hf : find n k l with
  | some i =>
    obtain ⟨x, hi, hk⟩ := find_some hf
    simp only [hi]
    split
    · exact hd
    · split
      · exact hd
      · rw [modify_eq_set hi]
        intro y hy
        rcases List.mem_or_eq_of_mem_set hy with hy | rfl
        · exact hd y hy
        · exact hd x (List.mem_of_getElem? hi)
  | none =>
    simp only
    split
    · exact hd
    · split
      · exact hd
      · intro y hy
        rcases put_mem.1 hy with rfl | hy
        · exact pot_fresh hc rfl (.inr rfl)
        · exact hd y hy
theorem due_learn (hd : Due c now l) (n k : Int) (m : Mac) (add : Bool) : Due c now (learn c now l n k m add).2 := by
  have hp : ∀ l', (∀ y ∈ l', y ∈ l) → Due c now (put (newKnown now n k m) l') := by
    intro l' hs y hy
    rcases put_mem.1 hy with rfl | hy
    · exact due_fresh rfl
    · exact hd y (hs y hy)
  unfold learn
  cases hf : find n k l with
  | some i => exact hp _ (fun y hy => (List.eraseIdx_sublist _ _).subset hy)
  | none =>
    simp only
    split
    · exact hd
    · split
      · exact hd
      · exact hp l (fun _ h => h)
theorem pot_learn (hc : Small c) (hd : Pot c now 50 l) (n k : Int) (m : Mac) (add : Bool) : Pot c now 50 (learn c now l n k m add).2 := by
  have hp : ∀ l', (∀ y ∈ l', y ∈ l) → Pot c now 50 (put (newKnown now n k m) l') := by
    intro l' hs y hy
    rcases put_mem.1 hy with rfl | hy
    · exact pot_fresh hc rfl (.inl rfl)
    · exact hd y (hs y hy)
  unfold learn
  cases hf : find n k l with
  | some i => exact hp _ (fun y hy => (List.eraseIdx_sublist _ _).subset hy)
  | none =>
    simp only
    split
    · exact hd
    · split
      · exact hd
      · exact hp l (fun _ h => h)
theorem tickRow_cases {x : One} : ∀ {l : List One}, x ∈ tickRow c now l → ∃ y ∈ l, (fate c now y = .keep ∧ x = y) ∨ (fate c now y = .ask ∧ x = asked now y)
  | [], h => by simp [tickRow] at h
  | y :: l, h => by
    have ih : x ∈ tickRow c now l → ∃ z ∈ y :: l, (fate c now z = .keep ∧ x = z) ∨ (fate c now z = .ask ∧ x = asked now z) := fun h => by obtain ⟨z, hz, e⟩ := tickRow_cases h; exact ⟨z, List.mem_cons_of_mem _ hz, e⟩
    simp only [tickRow] at h
    cases hx : fate c now y with
    | keep => rw [hx] at h; rcases List.mem_cons.1 h with rfl | h; exact ⟨_, List.mem_cons_self, .inl ⟨hx, rfl⟩⟩; exact ih h
    | ask => rw [hx] at h; rcases List.mem_cons.1 h with rfl | h; exact ⟨_, List.mem_cons_self, .inr ⟨hx, rfl⟩⟩; exact ih h
    | drop => rw [hx] at h; exact ih h
theorem due_tick : Due c now (tickRow c now l) := by
  intro x hx
  obtain ⟨y, _, ⟨h, rfl⟩ | ⟨h, rfl⟩⟩ := tickRow_cases hx
  · have := fate_keep.1 h; unfold dueOf at this; omega
  · exact due_fresh rfl
theorem pot_tick (hd : Due c now l) (hp : Pot c now p l) : Pot c (now + 1) (p - 1) (tickRow c (now + 1) l) := by
  intro x hx
  obtain ⟨y, hy, ⟨h, rfl⟩ | ⟨h, rfl⟩⟩ := tickRow_cases hx
  · have := hp _ hy; unfold pot at this ⊢; omega
  · have h1 := hp y hy
    have h2 := hd y hy
    obtain ⟨_, hk, ht⟩ := fate_ask.1 h
    have hw : waitOf c (asked (now + 1) y) = waitOf c y := rfl
    unfold pot at h1 ⊢
    rw [hw]
    simp only [asked, hk, Bool.false_eq_true, if_false] at h1 ⊢
    rw [if_pos ht] at h1
    have e : (c.tries - y.tries) * waitOf c y = (c.tries - (y.tries + 1)) * waitOf c y + waitOf c y := by
      have : c.tries - y.tries = (c.tries - (y.tries + 1)) + 1 := by omega
      rw [this, Int.add_mul, Int.one_mul]
    by_cases h3 : y.tries + 1 < c.tries
    · rw [if_pos h3]; omega
    · rw [if_neg h3]
      have : c.tries - (y.tries + 1) = 0 := by omega
      rw [this] at e
      omega
theorem pot_zero (hd : Due c now l) (hp : Pot c now p l) (h0 : p ≤ 0) : l = [] := by
  cases l with
  | nil => rfl
  | cons x l =>
    have h1 := hd x List.mem_cons_self
    have h2 := hp x List.mem_cons_self
    have hw := waitOf_pos c x
    unfold pot at h2
    split at h2
    · omega
    · split at h2
      · have : 0 ≤ (c.tries - x.tries) * waitOf c x := Int.mul_nonneg (by omega) (by omega)
        omega
      · omega
end

end Go.Proofs.Ytaokmbmimogdgaa
