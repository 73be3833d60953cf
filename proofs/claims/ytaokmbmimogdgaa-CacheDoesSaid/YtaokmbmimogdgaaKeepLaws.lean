/- Which frames wait for a place: what each deed does to them. -/
import Derived.Test.YtaokmbmimogdgaaForgetLaws
namespace Go.Proofs.Ytaokmbmimogdgaa

/-- What waits for a place. -/
def ws (l : List One) (p : Int × Int) : List (List Int) := match find p.1 p.2 l with | some i => (l[i]?.map (·.waits)).getD [] | none => []
theorem ws_mem {l : List One} {x : One} (hs : Sorted l) (hx : x ∈ l) : ws l (key x) = x.waits := by
  obtain ⟨i, h1, h2⟩ := find_of_mem hs hx rfl
  have h1' : find (key x).1 (key x).2 l = some i := h1
  unfold ws
  rw [h1']
  simp [h2]
theorem ws_none {l : List One} {p : Int × Int} (h : ∀ x ∈ l, key x ≠ p) : ws l p = [] := by
  unfold ws
  cases hf : find p.1 p.2 l with
  | none => rfl
  | some i =>
    obtain ⟨x, hi, hk⟩ := find_some hf
    exact absurd hk (h x (List.mem_of_getElem? hi))
theorem ws_at {l : List One} {n k : Int} {i : Nat} {x : One} (hf : find n k l = some i) (hi : l[i]? = some x) : ws l (n, k) = x.waits := by
  unfold ws
  simp only [hf, hi]; rfl
theorem ws_find_none {l : List One} {n k : Int} (hf : find n k l = none) : ws l (n, k) = [] := by
  unfold ws
  simp only [hf]
theorem ws_le (l : List One) (p : Int × Int) : (ws l p).length ≤ total l := by
  unfold ws
  cases find p.1 p.2 l with
  | none => simp
  | some i =>
    simp only
    cases hi : l[i]? with
    | none => simp
    | some x =>
      have h1 := total_erase hi
      simp only [Option.map_some, Option.getD_some]
      omega
/-- Two rows that hold the same places with the same frames. -/
theorem ws_congr {l m : List One} (hl : Sorted l) (hm : Sorted m) (p : Int × Int) (h1 : ∀ x ∈ l, key x = p → (∃ y ∈ m, key y = p ∧ y.waits = x.waits) ∨ (x.waits = [] ∧ ∀ y ∈ m, key y ≠ p)) (h2 : ∀ y ∈ m, key y = p → (∃ x ∈ l, key x = p) ∨ y.waits = []) : ws m p = ws l p := by
  by_cases hx : ∃ x ∈ l, key x = p
  · obtain ⟨x, hx, rfl⟩ := hx
    rw [ws_mem hl hx]
    rcases h1 x hx rfl with ⟨y, hy, hk, hw⟩ | ⟨hw, hn⟩
    · rw [← hk, ws_mem hm hy, hw]
    · rw [ws_none hn, hw]
  · have hx' : ∀ x ∈ l, key x ≠ p := fun x h e => hx ⟨x, h, e⟩
    rw [ws_none hx']
    by_cases hy : ∃ y ∈ m, key y = p
    · obtain ⟨y, hy, rfl⟩ := hy
      rcases h2 y hy rfl with h | h
      · exact absurd h hx
      · rw [ws_mem hm hy, h]
    · exact ws_none (fun y h e => hy ⟨y, h, e⟩)

theorem one_of_key {l : List One} {x y : One} (hs : Sorted l) (hx : x ∈ l) (hy : y ∈ l) (hk : key x = key y) : x = y := by
  obtain ⟨i, h1, h2⟩ := find_of_mem hs hx rfl
  obtain ⟨j, h3, h4⟩ := find_of_mem hs hy rfl
  have e1 : (key x).1 = (key y).1 := by rw [hk]
  have e2 : (key x).2 = (key y).2 := by rw [hk]
  have h1' : find (key x).1 (key x).2 l = some i := h1
  have h3' : find (key y).1 (key y).2 l = some j := h3
  rw [e1, e2, h3'] at h1'
  cases h1'
  rw [h2] at h4
  exact Option.some.inj h4

structure Inv (c : Cf) (l : List One) : Prop where
  kw : ∀ x ∈ l, x.known = true ↔ x.waits = []
  q : total l = 0 ∨ (total l : Int) ≤ c.queue
  len : l = [] ∨ (l.length : Int) ≤ c.cache

theorem Inv.new (c : Cf) : Inv c [] := ⟨by simp, .inl rfl, .inl rfl⟩

section
variable {c : Cf} {now : Int} {l : List One}
theorem set_mem {i : Nat} {x y z : One} (hs : Sorted l) (hi : l[i]? = some x) (hk : key y = key x) : z ∈ l.set i y ↔ z = y ∨ (z ∈ l ∧ key z ≠ key x) := by
  have hp := set_perm y (List.getElem?_eq_some_iff.1 hi).1
  have he := erase_perm hi
  have hn := hs.keys
  rw [(he.map key).nodup_iff, List.map_cons, List.nodup_cons] at hn
  rw [hp.mem_iff, List.mem_cons]
  constructor
  · rintro (h | h)
    · exact .inl h
    · exact .inr ⟨(List.eraseIdx_sublist _ _).subset h, fun e => hn.1 (List.mem_map.2 ⟨z, h, e⟩)⟩
  · rintro (h | ⟨h, hne⟩)
    · exact .inl h
    · rcases List.mem_cons.1 (he.subset h) with rfl | h
      · exact absurd rfl hne
      · exact .inr h
theorem erase_mem {i : Nat} {x z : One} (hs : Sorted l) (hi : l[i]? = some x) : z ∈ l.eraseIdx i ↔ z ∈ l ∧ key z ≠ key x := by
  have he := erase_perm hi
  have hn := hs.keys
  rw [(he.map key).nodup_iff, List.map_cons, List.nodup_cons] at hn
  constructor
  · intro h
    exact ⟨(List.eraseIdx_sublist _ _).subset h, fun e => hn.1 (List.mem_map.2 ⟨z, h, e⟩)⟩
  · rintro ⟨h, hne⟩
    rcases List.mem_cons.1 (he.subset h) with rfl | h
    · exact absurd rfl hne
    · exact h

/-- A frame that is taken waits behind the others; asked is just where none waited. -/
theorem want_keeps (hs : Sorted l) (hi : Inv c l) (n k : Int) (b : List Int) :
    (∃ e, e ≠ 0 ∧ (want c now l n k b).1 = (false, e) ∧ (want c now l n k b).2 = l) ∨
    ((want c now l n k b).1 = (decide (ws l (n, k) = []), 0) ∧ Inv c (want c now l n k b).2 ∧ total (want c now l n k b).2 = total l + 1 ∧ ∀ p, ws (want c now l n k b).2 p = if p = (n, k) then ws l (n, k) ++ [b] else ws l p) := by
  unfold want
  cases hf : find n k l with
  | some i =>
    obtain ⟨x, hx, hk⟩ := find_some hf
    have hxm := List.mem_of_getElem? hx
    simp only [hx, Option.map_some, Option.getD_some]
    cases hkn : x.known with
    | true => left; exact ⟨10, by decide, by simp, by simp⟩
    | false =>
      simp only [Bool.false_eq_true, if_false]
      by_cases hq : c.queue ≤ (total l : Int)
      · left; rw [if_pos hq]; exact ⟨7, by decide, rfl, rfl⟩
      · right
        rw [if_neg hq, modify_eq_set hx]
        have hne : x.waits ≠ [] := fun e => by have := (hi.kw x hxm).2 e; rw [hkn] at this; cases this
        have hw := ws_at hf hx
        have hso : Sorted (l.set i (addWait b x)) := sorted_set hs hx rfl
        refine ⟨by simp [hw, hne], ⟨?_, ?_, ?_⟩, total_modify b hx, ?_⟩
        · intro y hy
          rcases (set_mem (y := addWait b x) hs hx rfl).1 hy with rfl | ⟨hy, _⟩
          · simp [addWait, hkn]
          · exact hi.kw y hy
        · right; rw [total_modify b hx]; omega
        · rcases hi.len with h | h
          · subst h; simp at hx
          · right; simpa using h
        · intro p
          by_cases hp : p = (n, k)
          · subst hp
            rw [if_pos rfl, hw]
            have : ws (l.set i (addWait b x)) (key (addWait b x)) = (addWait b x).waits := ws_mem hso ((set_mem (y := addWait b x) hs hx rfl).2 (.inl rfl))
            rw [show key (addWait b x) = (n, k) from hk] at this
            exact this
          · rw [if_neg hp]
            refine ws_congr hs hso p ?_ ?_
            · intro z hz hzk
              exact .inl ⟨z, (set_mem (y := addWait b x) hs hx rfl).2 (.inr ⟨hz, by rw [hzk, hk]; exact hp⟩), hzk, rfl⟩
            · intro z hz hzk
              rcases (set_mem (y := addWait b x) hs hx rfl).1 hz with rfl | ⟨hz, _⟩
              · exact absurd (hzk.symm.trans hk) hp
              · exact .inl ⟨z, hz, hzk⟩
  | none =>
    simp only
    by_cases hq : c.queue ≤ (total l : Int)
    · left; rw [if_pos hq]; exact ⟨7, by decide, rfl, rfl⟩
    · rw [if_neg hq]
      by_cases hc : c.cache ≤ (l.length : Int)
      · left; rw [if_pos hc]; exact ⟨7, by decide, rfl, rfl⟩
      · right
        rw [if_neg hc]
        have hw := ws_find_none hf
        have hso : Sorted (put (newAsk now n k b) l) := put_sorted_find hs rfl hf
        refine ⟨by simp [hw], ⟨?_, ?_, ?_⟩, by rw [put_total]; simp [newAsk]; omega, ?_⟩
        · intro y hy
          rcases put_mem.1 hy with rfl | hy
          · simp [newAsk]
          · exact hi.kw y hy
        · right; rw [put_total]; simp [newAsk]; omega
        · right; rw [put_length]; omega
        · intro p
          by_cases hp : p = (n, k)
          · subst hp
            rw [if_pos rfl, hw]
            exact ws_mem hso (put_mem.2 (.inl rfl))
          · rw [if_neg hp]
            refine ws_congr hs hso p ?_ ?_
            · intro z hz hzk
              exact .inl ⟨z, put_mem.2 (.inr hz), hzk, rfl⟩
            · intro z hz hzk
              rcases put_mem.1 hz with rfl | hz
              · exact absurd hzk.symm hp
              · exact .inl ⟨z, hz, hzk⟩

/-- What is learnt tells all that waited; nothing waits then. -/
theorem learn_keeps (hs : Sorted l) (hi : Inv c l) (n k : Int) (m : Mac) (add : Bool) :
    ((learn c now l n k m add).1 = ([], false) ∧ (learn c now l n k m add).2 = l) ∨
    ((learn c now l n k m add).1 = (ws l (n, k), true) ∧ Inv c (learn c now l n k m add).2 ∧ total (learn c now l n k m add).2 + (ws l (n, k)).length = total l ∧ ∀ p, ws (learn c now l n k m add).2 p = if p = (n, k) then [] else ws l p) := by
  have key2 : ∀ l' : List One, Sorted l' → (∀ z, z ∈ l' ↔ z ∈ l ∧ key z ≠ (n, k)) → ∀ p, ws (put (newKnown now n k m) l') p = if p = (n, k) then [] else ws l p := by
    intro l' hs' hmem p
    have hso : Sorted (put (newKnown now n k m) l') := put_sorted hs' (fun y hy => ((hmem y).1 hy).2)
    by_cases hp : p = (n, k)
    · subst hp
      rw [if_pos rfl]
      exact ws_mem hso (put_mem.2 (.inl rfl))
    · rw [if_neg hp]
      refine ws_congr hs hso p ?_ ?_
      · intro z hz hzk
        exact .inl ⟨z, put_mem.2 (.inr ((hmem z).2 ⟨hz, by rw [hzk]; exact hp⟩)), hzk, rfl⟩
      · intro z hz hzk
        rcases put_mem.1 hz with rfl | hz
        · exact absurd hzk.symm hp
        · exact .inl ⟨z, ((hmem z).1 hz).1, hzk⟩
  have kw2 : ∀ l' : List One, (∀ z ∈ l', z ∈ l) → ∀ x ∈ put (newKnown now n k m) l', x.known = true ↔ x.waits = [] := by
    intro l' hsub x hx
    rcases put_mem.1 hx with rfl | hx
    · simp [newKnown]
    · exact hi.kw x (hsub x hx)
  unfold learn
  cases hf : find n k l with
  | some i =>
    obtain ⟨x, hx, hk⟩ := find_some hf
    right
    have hw := ws_at hf hx
    have ht := total_erase hx
    simp only [hx, Option.map_some, Option.getD_some]
    refine ⟨by rw [hw], ⟨kw2 _ (fun z hz => ((erase_mem hs hx).1 hz).1), ?_, ?_⟩, ?_, key2 _ (sorted_erase hs i) (fun z => by rw [erase_mem hs hx, hk])⟩
    · rw [put_total]
      simp only [newKnown, List.length_nil, Nat.zero_add]
      rcases hi.q with h | h
      · left; omega
      · right; omega
    · right
      rcases hi.len with h | h
      · subst h; simp at hx
      · rw [put_length]
        have := (erase_perm hx).length_eq
        simp at this
        have h2 := (List.getElem?_eq_some_iff.1 hx).1
        rw [List.length_eraseIdx_of_lt h2]
        omega
    · rw [put_total, hw]; simp [newKnown]; omega
  | none =>
    simp only
    cases add with
    | false => left; simp
    | true =>
      simp only [Bool.not_true, Bool.false_eq_true, if_false]
      by_cases hc : c.cache ≤ (l.length : Int)
      · left; rw [if_pos hc]; exact ⟨rfl, rfl⟩
      · right
        rw [if_neg hc]
        have hw := ws_find_none hf
        refine ⟨by rw [hw], ⟨kw2 _ (fun z hz => hz), ?_, ?_⟩, ?_, key2 l hs (fun z => ⟨fun h => ⟨h, find_none hf z h⟩, fun h => h.1⟩)⟩
        · rw [put_total]; simpa [newKnown] using hi.q
        · right; rw [put_length]; omega
        · rw [put_total, hw]; simp [newKnown]

theorem tickAsks_mem {p : Int × Int} : ∀ {l : List One}, p ∈ tickAsks c now l → ∃ x ∈ l, key x = p ∧ fate c now x = .ask
  | [], h => by simp [tickAsks] at h
  | x :: l, h => by
    have ih : p ∈ tickAsks c now l → ∃ y ∈ x :: l, key y = p ∧ fate c now y = .ask := fun h => by obtain ⟨y, hy, e⟩ := tickAsks_mem h; exact ⟨y, List.mem_cons_of_mem _ hy, e⟩
    simp only [tickAsks] at h
    cases hx : fate c now x with
    | ask =>
      rw [hx] at h
      rcases List.mem_cons.1 h with rfl | h
      · exact ⟨x, List.mem_cons_self, rfl, hx⟩
      · exact ih h
    | keep => rw [hx] at h; exact ih h
    | drop => rw [hx] at h; exact ih h
theorem tickLost_mem : ∀ {l : List One} {x : One}, tickLost c now l = 0 → x ∈ l → fate c now x = .drop → x.waits = []
  | [], x, _, h, _ => by simp at h
  | y :: l, x, h0, h, hd => by
    simp only [tickLost] at h0
    rcases List.mem_cons.1 h with rfl | h
    · rw [hd] at h0
      exact List.length_eq_zero_iff.1 (by simp at h0; simp [h0.1])
    · cases hy : fate c now y <;> rw [hy] at h0 <;> simp at h0
      · exact tickLost_mem h0 h hd
      · exact tickLost_mem h0 h hd
      · exact tickLost_mem h0.2 h hd
theorem tickRow_has {x : One} : ∀ {l : List One}, x ∈ l → fate c now x ≠ .drop → (fate c now x = .keep ∧ x ∈ tickRow c now l) ∨ (fate c now x = .ask ∧ asked now x ∈ tickRow c now l)
  | [], h, _ => by simp at h
  | y :: l, h, hd => by
    simp only [tickRow]
    rcases List.mem_cons.1 h with rfl | h
    · cases hx : fate c now x with
      | keep => left; exact ⟨rfl, List.mem_cons_self⟩
      | ask => right; exact ⟨rfl, List.mem_cons_self⟩
      | drop => exact absurd hx hd
    · rcases tickRow_has h hd with ⟨h1, h2⟩ | ⟨h1, h2⟩
      · left; refine ⟨h1, ?_⟩; cases fate c now y <;> simp [h2]
      · right; refine ⟨h1, ?_⟩; cases fate c now y <;> simp [h2]
/-- A tick: what is asked for, something waits for; where nothing is lost all waits as it did. -/
theorem tick_keeps (hs : Sorted l) (hi : Inv c l) :
    (∀ p ∈ tickAsks c now l, ws l p ≠ []) ∧ Inv c (tickRow c now l) ∧ total (tickRow c now l) + tickLost c now l = total l ∧ (tickLost c now l = 0 → ∀ p, ws (tickRow c now l) p = ws l p) := by
  have ht := tickLost_le c now l
  have hso : Sorted (tickRow c now l) := by rw [← mid_all]; exact mid_sorted hs c now l.length
  refine ⟨?_, ⟨?_, ?_, ?_⟩, by omega, ?_⟩
  · intro p hp
    obtain ⟨x, hx, rfl, hf⟩ := tickAsks_mem hp
    rw [ws_mem hs hx]
    intro e
    have := (hi.kw x hx).2 e
    rw [(fate_ask.1 hf).2.1] at this
    cases this
  · intro x hx
    obtain ⟨y, hy, ⟨_, rfl⟩ | ⟨_, rfl⟩⟩ := tickRow_cases hx
    · exact hi.kw _ hy
    · exact hi.kw y hy
  · rcases hi.q with h | h
    · left; omega
    · right; omega
  · have := tickRow_length (c := c) (now := now) l
    rcases hi.len with h | h
    · left; rw [h]; rfl
    · right; omega
  · intro h0 p
    refine ws_congr hs hso p ?_ ?_
    · intro x hx hk
      by_cases hd : fate c now x = .drop
      · refine .inr ⟨tickLost_mem h0 hx hd, fun y hy e => ?_⟩
        obtain ⟨z, hz, ⟨hf, rfl⟩ | ⟨hf, rfl⟩⟩ := tickRow_cases hy
        · have : y = x := one_of_key hs hz hx (e.trans hk.symm)
          rw [this, hd] at hf; cases hf
        · have : z = x := one_of_key hs hz hx (e.trans hk.symm)
          rw [this, hd] at hf; cases hf
      · rcases tickRow_has hx hd with ⟨_, h⟩ | ⟨_, h⟩
        · exact .inl ⟨x, h, hk, rfl⟩
        · exact .inl ⟨_, h, hk, rfl⟩
    · intro y hy hk
      obtain ⟨z, hz, ⟨hf, rfl⟩ | ⟨hf, rfl⟩⟩ := tickRow_cases hy
      · exact .inl ⟨y, hz, hk⟩
      · exact .inl ⟨z, hz, hk⟩
/-- No frame that waits is long. -/
def Short (l : List One) : Prop := ∀ x ∈ l, ∀ b ∈ x.waits, b.length ≤ 1000000
theorem Short.nil : Short [] := fun _ h => by simp at h
theorem Short.want (h : Short l) (n k : Int) {b : List Int} (hb : b.length ≤ 1000000) : Short (want c now l n k b).2 := by
  unfold Proofs.Ytaokmbmimogdgaa.want
  cases hf : find n k l with
  | some i =>
    obtain ⟨x, hi, hk⟩ := find_some hf
    simp only [hi]
    split
    · exact h
    · split
      · exact h
      · rw [modify_eq_set hi]
        have hm := List.mem_of_getElem? hi
        intro y hy
        rcases List.mem_or_eq_of_mem_set hy with hy | rfl
        · exact h y hy
        · intro b' hb'
          rcases List.mem_append.1 hb' with hb' | hb'
          · exact h x hm b' hb'
          · rw [List.mem_singleton.1 hb']; exact hb
  | none =>
    simp only
    split
    · exact h
    · split
      · exact h
      · intro y hy
        rcases put_mem.1 hy with rfl | hy
        · intro b' hb'; rw [List.mem_singleton.1 hb']; exact hb
        · exact h y hy
theorem Short.learn (h : Short l) (n k : Int) (m : Mac) (add : Bool) : Short (learn c now l n k m add).2 := by
  have hput : ∀ l' : List One, (∀ y ∈ l', y ∈ l) → Short (put (newKnown now n k m) l') := by
    intro l' hsub y hy
    rcases put_mem.1 hy with rfl | hy
    · intro b hb; simp [newKnown] at hb
    · exact h y (hsub y hy)
  unfold Proofs.Ytaokmbmimogdgaa.learn
  cases hf : find n k l with
  | some i =>
    obtain ⟨x, hi, hk⟩ := find_some hf
    simp only [hi]
    exact hput _ (fun y hy => (List.eraseIdx_sublist _ _).subset hy)
  | none =>
    simp only
    split
    · exact h
    · split
      · exact h
      · exact hput l (fun _ hy => hy)
theorem Short.tick (h : Short l) : Short (tickRow c now l) := by
  intro x hx
  obtain ⟨y, hy, rfl | rfl⟩ := tickRow_mem hx
  · exact h _ hy
  · exact h y hy
theorem Short.ws (h : Short l) (p : Int × Int) : ∀ b ∈ ws l p, b.length ≤ 1000000 := by
  intro b hb
  unfold Proofs.Ytaokmbmimogdgaa.ws at hb
  cases hf : find p.1 p.2 l with
  | none => rw [hf] at hb; simp at hb
  | some i =>
    obtain ⟨x, hi, hk⟩ := find_some hf
    rw [hf] at hb
    simp only [hi, Option.map_some, Option.getD_some] at hb
    exact h x (List.mem_of_getElem? hi) b hb
end

end Go.Proofs.Ytaokmbmimogdgaa
