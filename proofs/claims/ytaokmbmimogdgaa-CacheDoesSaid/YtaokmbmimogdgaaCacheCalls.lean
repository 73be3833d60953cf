/- The deeds with a cache, each by one contract: what it answers, and the row behind it. -/
import Derived.Test.YtaokmbmimogdgaaTick
import Derived.Test.YtaokmbmimogdgaaCacheNew
namespace Go.Proofs.Ytaokmbmimogdgaa
open Go.RowKit Go.ChangeMaps

/-- What holds of a cache's row after at most N deeds. -/
structure Fine (c : Cf) (now : Int) (l : List One) (N : Nat) : Prop where
  n0 : 0 ≤ now
  n1 : now ≤ 1073741824 + N
  len : l.length ≤ N
  tot : total l ≤ N
  tries : ∀ x ∈ l, 0 ≤ x.tries
  since : ∀ x ∈ l, 0 ≤ x.since ∧ x.since ≤ now
  sor : Sorted l
theorem Fine.new (c : Cf) (n : Int) : Fine c (clamp n 0 1073741824) [] 0 := by
  refine ⟨?_, ?_, Nat.le_refl _, Nat.le_refl _, by simp, by simp, List.Pairwise.nil⟩ <;> (unfold clamp; repeat' split) <;> omega
theorem total_modify {l : List One} {i : Nat} {x : One} (b : List Int) (hi : l[i]? = some x) : total (l.set i (addWait b x)) = total l + 1 := by
  have h1 := total_perm (set_perm (addWait b x) (List.getElem?_eq_some_iff.1 hi).1)
  have h2 := total_perm (erase_perm hi)
  rw [h1, h2]
  simp [total, addWait]; omega
theorem put_mem {x y : One} {l : List One} : y ∈ put x l ↔ y = x ∨ y ∈ l := by rw [(put_perm x l).mem_iff]; simp
theorem put_length (x : One) (l : List One) : (put x l).length = l.length + 1 := by rw [(put_perm x l).length_eq]; simp
theorem put_total (x : One) (l : List One) : total (put x l) = x.waits.length + total l := by rw [total_perm (put_perm x l)]; rfl

section
variable {c : Cf} {now : Int} {l : List One} {N : Nat}
theorem Fine.more (h : Fine c now l N) : Fine c now l (N + 1) := ⟨h.n0, by have := h.n1; omega, Nat.le_succ_of_le h.len, Nat.le_succ_of_le h.tot, h.tries, h.since, h.sor⟩
theorem put_sorted_find {n k : Int} {x : One} (h : Sorted l) (hk : key x = (n, k)) (hf : find n k l = none) : Sorted (put x l) := put_sorted h (fun y hy e => find_none hf y hy (e.trans hk))
theorem find_only {n k : Int} {i : Nat} (h : Sorted l) (hf : find n k l = some i) : ∀ y ∈ l.eraseIdx i, key y ≠ (n, k) := by
  obtain ⟨x, hi, hk⟩ := find_some hf
  intro y hy e
  have h1 := (erase_perm hi).map key
  have h2 := h.keys
  rw [h1.nodup_iff, List.map_cons, List.nodup_cons] at h2
  exact h2.1 (List.mem_map.2 ⟨y, hy, e.trans hk.symm⟩)
theorem Fine.want (h : Fine c now l N) (n k : Int) (b : List Int) : Fine c now (want c now l n k b).2 (N + 1) := by
  unfold Proofs.Ytaokmbmimogdgaa.want
  cases hf : find n k l with
  | some i =>
    obtain ⟨x, hi, hk⟩ := find_some hf
    simp only [hi]
    split
    · exact h.more
    · split
      · exact h.more
      · rw [modify_eq_set hi]
        have hm := List.mem_of_getElem? hi
        refine ⟨h.n0, by have := h.n1; omega, by have := h.len; simp; omega, by rw [total_modify b hi]; have := h.tot; omega, ?_, ?_, sorted_set h.sor hi rfl⟩
        · intro y hy
          rcases List.mem_or_eq_of_mem_set hy with hy | rfl
          · exact h.tries y hy
          · exact h.tries x hm
        · intro y hy
          rcases List.mem_or_eq_of_mem_set hy with hy | rfl
          · exact h.since y hy
          · exact h.since x hm
  | none =>
    simp only
    split
    · exact h.more
    · split
      · exact h.more
      · refine ⟨h.n0, by have := h.n1; omega, by rw [put_length]; have := h.len; omega, by rw [put_total]; have := h.tot; simp [newAsk]; omega, ?_, ?_, put_sorted_find h.sor rfl hf⟩
        · intro y hy
          rcases put_mem.1 hy with rfl | hy
          · simp [newAsk]
          · exact h.tries y hy
        · intro y hy
          rcases put_mem.1 hy with rfl | hy
          · exact ⟨h.n0, Int.le_refl _⟩
          · exact h.since y hy
theorem Fine.learn (h : Fine c now l N) (n k : Int) (m : Mac) (add : Bool) : Fine c now (learn c now l n k m add).2 (N + 1) := by
  have hput : ∀ l' : List One, Sorted l' → (∀ y ∈ l', y ∈ l) → l'.length ≤ l.length → total l' ≤ total l → (∀ y ∈ l', key y ≠ (n, k)) → Fine c now (put (newKnown now n k m) l') (N + 1) := by
    intro l' hs hsub hl ht hk
    refine ⟨h.n0, by have := h.n1; omega, by rw [put_length]; have := h.len; omega, by rw [put_total]; have := h.tot; simp [newKnown]; omega, ?_, ?_, put_sorted hs hk⟩
    · intro y hy
      rcases put_mem.1 hy with rfl | hy
      · simp [newKnown]
      · exact h.tries y (hsub y hy)
    · intro y hy
      rcases put_mem.1 hy with rfl | hy
      · exact ⟨h.n0, Int.le_refl _⟩
      · exact h.since y (hsub y hy)
  unfold Proofs.Ytaokmbmimogdgaa.learn
  cases hf : find n k l with
  | some i =>
    obtain ⟨x, hi, hk⟩ := find_some hf
    simp only [hi]
    exact hput _ (sorted_erase h.sor i) (fun y hy => (List.eraseIdx_sublist _ _).subset hy) (List.eraseIdx_sublist _ _).length_le (by have := total_erase hi; omega) (find_only h.sor hf)
  | none =>
    simp only
    split
    · exact h.more
    · split
      · exact h.more
      · exact hput l h.sor (fun _ hy => hy) (Nat.le_refl _) (Nat.le_refl _) (find_none hf)
theorem tickRow_mem {x : One} : ∀ {l : List One}, x ∈ tickRow c now l → ∃ y ∈ l, x = y ∨ x = asked now y
  | [], h => by simp [tickRow] at h
  | y :: l, h => by
    have ih : x ∈ tickRow c now l → ∃ z ∈ y :: l, x = z ∨ x = asked now z := fun h => by obtain ⟨z, hz, e⟩ := tickRow_mem h; exact ⟨z, List.mem_cons_of_mem _ hz, e⟩
    simp only [tickRow] at h
    cases hx : fate c now y with
    | keep => rw [hx] at h; rcases List.mem_cons.1 h with rfl | h; exact ⟨_, List.mem_cons_self, .inl rfl⟩; exact ih h
    | ask => rw [hx] at h; rcases List.mem_cons.1 h with rfl | h; exact ⟨_, List.mem_cons_self, .inr rfl⟩; exact ih h
    | drop => rw [hx] at h; exact ih h
theorem tickRow_length : ∀ l : List One, (tickRow c now l).length ≤ l.length
  | [] => Nat.le_refl _
  | y :: l => by
    have := tickRow_length l
    simp only [tickRow]
    cases fate c now y <;> simp <;> omega
theorem Fine.tick (h : Fine c now l N) : Fine c (now + 1) (tickRow c (now + 1) l) (N + 1) := by
  have h1 := tickLost_le c (now + 1) l
  refine ⟨by have := h.n0; omega, by have := h.n1; omega, Nat.le_succ_of_le (Nat.le_trans (tickRow_length l) h.len), by have := h.tot; omega, ?_, ?_, by rw [← mid_all]; exact mid_sorted h.sor c (now + 1) l.length⟩
  · intro x hx
    obtain ⟨y, hy, rfl | rfl⟩ := tickRow_mem hx
    · exact h.tries _ hy
    · have := h.tries _ hy; simp [asked]; omega
  · intro x hx
    obtain ⟨y, hy, rfl | rfl⟩ := tickRow_mem hx
    · have := h.since _ hy; omega
    · have := h.n0; exact ⟨by simp [asked]; omega, by simp [asked]⟩
end

section
variable {w : World} {bc : Nat} {c : Cf} {now : Int} {l : List One} {F : Nat → Prop} {N : Nat}
theorem CRep.sor (h : CRep w bc c now l F) : Sorted l := h.1
theorem CRep.lt (h : CRep w bc c now l F) : ∀ b, F b → b < w.heap.size := by obtain ⟨_, _, _, _, h, _⟩ := h; exact h.lt

theorem want_calls (h : CRep w bc c now l F) (hf : Fine c now l N) (hN : N ≤ 1000) (n k : Int) (u : Value) {G : Nat → Prop} {b : List Int} (hb : RdB G w u b) (hG : ∀ b, b < w.heap.size → G b → ¬ F b) (hbl : b.length ≤ 1000000) :
    Calls Try.prog 8 #[.pointer (some ⟨bc, 0, none⟩), .agg #[.int .i64 n, .int .u32 k], u] w
      (CPost (.tuple #[.bool (want c now l n k b).1.1, .int .i64 (want c now l n k b).1.2]) bc c now (want c now l n k b).2 F w) := by
  obtain ⟨hs, conf, bm, ents, h, hp⟩ := h
  have ht : total (rows ents) = total l := (total_perm hp).symm
  have hl : ents.length = l.length := by have := hp.length_eq; simpa [rows] using this.symm
  have htot : total (rows ents) ≤ 1000000 := by have := hf.tot; omega
  have hn1 : now ≤ 4000000000 := by have := hf.n1; omega
  unfold want
  rcases idx_find hs hp n k with ⟨f1, f2⟩ | ⟨i, j, t, f1, f2, f3, f4, f5⟩
  · simp only [f1]
    by_cases hq : c.queue ≤ (total l : Int)
    · rw [if_pos hq]
      exact want_full2 hs h hp n k u f2 (by rw [ht]; exact hq)
    · rw [if_neg hq]
      by_cases hc : c.cache ≤ (l.length : Int)
      · rw [if_pos hc]
        exact want_full3 hs h hp n k u f2 (by rw [ht]; exact hq) (by rw [hl]; exact hc)
      · rw [if_neg hc]
        exact want_new hs h hp n k u hb hG hbl htot hf.n0 hn1 f2 (by rw [ht]; exact hq) (by rw [hl]; exact hc)
  · simp only [f1, f4, Option.map_some, Option.getD_some]
    cases hk : t.x.known with
    | true =>
      simp only [if_true]
      exact want_known hs h hp n k u f2 f3 hk
    | false =>
      simp only [Bool.false_eq_true, if_false]
      by_cases hq : c.queue ≤ (total l : Int)
      · rw [if_pos hq]
        exact want_full1 hs h hp n k u f2 f3 hk (by rw [ht]; exact hq)
      · rw [if_neg hq, modify_eq_set f4]
        exact want_more hs h hp n k u hb hbl htot f4 f2 f3 hk (by rw [ht]; exact hq)

theorem learn_calls (h : CRep w bc c now l F) (hf : Fine c now l N) (hN : N ≤ 1000) (n k : Int) (m : Mac) (add : Bool) :
    Calls Try.prog 9 #[.pointer (some ⟨bc, 0, none⟩), .agg #[.int .i64 n, .int .u32 k], macV m, .bool add] w
      (LPost (learn c now l n k m add).1.1 (learn c now l n k m add).1.2 bc c now (learn c now l n k m add).2 F w) := by
  obtain ⟨hs, conf, bm, ents, h, hp⟩ := h
  have ht : total (rows ents) = total l := (total_perm hp).symm
  have hl : ents.length = l.length := by have := hp.length_eq; simpa [rows] using this.symm
  have htot : total (rows ents) ≤ 1000000 := by have := hf.tot; omega
  have hn1 : now ≤ 4000000000 := by have := hf.n1; omega
  unfold learn
  rcases idx_find hs hp n k with ⟨f1, f2⟩ | ⟨i, j, t, f1, f2, f3, f4, f5⟩
  · simp only [f1]
    cases add with
    | false => exact learn_not hs h hp n k m f2
    | true =>
      simp only [Bool.not_true, Bool.false_eq_true, if_false]
      by_cases hc : c.cache ≤ (l.length : Int)
      · rw [if_pos hc]
        exact learn_full hs h hp n k m f2 (by rw [hl]; exact hc)
      · rw [if_neg hc]
        exact learn_new hs h hp n k m f2 (by rw [hl]; exact hc) hf.n0 hn1 htot
  · simp only [f1, f4, Option.map_some, Option.getD_some]
    exact learn_known hs h hp n k m add f4 f2 f3 f5 hf.n0 hn1 htot

theorem tick_calls (h : CRep w bc c now l F) (hf : Fine c now l N) (hN : N ≤ 1000) (hct : c.tries ≤ 9223372036854775807) :
    Calls Try.prog 11 #[.pointer (some ⟨bc, 0, none⟩)] w (TPost c now l bc F w) := by
  obtain ⟨hs, conf, bm, ents, h, hp⟩ := h
  have h1 := hf.n1
  have h2 := hf.len
  have h3 := hf.tot
  exact tick_any hs h hp hf.n0 (by omega) (by omega) (by omega) hf.tries hct

theorem waits_calls (h : CRep w bc c now l F) : Calls Try.prog 12 #[.pointer (some ⟨bc, 0, none⟩)] w (RetF (.int .i64 (total l)) Nil w) := by
  obtain ⟨_, conf, bm, ents, h, hp⟩ := h
  rw [total_perm hp]
  exact waits_any h
theorem len_calls (h : CRep w bc c now l F) : Calls Try.prog 14 #[.pointer (some ⟨bc, 0, none⟩)] w (RetF (.int .i64 l.length) Nil w) := by
  obtain ⟨_, conf, bm, ents, h, hp⟩ := h
  have hl : ents.length = l.length := by have := hp.length_eq; simpa [rows] using this.symm
  rw [← hl]
  exact len_any h
theorem now_calls (h : CRep w bc c now l F) : Calls Try.prog 23 #[.pointer (some ⟨bc, 0, none⟩)] w (RetF (.int .i64 now) Nil w) := by
  obtain ⟨_, conf, bm, ents, h, hp⟩ := h
  exact now_any h
theorem find_calls (h : CRep w bc c now l F) (n k : Int) : Calls Try.prog 20 #[.pointer (some ⟨bc, 0, none⟩), .agg #[.int .i64 n, .int .u32 k]] w (RetF (.tuple #[macV (macOf l n k).1, .bool (macOf l n k).2]) Nil w) := by
  obtain ⟨hs, conf, bm, ents, h, hp⟩ := h
  exact find_any hs h hp n k
end

end Go.Proofs.Ytaokmbmimogdgaa
