/- The two caches side by side: what holds between two deeds. -/
import Derived.Test.YtaokmbmimogdgaaRefTick
import Derived.Test.YtaokmbmimogdgaaRefWant2
import Derived.Test.YtaokmbmimogdgaaRefLearn
import Derived.Test.YtaokmbmimogdgaaRefNew
import Derived.Test.YtaokmbmimogdgaaKeepLaws
import Derived.Test.YtaokmbmimogdgaaDeeds
import Derived.ChangeKeysEq
namespace Go.Proofs.Ytaokmbmimogdgaa
open Go.RowKit
theorem waits_eq {w : World} {bc : Nat} {c : Cf} {now : Int} {l : List One} {F : Nat → Prop} (h : CRep w bc c now l F) : Calls Try.prog 12 #[.pointer (some ⟨bc, 0, none⟩)] w fun e w' => e = .returned (.int .i64 (total l)) ∧ w' = w := by
  obtain ⟨_, conf, bm, ents, h, hp⟩ := h
  rw [total_perm hp]
  have h42 := h.c42
  clear h hp
  go_enter Try.func12, Try.ntmps12
  go_wp2
  go_ret
  exact ⟨rfl, rfl⟩
theorem now_eq {w : World} {bc : Nat} {c : Cf} {now : Int} {l : List One} {F : Nat → Prop} (h : CRep w bc c now l F) : Calls Try.prog 23 #[.pointer (some ⟨bc, 0, none⟩)] w fun e w' => e = .returned (.int .i64 now) ∧ w' = w := by
  obtain ⟨_, conf, bm, ents, h, hp⟩ := h
  have h40 := h.c40
  clear h hp
  go_enter Try.func23, Try.ntmps23
  go_wp2
  go_ret
  exact ⟨rfl, rfl⟩
theorem len_eq {w : World} {bc : Nat} {c : Cf} {now : Int} {l : List One} {F : Nat → Prop} (h : CRep w bc c now l F) : Calls Try.prog 14 #[.pointer (some ⟨bc, 0, none⟩)] w fun e w' => e = .returned (.int .i64 l.length) ∧ w' = w := by
  obtain ⟨_, conf, bm, ents, h, hp⟩ := h
  have hll : ents.length = l.length := by have := hp.length_eq; simpa [rows] using this.symm
  rw [← hll]
  have h41 := h.c41
  have hl : ∀ ty, (Builtin.len_ #[69] ty #[.map (some bm)]).run Try.prog w = .ok (.int .i64 ents.length) w := fun ty => by
    have := h.map.len Try.underlying69 ty
    simpa [goInt] using this
  clear h hp hll
  go_enter Try.func14, Try.ntmps14
  go_wp2
  go_ret
  exact ⟨rfl, rfl⟩
theorem mac_under : Try.prog.underlying 23 = some (.array 6 5) := Try.underlying23
theorem part_u8 (w : World) (a b c d e f : Int) (j : Nat) (x : Int) (h : #[Value.int .u8 a, .int .u8 b, .int .u8 c, .int .u8 d, .int .u8 e, .int .u8 f][j]? = some (.int .u8 x)) : (part 5 #[.int .u8 a, .int .u8 b, .int .u8 c, .int .u8 d, .int .u8 e, .int .u8 f] j).run Try.prog w = .ok (.int .u8 x) w := by
  unfold part
  go_simp
theorem neq_mac (w : World) (a b c d e f : Int) : (binOp .neq 23 (.agg #[.int .u8 a, .int .u8 b, .int .u8 c, .int .u8 d, .int .u8 e, .int .u8 f]) (.agg #[.int .u8 a, .int .u8 b, .int .u8 c, .int .u8 d, .int .u8 e, .int .u8 f])).run Try.prog w = .ok (.bool false) w := by
  simp only [binOp]
  obtain ⟨i0, hi0, _⟩ := info_parts infoU8
  have h := run_equalIn_array (P := Try.prog) (w := w) 9999 #[.int .u8 a, .int .u8 b, .int .u8 c, .int .u8 d, .int .u8 e, .int .u8 f] #[.int .u8 a, .int .u8 b, .int .u8 c, .int .u8 d, .int .u8 e, .int .u8 f] mac_under hi0
  have h1 : ∀ x : Int, (Op.equalIn 9999 5 (.int .u8 x) (.int .u8 x)).run Try.prog w = .ok true w := fun x => by
    go_simp
  have hc : Try.prog.cellsOf 5 = 1 := by kernel_rfl
  have h2 : (Op.equalIn 10000 23 (.agg #[.int .u8 a, .int .u8 b, .int .u8 c, .int .u8 d, .int .u8 e, .int .u8 f]) (.agg #[.int .u8 a, .int .u8 b, .int .u8 c, .int .u8 d, .int .u8 e, .int .u8 f])).run Try.prog w = .ok true w := by
    rw [h, hc]
    simp [List.range, List.range.loop, Op.eqItems, part_u8 w a b c d e f, h1]
  unfold Op.equal Op.maxDepth
  simp [h2]
theorem learn_out {c : Cf} {now : Int} {l : List One} (hsh : Short l) (n k : Int) (m : Mac) (add : Bool) : (Proofs.Ytaokmbmimogdgaa.learn c now l n k m add).1.1.length ≤ total l ∧ ∀ b ∈ (Proofs.Ytaokmbmimogdgaa.learn c now l n k m add).1.1, b.length ≤ 1000000 := by
  rcases find_cases n k l with ⟨h1, _⟩ | ⟨i, x, h1, _, h3, _⟩
  · rw [learn_none n k m add h1]
    split
    · simp
    · split <;> simp
  · rw [learn_some n k m add h1 h3]
    exact ⟨waits_le h3, hsh x (List.mem_of_getElem? h3)⟩
/-- Between two deeds. -/
structure DAt (w0 : World) (bc br : Nat) (c : Cf) (k : Nat) (W : World) : Prop where
  ex : ∃ now l F R, CRep W bc c now l F ∧ Fine c now l k ∧ Short l ∧ RRep W br c now l R ∧ (∀ b, F b → w0.heap.size ≤ b) ∧ (∀ b, R b → w0.heap.size ≤ b) ∧ (∀ b, F b → ¬ R b)
  fr : Fr Nil w0 W
theorem DAt.frN {w0 W W' : World} {bc br k : Nat} {c : Cf} (h : DAt w0 bc br c k W) (hf : Fr Nil W W') : DAt w0 bc br c k W' := by
  obtain ⟨now, l, F, R, h1, h2, h3, h4, h5, h6, h7⟩ := h.ex
  exact ⟨⟨now, l, F, R, h1.fr hf (fun _ _ e => e), h2, h3, h4.fr hf (fun _ _ e => e), h5, h6, h7⟩, h.fr.trans hf (fun _ _ e => e)⟩
theorem RRep.lt {w : World} {br : Nat} {c : Cf} {now : Int} {l : List One} {R : Nat → Prop} (h : RRep w br c now l R) : ∀ b, R b → b < w.heap.size := by
  obtain ⟨conf, u, h⟩ := h
  exact h.lt
theorem DAt.step {w0 X w1 w2 : World} {bc br k' : Nat} {c : Cf} {now now' : Int} {l l' : List One} {F F1 R : Nat → Prop} (hX : Fr Nil w0 X) (hF : ∀ b, F b → w0.heap.size ≤ b) (hR : ∀ b, R b → w0.heap.size ≤ b) (hFR : ∀ b, F b → ¬ R b) (hr : RRep X br c now l R)
    (h1 : Fr F X w1) (hc : CRep w1 bc c now' l' F1) (hn : ∀ b, F1 b → F b ∨ X.heap.size ≤ b) (h2 : RNext w1.heap.size w1 br c now' l' R w2) (hfi : Fine c now' l' k') (hsh : Short l') : DAt w0 bc br c k' w2 := by
  have hRl := hr.lt
  have hF1 : ∀ b, F1 b → ¬ R b := fun b hb hr => by
    rcases hn b hb with h | h
    · exact hFR b h hr
    · have := hRl b hr; omega
  refine ⟨⟨now', l', F1, _, hc.fr h2.1 (fun b hb hs => hF1 b hb hs.1), hfi, hsh, h2.2, fun b hb => ?_, fun b hb => ?_, fun b hb hh => ?_⟩, (hX.trans h1 (fun b hb h => by have := hF b h; omega)).trans h2.1 (fun b hb h => by have := hR b h.1; omega)⟩
  · rcases hn b hb with h | h
    · exact hF b h
    · exact Nat.le_trans hX.size h
  · rcases hb.1 with h | h
    · exact hR b h
    · exact Nat.le_trans (Nat.le_trans hX.size h1.size) h
  · rcases hh.1 with h | h
    · exact hF1 b hb h
    · have := hc.lt b hb; omega
end Go.Proofs.Ytaokmbmimogdgaa
