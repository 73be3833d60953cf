/- The reference's cache: how it lies in memory; its functions that only read. -/
import Derived.Test.YtaokmbmimogdgaaCacheCalls
import Derived.Test.YtaokmbmimogdgaaLives
import Derived.Deep.QuietTactic
import Derived.BigQuiet
namespace Go.Proofs.Ytaokmbmimogdgaa
open Go.RowKit
def TRC : Nat := 66
def TOne : Nat := 82
/-- A row of Ones of one's own; what waits for each reads in rows of R. -/
def Ones (N : Nat) (R : Nat → Prop) (w : World) (u : Value) (l : List One) : Prop :=
  ∃ us : List Value, us.length = l.length ∧ w.ownsRow N TOne 12 u l.length (rowCells l us) ∧
    ∀ (i : Nat) (v : Value) (x : One), us[i]? = some v → l[i]? = some x → RdBB (fun b => R b ∧ IsTag TBs w b) Nil w v x.waits
theorem rdbb_tag {R R' S : Nat → Prop} {w w' : World} {v : Value} {ll : List (List Int)} (h : RdBB (fun b => R b ∧ IsTag TBs w b) Nil w v ll) (hf : Fr S w w') (hS : ∀ b, b < w.heap.size → IsTag TBs w b → R b → ¬ S b) (hR : ∀ b, b < w.heap.size → R b → R' b) : RdBB (fun b => R' b ∧ IsTag TBs w' b) Nil w' v ll := by
  obtain ⟨vs, h1, h2, h3⟩ := h
  obtain ⟨a, cp, e, hle, h4⟩ := h2
  have h2' : RdS (fun b => R' b ∧ IsTag TBs w' b) w' v ll.length vs := by
    refine ⟨a, cp, e, hle, fun hne => ?_⟩
    obtain ⟨b, o, h5, h6, h7, h8⟩ := h4 hne
    exact ⟨b, o, h5, ⟨hR b h7 h6.1, hf.tag _ _ h6.2⟩, Nat.lt_of_lt_of_le h7 hf.size, fun j x hx => hf.cellS (h8 j x hx) (hS b h7 h6.2 h6.1)⟩
  exact ⟨vs, h1, h2', fun i x y hx hy => (h3 i x y hx hy).fr0 hf⟩
theorem Ones.nil (N : Nat) (R : Nat → Prop) (w : World) : Ones N R w (.slice none 0 0) [] := ⟨[], rfl, World.ownsRow_nil _ _ _ _, fun i v x h => by simp at h⟩
theorem Ones.fr {N : Nat} {R R' S : Nat → Prop} {w w' : World} {u : Value} {l : List One} (h : Ones N R w u l) (hf : Fr S w w') (hu : ∀ b, u.ownBlock = some b → ¬ S b) (hS : ∀ b, b < w.heap.size → IsTag TBs w b → R b → ¬ S b) (hR : ∀ b, b < w.heap.size → R b → R' b) : Ones N R' w' u l := by
  obtain ⟨us, h1, h2, h3⟩ := h
  exact ⟨us, h1, hf.ownsRow h2 hu, fun i v x a b => rdbb_tag (h3 i v x a b) hf hS hR⟩
theorem Ones.tag {N : Nat} {R : Nat → Prop} {w : World} {u : Value} {l : List One} (h : Ones N R w u l) : ∀ b, u.ownBlock = some b → IsTag TOne w b := by
  obtain ⟨us, h1, h2, h3⟩ := h
  exact ownsRow_tag h2
theorem Ones.form {N : Nat} {R : Nat → Prop} {w : World} {u : Value} {l : List One} (h : Ones N R w u l) : ∃ a c, u = .slice a l.length c := by
  obtain ⟨us, h1, h, h3⟩ := h
  rcases h.2 with ⟨h1, h2⟩ | ⟨g, cap, cur, h1, _⟩
  · exact ⟨none, 0, by rw [h1, h2]⟩
  · exact ⟨_, _, h1⟩
/-- The reference's cache at block br: the row l, at the tick now; its blocks are those of R. -/
structure RAt (w : World) (br : Nat) (c : Cf) (now : Int) (l : List One) (R : Nat → Prop) (conf : List Value) (u : Value) : Prop where
  cok : CfOK conf c
  blk : Blk w br TRC (conf ++ [.int .i64 now, u])
  row : Ones 0 R w u l
  rb : R br
  ru : ∀ b, u.ownBlock = some b → R b
  lt : ∀ b, R b → b < w.heap.size
def RRep (w : World) (br : Nat) (c : Cf) (now : Int) (l : List One) (R : Nat → Prop) : Prop := ∃ conf u, RAt w br c now l R conf u
section
variable {w w' : World} {br : Nat} {c : Cf} {now : Int} {l : List One} {R S : Nat → Prop} {conf : List Value} {u : Value}
theorem RAt.fr (h : RAt w br c now l R conf u) (hf : Fr S w w') (hn : ∀ b, R b → ¬ S b) : RAt w' br c now l R conf u where
  cok := h.cok
  blk := h.blk.fr hf (hn _ h.rb)
  row := h.row.fr hf (fun b hb => hn b (h.ru b hb)) (fun b _ _ hb => hn b hb) (fun _ _ e => e)
  rb := h.rb
  ru := h.ru
  lt := fun b hb => Nat.lt_of_lt_of_le (h.lt b hb) hf.size
theorem RRep.fr (h : RRep w br c now l R) (hf : Fr S w w') (hn : ∀ b, R b → ¬ S b) : RRep w' br c now l R := by
  obtain ⟨conf, u, h⟩ := h
  exact ⟨conf, u, h.fr hf hn⟩
theorem RAt.c12 (h : RAt w br c now l R conf u) : w.cell? ⟨br, 27, none⟩ = some (.int .i64 c.cache) := h.blk.cellS (by rw [List.getElem?_append_left (by rw [h.cok.len]; omega)]; exact h.cok.c27)
theorem RAt.c13 (h : RAt w br c now l R conf u) : w.cell? ⟨br, 28, none⟩ = some (.int .i64 c.queue) := h.blk.cellS (by rw [List.getElem?_append_left (by rw [h.cok.len]; omega)]; exact h.cok.c28)
theorem RAt.c14 (h : RAt w br c now l R conf u) : w.cell? ⟨br, 29, none⟩ = some (.int .i64 c.age) := h.blk.cellS (by rw [List.getElem?_append_left (by rw [h.cok.len]; omega)]; exact h.cok.c29)
theorem RAt.c15 (h : RAt w br c now l R conf u) : w.cell? ⟨br, 30, none⟩ = some (.int .i64 c.retry) := h.blk.cellS (by rw [List.getElem?_append_left (by rw [h.cok.len]; omega)]; exact h.cok.c30)
theorem RAt.c16 (h : RAt w br c now l R conf u) : w.cell? ⟨br, 31, none⟩ = some (.int .i64 c.tries) := h.blk.cellS (by rw [List.getElem?_append_left (by rw [h.cok.len]; omega)]; exact h.cok.c31)
theorem RAt.c40 (h : RAt w br c now l R conf u) : w.cell? ⟨br, 40, none⟩ = some (.int .i64 now) := h.blk.cellS (by rw [List.getElem?_append_right (by rw [h.cok.len]; omega), h.cok.len]; rfl)
theorem RAt.c41 (h : RAt w br c now l R conf u) : w.cell? ⟨br, 41, none⟩ = some u := h.blk.cellS (by rw [List.getElem?_append_right (by rw [h.cok.len]; omega), h.cok.len]; rfl)
end
theorem one_cells {w : World} {base cap n k : Nat} {a : Option Addr} {l : List One} {us : List Value} {x : One} (h : w.ownsRow base TOne 12 (.slice a n cap) n (rowCells l us)) (hl : l.length = n) (hu : us.length = l.length) (hx : l[k]? = some x) :
    ∃ g v, a = some ⟨g, 0, none⟩ ∧ us[k]? = some v ∧ (∀ j, j < 12 → w.cell? ⟨g, k * 12 + j, none⟩ = (oneCells x v)[j]?) ∧ (∀ j, w.frozen? ⟨g, j, none⟩ = false) ∧ IsTag TOne w g := by
  have hk := (List.getElem?_eq_some_iff.1 hx).1
  obtain ⟨v, hv⟩ : ∃ v, us[k]? = some v := ⟨_, List.getElem?_eq_getElem (by omega)⟩
  have htag := ownsRow_tag h
  obtain ⟨_, ⟨_, h0⟩ | ⟨g, c2, cur, he, _, hb, h3, _, h5, h6⟩⟩ := h
  · omega
  · have hB : Blk w g TOne cur.toList := by simpa [Blk] using hb
    have ha : a = some ⟨g, 0, none⟩ := by cases he; rfl
    refine ⟨g, v, ha, hv, fun j hj => ?_, fun j => hB.frozen j, htag g (by subst ha; rfl)⟩
    rw [hB.cell, ← rowCells_get hx hv hj, ← h6, List.getElem?_take_of_lt]
    have h7 : (k + 1) * 12 ≤ n * 12 := Nat.mul_le_mul_right 12 (by omega)
    omega
/-- One of a row: its cells. -/
theorem Ones.at {N cap k : Nat} {R : Nat → Prop} {w : World} {a : Option Addr} {l : List One} {x : One} (h : Ones N R w (.slice a l.length cap) l) (hx : l[k]? = some x) :
    ∃ g v, a = some ⟨g, 0, none⟩ ∧ RdBB (fun b => R b ∧ IsTag TBs w b) Nil w v x.waits ∧ (∀ j, j < 12 → w.cell? ⟨g, k * 12 + j, none⟩ = (oneCells x v)[j]?) ∧ (∀ j, w.frozen? ⟨g, j, none⟩ = false) ∧ IsTag TOne w g := by
  obtain ⟨us, h1, h2, h3⟩ := h
  obtain ⟨g, v, e1, e2, e3, e4, e5⟩ := one_cells h2 rfl h1 hx
  exact ⟨g, v, e1, h3 k v x e2 hx, e3, e4, e5⟩
theorem RAt.at {w : World} {br : Nat} {c : Cf} {now : Int} {l : List One} {R : Nat → Prop} {conf : List Value} {a : Option Addr} {cap k : Nat} {x : One} (h : RAt w br c now l R conf (.slice a l.length cap)) (hx : l[k]? = some x) :
    ∃ g v, a = some ⟨g, 0, none⟩ ∧ RdBB (fun b => R b ∧ IsTag TBs w b) Nil w v x.waits ∧ (∀ j, j < 12 → w.cell? ⟨g, k * 12 + j, none⟩ = (oneCells x v)[j]?) ∧ (∀ j, w.frozen? ⟨g, j, none⟩ = false) ∧ IsTag TOne w g ∧ R g := by
  obtain ⟨g, v, e1, e2, e3, e4, e5⟩ := h.row.at hx
  exact ⟨g, v, e1, e2, e3, e4, e5, h.ru g (by subst e1; rfl)⟩
theorem rdbb_form {G H : Nat → Prop} {w : World} {v : Value} {ll : List (List Int)} (h : RdBB G H w v ll) : ∃ a c, v = .slice a ll.length c := by obtain ⟨vs, h1, ⟨a, c, e, _⟩, _⟩ := h; exact ⟨a, c, e⟩
theorem eqP (w : World) (a b c d : Int) : (binOp .eql 39 (.agg #[.int .i64 a, .int .u32 b]) (.agg #[.int .i64 c, .int .u32 d])).run Try.prog w = .ok (.bool ((a, b) == (c, d))) w := by
  have h := eq_place w (a, b) (c, d)
  unfold kv at h
  simp only [binOp]
  simp only [Op.equal] at h ⊢
  simp [h]
theorem neqP (w : World) (a b c d : Int) : (binOp .neq 39 (.agg #[.int .i64 a, .int .u32 b]) (.agg #[.int .i64 c, .int .u32 d])).run Try.prog w = .ok (.bool ((a, b) != (c, d))) w := by
  have h := eq_place w (a, b) (c, d)
  unfold kv at h
  simp only [binOp]
  simp only [Op.equal] at h ⊢
  simp [h, bne]
end Go.Proofs.Ytaokmbmimogdgaa
