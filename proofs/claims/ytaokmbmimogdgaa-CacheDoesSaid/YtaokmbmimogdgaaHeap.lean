/- Plain lemmas, no program in sight: what stays as it was when blocks are written and made ('Fr'); slices that read as rows of cells ('RdS'); rows of bytes. -/
import Derived.WalkKit
import Derived.WalkSpells
import Derived.ChangeMaps5
import Derived.Deep.AppendLies
import Derived.Deep.Draws
import Derived.Lib.Hide
namespace Go.Proofs.Ytaokmbmimogdgaa
open Go.RowKit Go.ChangeMaps

/-- The number of the type of bytes. -/
def U8 : Nat := 5
/-- Block b is a row of cells of element type e. -/
def IsTag (e : Nat) (w : World) (b : Nat) : Prop := ∃ cur fr, w.heap[b]? = some (.cells cur e fr)
theorem IsTag.lt {e : Nat} {w : World} {b : Nat} (h : IsTag e w b) : b < w.heap.size := by
  obtain ⟨cur, fr, h⟩ := h; exact (Array.getElem?_eq_some_iff.1 h).1
theorem IsTag.uniq {e e' : Nat} {w : World} {b : Nat} (h : IsTag e w b) (h' : IsTag e' w b) : e = e' := by
  obtain ⟨cur, fr, h⟩ := h; obtain ⟨cur', fr', h'⟩ := h'
  rw [h] at h'; simp at h'; exact h'.2.1
theorem IsTag.mk {e : Nat} {w : World} {b : Nat} {cur : Array Value} {fr : Nat × Nat} (h : w.heap[b]? = some (.cells cur e fr)) : IsTag e w b := ⟨cur, fr, h⟩
abbrev IsU8 := IsTag U8
theorem IsTag.alloc {e : Nat} {w : World} {b : Nat} (h : IsTag e w b) (o : Obj) : IsTag e (w.alloc o) b := by
  have hl := h.lt
  obtain ⟨cur, fr, h⟩ := h
  exact ⟨cur, fr, (Below.heap_alloc _ _ _ hl).trans h⟩
theorem IsTag.new (e : Nat) (w : World) (c : Array Value) (fr : Nat × Nat) : IsTag e (w.alloc (.cells c e fr)) w.heap.size := ⟨c, fr, heap_alloc_new w _⟩
theorem IsTag.setCell {e : Nat} {w : World} {b : Nat} (h : IsTag e w b) (p : Addr) (u : Value) : IsTag e (w.setCell p u) b := by
  obtain ⟨cur, fr, h⟩ := h
  by_cases hb : p.block = b
  · subst hb
    exact ⟨if p.spot.isSome then cur else cur.setIfInBounds p.off u, fr, by simp only [World.setCell, Array.getElem?_modify, h, if_true, Option.map_some]⟩
  · exact ⟨cur, fr, (Below.heap_setCell _ _ _ _ (Ne.symm hb)).trans h⟩

/-- w' is w, but for new blocks and for what lies in the blocks of S; rows of bytes are as they were. -/
structure Fr (S : Nat → Prop) (w w' : World) : Prop where
  tag : ∀ e b, IsTag e w b → IsTag e w' b
  os : w'.os = w.os
  tape : w'.tape = w.tape
  output : w'.output = w.output
  size : w.heap.size ≤ w'.heap.size
  block : ∀ k, k < w.heap.size → ¬ S k → w'.heap[k]? = w.heap[k]?
  bytes : ∀ k, IsU8 w k → w'.heap[k]? = w.heap[k]?

def Nil : Nat → Prop := fun _ => False

theorem Fr.isU8 {S : Nat → Prop} {w w' : World} (h : Fr S w w') {b : Nat} (hb : IsU8 w b) : IsU8 w' b := h.tag _ _ hb
theorem Fr.refl (S : Nat → Prop) (w : World) : Fr S w w := ⟨fun _ _ h => h, rfl, rfl, rfl, Nat.le_refl _, fun _ _ _ => rfl, fun _ _ => rfl⟩
theorem Fr.mono {S S' : Nat → Prop} {w w' : World} (h : Fr S w w') (hs : ∀ k, k < w.heap.size → S k → S' k) : Fr S' w w' :=
  ⟨h.tag, h.os, h.tape, h.output, h.size, fun k hk hn => h.block k hk (fun e => hn (hs k hk e)), h.bytes⟩
theorem Fr.trans {S S' : Nat → Prop} {a b c : World} (h : Fr S a b) (k : Fr S' b c) (hs : ∀ k, k < a.heap.size → S' k → S k) : Fr S a c :=
  ⟨fun e b hb => k.tag e b (h.tag e b hb), k.os.trans h.os, k.tape.trans h.tape, k.output.trans h.output, Nat.le_trans h.size k.size,
   fun i hi hn => (k.block i (Nat.lt_of_lt_of_le hi h.size) (fun e => hn (hs i hi e))).trans (h.block i hi hn),
   fun i hi => (k.bytes i (h.isU8 hi)).trans (h.bytes i hi)⟩
theorem Fr.drew {S : Nat → Prop} {a w : World} (h : Fr S a w) : Fr S a w.drew := ⟨h.tag, h.os, h.tape, h.output, h.size, h.block, h.bytes⟩
theorem Fr.drewN {S : Nat → Prop} {a w : World} (h : Fr S a w) (n : Nat) : Fr S a (w.drewN n) := ⟨h.tag, h.os, h.tape, h.output, h.size, h.block, h.bytes⟩
theorem Fr.alloc {S : Nat → Prop} {a w : World} (h : Fr S a w) (o : Obj) : Fr S a (w.alloc o) :=
  h.trans (S' := Nil) ⟨fun _ _ h => h.alloc o, rfl, rfl, rfl, by simp, fun k hk _ => Below.heap_alloc _ _ _ hk, fun k hk => Below.heap_alloc _ _ _ hk.lt⟩ (fun _ _ e => e.elim)
/-- Block b may be written: it is in S and no row of bytes, or it is new. -/
def May (S : Nat → Prop) (a : World) (b : Nat) : Prop := b < a.heap.size → S b ∧ ¬ IsU8 a b
theorem Fr.step {S : Nat → Prop} {a w w' : World} (h : Fr S a w) {b : Nat} (hp : May S a b) (tag : ∀ e b, IsTag e w b → IsTag e w' b) (os : w'.os = w.os) (tape : w'.tape = w.tape) (output : w'.output = w.output) (size : w.heap.size ≤ w'.heap.size)
    (hb : ∀ k, k < w.heap.size → k ≠ b → w'.heap[k]? = w.heap[k]?) : Fr S a w' :=
  ⟨fun e b hb => tag e b (h.tag e b hb), os.trans h.os, tape.trans h.tape, output.trans h.output, Nat.le_trans h.size size,
   fun k hk hn => (hb k (Nat.lt_of_lt_of_le hk h.size) (fun e => by subst e; exact hn (hp hk).1)).trans (h.block k hk hn),
   fun k hk => (hb k (Nat.lt_of_lt_of_le hk.lt h.size) (fun e => by subst e; exact (hp hk.lt).2 hk)).trans (h.bytes k hk)⟩
theorem Fr.setCell {S : Nat → Prop} {a w : World} (h : Fr S a w) {p : Addr} (hp : May S a p.block) (u : Value) : Fr S a (w.setCell p u) :=
  h.step hp (fun _ _ h => h.setCell _ _) rfl rfl rfl (by simp [World.setCell]) (fun _ _ hn => Below.heap_setCell _ _ _ _ hn)
/-- One row may be written, new blocks may be made; tags stay. -/
structure Gw (w w' : World) (row : Option Nat) : Prop where
  tag : ∀ e b, IsTag e w b → IsTag e w' b
  os : w'.os = w.os
  tape : w'.tape = w.tape
  output : w'.output = w.output
  size : w.heap.size ≤ w'.heap.size
  block : ∀ k, k < w.heap.size → some k ≠ row → w'.heap[k]? = w.heap[k]?
theorem Fr.grown {S : Nat → Prop} {a w w' : World} {row : Option Nat} (h : Fr S a w) (hg : Gw w w' row) (hr : ∀ k, row = some k → May S a k) : Fr S a w' := by
  cases row with
  | none => exact h.trans (S' := Nil) ⟨hg.tag, hg.os, hg.tape, hg.output, hg.size, fun k hk _ => hg.block k hk (by simp), fun k hk => hg.block k hk.lt (by simp)⟩ (fun _ _ e => e.elim)
  | some r => exact h.step (hr r rfl) hg.tag hg.os hg.tape hg.output hg.size (fun k hk hn => hg.block k hk (by simpa using hn))
theorem Gw.cellS {w w' : World} {row : Option Nat} (hg : Gw w w' row) {p : Addr} {v : Value} (hc : w.cell? p = some v) (hn : row ≠ some p.block) : w'.cell? p = some v := by
  rw [World.cell?_of_block (w := w) (hg.block p.block (World.block_lt_of_cell? w p hc) (fun e => hn e.symm))]; exact hc
theorem Gw.frozen {w w' : World} {row : Option Nat} (hg : Gw w w' row) {p : Addr} (hl : p.block < w.heap.size) (hn : row ≠ some p.block) : w'.frozen? p = w.frozen? p :=
  World.frozen?_of_block (w := w) (hg.block p.block hl (fun e => hn e.symm))
theorem tag_setMap {w : World} {b : Nat} {es : Array MapEntry} {ck : Nat} (hb : w.heap[b]? = some (.map es ck)) (o : Obj) : ∀ e k, IsTag e w k → IsTag e (setBlock w b o) k := by
  intro e k ⟨cur, fr, h⟩
  refine ⟨cur, fr, ?_⟩
  rw [heap_setBlock_other hb o (fun e => by subst e; rw [hb] at h; cases h)]; exact h
theorem Fr.setMap {S : Nat → Prop} {a w : World} (h : Fr S a w) {b : Nat} {es : Array MapEntry} {ck : Nat} (hb : w.heap[b]? = some (.map es ck)) (hp : May S a b) (o : Obj) : Fr S a (setBlock w b o) :=
  h.step hp (tag_setMap hb o) rfl rfl rfl (by simp [setBlock]) (fun k _ hn => heap_setBlock_other hb o hn)
theorem Fr.below {S : Nat → Prop} {w w' : World} (h : Fr S w w') {B : Nat} (hB : B ≤ w.heap.size) (hs : ∀ k, k < B → ¬ S k) : Below B w w' :=
  ⟨h.os, h.tape, h.output, h.size, fun k hk => h.block k (by omega) (hs k hk)⟩
theorem Fr.cell {S : Nat → Prop} {w w' : World} (h : Fr S w w') {p : Addr} (hp : p.block < w.heap.size) (hn : ¬ S p.block) : w'.cell? p = w.cell? p :=
  World.cell?_of_block (w := w) (h.block p.block hp hn)
theorem Fr.frozen {S : Nat → Prop} {w w' : World} (h : Fr S w w') {p : Addr} (hp : p.block < w.heap.size) (hn : ¬ S p.block) : w'.frozen? p = w.frozen? p :=
  World.frozen?_of_block (w := w) (h.block p.block hp hn)
theorem Fr.cellS {S : Nat → Prop} {w w' : World} (h : Fr S w w') {p : Addr} {v : Value} (hc : w.cell? p = some v) (hn : ¬ S p.block) : w'.cell? p = some v := by
  rw [h.cell (World.block_lt_of_cell? w p hc) hn]; exact hc
theorem Fr.blockS {S : Nat → Prop} {w w' : World} (h : Fr S w w') {b : Nat} {o : Obj} (hc : w.heap[b]? = some o) (hn : ¬ S b) : w'.heap[b]? = some o := by
  rw [h.block b (Array.getElem?_eq_some_iff.1 hc).1 hn]; exact hc

/-- The slice value v has n elements, whose cells (all of them, one behind the other) are xs; they lie in one block of G. -/
def RdS (G : Nat → Prop) (w : World) (v : Value) (n : Nat) (xs : List Value) : Prop :=
  ∃ a c, v = .slice a n c ∧ n ≤ c ∧ (xs ≠ [] → ∃ b o, a = some ⟨b, o, none⟩ ∧ G b ∧ b < w.heap.size ∧ ∀ j u, xs[j]? = some u → w.cell? ⟨b, o + j, none⟩ = some u)

theorem RdS.nil (G : Nat → Prop) (w : World) : RdS G w (.slice none 0 0) 0 [] := ⟨_, _, rfl, Nat.le_refl _, fun h => (h rfl).elim⟩
theorem RdS.fr {G S : Nat → Prop} {w w' : World} {v : Value} {n : Nat} {xs : List Value} (h : RdS G w v n xs) (hf : Fr S w w') (hd : ∀ b, b < w.heap.size → G b → ¬ S b) : RdS G w' v n xs := by
  obtain ⟨a, c, rfl, hc, h⟩ := h
  refine ⟨a, c, rfl, hc, fun hx => ?_⟩
  obtain ⟨b, o, rfl, hg, hb, hcell⟩ := h hx
  exact ⟨b, o, rfl, hg, Nat.lt_of_lt_of_le hb hf.size, fun j u hu => by rw [hf.cell (p := ⟨b, o + j, none⟩) hb (hd b hb hg)]; exact hcell j u hu⟩
theorem RdS.mono {G G' : Nat → Prop} {w : World} {v : Value} {n : Nat} {xs : List Value} (h : RdS G w v n xs) (hg : ∀ b, b < w.heap.size → G b → G' b) : RdS G' w v n xs := by
  obtain ⟨a, c, rfl, hc, h⟩ := h
  refine ⟨a, c, rfl, hc, fun hx => ?_⟩
  obtain ⟨b, o, rfl, hb, hlt, hcell⟩ := h hx
  exact ⟨b, o, rfl, hg b hlt hb, hlt, hcell⟩
theorem RdS.of_own {w : World} {base : Nat} {e size : Nat} {v : Value} {n : Nat} {xs : List Value} (h : w.ownsRow base e size v n xs) {G : Nat → Prop} (hG : ∀ b, v.ownBlock = some b → G b) : RdS G w v n xs := by
  have hlt := h.lt
  have hcells := fun g (hg : v.ownBlock = some g) => h.cells hg
  rcases h.2 with ⟨rfl, rfl⟩ | ⟨g, cap, cur, rfl, hb, hh, hn, hm, hs, ht⟩
  · have : xs = [] := List.eq_nil_of_length_eq_zero (by simpa using h.1)
    subst this; exact RdS.nil G w
  · refine ⟨_, _, rfl, hn, fun _ => ⟨g, 0, rfl, hG g rfl, (hlt g rfl).2, fun j u hu => ?_⟩⟩
    have := hcells g rfl j u hu
    rwa [show (⟨g, 0, none⟩ : Addr).add j = ⟨g, 0 + j, none⟩ by unfold Addr.add; split <;> simp_all] at this
theorem RdS.take {G : Nat → Prop} {w : World} {a : Option Addr} {c n : Nat} {xs : List Value} (h : RdS G w (.slice a n c) n xs) {m k : Nat} (hm : m ≤ n) : RdS G w (.slice a m c) m (xs.take k) := by
  obtain ⟨a', c', he, hc, h⟩ := h
  cases he
  refine ⟨a, c, rfl, by omega, fun hx => ?_⟩
  have hx' : xs ≠ [] := fun e => hx (by simp [e])
  obtain ⟨b, o, rfl, hg, hb, hcell⟩ := h hx'
  refine ⟨b, o, rfl, hg, hb, fun j u hu => hcell j u ?_⟩
  rw [List.getElem?_take] at hu
  split at hu
  · exact hu
  · cases hu

/-- A row of bytes as values. -/
def bv (l : List Int) : List Value := l.map (Value.int .u8)
@[simp] theorem bv_length (l : List Int) : (bv l).length = l.length := by simp [bv]
@[simp] theorem bv_append (l m : List Int) : bv (l ++ m) = bv l ++ bv m := by simp [bv]
@[simp] theorem bv_nil : bv [] = [] := rfl
theorem bv_ne {l : List Int} (h : ¬ l.length = 0) : bv l ≠ [] := by
  cases l with
  | nil => simp at h
  | cons a l => simp [bv]
theorem retb {a b : Bool} (h : a = b) : Ending.returned (.bool a) = .returned (.bool b) := by rw [h]
theorem reti {k : IntKind} {a b : Int} (h : a = b) : Ending.returned (.int k a) = .returned (.int k b) := by rw [h]
theorem bv_one (l : List Int) : ∀ u ∈ bv l, u.oneCell' = true := by
  intro u hu; simp [bv] at hu; obtain ⟨_, _, rfl⟩ := hu; rfl
theorem bv_get {l : List Int} {j : Nat} (h : j < l.length) : (bv l)[j]? = some (.int .u8 (l.getD j 0)) := by
  simp [bv, List.getElem?_eq_getElem h]
theorem bv_take (l : List Int) (k : Nat) : (bv l).take k = bv (l.take k) := by simp [bv]

/-- v reads as the bytes l: they lie in a row of bytes, or in a block of G. -/
def RdB (G : Nat → Prop) (w : World) (v : Value) (l : List Int) : Prop := RdS (fun b => G b ∨ IsU8 w b) w v l.length (bv l)
theorem RdB.fr {G S : Nat → Prop} {w w' : World} {v : Value} {l : List Int} (h : RdB G w v l) (hf : Fr S w w') (hd : ∀ b, b < w.heap.size → G b → ¬ S b) : RdB G w' v l := by
  obtain ⟨a, c, rfl, hc, h⟩ := h
  refine ⟨a, c, rfl, hc, fun hx => ?_⟩
  obtain ⟨b, o, rfl, hg, hb, hcell⟩ := h hx
  have hk : w'.heap[b]? = w.heap[b]? := by
    rcases hg with hg | hg
    · exact hf.block b hb (hd b hb hg)
    · exact hf.bytes b hg
  exact ⟨b, o, rfl, hg.imp id (fun e => hf.isU8 e), Nat.lt_of_lt_of_le hb hf.size, fun j u hu => by rw [World.cell?_of_block (a := ⟨b, o + j, none⟩) hk]; exact hcell j u hu⟩
theorem RdB.fr0 {S : Nat → Prop} {w w' : World} {v : Value} {l : List Int} (h : RdB Nil w v l) (hf : Fr S w w') : RdB Nil w' v l := h.fr hf (fun _ _ e => e.elim)
theorem RdB.frN {G : Nat → Prop} {w w' : World} {v : Value} {l : List Int} (h : RdB G w v l) (hf : Fr Nil w w') : RdB G w' v l := h.fr hf (fun _ _ _ e => e)
theorem RdB.mono {G G' : Nat → Prop} {w : World} {v : Value} {l : List Int} (h : RdB G w v l) (hg : ∀ b, b < w.heap.size → G b → G' b) : RdB G' w v l :=
  RdS.mono h (fun b hb e => e.imp (hg b hb) id)
theorem RdB.of_own {w : World} {base : Nat} {v : Value} {l : List Int} (h : w.ownsRow base U8 1 v l.length (bv l)) : RdB Nil w v l :=
  RdS.of_own h (fun b hb => .inr (by
    rcases h.2 with ⟨rfl, _⟩ | ⟨g, cap, cur, rfl, _, hg, _⟩
    · simp [Value.ownBlock] at hb
    · simp [Value.ownBlock] at hb; subst hb; exact ⟨cur, _, hg⟩))

/-- v reads as a row of rows of bytes: its own row lies in a block of G, the bytes in rows of bytes, or in blocks of H. -/
def RdBB (G H : Nat → Prop) (w : World) (v : Value) (ll : List (List Int)) : Prop :=
  ∃ vs : List Value, vs.length = ll.length ∧ RdS G w v ll.length vs ∧ ∀ (i : Nat) (u : Value) (l : List Int), vs[i]? = some u → ll[i]? = some l → RdB H w u l
theorem RdBB.fr {G H S : Nat → Prop} {w w' : World} {v : Value} {l : List (List Int)} (h : RdBB G H w v l) (hf : Fr S w w') (hd : ∀ b, b < w.heap.size → G b → ¬ S b) (he : ∀ b, b < w.heap.size → H b → ¬ S b) : RdBB G H w' v l := by
  obtain ⟨vs, h1, h2, h3⟩ := h
  exact ⟨vs, h1, h2.fr hf hd, fun i u l hu hl => (h3 i u l hu hl).fr hf he⟩
theorem RdBB.mono {G G' H H' : Nat → Prop} {w : World} {v : Value} {l : List (List Int)} (h : RdBB G H w v l) (hg : ∀ b, b < w.heap.size → G b → G' b) (hh : ∀ b, b < w.heap.size → H b → H' b) : RdBB G' H' w v l := by
  obtain ⟨vs, h1, h2, h3⟩ := h
  exact ⟨vs, h1, h2.mono hg, fun i u l hu hl => (h3 i u l hu hl).mono hh⟩
theorem RdBB.nil (G H : Nat → Prop) (w : World) : RdBB G H w (.slice none 0 0) [] := ⟨[], rfl, RdS.nil G w, fun i u l h => by simp at h⟩

end Go.Proofs.Ytaokmbmimogdgaa
