/- The cache of the program: how it lies in memory; its small methods. -/
import Derived.Test.YtaokmbmimogdgaaMapPlace
import Derived.Test.YtaokmbmimogdgaaSpecLaws
import Derived.Test.YtaokmbmimogdgaaBytes
import Derived.Laws.Rows
import Derived.Deep.MidRow
namespace Go.Proofs.Ytaokmbmimogdgaa
open Go.RowKit Go.ChangeMaps

/-- A configuration's forty cells, and the five numbers of it that the layer looks at. -/
structure CfOK (conf : List Value) (c : Cf) : Prop where
  len : conf.length = 40
  c27 : conf[27]? = some (.int .i64 c.cache)
  c28 : conf[28]? = some (.int .i64 c.queue)
  c29 : conf[29]? = some (.int .i64 c.age)
  c30 : conf[30]? = some (.int .i64 c.retry)
  c31 : conf[31]? = some (.int .i64 c.tries)
  hi : c.tries ≤ 9223372036854775807

theorem forty (l : List Value) (h : l.length = 40) : ∃ c0 c1 c2 c3 c4 c5 c6 c7 c8 c9 c10 c11 c12 c13 c14 c15 c16 c17 c18 c19 c20 c21 c22 c23 c24 c25 c26 c27 c28 c29 c30 c31 c32 c33 c34 c35 c36 c37 c38 c39, l = [c0, c1, c2, c3, c4, c5, c6, c7, c8, c9, c10, c11, c12, c13, c14, c15, c16, c17, c18, c19, c20, c21, c22, c23, c24, c25, c26, c27, c28, c29, c30, c31, c32, c33, c34, c35, c36, c37, c38, c39] := by
  rcases l with _ | ⟨c0, l⟩
  · simp at h
  rcases l with _ | ⟨c1, l⟩
  · simp at h
  rcases l with _ | ⟨c2, l⟩
  · simp at h
  rcases l with _ | ⟨c3, l⟩
  · simp at h
  rcases l with _ | ⟨c4, l⟩
  · simp at h
  rcases l with _ | ⟨c5, l⟩
  · simp at h
  rcases l with _ | ⟨c6, l⟩
  · simp at h
  rcases l with _ | ⟨c7, l⟩
  · simp at h
  rcases l with _ | ⟨c8, l⟩
  · simp at h
  rcases l with _ | ⟨c9, l⟩
  · simp at h
  rcases l with _ | ⟨c10, l⟩
  · simp at h
  rcases l with _ | ⟨c11, l⟩
  · simp at h
  rcases l with _ | ⟨c12, l⟩
  · simp at h
  rcases l with _ | ⟨c13, l⟩
  · simp at h
  rcases l with _ | ⟨c14, l⟩
  · simp at h
  rcases l with _ | ⟨c15, l⟩
  · simp at h
  rcases l with _ | ⟨c16, l⟩
  · simp at h
  rcases l with _ | ⟨c17, l⟩
  · simp at h
  rcases l with _ | ⟨c18, l⟩
  · simp at h
  rcases l with _ | ⟨c19, l⟩
  · simp at h
  rcases l with _ | ⟨c20, l⟩
  · simp at h
  rcases l with _ | ⟨c21, l⟩
  · simp at h
  rcases l with _ | ⟨c22, l⟩
  · simp at h
  rcases l with _ | ⟨c23, l⟩
  · simp at h
  rcases l with _ | ⟨c24, l⟩
  · simp at h
  rcases l with _ | ⟨c25, l⟩
  · simp at h
  rcases l with _ | ⟨c26, l⟩
  · simp at h
  rcases l with _ | ⟨c27, l⟩
  · simp at h
  rcases l with _ | ⟨c28, l⟩
  · simp at h
  rcases l with _ | ⟨c29, l⟩
  · simp at h
  rcases l with _ | ⟨c30, l⟩
  · simp at h
  rcases l with _ | ⟨c31, l⟩
  · simp at h
  rcases l with _ | ⟨c32, l⟩
  · simp at h
  rcases l with _ | ⟨c33, l⟩
  · simp at h
  rcases l with _ | ⟨c34, l⟩
  · simp at h
  rcases l with _ | ⟨c35, l⟩
  · simp at h
  rcases l with _ | ⟨c36, l⟩
  · simp at h
  rcases l with _ | ⟨c37, l⟩
  · simp at h
  rcases l with _ | ⟨c38, l⟩
  · simp at h
  rcases l with _ | ⟨c39, l⟩
  · simp at h
  have : l = [] := List.eq_nil_of_length_eq_zero (by simpa using h)
  subst this
  exact ⟨c0, c1, c2, c3, c4, c5, c6, c7, c8, c9, c10, c11, c12, c13, c14, c15, c16, c17, c18, c19, c20, c21, c22, c23, c24, c25, c26, c27, c28, c29, c30, c31, c32, c33, c34, c35, c36, c37, c38, c39, rfl⟩

theorem run_buildC (conf : List Value) (hl : conf.length = 40) (now : Int) (bm : Nat) (w : World) :
    (Instr.build 71 #[(0, Value.agg conf.toArray), (1, Value.int .i64 now), (2, Value.map (some bm))]).run Try.prog w = .ok (.agg (conf ++ [Value.int .i64 now, .map (some bm), .int .i64 0]).toArray) w := by
  obtain ⟨c0, c1, c2, c3, c4, c5, c6, c7, c8, c9, c10, c11, c12, c13, c14, c15, c16, c17, c18, c19, c20, c21, c22, c23, c24, c25, c26, c27, c28, c29, c30, c31, c32, c33, c34, c35, c36, c37, c38, c39, rfl⟩ := forty conf hl
  kernel_rfl

def TC : Nat := 71
def TP : Nat := 75
def TBs : Nat := 40

/-- Block b is just the cells cs, of element type e. -/
def Blk (w : World) (b e : Nat) (cs : List Value) : Prop := w.heap[b]? = some (.cells cs.toArray e (0, 0))
theorem Blk.lt {w : World} {b e : Nat} {cs : List Value} (h : Blk w b e cs) : b < w.heap.size := (Array.getElem?_eq_some_iff.1 h).1
theorem Blk.cell {w : World} {b e : Nat} {cs : List Value} (h : Blk w b e cs) (i : Nat) : w.cell? ⟨b, i, none⟩ = cs[i]? := by
  rw [cell_of_row w b i _ e (0, 0) h]; simp
theorem Blk.cellS {w : World} {b e : Nat} {cs : List Value} (h : Blk w b e cs) {i : Nat} {v : Value} (hv : cs[i]? = some v) : w.cell? ⟨b, i, none⟩ = some v := by rw [h.cell, hv]
theorem Blk.frozen {w : World} {b e : Nat} {cs : List Value} (h : Blk w b e cs) (i : Nat) : w.frozen? ⟨b, i, none⟩ = false := by
  unfold Blk at h; simp [World.frozen?, h]
theorem Blk.tag {w : World} {b e : Nat} {cs : List Value} (h : Blk w b e cs) : IsTag e w b := ⟨_, _, h⟩
theorem Blk.new (w : World) (e : Nat) (cs : List Value) : Blk (w.alloc (.cells cs.toArray e)) w.heap.size e cs := heap_alloc_new w _
theorem Blk.alloc {w : World} {b e : Nat} {cs : List Value} (h : Blk w b e cs) (o : Obj) : Blk (w.alloc o) b e cs := (Below.heap_alloc w o b h.lt).trans h
theorem Blk.drewN {w : World} {b e : Nat} {cs : List Value} (h : Blk w b e cs) (n : Nat) : Blk (w.drewN n) b e cs := h
theorem Blk.set {w : World} {b e : Nat} {cs : List Value} (h : Blk w b e cs) (i : Nat) (u : Value) : Blk (w.setCell ⟨b, i, none⟩ u) b e (cs.set i u) := by
  unfold Blk at h ⊢
  rw [heap_setCell_same w b i _ e u h]; simp
theorem Blk.far {w : World} {b e : Nat} {cs : List Value} (h : Blk w b e cs) {p : Addr} (hp : b ≠ p.block) (u : Value) : Blk (w.setCell p u) b e cs := (Below.heap_setCell w p u b hp).trans h
theorem Blk.fr {S : Nat → Prop} {w w' : World} {b e : Nat} {cs : List Value} (h : Blk w b e cs) (hf : Fr S w w') (hn : ¬ S b) : Blk w' b e cs := hf.blockS h hn
theorem Blk.setMap {w : World} {b e : Nat} {cs : List Value} (h : Blk w b e cs) {r : Nat} {es : Array MapEntry} {ck : Nat} (hr : w.heap[r]? = some (.map es ck)) (o : Obj) : Blk (setBlock w r o) b e cs := by
  unfold Blk at h ⊢
  rw [heap_setBlock_other hr o (fun e' => by subst e'; rw [hr] at h; cases h)]; exact h
theorem cell_setMap {w : World} {r : Nat} {es : Array MapEntry} {ck : Nat} (hr : w.heap[r]? = some (.map es ck)) (es' : Array MapEntry) (ck' : Nat) (a : Addr) : (setBlock w r (.map es' ck')).cell? a = w.cell? a := by
  by_cases h : a.block = r
  · have h1 := heap_setBlock_same hr (.map es' ck')
    unfold World.cell?
    rw [h, h1, hr]
  · exact World.cell?_of_block (heap_setBlock_other hr _ h)
theorem Blk.ne {w : World} {b e b' e' : Nat} {cs cs' : List Value} (h : Blk w b e cs) (h' : Blk w b' e' cs') (hne : e ≠ e') : b ≠ b' := by
  rintro rfl; exact hne (h.tag.uniq h'.tag)

theorem Blk.setRow {w : World} {b e : Nat} {cs : List Value} (h : Blk w b e cs) (cs' : List Value) : Blk (w.setRow b cs'.toArray) b e cs' := setRow_heap w b _ _ e _ h
/-- A whole struct or array is stored over a block of its size. -/
theorem wpList_store_blk {P : Program} {ops : Array Oper} {rest : List Oper} {o : Oper} {a : Act} {w : World} {Q : Exit → Act → World → Prop} (hgd : o.guard = none) (ty : TypeId) (x y : Operand) (ho : o.op = .store ty x y)
    (g : Nat) (cells : List Value) (hx : a.eval x = .pointer (some ⟨g, 0, none⟩)) (hy : a.eval y = .agg cells.toArray)
    (e : TypeId) (old : List Value) (hg : Blk w g e old) (hi : (P.info? ty).map (·.size) = some cells.length) (hold : old.length = cells.length) (h1 : ∀ v ∈ cells, v.oneCell' = true)
    (h : ∀ w', Blk w' g e cells → Gw w w' (some g) → wpList P ops Q rest (a.put o.dst undef) w') : wpList P ops Q (o :: rest) a w :=
  wpList_store_row hgd ty x y ho g cells.toArray hx hy e old.toArray hg (by simpa using hi) (by simpa using hold) (Array.all_eq_true_iff_forall_mem.2 (fun v hv => h1 v (by simpa using hv)))
    (h _ (hg.setRow cells) (gw_setRow hg _))
/-- A struct or an array is read out of the midst of a block. -/
theorem wpList_load_blk {P : Program} {ops : Array Oper} {rest : List Oper} {o : Oper} {a : Act} {w : World} {Q : Exit → Act → World → Prop} (hgd : o.guard = none) (ty : TypeId) (x : Operand) (ho : o.op = .load ty x)
    (g off : Nat) (hx : a.eval x = .pointer (some ⟨g, off, none⟩)) (e : TypeId) (all cs : List Value) (hg : Blk w g e all) (hc : ∀ j v, cs[j]? = some v → all[off + j]? = some v)
    (d : TypeDesc) (hu : P.underlying ty = some d) (hd : d.isRow = true) (hi : (P.info? ty).map (·.size) = some cs.length)
    (h : wpList P ops Q rest (a.put o.dst (.agg cs.toArray)) w) : wpList P ops Q (o :: rest) a w :=
  wpList_load_mid hgd ty x ho g off hx cs d (fun j v hv => by rw [hg.cell]; exact hc j v hv) hu hd hi h

theorem results_cell2 {P : Program} {fn : Func} {p u : Tmp} {ty : TypeId} (h : fn.results = #[.cell p ty, .tmp u]) (tmps : Array Value) (w : World) (g : Nat) (e : TypeId) (cs : List Value)
    (hp : tmps.getD p undef = .pointer (some ⟨g, 0, none⟩)) (hg : Blk w g e cs) (d : TypeDesc)
    (hu : P.underlying ty = some d) (hd : (match d with | .struct _ | .array _ _ => true | _ => false) = true) (hi : (P.info? ty).map (·.size) = some cs.length) :
    (results fn tmps).run P w = .ok (.tuple #[.agg cs.toArray, tmps.getD u undef]) w := by
  have hp' : tmps[p]?.getD undef = .pointer (some ⟨g, 0, none⟩) := by simpa using hp
  have := run_loadVar_row (P := P) w g e ty cs.toArray (0, 0) d hg hu hd (by simpa using hi)
  simp [results, h, hp', asAddr, this]

/-- What waits for a place: a row of its own of rows of bytes. -/
def WaitsAt (w : World) (u : Value) (ll : List (List Int)) : Prop :=
  ∃ vs : List Value, vs.length = ll.length ∧ w.ownsRow 0 TBs 1 u ll.length vs ∧ ∀ (i : Nat) (v : Value) (l : List Int), vs[i]? = some v → ll[i]? = some l → RdB Nil w v l
theorem WaitsAt.nil (w : World) : WaitsAt w (.slice none 0 0) [] := ⟨[], rfl, World.ownsRow_nil _ _ _ _, fun i v l h => by simp at h⟩
theorem WaitsAt.fr {S : Nat → Prop} {w w' : World} {u : Value} {ll : List (List Int)} (h : WaitsAt w u ll) (hf : Fr S w w') (hn : ∀ b, u.ownBlock = some b → ¬ S b) : WaitsAt w' u ll := by
  obtain ⟨vs, h1, h2, h3⟩ := h
  exact ⟨vs, h1, hf.ownsRow h2 hn, fun i v l hv hl => (h3 i v l hv hl).fr0 hf⟩
theorem ownsRow_tag {w : World} {base e size n : Nat} {v : Value} {xs : List Value} (h : w.ownsRow base e size v n xs) : ∀ b, v.ownBlock = some b → IsTag e w b := by
  intro b hb
  rcases h.2 with ⟨rfl, _⟩ | ⟨g, cap, cur, rfl, _, hg, _⟩
  · simp [Value.ownBlock] at hb
  · simp [Value.ownBlock] at hb; subst hb; exact ⟨cur, _, hg⟩
theorem WaitsAt.tag {w : World} {u : Value} {ll : List (List Int)} (h : WaitsAt w u ll) : ∀ b, u.ownBlock = some b → IsTag TBs w b := by
  obtain ⟨vs, _, h2, _⟩ := h; exact ownsRow_tag h2
theorem WaitsAt.rd {w : World} {u : Value} {ll : List (List Int)} (h : WaitsAt w u ll) {G : Nat → Prop} (hG : ∀ b, u.ownBlock = some b → G b) : RdBB G Nil w u ll := by
  obtain ⟨vs, h1, h2, h3⟩ := h
  exact ⟨vs, h1, RdS.of_own h2 hG, h3⟩

def placeCells (x : One) (due : Int) (u : Value) : List Value :=
  [.bool x.known, .int .u8 x.mac.a, .int .u8 x.mac.b, .int .u8 x.mac.c, .int .u8 x.mac.d, .int .u8 x.mac.e, .int .u8 x.mac.f, .int .i64 x.tries, .int .i64 due, u]

/-- A place in memory: what is known of it, its block, its row of what waits. -/
structure Ent where
  x : One
  bp : Nat
  u : Value
def dueOf (c : Cf) (x : One) : Int := x.since + waitOf c x
def EntAt (w : World) (c : Cf) (t : Ent) : Prop := Blk w t.bp TP (placeCells t.x (dueOf c t.x) t.u) ∧ WaitsAt w t.u t.x.waits
def Apart (s t : Ent) : Prop := s.bp ≠ t.bp ∧ ∀ b, s.u.ownBlock = some b → t.u.ownBlock ≠ some b
theorem Apart.symm {s t : Ent} (h : Apart s t) : Apart t s := ⟨h.1.symm, fun b hb h' => h.2 b h' hb⟩
def ekv (t : Ent) : (Int × Int) × Value := (key t.x, .pointer (some ⟨t.bp, 0, none⟩))
def rows (ents : List Ent) : List One := ents.map (·.x)

structure CAt (w : World) (bc : Nat) (c : Cf) (now : Int) (conf : List Value) (bm : Nat) (ents : List Ent) (F : Nat → Prop) : Prop where
  cok : CfOK conf c
  blk : Blk w bc TC (conf ++ [.int .i64 now, .map (some bm), .int .i64 (total (rows ents))])
  map : MapIs w bm (ents.map ekv)
  eat : ∀ t ∈ ents, EntAt w c t
  apart : ents.Pairwise Apart
  fc : F bc
  fm : F bm
  fe : ∀ t ∈ ents, F t.bp ∧ ∀ b, t.u.ownBlock = some b → F b
  lt : ∀ b, F b → b < w.heap.size
  nb : ∀ b, F b → ¬ IsU8 w b

/-- The program's cache at block bc: the row l, at the tick now; its blocks are those of F. -/
def CRep (w : World) (bc : Nat) (c : Cf) (now : Int) (l : List One) (F : Nat → Prop) : Prop :=
  Sorted l ∧ ∃ conf bm ents, CAt w bc c now conf bm ents F ∧ l.Perm (rows ents)

section
variable {w : World} {bc : Nat} {c : Cf} {now : Int} {conf : List Value} {bm : Nat} {ents : List Ent} {F : Nat → Prop}
theorem CAt.cellConf (h : CAt w bc c now conf bm ents F) {i : Nat} {v : Value} (hv : conf[i]? = some v) : w.cell? ⟨bc, i, none⟩ = some v := by
  have hi := (List.getElem?_eq_some_iff.1 hv).1
  exact h.blk.cellS (by rw [List.getElem?_append_left hi]; exact hv)
theorem CAt.c27 (h : CAt w bc c now conf bm ents F) : w.cell? ⟨bc, 27, none⟩ = some (.int .i64 c.cache) := h.cellConf h.cok.c27
theorem CAt.c28 (h : CAt w bc c now conf bm ents F) : w.cell? ⟨bc, 28, none⟩ = some (.int .i64 c.queue) := h.cellConf h.cok.c28
theorem CAt.c29 (h : CAt w bc c now conf bm ents F) : w.cell? ⟨bc, 29, none⟩ = some (.int .i64 c.age) := h.cellConf h.cok.c29
theorem CAt.c30 (h : CAt w bc c now conf bm ents F) : w.cell? ⟨bc, 30, none⟩ = some (.int .i64 c.retry) := h.cellConf h.cok.c30
theorem CAt.c31 (h : CAt w bc c now conf bm ents F) : w.cell? ⟨bc, 31, none⟩ = some (.int .i64 c.tries) := h.cellConf h.cok.c31
theorem CAt.c40 (h : CAt w bc c now conf bm ents F) : w.cell? ⟨bc, 40, none⟩ = some (.int .i64 now) :=
  h.blk.cellS (by have := h.cok.len; rw [List.getElem?_append_right (by omega)]; simp [this])
theorem CAt.c41 (h : CAt w bc c now conf bm ents F) : w.cell? ⟨bc, 41, none⟩ = some (.map (some bm)) :=
  h.blk.cellS (by have := h.cok.len; rw [List.getElem?_append_right (by omega)]; simp [this])
theorem CAt.c42 (h : CAt w bc c now conf bm ents F) : w.cell? ⟨bc, 42, none⟩ = some (.int .i64 (total (rows ents))) :=
  h.blk.cellS (by have := h.cok.len; rw [List.getElem?_append_right (by omega)]; simp [this])
theorem CAt.bcbm (h : CAt w bc c now conf bm ents F) : bc ≠ bm := by
  rintro rfl; exact h.map.noTag _ h.blk.tag
theorem CAt.bpbc (h : CAt w bc c now conf bm ents F) {t : Ent} (ht : t ∈ ents) : t.bp ≠ bc := (h.eat t ht).1.ne h.blk (by decide)
theorem CAt.bpbm (h : CAt w bc c now conf bm ents F) {t : Ent} (ht : t ∈ ents) : t.bp ≠ bm := by
  intro e; exact h.map.noTag TP (by rw [← e]; exact (h.eat t ht).1.tag)
/-- What is kept where no block of F is written. -/
theorem CAt.fr {S : Nat → Prop} {w' : World} (h : CAt w bc c now conf bm ents F) (hf : Fr S w w') (hn : ∀ b, F b → ¬ S b) : CAt w' bc c now conf bm ents F where
  cok := h.cok
  blk := h.blk.fr hf (hn _ h.fc)
  map := h.map.kept (hf.block _ h.map.lt (hn _ h.fm))
  eat := fun t ht => ⟨(h.eat t ht).1.fr hf (hn _ (h.fe t ht).1), (h.eat t ht).2.fr hf (fun b hb => hn _ ((h.fe t ht).2 b hb))⟩
  apart := h.apart
  fc := h.fc
  fm := h.fm
  fe := h.fe
  lt := fun b hb => Nat.lt_of_lt_of_le (h.lt b hb) hf.size
  nb := fun b hb hu => by
    obtain ⟨cur, fr, hh⟩ := hu
    rw [hf.block b (h.lt b hb) (hn b hb)] at hh
    exact h.nb b hb ⟨cur, fr, hh⟩
end
theorem CRep.fr {S : Nat → Prop} {w w' : World} {bc : Nat} {c : Cf} {now : Int} {l : List One} {F : Nat → Prop} (h : CRep w bc c now l F) (hf : Fr S w w') (hn : ∀ b, F b → ¬ S b) : CRep w' bc c now l F := by
  obtain ⟨hs, conf, bm, ents, h, hp⟩ := h
  exact ⟨hs, conf, bm, ents, h.fr hf hn, hp⟩

end Go.Proofs.Ytaokmbmimogdgaa
