/- What a law is handed: a configuration, a row of deeds; from the reading of the claim to the cells. -/
import Derived.Test.YtaokmbmimogdgaaCache
import Derived.Deep.Slices
import Derived.OpenShut
namespace Go.Proofs.Ytaokmbmimogdgaa
open Go.RowKit Go.WideShapes Go.Deep

structure Deed where
  kind : Int
  nic : Int
  nxt : Int
  mac : Mac
  b : List Int

def DeedAt (N0 : Nat) (w : World) (g o : Nat) (d : Deed) : Prop :=
  w.cell? ⟨g, o, none⟩ = some (.int .i64 d.kind) ∧ w.cell? ⟨g, o + 1, none⟩ = some (.int .i64 d.nic) ∧ w.cell? ⟨g, o + 2, none⟩ = some (.int .u32 d.nxt) ∧
  w.cell? ⟨g, o + 3, none⟩ = some (.int .u8 d.mac.a) ∧ w.cell? ⟨g, o + 4, none⟩ = some (.int .u8 d.mac.b) ∧ w.cell? ⟨g, o + 5, none⟩ = some (.int .u8 d.mac.c) ∧
  w.cell? ⟨g, o + 6, none⟩ = some (.int .u8 d.mac.d) ∧ w.cell? ⟨g, o + 7, none⟩ = some (.int .u8 d.mac.e) ∧ w.cell? ⟨g, o + 8, none⟩ = some (.int .u8 d.mac.f) ∧
  ∃ u, w.cell? ⟨g, o + 9, none⟩ = some u ∧ d.b.length ≤ maxLen ∧ RdB (fun b => b < N0) w u d.b
/-- The slice value v reads as the deeds ds; all lies below N0. -/
def DeedsAt (N0 : Nat) (w : World) (v : Value) (ds : List Deed) : Prop :=
  ∃ a c, v = .slice a ds.length c ∧ ds.length ≤ maxLen ∧ (ds ≠ [] → ∃ g o, a = some ⟨g, o, none⟩ ∧ g < N0 ∧ ∀ (i : Nat) (d : Deed), ds[i]? = some d → DeedAt N0 w g (o + i * 10) d)

theorem DeedAt.fr {N0 : Nat} {w w' : World} {g o : Nat} {d : Deed} {S : Nat → Prop} (h : DeedAt N0 w g o d) (hg : g < N0) (hf : Fr S w w') (hS : ∀ b, S b → N0 ≤ b) : DeedAt N0 w' g o d := by
  have hn : ¬ S g := fun e => by have := hS g e; omega
  obtain ⟨h0, h1, h2, h3, h4, h5, h6, h7, h8, u, h9, hm, h10⟩ := h
  exact ⟨hf.cellS h0 hn, hf.cellS h1 hn, hf.cellS h2 hn, hf.cellS h3 hn, hf.cellS h4 hn, hf.cellS h5 hn, hf.cellS h6 hn, hf.cellS h7 hn, hf.cellS h8 hn, u, hf.cellS h9 hn, hm, h10.fr hf (fun b _ hb e => by have := hS b e; omega)⟩
theorem DeedsAt.fr {N0 : Nat} {w w' : World} {v : Value} {ds : List Deed} {S : Nat → Prop} (h : DeedsAt N0 w v ds) (hf : Fr S w w') (hS : ∀ b, S b → N0 ≤ b) : DeedsAt N0 w' v ds := by
  obtain ⟨a, c, rfl, hm, h⟩ := h
  refine ⟨a, c, rfl, hm, fun hne => ?_⟩
  obtain ⟨g, o, rfl, hg, hd⟩ := h hne
  exact ⟨g, o, rfl, hg, fun i d hi => (hd i d hi).fr hg hf hS⟩

/-- linkboyref01.Few, whatever the world. -/
theorem few_val (G : Nat → Prop) (w : World) (v : Value) (l : List Int) (k : Nat) (h : RdB G w v l) (hl : l.length ≤ maxLen) (hk : k ≤ 1000000) :
    ∃ u, RdB G w u (l.take k) ∧ ∀ W, Calls Try.prog 7 #[v, .int .i64 k] W fun e w' => e = .returned u ∧ w' = W := by
  obtain ⟨a, c, rfl, hc, h'⟩ := h
  unfold maxLen at hl
  by_cases hlt : k < l.length
  · refine ⟨.slice a k c, ?_, fun W => ?_⟩
    · unfold RdB
      rw [← bv_take, List.length_take, Nat.min_eq_left (by omega)]
      exact RdS.take ⟨a, c, rfl, hc, h'⟩ (by omega)
    · go_enter Try.func7, Try.ntmps7
      have h1 : (k : Int) < (l.length : Int) := by omega
      have h2 : (k : Int) ≤ (c : Int) := by omega
      go_wp2
      go_ret
      exact ⟨rfl, rfl⟩
  · refine ⟨.slice a l.length c, ?_, fun W => ?_⟩
    · rw [List.take_of_length_le (by omega)]
      exact ⟨a, c, rfl, hc, h'⟩
    · go_enter Try.func7, Try.ntmps7
      have h1 : ¬ (k : Int) < (l.length : Int) := by omega
      go_wp2
      go_ret
      exact ⟨rfl, rfl⟩

section
variable {H : Type} {enc : TypeId × Value → H} {w : World} {base : Nat} {spare : Nat → Bool} {held : Bool}

/-- Bytes, from the claim's reading. -/
theorem open_bytes {P : Program} {t e : TypeId} {fuel : Nat} {cs : List Value} {x : DataW H × List MemPlace} (ht : P.underlying t = some (.slice e)) (he : P.underlying e = some (.int .u8)) (hc : P.cellsOf e = 1) (h : DataW.trod enc P w base spare held fuel t cs = some x) :
    ∃ u l, cs = [u] ∧ l.length ≤ maxLen ∧ RdB (fun b => b < w.heap.size) w u l := by
  rcases open_slice1 ht hc h with ⟨rfl, _⟩ | ⟨a, len, cap, m, n, V, D, Pl, rfl, _, hl, hm, hmm, _, hx⟩
  · exact ⟨_, [], rfl, Nat.zero_le _, RdS.nil _ _⟩
  · have hle : len ≤ m := by rw [hmm]; split <;> omega
    obtain ⟨f, hf⟩ := choose_lt (α := Int) (n := len) (p := fun i z => w.cell? (a.add i) = some (.int .u8 z)) (fun i hi => by
      obtain ⟨h1, h2⟩ := hx i (by omega)
      obtain ⟨z, hz, _⟩ := DataW.trod_int he h2
      simp at hz
      exact ⟨z, by rw [h1, hz]⟩)
    refine ⟨_, (List.range len).map f, rfl, by simp; omega, a, cap, by simp, by simp; exact hl, fun hne => ?_⟩
    have hp : 0 < len := by
      rcases Nat.eq_zero_or_pos len with e | e
      · subst e; simp at hne
      · exact e
    obtain ⟨b, off, spot⟩ := a
    have hspot : spot = none := by simpa [Addr.add] using World.cell?_spot (hf 0 hp)
    subst hspot
    have h0 := hf 0 hp
    rw [add_lit] at h0
    refine ⟨b, off, rfl, .inl (World.block_lt_of_cell? w _ h0), World.block_lt_of_cell? w _ h0, fun j u hj => ?_⟩
    have hjl : j < len := by have := (List.getElem?_eq_some_iff.1 hj).1; simpa using this
    simp [bv, hjl] at hj
    subst hj
    have := hf j hjl
    rwa [add_lit] at this

theorem cellsPlace : Try.prog.cellsOf 39 = 2 := by kernel_rfl
theorem cellsMac : Try.prog.cellsOf 23 = 6 := by kernel_rfl
theorem cellsDeed : Try.prog.cellsOf 42 = 10 := by kernel_rfl
theorem cellsU8 : Try.prog.cellsOf 5 = 1 := by kernel_rfl
theorem cellsInt : Try.prog.cellsOf 3 = 1 := by kernel_rfl
theorem cellsU32 : Try.prog.cellsOf 25 = 1 := by kernel_rfl
theorem cellsBs : Try.prog.cellsOf 40 = 1 := by kernel_rfl

theorem two {α : Type} (l : List α) (h : l.length = 2) : ∃ a b, l = [a, b] := by
  match l, h with
  | [a, b], _ => exact ⟨a, b, rfl⟩
theorem six {α : Type} (l : List α) (h : l.length = 6) : ∃ a b c d e f, l = [a, b, c, d, e, f] := by
  match l, h with
  | [a, b, c, d, e, f], _ => exact ⟨a, b, c, d, e, f, rfl⟩
theorem ten {α : Type} (l : List α) (h : l.length = 10) : ∃ a b c d e f g h i j, l = [a, b, c, d, e, f, g, h, i, j] := by
  match l, h with
  | [a, b, c, d, e, f, g, h, i, j], _ => exact ⟨a, b, c, d, e, f, g, h, i, j, rfl⟩

theorem trod_place {fuel : Nat} {cs : List Value} {x : Option (DataW H × List MemPlace)} (hx : x.isSome = true) (h : DataW.trod enc Try.prog w base spare held fuel 39 cs = x) : ∃ n k, cs = [.int .i64 n, .int .u32 k] := by
  obtain ⟨y, rfl⟩ := Option.isSome_iff_exists.1 hx
  obtain ⟨xs, m, _, _, hl, hxl, hf⟩ := DataW.trod_struct Try.underlying39 h
  rw [cellsPlace] at hl
  obtain ⟨c0, c1, rfl⟩ := two cs hl
  have h0 : DataW.trod enc Try.prog w base spare held m 3 (([c0, c1].drop 0).take (Try.prog.cellsOf 3)) = xs[0]? := hf 0 _ rfl
  have h1 : DataW.trod enc Try.prog w base spare held m 25 (([c0, c1].drop 1).take (Try.prog.cellsOf 25)) = xs[1]? := hf 1 _ rfl
  rw [cellsInt] at h0
  rw [cellsU32] at h1
  rw [List.getElem?_eq_getElem (by rw [hxl]; decide)] at h0 h1
  obtain ⟨n, e0, _⟩ := DataW.trod_int Try.underlying3 h0
  obtain ⟨k, e1, _⟩ := DataW.trod_int Try.underlying25 h1
  simp at e0 e1
  exact ⟨n, k, by rw [e0, e1]⟩

theorem trod_mac {fuel : Nat} {cs : List Value} {x : Option (DataW H × List MemPlace)} (hx : x.isSome = true) (h : DataW.trod enc Try.prog w base spare held fuel 23 cs = x) : ∃ m : Mac, cs = m.cells := by
  obtain ⟨y, rfl⟩ := Option.isSome_iff_exists.1 hx
  obtain ⟨xs, n, _, _, hl, hxl, hf⟩ := DataW.trod_array Try.underlying23 h
  rw [cellsMac] at hl
  obtain ⟨c0, c1, c2, c3, c4, c5, rfl⟩ := six cs hl
  have key : ∀ i, i < 6 → ∃ z, ((([c0, c1, c2, c3, c4, c5] : List Value).drop i).take 1) = [Value.int .u8 z] := by
    intro i hi
    have h0 := hf i hi
    rw [cellsU8, Nat.mul_one, List.getElem?_eq_getElem (by rw [hxl]; exact hi)] at h0
    obtain ⟨z, e, _⟩ := DataW.trod_int Try.underlying5 h0
    exact ⟨z, e⟩
  obtain ⟨z0, e0⟩ := key 0 (by omega)
  obtain ⟨z1, e1⟩ := key 1 (by omega)
  obtain ⟨z2, e2⟩ := key 2 (by omega)
  obtain ⟨z3, e3⟩ := key 3 (by omega)
  obtain ⟨z4, e4⟩ := key 4 (by omega)
  obtain ⟨z5, e5⟩ := key 5 (by omega)
  simp at e0 e1 e2 e3 e4 e5
  exact ⟨⟨z0, z1, z2, z3, z4, z5⟩, by rw [e0, e1, e2, e3, e4, e5]; rfl⟩

theorem trod_deed {fuel : Nat} {cs : List Value} {x : DataW H × List MemPlace} (h : DataW.trod enc Try.prog w base spare held fuel 42 cs = some x) :
    ∃ d : Deed, ∃ u, cs = [.int .i64 d.kind, .int .i64 d.nic, .int .u32 d.nxt, .int .u8 d.mac.a, .int .u8 d.mac.b, .int .u8 d.mac.c, .int .u8 d.mac.d, .int .u8 d.mac.e, .int .u8 d.mac.f, u] ∧ d.b.length ≤ maxLen ∧ RdB (fun b => b < w.heap.size) w u d.b := by
  obtain ⟨xs, n, _, _, hl, hxl, hf⟩ := DataW.trod_struct Try.underlying42 h
  rw [cellsDeed] at hl
  obtain ⟨c0, c1, c2, c3, c4, c5, c6, c7, c8, c9, rfl⟩ := ten cs hl
  have h0 : DataW.trod enc Try.prog w base spare held n 3 (([c0, c1, c2, c3, c4, c5, c6, c7, c8, c9].drop 0).take (Try.prog.cellsOf 3)) = xs[0]? := hf 0 _ rfl
  have h1 : DataW.trod enc Try.prog w base spare held n 39 (([c0, c1, c2, c3, c4, c5, c6, c7, c8, c9].drop 1).take (Try.prog.cellsOf 39)) = xs[1]? := hf 1 _ rfl
  have h2 : DataW.trod enc Try.prog w base spare held n 23 (([c0, c1, c2, c3, c4, c5, c6, c7, c8, c9].drop 3).take (Try.prog.cellsOf 23)) = xs[2]? := hf 2 _ rfl
  have h3 : DataW.trod enc Try.prog w base spare held n 40 (([c0, c1, c2, c3, c4, c5, c6, c7, c8, c9].drop 9).take (Try.prog.cellsOf 40)) = xs[3]? := hf 3 _ rfl
  rw [cellsInt] at h0
  rw [cellsPlace] at h1
  rw [cellsMac] at h2
  rw [cellsBs] at h3
  have hs : ∀ i, i < 4 → (xs[i]?).isSome = true := fun i hi => by rw [List.getElem?_eq_getElem (by rw [hxl]; exact hi)]; rfl
  rw [List.getElem?_eq_getElem (by rw [hxl]; decide)] at h0 h3
  obtain ⟨k, e0, _⟩ := DataW.trod_int Try.underlying3 h0
  obtain ⟨a, b, e1⟩ := trod_place (hs 1 (by omega)) h1
  obtain ⟨m, e2⟩ := trod_mac (hs 2 (by omega)) h2
  obtain ⟨u, l, e3, hl3, hb⟩ := open_bytes Try.underlying40 Try.underlying5 cellsU8 h3
  simp [Mac.cells] at e0 e1 e2 e3
  obtain ⟨rfl, rfl⟩ := e1
  obtain ⟨rfl, rfl, rfl, rfl, rfl, rfl⟩ := e2
  exact ⟨⟨k, a, b, m, l⟩, u, by rw [e0, e3], hl3, hb⟩

/-- The row of deeds. -/
theorem open_deeds {fuel : Nat} {cs : List Value} {x : DataW H × List MemPlace} (h : DataW.trod enc Try.prog w base spare held fuel 34 cs = some x) :
    ∃ v ds, cs = [v] ∧ DeedsAt w.heap.size w v ds := by
  rcases open_slice Try.underlying34 h with ⟨rfl, _⟩ | ⟨a, len, cap, m, n, D, Pl, rfl, _, hl, hm, hmm, _, hx⟩
  · exact ⟨_, [], rfl, none, 0, rfl, Nat.zero_le _, fun h => absurd rfl h⟩
  · have hle : len ≤ m := by rw [hmm]; split <;> omega
    rw [cellsDeed] at hx
    have key : ∀ i, i < len → ∃ d : Deed, ∃ u, (∀ j, j < 10 → w.cell? (a.add (i * 10 + j)) = ([.int .i64 d.kind, .int .i64 d.nic, .int .u32 d.nxt, .int .u8 d.mac.a, .int .u8 d.mac.b, .int .u8 d.mac.c, .int .u8 d.mac.d, .int .u8 d.mac.e, .int .u8 d.mac.f, u] : List Value)[j]?) ∧ d.b.length ≤ maxLen ∧ RdB (fun b => b < w.heap.size) w u d.b := by
      intro i hi
      obtain ⟨cs', h1, h2⟩ := hx i (by omega)
      obtain ⟨d, u, rfl, hm, hb⟩ := trod_deed h2
      exact ⟨d, u, fun j hj => by rw [← Go.Deep.add_add]; exact (World.cells?_some h1).2.2 j hj, hm, hb⟩
    have : Inhabited Deed := ⟨⟨0, 0, 0, Mac.zero, []⟩⟩
    obtain ⟨f, hf⟩ := choose_lt (α := Deed) (n := len) (p := fun i d => ∃ u, (∀ j, j < 10 → w.cell? (a.add (i * 10 + j)) = ([.int .i64 d.kind, .int .i64 d.nic, .int .u32 d.nxt, .int .u8 d.mac.a, .int .u8 d.mac.b, .int .u8 d.mac.c, .int .u8 d.mac.d, .int .u8 d.mac.e, .int .u8 d.mac.f, u] : List Value)[j]?) ∧ d.b.length ≤ maxLen ∧ RdB (fun b => b < w.heap.size) w u d.b) key
    refine ⟨_, (List.range len).map f, rfl, some a, cap, by simp, by simp; omega, fun hne => ?_⟩
    have hp : 0 < len := by
      rcases Nat.eq_zero_or_pos len with e | e
      · subst e; simp at hne
      · exact e
    obtain ⟨b, off, spot⟩ := a
    obtain ⟨u0, hu0, _, _⟩ := hf 0 hp
    have h00 := hu0 0 (by omega)
    have hspot : spot = none := by simpa [Addr.add] using World.cell?_spot h00
    subst hspot
    rw [add_lit] at h00
    refine ⟨b, off, rfl, World.block_lt_of_cell? w _ h00, fun i d hi => ?_⟩
    have hil : i < len := by have := (List.getElem?_eq_some_iff.1 hi).1; simpa using this
    simp [hil] at hi
    subst hi
    obtain ⟨u, hu, hlm, hb⟩ := hf i hil
    have hc : ∀ j v, j < 10 → ([.int .i64 (f i).kind, .int .i64 (f i).nic, .int .u32 (f i).nxt, .int .u8 (f i).mac.a, .int .u8 (f i).mac.b, .int .u8 (f i).mac.c, .int .u8 (f i).mac.d, .int .u8 (f i).mac.e, .int .u8 (f i).mac.f, u] : List Value)[j]? = some v → w.cell? ⟨b, off + i * 10 + j, none⟩ = some v := by
      intro j v hj hv
      have := hu j hj
      rw [add_lit, hv] at this
      rwa [Nat.add_assoc]
    exact ⟨hc 0 _ (by omega) rfl, hc 1 _ (by omega) rfl, hc 2 _ (by omega) rfl, hc 3 _ (by omega) rfl, hc 4 _ (by omega) rfl, hc 5 _ (by omega) rfl, hc 6 _ (by omega) rfl, hc 7 _ (by omega) rfl, hc 8 _ (by omega) rfl, u, hc 9 _ (by omega) rfl, hlm, hb⟩

theorem cellsConf : Try.prog.cellsOf 33 = 40 := by kernel_rfl
/-- The configuration. -/
theorem open_conf {fuel : Nat} {cs : List Value} {x : DataW H × List MemPlace} (h : DataW.trod enc Try.prog w base spare held fuel 33 cs = some x) : ∃ c, CfOK cs c := by
  obtain ⟨xs, n, _, _, hl, hxl, hf⟩ := DataW.trod_struct Try.underlying33 h
  rw [cellsConf] at hl
  have h12 : DataW.trod enc Try.prog w base spare held n 3 ((cs.drop 27).take (Try.prog.cellsOf 3)) = xs[12]? := hf 12 _ rfl
  have h13 : DataW.trod enc Try.prog w base spare held n 3 ((cs.drop 28).take (Try.prog.cellsOf 3)) = xs[13]? := hf 13 _ rfl
  have h14 : DataW.trod enc Try.prog w base spare held n 3 ((cs.drop 29).take (Try.prog.cellsOf 3)) = xs[14]? := hf 14 _ rfl
  have h15 : DataW.trod enc Try.prog w base spare held n 3 ((cs.drop 30).take (Try.prog.cellsOf 3)) = xs[15]? := hf 15 _ rfl
  have h16 : DataW.trod enc Try.prog w base spare held n 3 ((cs.drop 31).take (Try.prog.cellsOf 3)) = xs[16]? := hf 16 _ rfl
  rw [cellsInt] at h12 h13 h14 h15 h16
  rw [List.getElem?_eq_getElem (by rw [hxl]; decide)] at h12 h13 h14 h15 h16
  obtain ⟨a, e0, _⟩ := DataW.trod_int Try.underlying3 h12
  obtain ⟨b, e1, _⟩ := DataW.trod_int Try.underlying3 h13
  obtain ⟨c, e2, _⟩ := DataW.trod_int Try.underlying3 h14
  obtain ⟨d, e3, _⟩ := DataW.trod_int Try.underlying3 h15
  obtain ⟨e, e4, _, w4⟩ := DataW.trod_int Try.underlying3 h16
  have get : ∀ {o : Nat} {v : Value}, (cs.drop o).take 1 = [v] → cs[o]? = some v := by
    intro o v h
    have := congrArg (fun l => l[0]?) h
    simpa [List.getElem?_take, List.getElem?_drop] using this
  refine ⟨⟨a, b, c, d, e⟩, hl, get e0, get e1, get e2, get e3, get e4, ?_⟩
  exact (bounds_i64 w4).2
end

end Go.Proofs.Ytaokmbmimogdgaa
