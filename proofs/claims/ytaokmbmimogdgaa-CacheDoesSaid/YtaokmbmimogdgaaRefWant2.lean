/- The reference's Want: of a place that is there. -/
import Derived.Test.YtaokmbmimogdgaaRefWant
import Derived.Deep.RegionLaw
import Derived.Deep.AppendLies
namespace Go.Proofs.Ytaokmbmimogdgaa
open Go.RowKit
theorem zipWith_set {α β γ : Type} (f : α → β → γ) : ∀ (l : List α) (m : List β) (k : Nat) (x : α) (y : β), List.zipWith f (l.set k x) (m.set k y) = (List.zipWith f l m).set k (f x y)
  | [], m, k, x, y => by simp
  | a :: l, [], k, x, y => by cases k <;> simp
  | a :: l, b :: m, 0, x, y => by simp
  | a :: l, b :: m, k + 1, x, y => by simp [zipWith_set f l m k x y]
theorem rowCells_set {l : List One} {us : List Value} {k : Nat} {x : One} {v v2 : Value} (hx : l[k]? = some x) (hu : us[k]? = some v) (ll : List (List Int)) : (rowCells l us).set (k * 12 + 11) v2 = rowCells (l.set k { x with waits := ll }) (us.set k v2) := by
  unfold rowCells
  rw [zipWith_set, flatten_set v2 _ (zip_len l us) k 11 (oneCells x v) (by omega) (by simp [List.getElem?_zipWith, hx, hu])]
  rfl
theorem Ones.set {N cap k : Nat} {R : Nat → Prop} {w : World} {a : Option Addr} {l : List One} {x : One} {v2 : Value} {ll : List (List Int)} {g : Nat} (h : Ones N R w (.slice a l.length cap) l) (hx : l[k]? = some x) (ha : a = some ⟨g, 0, none⟩) (hv : RdBB (fun b => R b ∧ IsTag TBs w b) Nil w v2 ll) :
    Ones N R (w.setCell ⟨g, k * 12 + 11, none⟩ v2) (.slice a l.length cap) (l.set k { x with waits := ll }) := by
  have hk := (List.getElem?_eq_some_iff.1 hx).1
  have htag : IsTag TOne w g := h.tag g (by subst ha; rfl)
  have hF : Fr (fun b => b = g) w (w.setCell ⟨g, k * 12 + 11, none⟩ v2) := (Fr.refl (fun b => b = g) w).setCell (p := ⟨g, k * 12 + 11, none⟩) (fun _ => ⟨rfl, fun h8 => by have := htag.uniq h8; revert this; decide⟩) _
  have hne : ∀ b, b < w.heap.size → IsTag TBs w b → R b → ¬ b = g := fun b _ ht _ e => by subst e; have := htag.uniq ht; revert this; decide
  obtain ⟨us, hul, hown, hus⟩ := h
  obtain ⟨v, hv0⟩ : ∃ v, us[k]? = some v := ⟨_, List.getElem?_eq_getElem (by omega)⟩
  refine ⟨us.set k v2, by simpa using hul, ?_, ?_⟩
  · have hlen := hown.1
    obtain ⟨h1, ⟨h2, h3⟩ | ⟨g2, c2, cur, he, hb, hh, h3, h4, h5, h6⟩⟩ := hown
    · omega
    · have hg2 : g2 = g := by rw [ha] at he; cases he; rfl
      subst hg2
      have hB : Blk w g2 TOne cur.toList := by simpa [Blk] using hh
      have hB2 := hB.set (k * 12 + 11) v2
      rw [List.length_set]
      refine ⟨by rw [← rowCells_set hx hv0]; simpa using h1, .inr ⟨g2, c2, (cur.toList.set (k * 12 + 11) v2).toArray, he, hb, hB2, h3, h4, by simpa using h5, ?_⟩⟩
      have h7 : (k + 1) * 12 ≤ l.length * 12 := Nat.mul_le_mul_right 12 (by omega)
      rw [← rowCells_set hx hv0, ← h6, List.toList_toArray, List.take_set]
  · intro i v0 x0 h1 h2
    by_cases hi : i = k
    · subst hi
      rw [List.getElem?_set_self (by omega)] at h1 h2
      cases h1; cases h2
      exact rdbb_tag hv hF hne (fun _ _ e => e)
    · rw [List.getElem?_set_ne (fun e => hi e.symm)] at h1 h2
      exact rdbb_tag (hus i v0 x0 h1 h2) hF hne (fun _ _ e => e)
theorem run_bss0 (ρ : Operand → Value) (d : Option Tmp) (ty : TypeId) (pos : String) (af : Array Edge) (g : Option (Nat × Bool)) (w : World) :
    (execOp ρ ⟨d, .buildSlice 47 0 #[], ty, pos, af, g⟩).run Try.prog w = .ok (.value (.slice (some ⟨w.heap.size, 0, none⟩) 0 0)) (w.alloc (.cells #[] 40)) := by
  kernel_rfl
theorem row_base' {w : World} {base e size n : Nat} {v : Value} {xs : List Value} (h : w.ownsRow base e size v n xs) : ∀ b, v.ownBlock = some b → base ≤ b := by
  obtain ⟨_, ⟨rfl, _⟩ | ⟨g, cap, cur, rfl, hbase, _⟩⟩ := h
  · intro b hb; cases hb
  · intro b hb
    have : g = b := by simpa [Value.ownBlock] using hb
    omega
theorem rdbb_of_own {R : Nat → Prop} {M base : Nat} {w4 : World} {v4 u3 : Value} {vs : List Value} {ll : List (List Int)} {b : List Int} (hown : w4.ownsRow base TBs 1 v4 (ll.length + 1) (vs ++ [u3])) (hvl : vs.length = ll.length)
    (hrd : ∀ (i : Nat) (v : Value) (l : List Int), vs[i]? = some v → ll[i]? = some l → RdB Nil w4 v l) (hb : RdB Nil w4 u3 b) (hM : M ≤ base) : RdBB (fun b => (R b ∨ M ≤ b) ∧ IsTag TBs w4 b) Nil w4 v4 (ll ++ [b]) := by
  refine ⟨vs ++ [u3], by simp [hvl], by rw [List.length_append]; exact RdS.of_own hown (fun k hk => ⟨.inr (Nat.le_trans hM (row_base' hown k hk)), ownsRow_tag hown k hk⟩), ?_⟩
  intro i v l h1 h2
  by_cases hi : i < vs.length
  · rw [List.getElem?_append_left hi] at h1
    rw [List.getElem?_append_left (by omega)] at h2
    exact hrd i v l h1 h2
  · have hi2 := (List.getElem?_eq_some_iff.1 h1).1
    simp at hi2
    have : i = vs.length := by omega
    subst this
    rw [List.getElem?_append_right (Nat.le_refl _), Nat.sub_self] at h1
    rw [hvl, List.getElem?_append_right (Nat.le_refl _), Nat.sub_self] at h2
    simp at h1 h2
    subst h1 h2
    exact hb
theorem RAt.waitMore {w w4 : World} {br : Nat} {c : Cf} {now : Int} {l : List One} {R : Nat → Prop} {conf : List Value} {cp g i : Nat} {x : One} {v4 : Value} {b : List Int} (h : RAt w br c now l R conf (.slice (some ⟨g, 0, none⟩) l.length cp)) (hf : Fr Nil w w4) (hx : l[i]? = some x)
    (hv : RdBB (fun b => (R b ∨ w.heap.size ≤ b) ∧ IsTag TBs w4 b) Nil w4 v4 (x.waits ++ [b])) : RNext w.heap.size w br c now (l.set i (addWait b x)) R (w4.setCell ⟨g, i * 12 + 11, none⟩ v4) := by
  have hg : R g := h.ru g rfl
  have htg : IsTag TOne w g := h.row.tag g rfl
  have htg4 := hf.tag _ _ htg
  have h4 := h.fr hf (fun _ _ e => e)
  have hgb : g ≠ br := fun e => by have := (e ▸ htg).uniq h.blk.tag; revert this; decide
  have hF : Fr (fun b => R b ∧ ¬ IsTag TBs w b) w (w4.setCell ⟨g, i * 12 + 11, none⟩ v4) := (hf.mono (fun _ _ e => e.elim)).setCell (p := ⟨g, i * 12 + 11, none⟩) (fun _ => ⟨⟨hg, fun ht => by have := htg.uniq ht; revert this; decide⟩, fun h8 => by have := htg.uniq h8; revert this; decide⟩) _
  have hs : (w4.setCell ⟨g, i * 12 + 11, none⟩ v4).heap.size = w4.heap.size := by simp
  have hO : Ones 0 (fun b => R b ∨ w.heap.size ≤ b) w4 (.slice (some ⟨g, 0, none⟩) l.length cp) l := h4.row.fr (Fr.refl Nil w4) (fun _ _ e => e) (fun _ _ _ _ e => e) (fun _ _ e => .inl e)
  have hO2 := hO.set (v2 := v4) hx rfl hv
  have hsz := hf.size
  refine ⟨hF, conf, .slice (some ⟨g, 0, none⟩) l.length cp, h.cok, h4.blk.far (fun e => hgb e.symm) _, ?_, ⟨.inl h.rb, by rw [hs]; exact h4.blk.lt⟩, fun b hb => ⟨.inl (h.ru b hb), by rw [hs]; exact h4.lt b (h.ru b hb)⟩, fun b hb => hb.2⟩
  have hO3 := hO2.fr (R' := fun b => (R b ∨ w.heap.size ≤ b) ∧ b < (w4.setCell ⟨g, i * 12 + 11, none⟩ v4).heap.size) (Fr.refl Nil _) (fun _ _ e => e) (fun _ _ _ _ e => e) (fun b hlt e => ⟨e, hlt⟩)
  unfold Ones at hO3 ⊢
  rw [List.length_set] at hO3
  rw [show (l.set i (addWait b x)).length = l.length from List.length_set]
  exact hO3
section
variable {w : World} {br : Nat} {c : Cf} {now : Int} {l : List One} {R : Nat → Prop} {conf : List Value} {u : Value}
set_option maxRecDepth 100000 in
set_option maxHeartbeats 4000000 in
theorem rwant_some (h : RAt w br c now l R conf u) (n k : Int) {bv : Value} {b : List Int} {G : Nat → Prop} (hb : RdB G w bv b) (hbl : b.length ≤ 1000000) (hl : l.length ≤ 1000000) (htot : total l ≤ 1000000) {i : Nat} {x : One} (hfi : find n k l = some i) (hff : findI n k l = i) (hx : l[i]? = some x) :
    Calls Try.prog 16 #[.pointer (some ⟨br, 0, none⟩), .agg #[.int .i64 n, .int .u32 k], bv] w
      (RWPost (.tuple #[.bool (Proofs.Ytaokmbmimogdgaa.want c now l n k b).1.1, .int .i64 (Proofs.Ytaokmbmimogdgaa.want c now l n k b).1.2]) w br c now (Proofs.Ytaokmbmimogdgaa.want c now l n k b).2 R) := by
  have hwant : Proofs.Ytaokmbmimogdgaa.want c now l n k b = if x.known then ((false, 10), l) else if c.queue ≤ total l then ((false, 7), l) else ((false, 0), l.set i (addWait b x)) := by
    unfold Proofs.Ytaokmbmimogdgaa.want; rw [hfi]; simp only [hx, Option.map_some, Option.getD_some]; rw [modify_eq_set hx]
  rw [hwant]
  have hf0 : Fr Nil w (w.alloc (.cells #[.int .i64 n, .int .u32 k] 39)) := (Fr.refl _ _).alloc _
  have h0 := h.fr hf0 (fun _ _ e => e)
  have hfd := rfind_any h0 n k hl
  rw [hff] at hfd
  obtain ⟨a, cp, hu⟩ := h.row.form
  subst hu
  have HFD := Lib.hid hfd
  have H0 := Lib.hid h0
  have HF0 := Lib.hid hf0
  have HH := Lib.hid h
  have HBB := Lib.hid hb
  have HX := Lib.hid hx
  have hilt := (List.getElem?_eq_some_iff.1 hx).1
  have hxw : x.waits.length ≤ 1000000 := Nat.le_trans (waits_le hx) htot
  clear h hf0 h0 hfd hwant hfi hff hb hx
  cases hk : x.known with
  | true =>
    simp only [if_true]
    have HK := Lib.hid hk
    clear hk
    go_enter Try.func16, Try.ntmps16
    go_wp2_with (go_at_call 30; refine HFD.out.mono ?_)
    rintro e w1 ⟨rfl, hf1⟩
    have h1 := H0.out.fr hf1 (fun _ _ e => e)
    have c41 := h1.c41
    have c13 := h1.c13
    obtain ⟨g, v, ha, hvx, hcs, hz, htg, hRg⟩ := h1.at HX.out
    subst ha
    obtain ⟨xa, xc, rfl⟩ := rdbb_form hvx
    have d2 : w1.cell? ⟨g, i * 12 + 2, none⟩ = some (.bool x.known) := hcs 2 (by omega)
    have d11 : w1.cell? ⟨g, i * 12 + 11, none⟩ = some (.slice xa x.waits.length xc) := hcs 11 (by omega)
    rw [HK.out] at d2
    have HF1 := Lib.hid (HF0.out.trans hf1 (fun _ _ e => e))
    have hbr := h1.blk.lt
    have HVX := Lib.hid hvx
    have HH1 := Lib.hid h1
    have HCW := Lib.hid (fun m => ((rwaits_any (h1.fr ((Fr.refl Nil w1).drewN m) (fun _ _ e => e)) hl htot).mono (fun _ _ h => ⟨h.1, 0, h.2.symm⟩) : Calls Try.prog 22 #[.pointer (some ⟨br, 0, none⟩)] (w1.drewN m) (RetV (.int .i64 (total l)) (w1.drewN m))))
    have hib : (0 : Int) ≤ (i : Int) := by omega
    have hil : (i : Int) < (l.length : Int) := by omega
    clear hf1 h1 hvx hcs
    go_wp2
    go_ret2
    exact ⟨rfl, HH.out.next0 HF1.out⟩
  | false =>
    simp only [Bool.false_eq_true, if_false]
    have HK := Lib.hid hk
    clear hk
    by_cases hq : c.queue ≤ total l
    · rw [if_pos hq]
      have hqb : decide ((total l : Int) ≥ c.queue) = true := by simpa using hq
      clear hq
      go_enter Try.func16, Try.ntmps16
      go_wp2_with (go_at_call 30; refine HFD.out.mono ?_)
      rintro e w1 ⟨rfl, hf1⟩
      have h1 := H0.out.fr hf1 (fun _ _ e => e)
      have c41 := h1.c41
      have c13 := h1.c13
      obtain ⟨g, v, ha, hvx, hcs, hz, htg, hRg⟩ := h1.at HX.out
      subst ha
      obtain ⟨xa, xc, rfl⟩ := rdbb_form hvx
      have d2 : w1.cell? ⟨g, i * 12 + 2, none⟩ = some (.bool x.known) := hcs 2 (by omega)
      have d11 : w1.cell? ⟨g, i * 12 + 11, none⟩ = some (.slice xa x.waits.length xc) := hcs 11 (by omega)
      rw [HK.out] at d2
      have HF1 := Lib.hid (HF0.out.trans hf1 (fun _ _ e => e))
      have hbr := h1.blk.lt
      have HVX := Lib.hid hvx
      have HH1 := Lib.hid h1
      have HCW := Lib.hid (fun m => ((rwaits_any (h1.fr ((Fr.refl Nil w1).drewN m) (fun _ _ e => e)) hl htot).mono (fun _ _ h => ⟨h.1, 0, h.2.symm⟩) : Calls Try.prog 22 #[.pointer (some ⟨br, 0, none⟩)] (w1.drewN m) (RetV (.int .i64 (total l)) (w1.drewN m))))
      have hib : (0 : Int) ≤ (i : Int) := by omega
      have hil : (i : Int) < (l.length : Int) := by omega
      clear hf1 h1 hvx hcs
      generalize (total l : Int) = tl at *
      go_wp2_with fail
      go_quiet ((go_at_call 22; exact RetV.quiet (HCW.out _)))
      go_wp2
      go_ret2
      exact ⟨rfl, HH.out.next0 (HF1.out.drewN nq)⟩
    · rw [if_neg hq]
      have hqb : decide ((total l : Int) ≥ c.queue) = false := by simpa using hq
      clear hq
      go_enter Try.func16, Try.ntmps16
      go_wp2_with (go_at_call 30; refine HFD.out.mono ?_)
      rintro e w1 ⟨rfl, hf1⟩
      have h1 := H0.out.fr hf1 (fun _ _ e => e)
      have c41 := h1.c41
      have c13 := h1.c13
      obtain ⟨g, v, ha, hvx, hcs, hz, htg, hRg⟩ := h1.at HX.out
      subst ha
      obtain ⟨xa, xc, rfl⟩ := rdbb_form hvx
      have d2 : w1.cell? ⟨g, i * 12 + 2, none⟩ = some (.bool x.known) := hcs 2 (by omega)
      have d11 : w1.cell? ⟨g, i * 12 + 11, none⟩ = some (.slice xa x.waits.length xc) := hcs 11 (by omega)
      rw [HK.out] at d2
      have HF1 := Lib.hid (HF0.out.trans hf1 (fun _ _ e => e))
      have hbr := h1.blk.lt
      have HVX := Lib.hid hvx
      have HH1 := Lib.hid h1
      have HCW := Lib.hid (fun m => ((rwaits_any (h1.fr ((Fr.refl Nil w1).drewN m) (fun _ _ e => e)) hl htot).mono (fun _ _ h => ⟨h.1, 0, h.2.symm⟩) : Calls Try.prog 22 #[.pointer (some ⟨br, 0, none⟩)] (w1.drewN m) (RetV (.int .i64 (total l)) (w1.drewN m))))
      have hib : (0 : Int) ≤ (i : Int) := by omega
      have hil : (i : Int) < (l.length : Int) := by omega
      clear hf1 h1 hvx hcs
      generalize (total l : Int) = tl at *
      have hneg : decide ((i : Int) < 0) = false := by simp
      go_wp2_with fail
      go_quiet ((go_at_call 22; exact RetV.quiet (HCW.out _)))
      go_upto_region 9 with fail
      have HF2 := Lib.hid (HF1.out.drewN nq)
      have HH2 := Lib.hid (HH1.out.fr ((Fr.refl Nil w1).drewN nq) (fun _ _ e => e))
      have q11 : (w1.drewN nq).cell? ⟨g, i * 12 + 11, none⟩ = some (.slice xa x.waits.length xc) := d11
      have D11 : Hid ((w1.drewN nq).cell? ⟨g, i * 12 + 11, none⟩ = some (.slice xa x.waits.length xc)) := Lib.hid d11
      have q41 : (w1.drewN nq).cell? ⟨br, 41, none⟩ = some (.slice (some ⟨g, 0, none⟩) l.length cp) := c41
      have hz2' : ∀ j, (w1.drewN nq).frozen? ⟨g, j, none⟩ = false := hz
      have HVX2 := Lib.hid (rdbb_tag (R' := R) HVX.out ((Fr.refl Nil w1).drewN nq) (fun _ _ _ _ e => e) (fun _ _ e => e))
      have htg2 := htg.alloc (.cells #[] 0)
      have HTG : Hid (IsTag TOne (w1.drewN nq) g) := Lib.hid htg
      have hl1 : br < (w1.drewN nq).heap.size := hbr
      have hl2 : g < (w1.drewN nq).heap.size := htg.lt
      clear c41 c13 d2 d11 hqb hbr HCW hz HVX HH1 htg htg2
      generalize w1.drewN nq = W at *
      obtain ⟨i0, hi0, hz0, hz1, hz2⟩ := info_parts infoBs
      have f9 : Fr Nil W (W.alloc (.cells #[] 40)) := (Fr.refl Nil W).alloc _
      have H0 : Hid ((W.alloc (.cells #[] 40)).ownsRow W.heap.size TBs 1 (.slice (some ⟨W.heap.size, 0, none⟩) 0 0) 0 []) := Lib.hid ⟨rfl, .inr ⟨W.heap.size, 0, #[], rfl, Nat.le_refl _, heap_alloc_new W _, Nat.le_refl _, by simp only [maxLen]; omega, rfl, rfl⟩⟩
      obtain ⟨vs, hvl, hrd, hvb⟩ := rdbb_tag (R' := R) HVX2.out f9 (fun _ _ _ _ e => e) (fun _ _ e => e)
      have HVL := Lib.hid hvl
      have HRD := Lib.hid hrd
      have HVB := Lib.hid hvb
      have HONE : Hid (∀ u ∈ vs, u.oneCell' = true) := Lib.hid (fun u hu => by
        obtain ⟨j, hj⟩ := List.getElem?_of_mem hu
        have hj2 := (List.getElem?_eq_some_iff.1 hj).1
        obtain ⟨a, cc, e, _⟩ := hvb j u _ hj (List.getElem?_eq_getElem (by omega))
        rw [e]; rfl)
      have HF9 := Lib.hid f9
      have p41 : (W.alloc (.cells #[] 40)).cell? ⟨br, 41, none⟩ = some (.slice (some ⟨g, 0, none⟩) l.length cp) := f9.cellS q41 (fun e => e)
      have p11 : (W.alloc (.cells #[] 40)).cell? ⟨g, i * 12 + 11, none⟩ = some (.slice xa x.waits.length xc) := f9.cellS q11 (fun e => e)
      clear hvl hrd hvb f9 q11 q41 HVX2
      go_step
      refine wpList_value (o := ⟨some 63, _, _, _, _, _⟩) rfl _ _ (run_bss0 _ _ _ _ _ _ _) ?_
      go_wp2_with (at_builtin; refine wpList_append_rd _ rfl (.tmp 64) (.tmp 72) _ rfl W.heap.size TBs i0 _ 1 24 Try.underlying47 hi0 hz0 hz1 hz2 rfl (by omega) (.slice (some ⟨W.heap.size, 0, none⟩) 0 0) 0 [] (by rfl) H0.out _ (.slice xa x.waits.length xc) x.waits.length vs (by rfl) HRD.out (by rw [HVL.out]; simp) HONE.out (by simp only [maxLen]; omega) (by omega) (by simp) ?_; intro v9 w9 hown9 hg9 hat9; have HOW9 := Lib.hid hown9; have HG9 := Lib.hid hg9; clear hown9 hg9 hat9 p41 p11)
      have hf9 : Fr Nil W w9 := HF9.out.grown HG9.out (fun b hb hlt => by simp [Value.ownBlock] at hb; omega)
      have c41 : w9.cell? ⟨br, 41, none⟩ = some (.slice (some ⟨g, 0, none⟩) l.length cp) := (HH2.out.fr hf9 (fun _ _ e => e)).c41
      have c11 : w9.cell? ⟨g, i * 12 + 11, none⟩ = some (.slice xa x.waits.length xc) := hf9.cellS D11.out (fun e => e)
      have z11 : w9.frozen? ⟨g, i * 12 + 11, none⟩ = false := by rw [hf9.frozen hl2 (fun e => e)]; exact hz2' _
      have hl1' : br < w9.heap.size := Nat.lt_of_lt_of_le hl1 hf9.size
      have hl2' : g < w9.heap.size := Nat.lt_of_lt_of_le hl2 hf9.size
      have hs9 := hf9.size
      have hg9 : v9.ownBlock ≠ some g := fun e => by have := row_base' HOW9.out g e; omega
      have hgb9 : v9.ownBlock ≠ some br := fun e => by have := row_base' HOW9.out br e; omega
      have hF9 := Lib.hid (HF2.out.trans hf9 (fun _ _ e => e))
      clear hf9 hz2'
      go_region_law (first
        | (refine step_append_rd _ rfl (.tmp 79) (.tmp 82) _ rfl W.heap.size TBs i0 _ 1 24 Try.underlying47 hi0 hz0 hz1 hz2 rfl (by omega) v9 (0 + x.waits.length) ([] ++ vs) (by rfl) (Fr.ownsRow ((((Fr.refl Nil w9).drew).trans hf3 (fun _ _ e => e)).alloc _) HOW9.out (fun _ _ e => e)) (fun _ => True) _ 1 [.slice ua b.length uc] (by rfl) ⟨_, _, rfl, Nat.le_refl _, fun _ => ⟨_, 0, rfl, trivial, (Blk.new w3 TBs [.slice ua b.length uc]).lt, fun j v hv => by rw [Nat.zero_add]; exact (Blk.new w3 TBs [.slice ua b.length uc]).cellS hv⟩⟩ rfl (fun x hx => (List.mem_singleton.1 hx) ▸ rfl) (by simp only [maxLen]; omega) (by omega) (by simp; omega) ?_; intro v4 w4 hown4 hg4 hat4; obtain ⟨g4, c4, hv4, _, _⟩ := World.ownsRow.form hown4 (by omega); subst hv4; have k414 : w4.cell? ⟨br, 41, none⟩ = some (.slice (some ⟨g, 0, none⟩) l.length cp) := hg4.cellS (by simp [go_sem, k41, hl4]) hgb9; have k94 : w4.cell? ⟨g, i * 12 + 11, none⟩ = some (.slice xa x.waits.length xc) := hg4.cellS (by simp [go_sem, k11, hl3]) hg9; have q94 : w4.frozen? ⟨g, i * 12 + 11, none⟩ = false := (by rw [hg4.frozen (by simp; omega) hg9]; simp [go_sem, hl3, hz3]))
        | (go_simp; go_at_call 32; refine (add_any G Nil _ bv (.slice none 0 0) b [] (HBB.out.frN (hF9.out.trans ((Fr.refl Nil w9).drew) (fun _ _ e => e))) (RdS.nil _ _) (by omega) (by simp)).mono ?_; rintro e w3 ⟨u3, rfl, hu3, hf3⟩; rw [List.append_nil] at hu3; obtain ⟨ua, uc, hue⟩ : ∃ a c, u3 = .slice a b.length c := (by obtain ⟨a, c, e, _⟩ := hu3; exact ⟨a, c, e⟩); subst hue; have k41 : w3.cell? ⟨br, 41, none⟩ = some (.slice (some ⟨g, 0, none⟩) l.length cp) := hf3.cellS (by simp [go_sem, c41]) (fun e => e); have k11 : w3.cell? ⟨g, i * 12 + 11, none⟩ = some (.slice xa x.waits.length xc) := hf3.cellS (by simp [go_sem, c11]) (fun e => e); have hl3 : g < w3.heap.size := World.block_lt_of_cell? _ _ k11; have hl4 : br < w3.heap.size := World.block_lt_of_cell? _ _ k41; have hz3 : w3.frozen? ⟨g, i * 12 + 11, none⟩ = false := (by rw [hf3.frozen (by simp; omega) (fun e => e)]; simp [go_sem, z11]); have hs3 := hf3.size; simp at hs3))
      all_goals go_wp2
      all_goals go_ret2
      all_goals
        have ht9 := ownsRow_tag HOW9.out
        have f91 : Fr (fun _ => True) (W.alloc (.cells #[] 40)) w9 := (Fr.refl (fun _ => True) _).grown HG9.out (fun b hb _ => ⟨trivial, fun h8 => by
          have e : W.heap.size = b := by simpa [Value.ownBlock] using hb
          subst e
          have := (IsTag.new TBs W #[] (0, 0)).uniq h8; revert this; decide⟩)
        have f93 : Fr (fun _ => True) w9 w3 := ((Fr.refl (fun _ => True) w9).drew).trans hf3 (fun _ _ e => e.elim)
        have f34 : Fr (fun _ => True) w3 w4 := ((Fr.refl (fun _ => True) w3).alloc (.cells #[.slice ua b.length uc] 40)).grown hg4 (fun b hb _ => ⟨trivial, fun h8 => by have := (f93.tag _ _ (ht9 b hb)).uniq h8; revert this; decide⟩)
        have hww := HF2.out.size
        have f4 : Fr Nil w w4 := (((hF9.out.drew).trans hf3 (fun _ _ e => e)).alloc (.cells #[.slice ua b.length uc] 40)).grown hg4 (fun b hb hlt => by have := row_base' HOW9.out b hb; omega)
        exact ⟨rfl, HH.out.waitMore f4 HX.out (rdbb_of_own (base := W.heap.size) (by simpa using hown4) HVL.out (fun j v l h1 h2 => (HVB.out j v l h1 h2).fr0 ((f91.trans f93 (fun _ _ e => e)).trans f34 (fun _ _ e => e))) (hu3.fr0 f34) hww)⟩
/-- The reference's Want: what it answers, and the row behind it. -/
theorem rwant_any (h : RAt w br c now l R conf u) (n k : Int) {bv : Value} {b : List Int} {G : Nat → Prop} (hb : RdB G w bv b) (hbl : b.length ≤ 1000000) (hl : l.length ≤ 1000000) (htot : total l ≤ 1000000) :
    Calls Try.prog 16 #[.pointer (some ⟨br, 0, none⟩), .agg #[.int .i64 n, .int .u32 k], bv] w
      (RWPost (.tuple #[.bool (Proofs.Ytaokmbmimogdgaa.want c now l n k b).1.1, .int .i64 (Proofs.Ytaokmbmimogdgaa.want c now l n k b).1.2]) w br c now (Proofs.Ytaokmbmimogdgaa.want c now l n k b).2 R) := by
  rcases find_cases n k l with ⟨h1, h2⟩ | ⟨i, x, h1, h2, h3, _⟩
  · exact rwant_none h n k hb hbl hl htot h1 h2
  · exact rwant_some h n k hb hbl hl htot h1 h2 h3
end
end Go.Proofs.Ytaokmbmimogdgaa
