/- The reference's put. -/
import Derived.Test.YtaokmbmimogdgaaRefDrop
namespace Go.Proofs.Ytaokmbmimogdgaa
open Go.RowKit
section
variable {w : World} {br : Nat} {c : Cf} {now : Int} {l : List One} {R : Nat → Prop} {conf : List Value} {u : Value}
/-- What put reads, at any world that comes by. -/
def PutEnv (V : World) (br g bx k : Nat) (x y : One) (vx vy u : Value) : Prop :=
  V.cell? ⟨br, 41, none⟩ = some u ∧ br < V.heap.size ∧ g < V.heap.size ∧ bx < V.heap.size ∧
  V.cell? ⟨g, k * 12, none⟩ = some (.int .i64 y.nic) ∧ V.cell? ⟨g, k * 12 + 1, none⟩ = some (.int .u32 y.nxt) ∧ V.cell? ⟨g, k * 12 + 2, none⟩ = some (.bool y.known) ∧ V.cell? ⟨g, k * 12 + 3, none⟩ = some (.int .u8 y.mac.a) ∧ V.cell? ⟨g, k * 12 + 4, none⟩ = some (.int .u8 y.mac.b) ∧ V.cell? ⟨g, k * 12 + 5, none⟩ = some (.int .u8 y.mac.c) ∧ V.cell? ⟨g, k * 12 + 6, none⟩ = some (.int .u8 y.mac.d) ∧ V.cell? ⟨g, k * 12 + 7, none⟩ = some (.int .u8 y.mac.e) ∧ V.cell? ⟨g, k * 12 + 8, none⟩ = some (.int .u8 y.mac.f) ∧ V.cell? ⟨g, k * 12 + 9, none⟩ = some (.int .i64 y.tries) ∧ V.cell? ⟨g, k * 12 + 10, none⟩ = some (.int .i64 y.since) ∧ V.cell? ⟨g, k * 12 + 11, none⟩ = some (vy) ∧
  V.cell? ⟨bx, 0, none⟩ = some (.int .i64 x.nic) ∧ V.cell? ⟨bx, 1, none⟩ = some (.int .u32 x.nxt) ∧ V.cell? ⟨bx, 2, none⟩ = some (.bool x.known) ∧ V.cell? ⟨bx, 3, none⟩ = some (.int .u8 x.mac.a) ∧ V.cell? ⟨bx, 4, none⟩ = some (.int .u8 x.mac.b) ∧ V.cell? ⟨bx, 5, none⟩ = some (.int .u8 x.mac.c) ∧ V.cell? ⟨bx, 6, none⟩ = some (.int .u8 x.mac.d) ∧ V.cell? ⟨bx, 7, none⟩ = some (.int .u8 x.mac.e) ∧ V.cell? ⟨bx, 8, none⟩ = some (.int .u8 x.mac.f) ∧ V.cell? ⟨bx, 9, none⟩ = some (.int .i64 x.tries) ∧ V.cell? ⟨bx, 10, none⟩ = some (.int .i64 x.since) ∧ V.cell? ⟨bx, 11, none⟩ = some (vx)
theorem PutEnv.fr {V V' : World} {br g bx k : Nat} {x y : One} {vx vy u : Value} (h : PutEnv V br g bx k x y vx vy u) (hf : Fr Nil V V') : PutEnv V' br g bx k x y vx vy u := by
  obtain ⟨c41, l0, l1, l2, d0, d1, d2, d3, d4, d5, d6, d7, d8, d9, d10, d11, x0, x1, x2, x3, x4, x5, x6, x7, x8, x9, x10, x11⟩ := h
  have s := hf.size
  exact ⟨hf.cellS c41 (fun e => e), by omega, by omega, by omega, hf.cellS d0 (fun e => e), hf.cellS d1 (fun e => e), hf.cellS d2 (fun e => e), hf.cellS d3 (fun e => e), hf.cellS d4 (fun e => e), hf.cellS d5 (fun e => e), hf.cellS d6 (fun e => e), hf.cellS d7 (fun e => e), hf.cellS d8 (fun e => e), hf.cellS d9 (fun e => e), hf.cellS d10 (fun e => e), hf.cellS d11 (fun e => e), hf.cellS x0 (fun e => e), hf.cellS x1 (fun e => e), hf.cellS x2 (fun e => e), hf.cellS x3 (fun e => e), hf.cellS x4 (fun e => e), hf.cellS x5 (fun e => e), hf.cellS x6 (fun e => e), hf.cellS x7 (fun e => e), hf.cellS x8 (fun e => e), hf.cellS x9 (fun e => e), hf.cellS x10 (fun e => e), hf.cellS x11 (fun e => e)⟩
set_option maxRecDepth 100000 in
set_option maxHeartbeats 4000000 in
theorem rput_any (h : RAt w br c now l R conf u) (x : One) (va : Option Addr) (vc M : Nat) (hM : M ≤ w.heap.size) (hv : RdBB (fun b => (R b ∨ M ≤ b) ∧ IsTag TBs w b) Nil w (.slice va x.waits.length vc) x.waits) (hl : l.length ≤ 1000000) :
    Calls Try.prog 31 #[.pointer (some ⟨br, 0, none⟩), .agg #[.int .i64 x.nic, .int .u32 x.nxt, .bool x.known, .int .u8 x.mac.a, .int .u8 x.mac.b, .int .u8 x.mac.c, .int .u8 x.mac.d, .int .u8 x.mac.e, .int .u8 x.mac.f, .int .i64 x.tries, .int .i64 x.since, .slice va x.waits.length vc]] w (DropPost M w br c now (put x l) R) := by
  have hf0 : Fr Nil w (w.alloc (.cells #[.int .i64 x.nic, .int .u32 x.nxt, .bool x.known, .int .u8 x.mac.a, .int .u8 x.mac.b, .int .u8 x.mac.c, .int .u8 x.mac.d, .int .u8 x.mac.e, .int .u8 x.mac.f, .int .i64 x.tries, .int .i64 x.since, .slice va x.waits.length vc] 82)) := (Fr.refl _ _).alloc _
  have hB0 := Blk.new w TOne (oneCells x (.slice va x.waits.length vc))
  have h1 := h.fr hf0 (fun _ _ e => e)
  have hv1 := rdbb_tag (R' := fun b => R b ∨ M ≤ b) hv hf0 (fun _ _ _ _ e => e) (fun _ _ e => e)
  have h1c := one_one x hv
  have hbr := h1.blk.lt
  obtain ⟨a, cp, hu⟩ := h.row.form
  subst hu
  obtain ⟨W, hW⟩ : ∃ W, w.alloc (.cells #[.int .i64 x.nic, .int .u32 x.nxt, .bool x.known, .int .u8 x.mac.a, .int .u8 x.mac.b, .int .u8 x.mac.c, .int .u8 x.mac.d, .int .u8 x.mac.e, .int .u8 x.mac.f, .int .i64 x.tries, .int .i64 x.since, .slice va x.waits.length vc] 82) = W := ⟨_, rfl⟩
  have hB1 : Blk W w.heap.size TOne (oneCells x (.slice va x.waits.length vc)) := by rw [← hW]; exact hB0
  rw [hW] at h1 hf0 hv1 hbr
  have H := Lib.hid h1
  have HF0 := Lib.hid hf0
  have HB := Lib.hid hB1
  have HV := Lib.hid hv1
  have H1C := Lib.hid h1c
  have hMW : M ≤ W.heap.size := Nat.le_trans hM hf0.size
  obtain ⟨i0, hi0, hz0, hz1, hz2⟩ := info_parts infoOne
  clear h hB0 h1 hf0 hv1 hB1 h1c hv
  go_enter Try.func31, Try.ntmps31
  go_wp2
  clear hW
  generalize w.heap.size = bx at *
  go_loopw [4, 5, 6] (fun ov bv iv wr => ∃ k : Nat, k ≤ l.length ∧ iv = .int .i64 k ∧ bv = .bool (anyB x (l.take k)) ∧ Fr Nil W wr ∧ Ones W.heap.size (fun b => R b ∨ M ≤ b) wr ov (outL x (l.take k))) (fun _ _ iv _ => l.length - (intOf iv).toNat)
  case atStart => exact ⟨0, Nat.zero_le _, rfl, rfl, Fr.refl _ _, by rw [List.take_zero]; exact Ones.nil _ _ _⟩
  case round =>
    obtain ⟨k, hk, rfl, rfl, hfr, hO⟩ := hrel
    have HFR := Lib.hid hfr
    have hsz := hfr.size
    by_cases hlt : k < l.length
    · obtain ⟨y, hy⟩ : ∃ y, l[k]? = some y := ⟨_, List.getElem?_eq_getElem hlt⟩
      have hlt' : (k : Int) < (l.length : Int) := by omega
      have hts := take_succ_one hy
      obtain ⟨g, v, ha, hvy, d0, d1, d2, d3, d4, d5, d6, d7, d8, d9, d10, d11⟩ := H.out.twelve hy
      subst ha
      obtain ⟨ya, yc, rfl⟩ := rdbb_form hvy
      have E : PutEnv W br g bx k x y (.slice va x.waits.length vc) (.slice ya y.waits.length yc) (.slice (some ⟨g, 0, none⟩) l.length cp) :=
        ⟨H.out.c41, hbr, World.block_lt_of_cell? _ _ d0, HB.out.lt, d0, d1, d2, d3, d4, d5, d6, d7, d8, d9, d10, d11, HB.out.cellS (i := 0) rfl, HB.out.cellS (i := 1) rfl, HB.out.cellS (i := 2) rfl, HB.out.cellS (i := 3) rfl, HB.out.cellS (i := 4) rfl, HB.out.cellS (i := 5) rfl, HB.out.cellS (i := 6) rfl, HB.out.cellS (i := 7) rfl, HB.out.cellS (i := 8) rfl, HB.out.cellS (i := 9) rfl, HB.out.cellS (i := 10) rfl, HB.out.cellS (i := 11) rfl⟩
      have HE := Lib.hid E
      have H1Y := Lib.hid (one_one y hvy)
      have HVY := Lib.hid (rdbb_tag (R' := fun b => R b ∨ M ≤ b) hvy (Fr.refl Nil W) (fun _ _ _ _ e => e) (fun _ _ e => .inl e))
      clear d0 d1 d2 d3 d4 d5 d6 d7 d8 d9 d10 d11 hvy E
      have hll : (outL x (l.take k)).length ≤ 1000001 := by have := outL_length x (l.take k); simp at this; omega
      have fY : Fr Nil wr (wr.alloc (.cells #[.int .i64 y.nic, .int .u32 y.nxt] 39)) := (Fr.refl Nil wr).alloc _
      have HTS := Lib.hid hts
      clear hts hy
      by_cases hcase : anyB x (l.take k) = false ∧ before x.nic x.nxt y.nic y.nxt = true
      · obtain ⟨hany, hbef⟩ := hcase
        have fX := fY.alloc (.cells (oneCells x (.slice va x.waits.length vc)).toArray TOne)
        have hOX := hO.fr (R' := fun b => R b ∨ M ≤ b) fX (fun _ _ e => e) (fun _ _ _ _ e => e) (fun _ _ e => e)
        have HVX := Lib.hid (rdbb_tag (R' := fun b => R b ∨ M ≤ b) HV.out (hfr.trans fX (fun _ _ e => e)) (fun _ _ _ _ e => e) (fun _ _ e => e))
        have HUT := Lib.hid hOX.tag
        have HUB := Lib.hid hOX.base
        obtain ⟨us, hul, hown, hus⟩ := hOX
        have HUL := Lib.hid hul
        have HOWN := Lib.hid hown
        have HUS := Lib.hid hus
        have hNX := one_new (w := wr.alloc (.cells #[.int .i64 y.nic, .int .u32 y.nxt] 39)) (x := x) (v := .slice va x.waits.length vc)
        rw [World.size_alloc] at hNX
        have HNX := Lib.hid hNX
        clear hNX
        have HFX := Lib.hid (hfr.trans fX (fun _ _ e => e))
        have HANY := Lib.hid hany
        have HBEF := Lib.hid hbef
        obtain ⟨c41, l0, l1, l2, d0, d1, d2, d3, d4, d5, d6, d7, d8, d9, d10, d11, x0, x1, x2, x3, x4, x5, x6, x7, x8, x9, x10, x11⟩ := HE.out.fr hfr
        generalize hout : outL x (l.take k) = out at *
        have HOUT := Lib.hid hout
        clear hout hul hown hus fX fY hO hfr hbef
        unfold oneCells at HNX HOWN HUS HVX
        have hc2 : decide (x.nic < y.nic) = true ∨ (decide (x.nic < y.nic) = false ∧ (x.nic == y.nic) = true ∧ decide (x.nxt < y.nxt) = true) := by
          rcases before_iff.1 HBEF.out with h | ⟨h, h'⟩
          · exact .inl (by simpa using h)
          · exact .inr ⟨by simp; omega, by simpa using h, by simpa using h'⟩
        rcases hc2 with q1 | ⟨q1, q2, q3⟩
        all_goals
          go_wp2_with (first | (at_builtin; refine wpList_append_rd _ rfl (.tmp 51) (.tmp 53) _ rfl W.heap.size TOne i0 _ 12 64 Try.underlying64 hi0 hz0 hz1 hz2 rfl (by omega) u4 out.length (rowCells out us) (by rfl) HOWN.out (fun _ => True) (.slice (some ⟨wr.heap.size + 1, 0, none⟩) 1 1) 1 (oneCells x (.slice va x.waits.length vc)) (by rfl) HNX.out rfl H1C.out (by simp only [maxLen]; omega) (by omega) (by simp; omega) ?_; intro v2 w4 hown4 hg4 hat4; have HO4 := Lib.hid (Ones.push HUL.out HUS.out HVX.out HUT.out hown4 hg4); have hf4 := HFX.out.grown hg4 (fun b hb hlt => by have := HUB.out b hb; omega); have HF4 := Lib.hid hf4; have hs4 := hf4.size; clear c41 l0 l1 l2 d0 d1 d2 d3 d4 d5 d6 d7 d8 d9 d10 d11 x0 x1 x2 x3 x4 x5 x6 x7 x8 x9 x10 x11 hown4 hg4 hat4; obtain ⟨c41, l0, l1, l2, d0, d1, d2, d3, d4, d5, d6, d7, d8, d9, d10, d11, x0, x1, x2, x3, x4, x5, x6, x7, x8, x9, x10, x11⟩ := HE.out.fr hf4; clear hf4; have fZ : Fr Nil w4 (w4.alloc (.cells (oneCells y (.slice ya y.waits.length yc)).toArray TOne)) := (Fr.refl Nil w4).alloc _; have hOZ := HO4.out.fr (R' := fun b => R b ∨ M ≤ b) fZ (fun _ _ e => e) (fun _ _ _ _ e => e) (fun _ _ e => e); have HVZ := Lib.hid (rdbb_tag (R' := fun b => R b ∨ M ≤ b) HVY.out (HF4.out.trans fZ (fun _ _ e => e)) (fun _ _ _ _ e => e) (fun _ _ e => e)); have HUT2 := Lib.hid hOZ.tag; have HUB2 := Lib.hid hOZ.base; obtain ⟨us2, hul2, hown2, hus2⟩ := hOZ; have HUL2 := Lib.hid hul2; have HOWN2 := Lib.hid hown2; have HUS2 := Lib.hid hus2; have HNZ := Lib.hid (one_new (w := w4) (x := y) (v := .slice ya y.waits.length yc)); have HFZ := Lib.hid (HF4.out.trans fZ (fun _ _ e => e)); have hl3 : (out ++ [x]).length ≤ 1000002 := (by simp; omega); generalize hout3 : out ++ [x] = out3 at *; have HOUT3 := Lib.hid hout3; clear hout3 hul2 hown2 hus2 fZ; unfold oneCells at HNZ HOWN2 HUS2 HVZ) | (at_builtin; refine wpList_append_rd _ rfl (.tmp 55) (.tmp 63) _ rfl W.heap.size TOne i0 _ 12 64 Try.underlying64 hi0 hz0 hz1 hz2 rfl (by omega) v2 out3.length (rowCells out3 us2) (by rfl) HOWN2.out (fun _ => True) (.slice (some ⟨w4.heap.size, 0, none⟩) 1 1) 1 (oneCells y (.slice ya y.waits.length yc)) (by rfl) HNZ.out rfl H1Y.out (by simp only [maxLen]; omega) (by omega) (by simp; omega) ?_; intro v5 w5 hown5 hg5 hat5; have HO5 := Lib.hid (Ones.push HUL2.out HUS2.out HVZ.out HUT2.out hown5 hg5); have HF5 := Lib.hid (HFZ.out.grown hg5 (fun b hb hlt => by have := HUB2.out b hb; omega)); clear hown5 hg5 hat5))
          go_roundw
          case rel => exact ⟨k + 1, by omega, by go_num, by rw [HTS.out, anyB_snoc, HBEF.out]; simp, HF5.out, by rw [HTS.out, outL_new HANY.out HBEF.out, HOUT.out, HOUT3.out]; exact HO5.out⟩
          case measure => simp [intOf]; omega
      · have hts2 : outL x (l.take (k + 1)) = outL x (l.take k) ++ [y] := by
          rw [HTS.out]
          cases ha : anyB x (l.take k) with
          | true => exact outL_in ha
          | false => exact outL_no ha (by cases hb : before x.nic x.nxt y.nic y.nxt with | false => rfl | true => exact absurd ⟨ha, hb⟩ hcase)
        have hts3 : anyB x (l.take (k + 1)) = anyB x (l.take k) := by
          rw [HTS.out, anyB_snoc]
          cases ha : anyB x (l.take k) with
          | true => rfl
          | false => cases hb : before x.nic x.nxt y.nic y.nxt with | false => rfl | true => exact absurd ⟨ha, hb⟩ hcase
        have fX := fY.alloc (.cells (oneCells y (.slice ya y.waits.length yc)).toArray TOne)
        have hOX := hO.fr (R' := fun b => R b ∨ M ≤ b) fX (fun _ _ e => e) (fun _ _ _ _ e => e) (fun _ _ e => e)
        have HVX := Lib.hid (rdbb_tag (R' := fun b => R b ∨ M ≤ b) HVY.out (hfr.trans fX (fun _ _ e => e)) (fun _ _ _ _ e => e) (fun _ _ e => e))
        have HUT := Lib.hid hOX.tag
        have HUB := Lib.hid hOX.base
        obtain ⟨us, hul, hown, hus⟩ := hOX
        have HUL := Lib.hid hul
        have HOWN := Lib.hid hown
        have HUS := Lib.hid hus
        have hNX := one_new (w := wr.alloc (.cells #[.int .i64 y.nic, .int .u32 y.nxt] 39)) (x := y) (v := .slice ya y.waits.length yc)
        rw [World.size_alloc] at hNX
        have HNX := Lib.hid hNX
        clear hNX
        have HFX := Lib.hid (hfr.trans fX (fun _ _ e => e))
        have hc2 : anyB x (l.take k) = true ∨ (anyB x (l.take k) = false ∧ decide (x.nic < y.nic) = false ∧ (x.nic == y.nic) = false) ∨ (anyB x (l.take k) = false ∧ decide (x.nic < y.nic) = false ∧ (x.nic == y.nic) = true ∧ decide (x.nxt < y.nxt) = false) := by
          cases ha : anyB x (l.take k) with
          | true => exact .inl rfl
          | false =>
            have hb : ¬ (x.nic < y.nic ∨ (x.nic = y.nic ∧ x.nxt < y.nxt)) := fun h => hcase ⟨ha, before_iff.2 h⟩
            by_cases he : x.nic = y.nic
            · exact .inr (.inr ⟨rfl, by simp; omega, by simpa using he, by simp; omega⟩)
            · exact .inr (.inl ⟨rfl, by simp; omega, by simpa using he⟩)
        obtain ⟨c41, l0, l1, l2, d0, d1, d2, d3, d4, d5, d6, d7, d8, d9, d10, d11, x0, x1, x2, x3, x4, x5, x6, x7, x8, x9, x10, x11⟩ := HE.out.fr hfr
        have HTS2 := Lib.hid hts2
        have HTS3 := Lib.hid hts3
        generalize hany : anyB x (l.take k) = ab at *
        generalize hout : outL x (l.take k) = out at *
        have HOUT := Lib.hid hout
        have HANY := Lib.hid hany
        clear hout hany hul hown hus fX fY hO hfr hts2 hts3 hcase
        unfold oneCells at HNX HOWN HUS HVX
        rcases hc2 with rfl | ⟨rfl, q1, q2⟩ | ⟨rfl, q1, q2, q3⟩
        all_goals
          go_wp2_with (at_builtin; refine wpList_append_rd _ rfl (.tmp 55) (.tmp 63) _ rfl W.heap.size TOne i0 _ 12 64 Try.underlying64 hi0 hz0 hz1 hz2 rfl (by omega) u4 out.length (rowCells out us) (by rfl) HOWN.out (fun _ => True) (.slice (some ⟨wr.heap.size + 1, 0, none⟩) 1 1) 1 (oneCells y (.slice ya y.waits.length yc)) (by rfl) HNX.out rfl H1Y.out (by simp only [maxLen]; omega) (by omega) (by simp; omega) ?_; intro v2 w4 hown4 hg4 hat4; have HO4 := Lib.hid (Ones.push HUL.out HUS.out HVX.out HUT.out hown4 hg4); have HF4 := Lib.hid (HFX.out.grown hg4 (fun b hb hlt => by have := HUB.out b hb; omega)); clear hown4 hg4 hat4)
          go_roundw
          case rel => exact ⟨k + 1, by omega, by go_num, by rw [HTS3.out], HF4.out, by rw [HTS2.out]; exact HO4.out⟩
          case measure => simp [intOf]; omega
    · have hlt' : ¬ (k : Int) < (l.length : Int) := by omega
      rw [List.take_of_length_le (by omega)] at hO ⊢
      have h2 := H.out.fr hfr (fun _ _ e => e)
      have c41 := h2.c41
      cases hany : anyB x l with
      | true =>
        have hO2 : Ones W.heap.size (fun b => R b ∨ M ≤ b) wr u4 (put x l) := by unfold outL at hO; rw [hany] at hO; exact hO
        obtain ⟨oa, oc, ho⟩ := hO2.form
        subst ho
        have HO := Lib.hid hO2
        have hz : wr.frozen? ⟨br, 41, none⟩ = false := h2.blk.frozen 41
        have hbl := h2.blk.lt
        clear hO h2 hfr hO2
        go_wp2
        go_returns
        exact ⟨rfl, (H.out.close hMW HFR.out HO.out).from HF0.out⟩
      | false =>
        have hO2 : Ones W.heap.size (fun b => R b ∨ M ≤ b) wr u4 l := by unfold outL at hO; rw [hany] at hO; exact hO
        have fX : Fr Nil wr (wr.alloc (.cells (oneCells x (.slice va x.waits.length vc)).toArray TOne)) := (Fr.refl Nil wr).alloc _
        have hOX := hO2.fr (R' := fun b => R b ∨ M ≤ b) fX (fun _ _ e => e) (fun _ _ _ _ e => e) (fun _ _ e => e)
        have HVX := Lib.hid (rdbb_tag (R' := fun b => R b ∨ M ≤ b) HV.out (hfr.trans fX (fun _ _ e => e)) (fun _ _ _ _ e => e) (fun _ _ e => e))
        have HUT := Lib.hid hOX.tag
        have HUB := Lib.hid hOX.base
        obtain ⟨us, hul, hown, hus⟩ := hOX
        have HUL := Lib.hid hul
        have HOWN := Lib.hid hown
        have HUS := Lib.hid hus
        have HNX := Lib.hid (one_new (w := wr) (x := x) (v := .slice va x.waits.length vc))
        have HFX := Lib.hid (hfr.trans fX (fun _ _ e => e))
        have hbb := HB.out.fr hfr (fun e => e)
        have hbx := hbb.lt
        have x0 := hbb.cellS (i := 0) rfl; have x1 := hbb.cellS (i := 1) rfl; have x2 := hbb.cellS (i := 2) rfl; have x3 := hbb.cellS (i := 3) rfl; have x4 := hbb.cellS (i := 4) rfl; have x5 := hbb.cellS (i := 5) rfl
        have x6 := hbb.cellS (i := 6) rfl; have x7 := hbb.cellS (i := 7) rfl; have x8 := hbb.cellS (i := 8) rfl; have x9 := hbb.cellS (i := 9) rfl; have x10 := hbb.cellS (i := 10) rfl; have x11 := hbb.cellS (i := 11) rfl
        have hput : put x l = l ++ [x] := put_off hany
        have HP := Lib.hid hput
        clear hO h2 hO2 hul hown hus fX hfr hbb hput
        unfold oneCells at HNX HOWN HUS HVX
        go_wp2_with (at_builtin; refine wpList_append_rd _ rfl (.tmp 67) (.tmp 69) _ rfl W.heap.size TOne i0 _ 12 64 Try.underlying64 hi0 hz0 hz1 hz2 rfl (by omega) u4 l.length (rowCells l us) (by rfl) HOWN.out (fun _ => True) (.slice (some ⟨wr.heap.size, 0, none⟩) 1 1) 1 (oneCells x (.slice va x.waits.length vc)) (by rfl) HNX.out rfl H1C.out (by simp only [maxLen]; omega) (by omega) (by simp; omega) ?_; intro v2 w4 hown4 hg4 hat4; have ho4 := Ones.push HUL.out HUS.out HVX.out HUT.out hown4 hg4; obtain ⟨oa4, oc4, hv4⟩ : ∃ a c, v2 = .slice a (l.length + 1) c := (by simpa using ho4.form); subst hv4; have HO4 := Lib.hid ho4; clear ho4; have hf4 := HFX.out.grown hg4 (fun b hb hlt => by have := HUB.out b hb; omega); have HF4 := Lib.hid hf4; have h4 := H.out.fr hf4 (fun _ _ e => e); have e41 := h4.c41; have hz : w4.frozen? ⟨br, 41, none⟩ = false := h4.blk.frozen 41; have hbl := h4.blk.lt; clear c41 hown4 hg4 hat4 hf4 h4)
        go_returns
        exact ⟨rfl, by rw [HP.out]; exact (H.out.close hMW HF4.out HO4.out).from HF0.out⟩
end
end Go.Proofs.Ytaokmbmimogdgaa
