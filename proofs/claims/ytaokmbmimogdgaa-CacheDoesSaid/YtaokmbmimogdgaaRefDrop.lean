/- The reference's drop. -/
import Derived.Test.YtaokmbmimogdgaaRefRows
import Derived.Deep.DeepCutAuto
namespace Go.Proofs.Ytaokmbmimogdgaa
open Go.RowKit
def anyB (x : One) (l : List One) : Bool := l.any (fun y => before x.nic x.nxt y.nic y.nxt)
theorem put_off {x : One} : ∀ {l : List One}, anyB x l = false → put x l = l ++ [x]
  | [], _ => rfl
  | y :: l, h => by
    simp only [anyB, List.any_cons, Bool.or_eq_false_iff] at h
    simp only [put, h.1]
    rw [put_off h.2]; rfl
theorem put_snoc_in {x : One} (y : One) : ∀ {l : List One}, anyB x l = true → put x (l ++ [y]) = put x l ++ [y]
  | [], h => by simp [anyB] at h
  | z :: l, h => by
    simp only [anyB, List.any_cons, Bool.or_eq_true] at h
    simp only [List.cons_append, put]
    cases hb : before x.nic x.nxt z.nic z.nxt with
    | true => rfl
    | false =>
      rw [hb] at h
      simp only [Bool.false_eq_true, if_false]
      rw [put_snoc_in y (h.resolve_left (by simp))]; rfl
theorem put_snoc_new {x y : One} (hy : before x.nic x.nxt y.nic y.nxt = true) : ∀ {l : List One}, anyB x l = false → put x (l ++ [y]) = l ++ [x, y]
  | [], _ => by simp [put, hy]
  | z :: l, h => by
    simp only [anyB, List.any_cons, Bool.or_eq_false_iff] at h
    simp only [List.cons_append, put, h.1]
    rw [put_snoc_new hy h.2]; rfl
theorem anyB_snoc (x y : One) (l : List One) : anyB x (l ++ [y]) = (anyB x l || before x.nic x.nxt y.nic y.nxt) := by simp [anyB]
def outL (x : One) (l : List One) : List One := if anyB x l then put x l else l
theorem outL_in {x y : One} {l : List One} (h : anyB x l = true) : outL x (l ++ [y]) = outL x l ++ [y] := by
  unfold outL; rw [anyB_snoc, h]; simp [put_snoc_in y h]
theorem outL_new {x y : One} {l : List One} (h : anyB x l = false) (hy : before x.nic x.nxt y.nic y.nxt = true) : outL x (l ++ [y]) = (outL x l ++ [x]) ++ [y] := by
  unfold outL; rw [anyB_snoc, h, hy]; simp [put_snoc_new hy h]
theorem outL_no {x y : One} {l : List One} (h : anyB x l = false) (hy : before x.nic x.nxt y.nic y.nxt = false) : outL x (l ++ [y]) = outL x l ++ [y] := by
  unfold outL; rw [anyB_snoc, h, hy]; simp
theorem outL_length (x : One) (l : List One) : (outL x l).length ≤ l.length + 1 := by
  unfold outL; split
  · rw [put_length]; omega
  · omega
theorem take_erase {α : Type} {l : List α} {k i : Nat} {y : α} (hy : l[k]? = some y) : (l.take (k + 1)).eraseIdx i = if k = i then (l.take k).eraseIdx i else (l.take k).eraseIdx i ++ [y] := by
  have hk := (List.getElem?_eq_some_iff.1 hy).1
  have hl : (l.take k).length = k := by simp; omega
  rw [take_succ_one hy]
  by_cases h : k = i
  · rw [if_pos h, List.eraseIdx_append_of_length_le (by omega), List.eraseIdx_of_length_le (l := l.take k) (by omega), hl, h]; simp
  · rw [if_neg h]
    by_cases h2 : i < k
    · rw [List.eraseIdx_append_of_lt_length (by omega)]
    · rw [List.eraseIdx_append_of_length_le (by omega), List.eraseIdx_of_length_le (l := l.take k) (by omega), List.eraseIdx_of_length_le (by rw [hl]; simp; omega)]
section
variable {w : World} {br : Nat} {c : Cf} {now : Int} {l : List One} {R : Nat → Prop} {conf : List Value} {u : Value}
/-- What a round of drop or put needs of the element that is read. -/
theorem RAt.twelve {a : Option Addr} {cap k : Nat} {x : One} (h : RAt w br c now l R conf (.slice a l.length cap)) (hx : l[k]? = some x) :
    ∃ g v, a = some ⟨g, 0, none⟩ ∧ RdBB (fun b => R b ∧ IsTag TBs w b) Nil w v x.waits ∧ w.cell? ⟨g, k * 12, none⟩ = some (.int .i64 x.nic) ∧ w.cell? ⟨g, k * 12 + 1, none⟩ = some (.int .u32 x.nxt) ∧ w.cell? ⟨g, k * 12 + 2, none⟩ = some (.bool x.known) ∧
      w.cell? ⟨g, k * 12 + 3, none⟩ = some (.int .u8 x.mac.a) ∧ w.cell? ⟨g, k * 12 + 4, none⟩ = some (.int .u8 x.mac.b) ∧ w.cell? ⟨g, k * 12 + 5, none⟩ = some (.int .u8 x.mac.c) ∧ w.cell? ⟨g, k * 12 + 6, none⟩ = some (.int .u8 x.mac.d) ∧ w.cell? ⟨g, k * 12 + 7, none⟩ = some (.int .u8 x.mac.e) ∧ w.cell? ⟨g, k * 12 + 8, none⟩ = some (.int .u8 x.mac.f) ∧
      w.cell? ⟨g, k * 12 + 9, none⟩ = some (.int .i64 x.tries) ∧ w.cell? ⟨g, k * 12 + 10, none⟩ = some (.int .i64 x.since) ∧ w.cell? ⟨g, k * 12 + 11, none⟩ = some v := by
  obtain ⟨g, v, ha, hv, hc, _⟩ := h.at hx
  exact ⟨g, v, ha, hv, hc 0 (by omega), hc 1 (by omega), hc 2 (by omega), hc 3 (by omega), hc 4 (by omega), hc 5 (by omega), hc 6 (by omega), hc 7 (by omega), hc 8 (by omega), hc 9 (by omega), hc 10 (by omega), hc 11 (by omega)⟩
def DropPost (M : Nat) (w : World) (br : Nat) (c : Cf) (now : Int) (l : List One) (R : Nat → Prop) (e : Ending) (w' : World) : Prop := e = .returned (.tuple #[]) ∧ RNext M w br c now l R w'
set_option maxRecDepth 100000 in
set_option maxHeartbeats 2000000 in
theorem rdrop_any (h : RAt w br c now l R conf u) (i : Nat) (hi : i < l.length) (hl : l.length ≤ 1000000) :
    Calls Try.prog 33 #[.pointer (some ⟨br, 0, none⟩), .int .i64 i] w (DropPost w.heap.size w br c now (l.eraseIdx i) R) := by
  obtain ⟨a, cp, hu⟩ := h.row.form
  subst hu
  have H := Lib.hid h
  have hbr := h.blk.lt
  obtain ⟨i0, hi0, hz0, hz1, hz2⟩ := info_parts infoOne
  clear h
  go_enter Try.func33, Try.ntmps33
  go_wp2
  go_loopw [4, 5] (fun ov iv wr => ∃ k : Nat, k ≤ l.length ∧ iv = .int .i64 k ∧ Fr Nil w wr ∧ Ones w.heap.size (fun b => R b ∨ w.heap.size ≤ b) wr ov ((l.take k).eraseIdx i)) (fun _ iv _ => l.length - (intOf iv).toNat)
  case atStart => exact ⟨0, Nat.zero_le _, rfl, Fr.refl _ _, by simpa using Ones.nil _ _ _⟩
  case round =>
    obtain ⟨k, hk, rfl, hfr, hO⟩ := hrel
    have h2 := H.out.fr hfr (fun _ _ e => e)
    have c41 := h2.c41
    have HFR := Lib.hid hfr
    by_cases hlt : k < l.length
    · obtain ⟨x, hx⟩ : ∃ x, l[k]? = some x := ⟨_, List.getElem?_eq_getElem hlt⟩
      have hlt' : (k : Int) < (l.length : Int) := by omega
      have hte := take_erase (i := i) hx
      by_cases hki : k = i
      · have hkb : ((k : Int) != (i : Int)) = false := by simp [hki]
        rw [if_pos hki] at hte
        have HTE := Lib.hid hte
        have HO := Lib.hid hO
        clear hki hte hO hx h2 hfr
        go_wp2
        go_roundw
        case rel => exact ⟨k + 1, by omega, by go_num, HFR.out, by rw [HTE.out]; exact HO.out⟩
        case measure => simp [intOf]; omega
      · have hkb : ((k : Int) != (i : Int)) = true := by simp; omega
        rw [if_neg hki] at hte
        have HTE := Lib.hid hte
        obtain ⟨g, v, ha, hv, d0, d1, d2, d3, d4, d5, d6, d7, d8, d9, d10, d11⟩ := h2.twelve hx
        subst ha
        have h1c := one_one x hv
        have hsz := HFR.out.size
        have hO1 := hO.fr ((Fr.refl Nil wr).alloc (.cells (oneCells x v).toArray TOne)) (fun _ _ e => e) (fun _ _ _ _ e => e) (fun _ _ e => e)
        have hv1 := rdbb_tag (R' := fun b => R b ∨ w.heap.size ≤ b) hv ((Fr.refl Nil wr).alloc (.cells (oneCells x v).toArray TOne)) (fun _ _ _ _ e => e) (fun _ _ e => .inl e)
        have hut := hO1.tag
        have hub := hO1.base
        have hll : ((l.take k).eraseIdx i).length ≤ 1000000 := by have := (List.eraseIdx_sublist (l.take k) i).length_le; simp at this; omega
        obtain ⟨us, hul, hown, hus⟩ := hO1
        have HUL := Lib.hid hul
        have HOWN := Lib.hid hown
        have HUS := Lib.hid hus
        have HV := Lib.hid hv1
        have HUT := Lib.hid hut
        have HUB := Lib.hid hub
        have HN := Lib.hid (one_new (w := wr) (x := x) (v := v))
        have H1 := Lib.hid h1c
        generalize hout : (l.take k).eraseIdx i = out at *
        clear hki hte hO hx h2 hfr hul hown hus hv1 hut hub h1c hv hout
        unfold oneCells at HN
        go_wp2_with (at_builtin; refine wpList_append_rd _ rfl (.tmp 18) (.tmp 26) _ rfl w.heap.size TOne i0 _ 12 64 Try.underlying64 hi0 hz0 hz1 hz2 rfl (by omega) u4 out.length (rowCells out us) (by rfl) HOWN.out (fun _ => True) (.slice (some ⟨wr.heap.size, 0, none⟩) 1 1) 1 (oneCells x v) (by rfl) HN.out rfl H1.out (by simp only [maxLen]; omega) (by omega) (by simp; omega) ?_; intro v2 w4 hown4 hg4 hat4; have HO4 := Lib.hid (Ones.push HUL.out HUS.out HV.out HUT.out hown4 hg4); have HF4 := Lib.hid ((HFR.out.alloc _).grown hg4 (fun b hb hlt => by have := HUB.out b hb; omega)); clear hown4 hg4 hat4)
        go_roundw
        case rel => exact ⟨k + 1, by omega, by go_num, HF4.out, by rw [HTE.out]; exact HO4.out⟩
        case measure => simp [intOf]; omega
    · have hlt' : ¬ (k : Int) < (l.length : Int) := by omega
      rw [List.take_of_length_le (by omega)] at hO
      obtain ⟨oa, oc, ho⟩ := hO.form
      subst ho
      have HO := Lib.hid hO
      have hz : wr.frozen? ⟨br, 41, none⟩ = false := h2.blk.frozen 41
      have hbl := h2.blk.lt
      clear hO h2 hfr
      go_wp2
      go_returns
      exact ⟨rfl, H.out.close (Nat.le_refl _) HFR.out HO.out⟩
end
end Go.Proofs.Ytaokmbmimogdgaa
