/- The reference's cache: Find, Waits, Mac, and whether two rows of places are the same. -/
import Derived.Test.YtaokmbmimogdgaaRef
namespace Go.Proofs.Ytaokmbmimogdgaa
open Go.RowKit
theorem find_at {l : List One} {n k : Int} {i : Nat} {x : One} (hx : l[i]? = some x) (hb : ∀ (j : Nat) (y : One), j < i → l[j]? = some y → key y ≠ (n, k)) (hk : key x = (n, k)) : findI n k l = i := by
  have hi := (List.getElem?_eq_some_iff.1 hx).1
  have : find n k l = some i := by
    unfold find
    rw [List.findIdx?_eq_some_iff_getElem]
    refine ⟨hi, ?_, ?_⟩
    · rw [(List.getElem?_eq_some_iff.1 hx).2]; exact is_iff.2 hk
    · intro j hj
      have := hb j _ hj (List.getElem?_eq_getElem (by omega))
      exact fun e => this (is_iff.1 e)
  unfold findI; rw [this]
theorem find_off {l : List One} {n k : Int} (hb : ∀ (j : Nat) (y : One), l[j]? = some y → key y ≠ (n, k)) : findI n k l = -1 := by
  have : find n k l = none := by
    unfold find
    rw [List.findIdx?_eq_none_iff]
    intro y hy
    obtain ⟨j, hj⟩ := List.getElem?_of_mem hy
    have h1 := hb j y hj
    cases h : y.is n k with
    | false => rfl
    | true => exact absurd (is_iff.1 h) h1
  unfold findI; rw [this]
section
variable {w : World} {br : Nat} {c : Cf} {now : Int} {l : List One} {R : Nat → Prop} {conf : List Value} {u : Value}
set_option maxHeartbeats 1000000 in
theorem rfind_any (h : RAt w br c now l R conf u) (n k : Int) (hl : l.length ≤ 1000000) :
    Calls Try.prog 30 #[.pointer (some ⟨br, 0, none⟩), .agg #[.int .i64 n, .int .u32 k]] w (RetF (.int .i64 (findI n k l)) Nil w) := by
  have hf0 : Fr Nil w (w.alloc (.cells #[.int .i64 n, .int .u32 k] 39)) := (Fr.refl _ _).alloc _
  have hB0 := Blk.new w 39 [.int .i64 n, .int .u32 k]
  have h1 := h.fr hf0 (fun _ _ e => e)
  obtain ⟨a, cp, hu⟩ := h.row.form
  subst hu
  obtain ⟨W, hW⟩ : ∃ W, w.alloc (.cells #[.int .i64 n, .int .u32 k] 39) = W := ⟨_, rfl⟩
  have hB1 : Blk W w.heap.size 39 [.int .i64 n, .int .u32 k] := by rw [← hW]; exact hB0
  rw [hW] at h1 hf0
  have H1 := Lib.hid h1
  have HF0 := Lib.hid hf0
  have HB1 := Lib.hid hB1
  clear h hB0 h1 hB1 hf0
  go_enter Try.func30, Try.ntmps30
  go_wp2
  clear hW
  generalize w.heap.size = bx at *
  go_loopw [5] (fun iv wr => ∃ i : Nat, i ≤ l.length ∧ iv = .int .i64 i ∧ Fr Nil W wr ∧ ∀ (j : Nat) (y : One), j < i → l[j]? = some y → key y ≠ (n, k)) (fun iv _ => l.length - (intOf iv).toNat)
  case atStart => exact ⟨0, Nat.zero_le _, rfl, Fr.refl _ _, fun j y h => by omega⟩
  case round =>
    obtain ⟨i, hi, rfl, hfr, hno⟩ := hrel
    have h2 := H1.out.fr hfr (fun _ _ e => e)
    have c41 := h2.c41
    have b0 := (HB1.out.fr hfr (fun e => e)).cellS (i := 0) rfl
    have b1 := (HB1.out.fr hfr (fun e => e)).cellS (i := 1) rfl
    have HFR := Lib.hid hfr
    have HNO := Lib.hid hno
    clear hfr hno
    by_cases hlt : i < l.length
    · obtain ⟨x, hx⟩ : ∃ x, l[i]? = some x := ⟨_, List.getElem?_eq_getElem hlt⟩
      obtain ⟨g, v, ha, hv, hc, _, _⟩ := h2.at hx
      subst ha
      have d0 : wr.cell? ⟨g, i * 12, none⟩ = some (.int .i64 x.nic) := hc 0 (by omega)
      have d1 : wr.cell? ⟨g, i * 12 + 1, none⟩ = some (.int .u32 x.nxt) := hc 1 (by omega)
      have HX := Lib.hid hx
      have hlt' : (i : Int) < (l.length : Int) := by omega
      have hE := fun W' => eqP W' x.nic x.nxt n k
      clear h2 hx hv hc
      by_cases hk : key x = (n, k)
      · have hkb : ((x.nic, x.nxt) == (n, k)) = true := by simpa [key] using hk
        have HK := Lib.hid hk
        simp only [hkb] at hE
        clear hk hkb
        go_wp2
        go_quiet (fail)
        go_wp2
        go_ret
        exact ⟨(reti (by rw [find_at HX.out HNO.out HK.out])), HF0.out.trans (HFR.out.drewN nq) (fun _ _ e => e)⟩
      · have hkb : ((x.nic, x.nxt) == (n, k)) = false := by simpa [key] using hk
        have HK := Lib.hid hk
        simp only [hkb] at hE
        clear hk hkb
        go_wp2
        go_quiet (fail)
        go_wp2
        go_roundw
        case rel => exact ⟨i + 1, by omega, by go_num, HFR.out.drewN nq, fun j y hj hy => by
          by_cases e : j = i
          · subst e; rw [HX.out] at hy; cases hy; exact HK.out
          · exact HNO.out j y (by omega) hy⟩
        case measure => simp [intOf]; omega
    · have hlt' : ¬ (i : Int) < (l.length : Int) := by omega
      clear h2
      go_wp2
      go_ret
      exact ⟨reti (by rw [find_off (fun j y hy => HNO.out j y (by have := (List.getElem?_eq_some_iff.1 hy).1; omega) hy)]), HF0.out.trans HFR.out (fun _ _ e => e)⟩
theorem rwaits_any (h : RAt w br c now l R conf u) (hl : l.length ≤ 1000000) (ht : total l ≤ 1000000) :
    Calls Try.prog 22 #[.pointer (some ⟨br, 0, none⟩)] w fun e w' => e = .returned (.int .i64 (total l)) ∧ w = w' := by
  obtain ⟨a, cp, hu⟩ := h.row.form
  subst hu
  have c41 := h.c41
  have H := Lib.hid h
  clear h
  go_enter Try.func22, Try.ntmps22
  go_wp2
  go_loop [3, 4] (fun nv iv => ∃ i : Nat, i ≤ l.length ∧ iv = .int .i64 i ∧ nv = .int .i64 (total (l.take i))) (fun _ iv => l.length - (intOf iv).toNat)
  case atStart => exact ⟨0, Nat.zero_le _, rfl, rfl⟩
  case round =>
    obtain ⟨i, hi, rfl, rfl⟩ := hrel
    by_cases hlt : i < l.length
    · obtain ⟨x, hx⟩ : ∃ x, l[i]? = some x := ⟨_, List.getElem?_eq_getElem hlt⟩
      obtain ⟨g, v, ha, hv, hc, _, _⟩ := H.out.at hx
      subst ha
      obtain ⟨va, vc, rfl⟩ := rdbb_form hv
      have d11 : w.cell? ⟨g, i * 12 + 11, none⟩ = some (.slice va x.waits.length vc) := hc 11 (by omega)
      have hs : total (l.take (i + 1)) = total (l.take i) + x.waits.length := by rw [take_succ_one hx, total_append]; simp [total]
      have hle : total (l.take (i + 1)) ≤ total l := by
        have := total_append (l.take (i + 1)) (l.drop (i + 1)); rw [List.take_append_drop] at this; omega
      have hb1 : total (l.take i) + x.waits.length ≤ 1000000 := by omega
      have HS := Lib.hid hs
      have hlt' : (i : Int) < (l.length : Int) := by omega
      clear hx hv hc hs hle
      go_wp2
      go_round
      case rel => exact ⟨i + 1, by omega, by go_num, by rw [HS.out]; go_num⟩
      case measure => simp [intOf]; omega
    · have hlt' : ¬ (i : Int) < (l.length : Int) := by omega
      go_wp2
      go_ret
      exact ⟨reti (by rw [List.take_of_length_le (by omega)]), rfl⟩
end
theorem places_form {w : World} {base n : Nat} {u : Value} {xs : List Value} (h : w.ownsRow base 39 2 u n xs) : ∃ a c, u = .slice a n c := by
  rcases h.2 with ⟨h1, h2⟩ | ⟨g, cap, cur, h1, _⟩
  · exact ⟨none, 0, by rw [h1, h2]⟩
  · exact ⟨_, _, h1⟩
theorem own_pair {w : World} {base : Nat} {oa : Option Addr} {oc k n : Nat} {l : List (Int × Int)} {p : Int × Int} (h : w.ownsRow base 39 2 (.slice oa n oc) n (pcells l)) (hn : l.length = n) (hx : l[k]? = some p) :
    ∃ g, oa = some ⟨g, 0, none⟩ ∧ w.cell? ⟨g, k * 2, none⟩ = some (.int .i64 p.1) ∧ w.cell? ⟨g, k * 2 + 1, none⟩ = some (.int .u32 p.2) := by
  subst hn
  have hk := (List.getElem?_eq_some_iff.1 hx).1
  obtain ⟨_, ⟨_, h0⟩ | ⟨g, cap, cur, hv, _, hb, h3, _, h5, h6⟩⟩ := h
  · omega
  · have hB : Blk w g 39 cur.toList := by simpa [Blk] using hb
    have hkey : l[k]! = p := by rw [getElem!_pos _ k hk]; exact (List.getElem?_eq_some_iff.1 hx).2
    have hc : ∀ i, i < 2 → cur.toList[k * 2 + i]? = some ((pcs p)[i]!) := fun i hi => by
      have h1 := pcells_get l (k * 2 + i) (by omega)
      rw [show (k * 2 + i) / 2 = k by omega, show (k * 2 + i) % 2 = i by omega, hkey] at h1
      rw [← h1, ← h6, List.getElem?_take_of_lt (by omega)]
    refine ⟨g, by cases hv; rfl, ?_, ?_⟩
    · exact hB.cellS (hc 0 (by omega))
    · exact hB.cellS (hc 1 (by omega))
set_option maxHeartbeats 1000000 in
theorem rsame_any (b1 b2 : Nat) (w : World) (va vb : Value) (la lb : List (Int × Int)) (ha : w.ownsRow b1 39 2 va la.length (pcells la)) (hb : w.ownsRow b2 39 2 vb lb.length (pcells lb)) (hl : la.length ≤ 1000000) (hl' : lb.length ≤ 1000000) :
    Calls Try.prog 19 #[va, vb] w (RetV (.bool (decide (la = lb))) w) := by
  obtain ⟨aa, ac, rfl⟩ := places_form ha
  obtain ⟨ba, bc, rfl⟩ := places_form hb
  have HA := Lib.hid ha
  have HB := Lib.hid hb
  clear ha hb
  by_cases hlen : la.length = lb.length
  · have hlb : ((la.length : Int) != (lb.length : Int)) = false := by simp; omega
    have HL := Lib.hid hlen
    have hlt0 : la.length ≤ lb.length := by omega
    clear hlen
    go_enter Try.func19, Try.ntmps19
    go_wp2
    go_loopw [5] (fun iv wr => ∃ i : Nat, i ≤ la.length ∧ iv = .int .i64 i ∧ (∃ n, wr = w.drewN n) ∧ la.take i = lb.take i) (fun iv _ => la.length - (intOf iv).toNat)
    case atStart => exact ⟨0, Nat.zero_le _, rfl, ⟨0, rfl⟩, rfl⟩
    case round =>
      obtain ⟨i, hi, rfl, ⟨n, rfl⟩, hpre⟩ := hrel
      have HP := Lib.hid hpre
      clear hpre
      by_cases hlt : i < la.length
      · obtain ⟨p, hp⟩ : ∃ p, la[i]? = some p := ⟨_, List.getElem?_eq_getElem hlt⟩
        obtain ⟨q, hq⟩ : ∃ q, lb[i]? = some q := ⟨_, List.getElem?_eq_getElem (by omega)⟩
        obtain ⟨ga, hga, a0, a1⟩ := own_pair HA.out rfl hp
        obtain ⟨gb, hgb, b0, b1⟩ := own_pair HB.out rfl hq
        subst hga hgb
        have hlt' : (i : Int) < (la.length : Int) := by omega
        have hlt2 : (i : Int) < (lb.length : Int) := by omega
        have h0i : (0 : Int) ≤ i := by omega
        have hE := fun W' => neqP W' p.1 p.2 q.1 q.2
        have HPa := Lib.hid hp
        have HQ := Lib.hid hq
        clear hp hq
        by_cases hpq : p = q
        · have hb : ((p.1, p.2) != (q.1, q.2)) = false := by simp [hpq]
          simp only [hb] at hE
          have HPQ := Lib.hid hpq
          clear hb hpq
          go_wp2
          go_quiet (fail)
          go_wp2
          go_roundw
          case rel => exact ⟨i + 1, by omega, by go_num, ⟨_, rfl⟩, by rw [take_succ_one HPa.out, take_succ_one HQ.out, HP.out, HPQ.out]⟩
          case measure => simp [intOf]; omega
        · have hb : ((p.1, p.2) != (q.1, q.2)) = true := bne_iff_ne.2 hpq
          simp only [hb] at hE
          have HPQ := Lib.hid hpq
          clear hb hpq
          go_wp2
          go_quiet (fail)
          go_wp2
          go_ret
          refine ⟨retb (by rw [eq_comm, decide_eq_false_iff_not]; intro e; rw [e] at HPa; rw [HPa.out] at HQ; exact HPQ.out (by have := HQ.out; simpa using this)), _, World.drewN_drewN _ _ _⟩
      · have hlt' : ¬ (i : Int) < (la.length : Int) := by omega
        go_wp2
        go_ret
        refine ⟨retb (by rw [eq_comm, decide_eq_true_iff]; have h := HP.out; rw [List.take_of_length_le (by omega), List.take_of_length_le (by have := HL.out; omega)] at h; exact h), n, rfl⟩
  · have hlb : ((la.length : Int) != (lb.length : Int)) = true := by simp; omega
    have HL := Lib.hid hlen
    clear hlen
    go_enter Try.func19, Try.ntmps19
    go_wp2
    go_ret
    exact ⟨retb (by rw [eq_comm, decide_eq_false_iff_not]; intro e; exact HL.out (by rw [e])), 0, rfl⟩
end Go.Proofs.Ytaokmbmimogdgaa
