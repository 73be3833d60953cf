/- The walk of CacheDoes. -/
import Derived.Test.YtaokmbmimogdgaaDoesLaws
import Derived.Deep.DeepCutAuto
import Derived.Deep.CutBlock
import Derived.Deep.RegionHeld3
namespace Go.Proofs.Ytaokmbmimogdgaa
open Go.RowKit Go.ChangeMaps
attribute [local go_sem ↓] Go.wp_at_zero Go.wp_at_succ

set_option maxRecDepth 100000 in
set_option maxHeartbeats 4000000 in
theorem does_any (w : World) (conf : List Value) (c : Cf) (hc : CfOK conf c) (now0 : Int) (v : Value) (ds : List Deed) (hd : DeedsAt w.heap.size w v ds) :
    Calls Try.prog 4 #[.agg conf.toArray, .int .i64 now0, v] w (RetF (.bool true) Nil w) := by
  have hl := hc.len
  have hB := Blk.new w 33 conf
  have hfb : Fr Nil w (w.alloc (.cells conf.toArray 33)) := (Fr.refl _ _).alloc _
  have hi : (Try.prog.info? 33).map (·.size) = some conf.toArray.size := by
    rw [List.size_toArray, hl]; kernel_rfl
  have HI := Lib.hid hi
  have hi' : (Try.prog.info? 33).map (·.size) = some conf.length := by rw [hl]; kernel_rfl
  have HI' := Lib.hid hi'
  clear hi'
  have HC := Lib.hid hc
  have HD := Lib.hid hd
  obtain ⟨X, hX⟩ : ∃ X, w.alloc (.cells conf.toArray 33) = X := ⟨_, rfl⟩
  have hb0 : Blk X w.heap.size 33 conf := by rw [← hX]; exact hB
  rw [hX] at hfb
  have HB0 := Lib.hid hb0
  have HFB := Lib.hid hfb
  clear hB hc hd hi hl hfb hb0
  go_enter Try.func4, Try.ntmps4
  go_upto_region 1 with fail
  clear hX
  generalize hbx : w.heap.size = bx at *
  have HBX := Lib.hid hbx
  clear hbx
  have HR0 : Hid (∀ W : World, Blk W bx 33 conf → W.rangeAt bx 0 conf) := Lib.hid (fun W hW j v hv => by rw [Nat.zero_add]; exact hW.cellS hv)
  refine wp_region_held_drew (S := fun w' => w'.rangeAt bx 0 conf) (by kernel_rfl) (HR0.out _ (HB0.out.fr ((Fr.refl Nil X).drew) (fun e => e))) (fun hHeld => ?_)
  refine wpAnyH_take (i := 0) (oi := _) (v := .agg conf.toArray) rfl (by kernel_rfl) (by kernel_rfl) (by kernel_rfl) (fun _ _ _ h => h) (yieldsIf_load_mid (by rfl) _ _ rfl bx 0 rfl conf _ (fun _ h => h) Try.underlying33 rfl HI'.out) (by assumption) ?_
  simp only [Act.put, List.setIfInBounds_toArray, List.set_cons_zero, List.set_cons_succ]
  refine wpAnyH_take (i := 3) (oi := _) (v := .agg conf.toArray) rfl (by kernel_rfl) (by kernel_rfl) (by kernel_rfl) (fun _ _ _ h => h) (yieldsIf_load_mid (by rfl) _ _ rfl bx 0 rfl conf _ (fun _ h => h) Try.underlying33 rfl HI'.out) (by assumption) ?_
  simp only [Act.put, List.setIfInBounds_toArray, List.set_cons_zero, List.set_cons_succ]
  refine wpAnyH_take (i := 1) (oi := _) (v := .int .i64 now0) rfl (by kernel_rfl) (by kernel_rfl) (by kernel_rfl) (fun _ _ _ h => h) (Or.inl ⟨by rfl, fun w hSw => by go_simp⟩) (by assumption) ?_
  simp only [Act.put, List.setIfInBounds_toArray, List.set_cons_zero, List.set_cons_succ]
  refine wpAnyH_take (i := 4) (oi := _) (v := .int .i64 now0) rfl (by kernel_rfl) (by kernel_rfl) (by kernel_rfl) (fun _ _ _ h => h) (Or.inl ⟨by rfl, fun w hSw => by go_simp⟩) (by assumption) ?_
  simp only [Act.put, List.setIfInBounds_toArray, List.set_cons_zero, List.set_cons_succ]
  refine wpAnyH_ready (rs := [2]) (by kernel_rfl) (by simp) ?_
  refine AllReadyH.cons (o := _) rfl (fun K hK => ?_) AllReadyH.nil
  go_simp
  go_at_call 6
  refine (new_any _ conf c HC.out now0).mono ?_
  rintro e w1 ⟨bc, rfl, hcr, hf1⟩
  have B1 := Lib.hid ((HB0.out.fr ((Fr.refl Nil X).drew) (fun e => e)).fr hf1 (fun e => e))
  have HCR := Lib.hid hcr
  have HF1 := Lib.hid ((HFB.out.drew).trans hf1 (fun _ _ e => e))
  clear hcr hf1
  dsimp only
  refine hK.out _ _ (HR0.out _ B1.out) (fun hHeld2 => ?_)
  clear hK K hHeld
  try simp only [Act.put, List.setIfInBounds_toArray, List.set_cons_zero, List.set_cons_succ]
  refine wpAnyH_ready (rs := [5]) (by kernel_rfl) (by simp) ?_
  refine AllReadyH.cons (o := _) rfl (fun K hK => ?_) AllReadyH.nil
  go_simp
  go_at_call 15
  refine (rnew_any _ conf c HC.out now0).mono ?_
  rintro e w2 ⟨br, rfl, hrr, hf2⟩
  have HRR := Lib.hid hrr
  have B2 := Lib.hid (B1.out.fr hf2 (fun e => e))
  have HF2 := Lib.hid hf2
  clear hrr hf2
  dsimp only
  refine hK.out _ _ (HR0.out _ B2.out) (fun hHeld3 => ?_)
  clear hK K hHeld2
  try simp only [Act.put, List.setIfInBounds_toArray, List.set_cons_zero, List.set_cons_succ]
  refine wpAnyH_take (i := 6) (oi := _) (v := .pointer (some ⟨bc, 0, none⟩)) rfl (by kernel_rfl) (by kernel_rfl) (by kernel_rfl) (fun _ _ _ h => h) (Or.inl ⟨by rfl, fun w hSw => by go_simp⟩) (by assumption) ?_
  try simp only [Act.put, List.setIfInBounds_toArray, List.set_cons_zero, List.set_cons_succ]
  refine wpAnyH_take (i := 7) (oi := _) (v := .pointer (some ⟨br, 0, none⟩)) rfl (by kernel_rfl) (by kernel_rfl) (by kernel_rfl) (fun _ _ _ h => h) (Or.inl ⟨by rfl, fun w hSw => by go_simp⟩) (by assumption) ?_
  try simp only [Act.put, List.setIfInBounds_toArray, List.set_cons_zero, List.set_cons_succ]
  refine wpAnyH_done (by kernel_rfl) ?_ _
  have T0 : DAt w bc br c 0 w2 := by
    have hXs := HFB.out.size
    refine ⟨⟨clamp now0 0 1073741824, [], _, _, HCR.out.fr HF2.out (fun _ _ e => e), Fine.new c now0, Short.nil, HRR.out, fun b hb => ?_, fun b hb => ?_, fun b hb hh => ?_⟩, HF1.out.trans HF2.out (fun _ _ e => e)⟩
    · have := hb.1; simp at this; omega
    · have := hb.1; have := HF1.out.size; omega
    · have h1 := hb.2.1; have h2 := hh.1; omega
  have HT0 := Lib.hid T0
  clear T0 hHeld3 HCR HRR HF1 HF2 B1 B2 HB0
  obtain ⟨a, cc, rfl, hm, hds⟩ := HD.out
  have HDS := Lib.hid hds
  clear hds
  go_wp2_with fail
  go_loopw [9] (fun iv wr => ∃ k : Nat, k ≤ ds.length ∧ k ≤ 80 ∧ iv = .int .i64 k ∧ DAt w bc br c k wr) (fun iv _ => 80 - (intOf iv).toNat)
  case atStart => exact ⟨0, Nat.zero_le _, Nat.zero_le _, rfl, HT0.out⟩
  case round =>
    obtain ⟨k, hk1, hk2, rfl, hT⟩ := hrel
    have HT := Lib.hid hT
    clear hT HT0
    by_cases hlt : k < ds.length ∧ k < 80
    · obtain ⟨hlt1, hlt2⟩ := hlt
      obtain ⟨d, hdk⟩ : ∃ d, ds[k]? = some d := ⟨_, List.getElem?_eq_getElem hlt1⟩
      obtain ⟨g, o, ha, hgl, hat⟩ := HDS.out (by intro e; rw [e] at hlt1; simp at hlt1)
      subst ha
      have hd1 := (hat k d hdk).fr hgl HT.out.fr (fun _ e => e.elim)
      obtain ⟨e0, e1, e2, e3, e4, e5, e6, e7, e8, u, e9, hbm, hb⟩ := hd1
      obtain ⟨ua, uc, hu⟩ : ∃ a c, u = .slice a d.b.length c := by obtain ⟨a, c, e, _⟩ := hb; exact ⟨a, c, e⟩
      subst hu
      have HBM := Lib.hid hbm
      have HBY := Lib.hid hb
      have h1 : (k : Int) < (ds.length : Int) := by omega
      have h2 : (k : Int) < 80 := by omega
      clear hat hbm hb hdk
      go_upto_block 2 with fail
      go_cut [12] (fun _ wx => DAt w bc br c (k + 1) wx ∧ Blk wx wr.heap.size 42 [.int .i64 d.kind, .int .i64 d.nic, .int .u32 d.nxt, .int .u8 d.mac.a, .int .u8 d.mac.b, .int .u8 d.mac.c, .int .u8 d.mac.d, .int .u8 d.mac.e, .int .u8 d.mac.f, .slice ua d.b.length uc])
      case first =>
        obtain ⟨now, l, F, R, hcr0, hfine, hsh, hrr0, hF, hR, hFR⟩ := HT.out.ex
        have hfx : Fr Nil wr (wr.alloc (.cells #[.int .i64 d.kind, .int .i64 d.nic, .int .u32 d.nxt, .int .u8 d.mac.a, .int .u8 d.mac.b, .int .u8 d.mac.c, .int .u8 d.mac.d, .int .u8 d.mac.e, .int .u8 d.mac.f, .slice ua d.b.length uc] 42)) := (Fr.refl _ _).alloc _
        have hX := Blk.new wr 42 [.int .i64 d.kind, .int .i64 d.nic, .int .u32 d.nxt, .int .u8 d.mac.a, .int .u8 d.mac.b, .int .u8 d.mac.c, .int .u8 d.mac.d, .int .u8 d.mac.e, .int .u8 d.mac.f, .slice ua d.b.length uc]
        have hxF : ¬ F wr.heap.size := fun h => by have := hcr0.lt _ h; omega
        have hxR : ¬ R wr.heap.size := fun h => by have := hrr0.lt _ h; omega
        have hcr := hcr0.fr hfx (fun _ _ e => e)
        have hrr := hrr0.fr hfx (fun _ _ e => e)
        have hfr := HT.out.fr.trans hfx (fun _ _ e => e)
        have hbb : RdB (fun b => b < w.heap.size) (wr.alloc (.cells #[.int .i64 d.kind, .int .i64 d.nic, .int .u32 d.nxt, .int .u8 d.mac.a, .int .u8 d.mac.b, .int .u8 d.mac.c, .int .u8 d.mac.d, .int .u8 d.mac.e, .int .u8 d.mac.f, .slice ua d.b.length uc] 42)) (.slice ua d.b.length uc) d.b := by rw [HBX.out]; exact HBY.out.fr hfx (fun _ _ _ e => e)
        clear hcr0 hrr0 hfx e0 e1 e2 e3 e4 e5 e6 e7 e8 e9
        obtain ⟨Y, hYY⟩ : ∃ Y, wr.alloc (.cells #[.int .i64 d.kind, .int .i64 d.nic, .int .u32 d.nxt, .int .u8 d.mac.a, .int .u8 d.mac.b, .int .u8 d.mac.c, .int .u8 d.mac.d, .int .u8 d.mac.e, .int .u8 d.mac.f, .slice ua d.b.length uc] 42) = Y := ⟨_, rfl⟩
        have hY' : Blk Y wr.heap.size 42 [.int .i64 d.kind, .int .i64 d.nic, .int .u32 d.nxt, .int .u8 d.mac.a, .int .u8 d.mac.b, .int .u8 d.mac.c, .int .u8 d.mac.d, .int .u8 d.mac.e, .int .u8 d.mac.f, .slice ua d.b.length uc] := by rw [← hYY]; exact hX
        rw [hYY] at hcr hrr hfr hbb ⊢
        clear hX hYY
        generalize hbX : wr.heap.size = bX at *
        have HY := Lib.hid hY'
        have HCR := Lib.hid hcr
        have HRR := Lib.hid hrr
        have HFR := Lib.hid hfr
        have HF := Lib.hid hF
        have HR := Lib.hid hR
        have HFR2 := Lib.hid hFR
        have HXF := Lib.hid hxF
        have HXR := Lib.hid hxR
        have HFINE := Lib.hid hfine
        have HSH := Lib.hid hsh
        have x1 := hY'.cellS (i := 1) rfl
        have x2 := hY'.cellS (i := 2) rfl
        have x9 := hY'.cellS (i := 9) rfl
        have hl80 : l.length ≤ 80 := by have := hfine.len; omega
        have ht80 : total l ≤ 80 := by have := hfine.tot; omega
        by_cases hkind : d.kind = 0
        · have hkb : (d.kind == 0) = true := by simp [hkind]
          obtain ⟨u2, hb2, hfew⟩ := few_val _ Y (.slice ua d.b.length uc) d.b 100 hbb HBM.out (by omega)
          have HB2 := Lib.hid hb2
          have hbl : (d.b.take 100).length ≤ 1000000 := by have := List.length_take_le 100 d.b; omega
          have R1 := Lib.hid (want_calls hcr hfine (by omega) d.nic d.nxt u2 (G := fun b => b < w.heap.size) hb2 (fun b _ h1 h2 => by have := hF b h2; omega) hbl)
          have HFI2 := Lib.hid (hfine.want d.nic d.nxt (d.b.take 100))
          have HSH2 := Lib.hid (hsh.want (c := c) (now := now) d.nic d.nxt (b := d.b.take 100) hbl)
          have R2 : Hid (∀ w3, Fr F Y w3 → Calls Try.prog 16 #[.pointer (some ⟨br, 0, none⟩), .agg #[.int .i64 d.nic, .int .u32 d.nxt], u2] w3
            (RWPost (.tuple #[.bool (want c now l d.nic d.nxt (d.b.take 100)).1.1, .int .i64 (want c now l d.nic d.nxt (d.b.take 100)).1.2]) w3 br c now (want c now l d.nic d.nxt (d.b.take 100)).2 R)) := Lib.hid (fun w3 h3 => by
              obtain ⟨conf3, u3, hr3⟩ := hrr.fr h3 (fun b hb hf => hFR b hf hb)
              exact rwant_any hr3 d.nic d.nxt (hb2.fr h3 (fun b _ h1 h2 => by have := hF b h2; omega)) hbl (by omega) (by omega))
          clear hkind hb2 hcr hrr hfr hbb hY' hF hR hFR hxF hxR hfine hsh hbl
          go_wp2_with (first | (go_at_call 7; refine (hfew _).mono ?_; rintro e w' ⟨rfl, rfl⟩) | (go_at_call 8; refine R1.out.mono ?_))
          rintro e w3 ⟨rfl, hf3, F3, hc3, hn3⟩
          have y1 := hf3.cellS x1 HXF.out
          have y2 := hf3.cellS x2 HXF.out
          have HF3 := Lib.hid hf3
          have HC3 := Lib.hid hc3
          have HN3 := Lib.hid hn3
          clear x1 x2 x9 hfew R1 hf3 hc3 hn3
          go_wp2_with (go_at_call 16; refine (R2.out _ HF3.out).mono ?_)
          rintro e w4 ⟨rfl, hn4⟩
          have HD4 := Lib.hid (DAt.step HFR.out HF.out HR.out HFR2.out HRR.out HF3.out HC3.out HN3.out hn4 HFI2.out HSH2.out)
          have HY4 := Lib.hid ((HY.out.fr HF3.out HXF.out).fr hn4.1 (fun h => HXR.out h.1))
          clear hn4 y1 y2 R2 HFI2 HSH2
          generalize want c now l d.nic d.nxt (d.b.take 100) = r at *
          obtain ⟨⟨ask, er⟩, l2⟩ := r
          have hbq : (ask != ask) = false := by simp
          have hiq : (er != er) = false := by simp
          go_wp2
          go_meet
          exact ⟨HD4.out, HY4.out⟩
        · have hkb : (d.kind == 0) = false := by simp [hkind]
          by_cases hkl : d.kind = 1 ∨ d.kind = 2
          · obtain ⟨add, hadd⟩ : ∃ add, add = (d.kind == 2) := ⟨_, rfl⟩
            have hk12 : ((d.kind == 1) = true ∧ (d.kind == 2) = false ∧ add = false) ∨ ((d.kind == 1) = false ∧ (d.kind == 2) = true ∧ add = true) := by
              rcases hkl with e | e
              · exact .inl ⟨by simp [e], by simp [e], by simp [hadd, e]⟩
              · exact .inr ⟨by simp [e], by simp [e], by simp [hadd, e]⟩
            clear hkind hadd hkl
            have x0 := HY.out.cellS (i := 0) rfl
            have x3 := HY.out.cellS (i := 3) rfl
            have x4 := HY.out.cellS (i := 4) rfl
            have x5 := HY.out.cellS (i := 5) rfl
            have x6 := HY.out.cellS (i := 6) rfl
            have x7 := HY.out.cellS (i := 7) rfl
            have x8 := HY.out.cellS (i := 8) rfl
            have R1 := learn_calls hcr hfine (by omega) d.nic d.nxt d.mac add
            unfold macV at R1
            have HR1 := Lib.hid R1
            have HFI2 := Lib.hid (hfine.learn d.nic d.nxt d.mac add)
            have HSH2 := Lib.hid (hsh.learn (c := c) (now := now) d.nic d.nxt d.mac add)
            obtain ⟨hol, hob⟩ := learn_out (c := c) (now := now) hsh d.nic d.nxt d.mac add
            have hol80 : (learn c now l d.nic d.nxt d.mac add).1.1.length ≤ 80 := by omega
            have HOB := Lib.hid hob
            have R2 : Hid (∀ w3, Fr F Y w3 → Calls Try.prog 17 #[.pointer (some ⟨br, 0, none⟩), .agg #[.int .i64 d.nic, .int .u32 d.nxt], .agg #[.int .u8 d.mac.a, .int .u8 d.mac.b, .int .u8 d.mac.c, .int .u8 d.mac.d, .int .u8 d.mac.e, .int .u8 d.mac.f], .bool add] w3
              (RLPost (learn c now l d.nic d.nxt d.mac add).1.1 (learn c now l d.nic d.nxt d.mac add).1.2 w3 br c now (learn c now l d.nic d.nxt d.mac add).2 R)) := Lib.hid (fun w3 h3 => by
                obtain ⟨conf3, u3, hr3⟩ := hrr.fr h3 (fun b hb hf => hFR b hf hb)
                exact rlearn_any hr3 d.nic d.nxt d.mac add (by omega) (by omega))
            clear R1 hcr hrr hfr hbb hY' hF hR hFR hxF hxR hfine hsh hol hob x9
            rcases hk12 with ⟨hk1b, hk2b, rfl⟩ | ⟨hk1b, hk2b, rfl⟩
            all_goals
              go_wp2_with (go_at_call 9; refine HR1.out.mono ?_)
              rintro e w3 ⟨u3, rfl, hu3, hf3, F3, hc3, hn3⟩
              have y0 := hf3.cellS x0 HXF.out
              have y1 := hf3.cellS x1 HXF.out
              have y2 := hf3.cellS x2 HXF.out
              have y3 := hf3.cellS x3 HXF.out
              have y4 := hf3.cellS x4 HXF.out
              have y5 := hf3.cellS x5 HXF.out
              have y6 := hf3.cellS x6 HXF.out
              have y7 := hf3.cellS x7 HXF.out
              have y8 := hf3.cellS x8 HXF.out
              have HU3 := Lib.hid hu3
              have HF3 := Lib.hid hf3
              have HC3 := Lib.hid hc3
              have HN3 := Lib.hid hn3
              clear x0 x1 x2 x3 x4 x5 x6 x7 x8 HR1 hu3 hf3 hc3 hn3
              go_wp2_with (go_at_call 17; refine (R2.out _ HF3.out).mono ?_)
              rintro e w4 ⟨u4, rfl, hu4, hn4⟩
              have HD4 := Lib.hid (DAt.step HFR.out HF.out HR.out HFR2.out HRR.out HF3.out HC3.out HN3.out hn4 HFI2.out HSH2.out)
              have HY4 := Lib.hid ((HY.out.fr HF3.out HXF.out).fr hn4.1 (fun h => HXR.out h.1))
              have hu3' := HU3.out.fr hn4.1 (fun b _ hb hs => HFR2.out b hb hs.1) (fun _ _ e => e.elim)
              have HSM := Lib.hid (bbsame_any _ _ _ _ w4 u3 u4 _ _ hu3' hu4 (by unfold maxLen; omega) (by unfold maxLen; omega) (fun b hb => by have := HOB.out b hb; unfold maxLen; omega) (fun b hb => by have := HOB.out b hb; unfold maxLen; omega))
              clear hn4 hu4 hu3' R2 HFI2 HSH2 HU3 y0 y1 y2 y3 y4 y5 y6 y7 y8 HOB hol80
              generalize learn c now l d.nic d.nxt d.mac _ = r at *
              obtain ⟨⟨out, ok⟩, l2⟩ := r
              have hsm := HSM.out
              rw [show decide (out = out) = true from by simp] at hsm
              have HSM2 := Lib.hid hsm
              have hbq : (ok != ok) = false := by simp
              clear hsm HSM
              go_wp2_with (go_at_call 10; refine HSM2.out.mono ?_)
              rintro e w5 ⟨rfl, n5, rfl⟩
              have HD5 := Lib.hid (HD4.out.frN ((Fr.refl Nil w4).drewN n5))
              have HY5 := Lib.hid (HY4.out.drewN n5)
              clear HD4 HY4
              go_wp2
              go_meet
              exact ⟨HD5.out, HY5.out⟩
          · have hk1b : (d.kind == 1) = false := by simpa using fun e => hkl (.inl e)
            have hk2b : (d.kind == 2) = false := by simpa using fun e => hkl (.inr e)
            have x0 := HY.out.cellS (i := 0) rfl
            have R1 := Lib.hid (tick_calls hcr hfine (by omega) HC.out.hi)
            have HFI2 := Lib.hid hfine.tick
            have HSH2 := Lib.hid (hsh.tick (c := c) (now := now + 1))
            have hal : (tickAsks c (now + 1) l).length ≤ 80 := by have h2 := tickAsks_length c (now + 1) l; omega
            have R2 : Hid (∀ w3, Fr F Y w3 → Calls Try.prog 18 #[.pointer (some ⟨br, 0, none⟩)] w3 (TickPost w3 br c now l R)) := Lib.hid (fun w3 h3 => by
                obtain ⟨conf3, u3, hr3⟩ := hrr.fr h3 (fun b hb hf => hFR b hf hb)
                exact rtick_any hr3 hfine.n0 (by have := hfine.n1; omega) (by omega) (by omega) hfine.since hfine.tries HC.out.hi)
            have HRL := Lib.hid hrr.lt
            clear hcr hrr hfr hbb hY' hF hR hFR hxF hxR hfine hsh x1 x2 x9 hkl hkind
            go_wp2_with (go_at_call 11; refine R1.out.mono ?_)
            rintro e w3 ⟨v3, rfl, hv3, hf3, F3, hc3, hn3⟩
            have HV3 := Lib.hid hv3
            have HF3 := Lib.hid hf3
            have HC3 := Lib.hid hc3
            have HN3 := Lib.hid hn3
            clear x0 R1 hv3 hf3 hc3 hn3
            go_wp2_with (go_at_call 18; refine (R2.out _ HF3.out).mono ?_)
            rintro e w4 ⟨v4, rfl, hv4, hn4⟩
            have HD4 := Lib.hid (DAt.step HFR.out HF.out HR.out HFR2.out HRR.out HF3.out HC3.out HN3.out hn4 HFI2.out HSH2.out)
            have HY4 := Lib.hid ((HY.out.fr HF3.out HXF.out).fr hn4.1 (fun h => HXR.out h.1))
            have hv3' := hn4.1.ownsRow HV3.out (fun b hb hs => by have h1 := row_base HV3.out b hb; have h2 := HRL.out b hs.1; omega)
            have HSM := Lib.hid (rsame_any _ _ w4 v3 v4 _ _ hv3' hv4 (by omega) (by omega))
            clear hn4 hv4 hv3' R2 HFI2 HSH2 HV3 hal
            generalize tickAsks c (now + 1) l = asks at *
            generalize tickLost c (now + 1) l = lost at *
            have hsm := HSM.out
            rw [show decide (asks = asks) = true from by simp] at hsm
            have HSM2 := Lib.hid hsm
            have hbq : ((lost : Int) != (lost : Int)) = false := by simp
            clear hsm HSM
            go_wp2_with (go_at_call 19; refine HSM2.out.mono ?_)
            rintro e w5 ⟨rfl, n5, rfl⟩
            have HD5 := Lib.hid (HD4.out.frN ((Fr.refl Nil w4).drewN n5))
            have HY5 := Lib.hid (HY4.out.drewN n5)
            clear HD4 HY4
            go_wp2
            go_meet
            exact ⟨HD5.out, HY5.out⟩
      case rest =>
        obtain ⟨hT1, hY1⟩ := hcut
        obtain ⟨now, l, F, R, hcr, hfine, hsh, hrr, hF, hR, hFR⟩ := hT1.ex
        have hl80 : l.length ≤ 1000000 := by have := hfine.len; omega
        have ht80 : total l ≤ 1000000 := by have := hfine.tot; omega
        have x1 := hY1.cellS (i := 1) rfl
        have x2 := hY1.cellS (i := 2) rfl
        have R1 := find_calls hcr d.nic d.nxt
        have R2 : Hid (∀ w3, Fr Nil wc w3 → Calls Try.prog 21 #[.pointer (some ⟨br, 0, none⟩), .agg #[.int .i64 d.nic, .int .u32 d.nxt]] w3 (RetF (.tuple #[macV (macOf l d.nic d.nxt).1, .bool (macOf l d.nic d.nxt).2]) Nil w3)) := Lib.hid (fun w3 h3 => by
          obtain ⟨conf3, u3, hr3⟩ := hrr.fr h3 (fun _ _ e => e)
          exact rmac_any hr3 d.nic d.nxt hl80)
        have HT1 := Lib.hid hT1
        have HY1 := Lib.hid hY1
        have HCR := Lib.hid hcr
        have HRR := Lib.hid hrr
        generalize hmo : macOf l d.nic d.nxt = mo at *
        obtain ⟨mm, mb⟩ := mo
        dsimp only at R1
        unfold macV at R1 R2
        have HR1 := Lib.hid R1
        clear hmo R1 hT1 hY1 hcr hrr hfine hsh hF hR hFR
        go_wp2_with (go_at_call 20; refine HR1.out.mono ?_)
        rintro e w3 ⟨rfl, hf3⟩
        have y1 := hf3.cellS x1 (fun e => e)
        have y2 := hf3.cellS x2 (fun e => e)
        have HF3 := Lib.hid hf3
        have hbl := World.block_lt_of_cell? _ _ y1
        clear hf3 x1 x2 HR1
        go_wp2_with (go_at_call 21; refine (R2.out _ (HF3.out.alloc _)).mono ?_)
        rintro e w4 ⟨rfl, hf4⟩
        have hB4 := (Blk.new w3 23 [.int .u8 mm.a, .int .u8 mm.b, .int .u8 mm.c, .int .u8 mm.d, .int .u8 mm.e, .int .u8 mm.f]).fr hf4 (fun e => e)
        have HF5 := Lib.hid (((HF3.out.alloc (.cells #[.int .u8 mm.a, .int .u8 mm.b, .int .u8 mm.c, .int .u8 mm.d, .int .u8 mm.e, .int .u8 mm.f] 23)).trans hf4 (fun _ _ e => e)).alloc (.cells #[.int .u8 mm.a, .int .u8 mm.b, .int .u8 mm.c, .int .u8 mm.d, .int .u8 mm.e, .int .u8 mm.f] 23))
        have hb4 := hB4.lt
        have m0 := hB4.cellS (i := 0) rfl
        have m1 := hB4.cellS (i := 1) rfl
        have m2 := hB4.cellS (i := 2) rfl
        have m3 := hB4.cellS (i := 3) rfl
        have m4 := hB4.cellS (i := 4) rfl
        have m5 := hB4.cellS (i := 5) rfl
        have hf4' := hf4
        clear hf4 hB4 R2 y1 y2 hbl
        go_wp2_with fail
        have hr4 := HRR.out.fr ((HF3.out.alloc (.cells #[.int .u8 mm.a, .int .u8 mm.b, .int .u8 mm.c, .int .u8 mm.d, .int .u8 mm.e, .int .u8 mm.f] 23)).trans hf4' (fun _ _ e => e)) (fun _ _ e => e)
        obtain ⟨conf4, u4, hr4⟩ := hr4
        obtain ⟨a4, c4, hu4⟩ := hr4.row.form
        subst hu4
        have q41 := hr4.c41
        have q40 := hr4.c40
        have hbr4 := hr4.blk.lt
        have HCL := Lib.hid (fun n => ((len_eq (HCR.out.fr (HF5.out.drewN n) (fun _ _ e => e))).mono (fun _ _ h => ⟨h.1, 0, h.2⟩) : Calls Try.prog 14 #[.pointer (some ⟨bc, 0, none⟩)] ((w4.alloc (.cells #[.int .u8 mm.a, .int .u8 mm.b, .int .u8 mm.c, .int .u8 mm.d, .int .u8 mm.e, .int .u8 mm.f] 23)).drewN n) (RetV (.int .i64 l.length) ((w4.alloc (.cells #[.int .u8 mm.a, .int .u8 mm.b, .int .u8 mm.c, .int .u8 mm.d, .int .u8 mm.e, .int .u8 mm.f] 23)).drewN n))))
        have HCW := Lib.hid (fun n => ((waits_eq (HCR.out.fr (HF5.out.drewN n) (fun _ _ e => e))).mono (fun _ _ h => ⟨h.1, 0, h.2⟩) : Calls Try.prog 12 #[.pointer (some ⟨bc, 0, none⟩)] ((w4.alloc (.cells #[.int .u8 mm.a, .int .u8 mm.b, .int .u8 mm.c, .int .u8 mm.d, .int .u8 mm.e, .int .u8 mm.f] 23)).drewN n) (RetV (.int .i64 (total l)) ((w4.alloc (.cells #[.int .u8 mm.a, .int .u8 mm.b, .int .u8 mm.c, .int .u8 mm.d, .int .u8 mm.e, .int .u8 mm.f] 23)).drewN n))))
        have HCN := Lib.hid (fun n => ((now_eq (HCR.out.fr (HF5.out.drewN n) (fun _ _ e => e))).mono (fun _ _ h => ⟨h.1, 0, h.2⟩) : Calls Try.prog 23 #[.pointer (some ⟨bc, 0, none⟩)] ((w4.alloc (.cells #[.int .u8 mm.a, .int .u8 mm.b, .int .u8 mm.c, .int .u8 mm.d, .int .u8 mm.e, .int .u8 mm.f] 23)).drewN n) (RetV (.int .i64 now) ((w4.alloc (.cells #[.int .u8 mm.a, .int .u8 mm.b, .int .u8 mm.c, .int .u8 mm.d, .int .u8 mm.e, .int .u8 mm.f] 23)).drewN n))))
        have HRW := Lib.hid (fun n => ((rwaits_any ((hr4.fr ((Fr.refl Nil w4).alloc (.cells #[.int .u8 mm.a, .int .u8 mm.b, .int .u8 mm.c, .int .u8 mm.d, .int .u8 mm.e, .int .u8 mm.f] 23)) (fun _ _ e => e)).fr ((Fr.refl Nil _).drewN n) (fun _ _ e => e)) hl80 ht80).mono (fun _ _ h => ⟨h.1, 0, h.2.symm⟩) : Calls Try.prog 22 #[.pointer (some ⟨br, 0, none⟩)] ((w4.alloc (.cells #[.int .u8 mm.a, .int .u8 mm.b, .int .u8 mm.c, .int .u8 mm.d, .int .u8 mm.e, .int .u8 mm.f] 23)).drewN n) (RetV (.int .i64 (total l)) ((w4.alloc (.cells #[.int .u8 mm.a, .int .u8 mm.b, .int .u8 mm.c, .int .u8 mm.d, .int .u8 mm.e, .int .u8 mm.f] 23)).drewN n))))
        have hE := fun W' => neq_mac W' mm.a mm.b mm.c mm.d mm.e mm.f
        have hq1 : (mb != mb) = false := by simp
        have hq2 : ((l.length : Int) != (l.length : Int)) = false := by simp
        have hq3 : ((total l : Int) != (total l : Int)) = false := by simp
        have hq4 : (now != now) = false := by simp
        clear hr4 hf4' hl80 ht80
        go_quiet (first | (go_at_call 14; exact RetV.quiet (HCL.out _)) | (go_at_call 12; exact RetV.quiet (HCW.out _)) | (go_at_call 23; exact RetV.quiet (HCN.out _)) | (go_at_call 22; exact RetV.quiet (HRW.out _)))
        have HT2 := Lib.hid (HT1.out.frN (HF5.out.drewN nq))
        clear HT1 HCL HCW HCN HRW q40 q41 hbr4 hE m0 m1 m2 m3 m4 m5
        go_wp2
        go_roundw
        case rel => exact ⟨k + 1, by omega, by omega, by go_num, HT2.out⟩
        case measure => simp [intOf]; omega
    · have HFR := Lib.hid HT.out.fr
      have HNLT := Lib.hid hlt
      have hg : ((k : Int) < (ds.length : Int) ∧ (k : Int) < 80) → False := fun h => HNLT.out ⟨by omega, by omega⟩
      have hcase : ¬ (k : Int) < (ds.length : Int) ∨ ((k : Int) < (ds.length : Int) ∧ ¬ (k : Int) < 80) := by
        by_cases h : (k : Int) < (ds.length : Int)
        · exact .inr ⟨h, fun h' => hg ⟨h, h'⟩⟩
        · exact .inl h
      clear hg HT hlt
      rcases hcase with h3 | ⟨h3, h4⟩
      · go_wp2_with (go_at_call 13; refine (lives_any _).mono ?_)
        rintro e w7 ⟨rfl, hf7⟩
        have HF7 := Lib.hid (HFR.out.trans hf7 (fun _ _ e => e))
        clear hf7
        go_wp2
        go_ret
        exact ⟨rfl, HF7.out⟩
      · go_wp2_with (go_at_call 13; refine (lives_any _).mono ?_)
        rintro e w7 ⟨rfl, hf7⟩
        have HF7 := Lib.hid (HFR.out.trans hf7 (fun _ _ e => e))
        clear hf7
        go_wp2
        go_ret
        exact ⟨rfl, HF7.out⟩
end Go.Proofs.Ytaokmbmimogdgaa
