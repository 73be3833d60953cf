/- The walk of CacheKeeps. -/
import Derived.Test.YtaokmbmimogdgaaKeepMap
import Derived.Test.YtaokmbmimogdgaaLives
import Derived.StillTailTactics
import Derived.Deep.DeepCutAuto
import Derived.Deep.CutBlock
namespace Go.Proofs.Ytaokmbmimogdgaa
open Go.RowKit Go.ChangeMaps
attribute [local go_sem ↓] Go.wp_at_zero Go.wp_at_succ

/-- Between two deeds. -/
structure KAt (w0 : World) (bc bx rm : Nat) (c : Cf) (conf : List Value) (k : Nat) (all : Int) (W : World) : Prop where
  ex : ∃ now l F kvs, CRep W bc c now l F ∧ Fine c now l k ∧ (Inv c l ∧ Short l) ∧ all = total l ∧ LM w0.heap.size F W rm kvs (ws l) ∧ (∀ b, F b → w0.heap.size ≤ b) ∧ ¬ F bx
  blk : Blk W bx 33 conf
  fr : Fr Nil w0 W
  bx0 : w0.heap.size ≤ bx
  rm0 : w0.heap.size ≤ rm

theorem KAt.frN {w0 W W' : World} {bc bx rm k : Nat} {c : Cf} {conf : List Value} {all : Int} (h : KAt w0 bc bx rm c conf k all W) (hf : Fr Nil W W') : KAt w0 bc bx rm c conf k all W' := by
  obtain ⟨now, l, F, kvs, h1, h2, h3, h4, h5, h6, h7⟩ := h.ex
  exact ⟨⟨now, l, F, kvs, h1.fr hf (fun _ _ e => e), h2, h3, h4, h5.frN hf, h6, h7⟩, h.blk.fr hf (fun e => e), h.fr.trans hf (fun _ _ e => e), h.bx0, h.rm0⟩

theorem KAt.step {w0 X W : World} {bc bx rm k k' : Nat} {c : Cf} {conf : List Value} {a now' : Int} {F F3 : Nat → Prop} {l' : List One} {kvs' : List ((Int × Int) × Value)} (hK : KAt w0 bc bx rm c conf k a X) (hf : Fr F X W) (hF : ∀ b, F b → w0.heap.size ≤ b) (hbx : ¬ F bx)
    (hc : CRep W bc c now' l' F3) (hn : ∀ b, F3 b → F b ∨ X.heap.size ≤ b) (hfi : Fine c now' l' k') (hi : Inv c l' ∧ Short l') (hlm : LM w0.heap.size F3 W rm kvs' (ws l')) : KAt w0 bc bx rm c conf k' (total l') W := by
  refine ⟨⟨now', l', F3, kvs', hc, hfi, hi, rfl, hlm, fun b hb => ?_, fun hb => ?_⟩, hK.blk.fr hf hbx, hK.fr.trans hf (fun b hb h => by have := hF b h; omega), hK.bx0, hK.rm0⟩
  · have := hK.fr.size
    rcases hn b hb with h | h
    · exact hF b h
    · omega
  · have := hK.blk.lt
    rcases hn _ hb with h | h
    · exact hbx h
    · omega

theorem KAt.step2 {w0 X W : World} {bc bx rm k k' : Nat} {c : Cf} {conf : List Value} {a now' : Int} {S F3 : Nat → Prop} {l' : List One} {kvs' : List ((Int × Int) × Value)} (hK : KAt w0 bc bx rm c conf k a X) (hf : Fr S X W) (hS : ∀ b, S b → w0.heap.size ≤ b) (hbx : ¬ S bx)
    (hc : CRep W bc c now' l' F3) (hF3 : ∀ b, F3 b → w0.heap.size ≤ b) (hb3 : ¬ F3 bx) (hfi : Fine c now' l' k') (hi : Inv c l' ∧ Short l') (hlm : LM w0.heap.size F3 W rm kvs' (ws l')) : KAt w0 bc bx rm c conf k' (total l') W :=
  ⟨⟨now', l', F3, kvs', hc, hfi, hi, rfl, hlm, hF3, hb3⟩, hK.blk.fr hf hbx, hK.fr.trans hf (fun b hb h => by have := hS b h; omega), hK.bx0, hK.rm0⟩

theorem zeroS (w : World) : (zeroValue 47).run Try.prog w = .ok (.slice none 0 0) w := by kernel_rfl

theorem waits_eq {w : World} {bc : Nat} {c : Cf} {now : Int} {l : List One} {F : Nat → Prop} (h : CRep w bc c now l F) : Calls Try.prog 12 #[.pointer (some ⟨bc, 0, none⟩)] w fun e w' => e = .returned (.int .i64 (total l)) ∧ w' = w := by
  obtain ⟨_, conf, bm, ents, h, hp⟩ := h
  rw [total_perm hp]
  have h42 := h.c42
  clear h hp
  go_enter Try.func12, Try.ntmps12
  go_wp2
  go_ret
  exact ⟨rfl, rfl⟩
theorem len_eq {w : World} {bc : Nat} {c : Cf} {now : Int} {l : List One} {F : Nat → Prop} (h : CRep w bc c now l F) : Calls Try.prog 14 #[.pointer (some ⟨bc, 0, none⟩)] w fun e w' => e = .returned (.int .i64 l.length) ∧ w' = w := by
  obtain ⟨_, conf, bm, ents, h, hp⟩ := h
  have hll : ents.length = l.length := by have := hp.length_eq; simpa [rows] using this.symm
  rw [← hll]
  have h41 := h.c41
  have hl : ∀ ty, (Builtin.len_ #[69] ty #[.map (some bm)]).run Try.prog w = .ok (.int .i64 ents.length) w := fun ty => by
    have := h.map.len Try.underlying69 ty
    simpa [goInt] using this
  clear h hp hll
  go_enter Try.func14, Try.ntmps14
  go_wp2
  go_ret
  exact ⟨rfl, rfl⟩

/-- Told: nothing waits for the place any more. -/
theorem KAt.told {w0 X w3 : World} {bc bx rm k : Nat} {c : Cf} {conf : List Value} {a now' : Int} {l l2 : List One} {F F3 : Nat → Prop} {kvs : List ((Int × Int) × Value)} (hK : KAt w0 bc bx rm c conf k a X) (hf3 : Fr F X w3) (hF : ∀ b, F b → w0.heap.size ≤ b) (hbx : ¬ F bx)
    (hc3 : CRep w3 bc c now' l2 F3) (hFb : ∀ b, F3 b → w0.heap.size ≤ b) (hFx : ¬ F3 bx) (hlm : LM w0.heap.size F3 w3 rm kvs (ws l)) (hfi : Fine c now' l2 (k + 1)) (hi : Inv c l2 ∧ Short l2) {p : Int × Int} (hws : ∀ q, ws l2 q = if q = p then [] else ws l q)
    (n : Nat) {es' : Array MapEntry} {ck' : Nat} (hm : MapIs (setBlock (w3.drewN n) rm (.map es' ck')) rm (del kvs p)) : KAt w0 bc bx rm c conf (k + 1) (total l2) (setBlock (w3.drewN n) rm (.map es' ck')) := by
  obtain ⟨es0, ck0, hes0⟩ := hlm.map.map
  have fW : Fr (fun b => b = rm) w3 (setBlock (w3.drewN n) rm (.map es' ck')) := ((Fr.refl (fun b => b = rm) w3).drewN n).setMap (es := es0) (ck := ck0) hes0 (fun _ => ⟨rfl, hlm.map.noTag _⟩) _
  have hbk := (hK.blk.fr hf3 hbx).tag
  exact hK.step2 (S := fun b => F b ∨ b = rm) ((hf3.mono (fun _ _ e => .inl e)).trans fW (fun _ _ e => .inr e)) (fun b hb => by
      rcases hb with h | h
      · exact hF b h
      · rw [h]; exact hK.rm0) (fun h => by
      rcases h with h | h
      · exact hbx h
      · exact hlm.map.noTag _ (by rw [← h]; exact hbk))
    (hc3.fr fW (fun b hb h => by rw [h] at hb; exact hlm.rF hb)) hFb hFx hfi hi ((hlm.drop fW hK.rm0 hm).ext (fun q => hws q))

theorem own_pair {w : World} {base : Nat} {oa : Option Addr} {oc k : Nat} {l : List (Int × Int)} {p : Int × Int} (h : w.ownsRow base 39 2 (.slice oa l.length oc) l.length (pcells l)) (hx : l[k]? = some p) :
    ∃ g, oa = some ⟨g, 0, none⟩ ∧ w.cell? ⟨g, k * 2, none⟩ = some (.int .i64 p.1) ∧ w.cell? ⟨g, k * 2 + 1, none⟩ = some (.int .u32 p.2) := by
  have hk := (List.getElem?_eq_some_iff.1 hx).1
  obtain ⟨_, ⟨_, h0⟩ | ⟨g, cap, cur, hv, _, hb, h3, _, h5, h6⟩⟩ := h
  · omega
  · have hB : Blk w g 39 cur.toList := by simpa [Blk] using hb
    have hkey : l[k]! = p := by rw [getElem!_pos _ k hk]; exact (List.getElem?_eq_some_iff.1 hx).2
    have hc : ∀ i, i < 2 → cur.toList[k * 2 + i]? = some ((pcs p)[i]!) := fun i hi => by
      have h1 := pcells_get l (k * 2 + i) (by omega)
      rw [show (k * 2 + i) / 2 = k by omega, show (k * 2 + i) % 2 = i by omega, hkey] at h1
      rw [← h1, ← h6, List.getElem?_take_of_lt (by omega)]
    refine ⟨g, by cases hv; rfl, ?_, ?_⟩
    · exact hB.cellS (hc 0 (by omega))
    · exact hB.cellS (hc 1 (by omega))

set_option maxRecDepth 100000 in
set_option maxHeartbeats 3000000 in
theorem keeps_any (w : World) (conf : List Value) (c : Cf) (hc : CfOK conf c) (v : Value) (ds : List Deed) (hd : DeedsAt w.heap.size w v ds) :
    Calls Try.prog 3 #[.agg conf.toArray, v] w (RetF (.bool true) Nil w) := by
  have hl := hc.len
  have hB := Blk.new w 33 conf
  have hfb : Fr Nil w (w.alloc (.cells conf.toArray 33)) := (Fr.refl _ _).alloc _
  have hmm := @run_makeMap Try.prog
  have hi : (Try.prog.info? 33).map (·.size) = some conf.toArray.size := by
    rw [List.size_toArray, hl]; kernel_rfl
  have HI := Lib.hid hi
  have HB := Lib.hid hB
  have HC := Lib.hid hc
  have HD := Lib.hid hd
  have HFB := Lib.hid hfb
  have HN := Lib.hid (new_any (w.alloc (.cells conf.toArray 33)) conf c hc 0)
  clear hB hc hd hi hl hfb
  go_enter Try.func3, Try.ntmps3
  go_upto_region 1 with fail
  go_step
  refine wpList_load_row rfl _ (.tmp 2) rfl _ rfl _ _ _ _ HB.out Try.underlying33 rfl HI.out ?_
  go_wp2_with (go_at_call 6; refine HN.out.mono ?_)
  rintro e w1 ⟨bc, rfl, hcr, hf1⟩
  rw [show clamp 0 0 1073741824 = 0 from rfl] at hcr
  have T0 : KAt w bc w.heap.size w1.heap.size c conf 0 0 (w1.alloc (.map #[] 0)) := by
    have hfm : Fr Nil w1 (w1.alloc (.map #[] 0)) := (Fr.refl _ _).alloc _
    refine ⟨⟨0, [], _, [], hcr.fr hfm (fun _ _ e => e), Fine.new c 0, ⟨Inv.new c, Short.nil⟩, rfl, (LM.new (N0 := w.heap.size) hcr.lt).ext (fun p => rfl), fun b hb => ?_, fun hb => ?_⟩, (HB.out.fr hf1 (fun e => e)).fr hfm (fun e => e), (HFB.out.trans hf1 (fun _ _ e => e)).trans hfm (fun _ _ e => e), Nat.le_refl _, ?_⟩
    · have := hb.1; simp at this; omega
    · exact absurd hb.1 (by simp)
    · have := (HFB.out.trans hf1 (fun _ _ e => e)).size; exact this
  have HT0 := Lib.hid T0
  clear T0 hcr hf1 HN HB HI HFB
  obtain ⟨a, cc, rfl, hm, hds⟩ := HD.out
  have HDS := Lib.hid hds
  clear hds
  go_wp2_with fail
  go_loopw [7, 8] (fun al i wr => ∃ k : Nat, ∃ all : Int, k ≤ ds.length ∧ k ≤ 80 ∧ i = .int .i64 k ∧ al = .int .i64 all ∧ KAt w bc w.heap.size w1.heap.size c conf k all wr) (fun _ i _ => 80 - (intOf i).toNat)
  case atStart => exact ⟨0, 0, Nat.zero_le _, Nat.zero_le _, rfl, rfl, HT0.out⟩
  case round =>
    obtain ⟨k, all, hk1, hk2, rfl, rfl, hT⟩ := hrel
    have HT := Lib.hid hT
    clear hT HT0
    by_cases hlt : k < ds.length ∧ k < 80
    · obtain ⟨hlt1, hlt2⟩ := hlt
      obtain ⟨d, hdk⟩ : ∃ d, ds[k]? = some d := ⟨_, List.getElem?_eq_getElem hlt1⟩
      obtain ⟨g, o, ha, hgl, hat⟩ := HDS.out (by intro e; rw [e] at hlt1; simp at hlt1)
      subst ha
      have hd1 := (hat k d hdk).fr hgl HT.out.fr (fun _ e => e.elim)
      obtain ⟨e0, e1, e2, e3, e4, e5, e6, e7, e8, u, e9, hbm, hb⟩ := hd1
      obtain ⟨ua, uc, hu⟩ : ∃ a c, u = .slice a d.b.length c := by obtain ⟨a, c, e, _⟩ := hb; exact ⟨a, c, e⟩
      subst hu
      have HBM := Lib.hid hbm
      have HBY := Lib.hid hb
      have h1 : (k : Int) < (ds.length : Int) := by omega
      have h2 : (k : Int) < 80 := by omega
      clear hat hbm hb hdk
      go_upto_block 2 with fail
      go_cut [7] (fun al wx => ∃ all : Int, al = .int .i64 all ∧ KAt w bc w.heap.size w1.heap.size c conf (k + 1) all wx)
      case first =>
        obtain ⟨now, l, F, kvs, hcr0, hfine, hinv, rfl, hlm0, hF, hbx⟩ := HT.out.ex
        have hfx : Fr Nil wr (wr.alloc (.cells #[.int .i64 d.kind, .int .i64 d.nic, .int .u32 d.nxt, .int .u8 d.mac.a, .int .u8 d.mac.b, .int .u8 d.mac.c, .int .u8 d.mac.d, .int .u8 d.mac.e, .int .u8 d.mac.f, .slice ua d.b.length uc] 42)) := (Fr.refl _ _).alloc _
        have hX := Blk.new wr 42 [.int .i64 d.kind, .int .i64 d.nic, .int .u32 d.nxt, .int .u8 d.mac.a, .int .u8 d.mac.b, .int .u8 d.mac.c, .int .u8 d.mac.d, .int .u8 d.mac.e, .int .u8 d.mac.f, .slice ua d.b.length uc]
        have hxF : ¬ F wr.heap.size := fun h => by have := hcr0.lt _ h; omega
        have hwr : w.heap.size ≤ wr.heap.size := HT.out.fr.size
        have hcr := hcr0.fr hfx (fun _ _ e => e)
        have hlm := hlm0.frN hfx
        have hK := HT.out.frN hfx
        have hbb : RdB (fun b => b < w.heap.size) (wr.alloc (.cells #[.int .i64 d.kind, .int .i64 d.nic, .int .u32 d.nxt, .int .u8 d.mac.a, .int .u8 d.mac.b, .int .u8 d.mac.c, .int .u8 d.mac.d, .int .u8 d.mac.e, .int .u8 d.mac.f, .slice ua d.b.length uc] 42)) (.slice ua d.b.length uc) d.b := HBY.out.fr hfx (fun _ _ _ e => e)
        clear hcr0 hlm0 hfx e0 e1 e2 e3 e4 e5 e6 e7 e8 e9
        obtain ⟨X, hXX⟩ : ∃ X, wr.alloc (.cells #[.int .i64 d.kind, .int .i64 d.nic, .int .u32 d.nxt, .int .u8 d.mac.a, .int .u8 d.mac.b, .int .u8 d.mac.c, .int .u8 d.mac.d, .int .u8 d.mac.e, .int .u8 d.mac.f, .slice ua d.b.length uc] 42) = X := ⟨_, rfl⟩
        have hX' : Blk X wr.heap.size 42 [.int .i64 d.kind, .int .i64 d.nic, .int .u32 d.nxt, .int .u8 d.mac.a, .int .u8 d.mac.b, .int .u8 d.mac.c, .int .u8 d.mac.d, .int .u8 d.mac.e, .int .u8 d.mac.f, .slice ua d.b.length uc] := by rw [← hXX]; exact hX
        rw [hXX] at hcr hlm hK hbb ⊢
        clear hX hXX
        generalize hbX : wr.heap.size = bX at *
        have HX := Lib.hid hX'
        have HCR := Lib.hid hcr
        have HLM := Lib.hid hlm
        have HK := Lib.hid hK
        have HF := Lib.hid hF
        have HBX := Lib.hid hbx
        have HXF := Lib.hid hxF
        have HFINE := Lib.hid hfine
        have HINV := Lib.hid hinv.1
        have HSHT := Lib.hid hinv.2
        have x1 := hX'.cellS (i := 1) rfl
        have x2 := hX'.cellS (i := 2) rfl
        have x9 := hX'.cellS (i := 9) rfl
        by_cases hkind : d.kind = 0
        · have hkb : (d.kind == 0) = true := by simp [hkind]
          obtain ⟨u2, hb2, hfew⟩ := few_val _ X (.slice ua d.b.length uc) d.b 100 hbb HBM.out (by omega)
          have HB2 := Lib.hid hb2
          have R := want_calls hcr hfine (by omega) d.nic d.nxt u2 (G := fun b => b < w.heap.size) hb2 (fun b _ h1 h2 => by have := hF b h2; omega) (by have := List.length_take_le 100 d.b; omega)
          have R' := Lib.hid R
          have hwk := want_keeps (now := now) hcr.sor hinv.1 d.nic d.nxt (d.b.take 100)
          have HFINE2 := Lib.hid (hfine.want d.nic d.nxt (d.b.take 100))
          have HSHT2 := Lib.hid (hinv.2.want (c := c) (now := now) d.nic d.nxt (b := d.b.take 100) (by have := List.length_take_le 100 d.b; omega))
          clear hkind R hb2 hcr hlm hK hbb hX' hF hbx hxF hfine hinv
          go_wp2_with (first | (go_at_call 7; refine (hfew _).mono ?_; rintro e w' ⟨rfl, rfl⟩) | (go_at_call 8; refine R'.out.mono ?_))
          rintro e w3 ⟨rfl, hf3, F3, hc3, hn3⟩
          have y1 := hf3.cellS x1 HXF.out
          have y2 := hf3.cellS x2 HXF.out
          clear x1 x2 x9 hfew R'
          rcases hwk with ⟨er, hne, hw1, hw2⟩ | ⟨hw1, hw2, hw3, hw4⟩
          · generalize want c now l d.nic d.nxt (d.b.take 100) = r at *
            obtain ⟨⟨ask, er2⟩, l2⟩ := r
            simp only [Prod.mk.injEq] at hw1
            obtain ⟨rfl, rfl⟩ := hw1
            simp only at hw2
            subst hw2
            have hne2 : (er2 == 0) = false := by simpa using hne
            have T := HK.out.step hf3 HF.out HBX.out hc3 hn3 HFINE.out.more ⟨HINV.out, HSHT.out⟩ (HLM.out.next hf3 HF.out hn3)
            have HT3 := Lib.hid T
            clear T hf3 hc3 hn3 y1 y2 hne HFINE2
            go_wp2
            go_meet
            exact ⟨_, rfl, HT3.out⟩
          · generalize want c now l d.nic d.nxt (d.b.take 100) = r at *
            obtain ⟨⟨ask, er2⟩, l2⟩ := r
            simp only [Prod.mk.injEq] at hw1
            obtain ⟨rfl, rfl⟩ := hw1
            simp only at hw2 hw3 hw4
            have hlm3 := HLM.out.next hf3 HF.out hn3
            have hrow := hlm3.row (d.nic, d.nxt)
            obtain ⟨la, lc, hlv⟩ := hrow.form
            obtain ⟨vs, hvl, hown, hvs⟩ := hrow
            rw [hlv] at hown
            obtain ⟨u2a, u2n, u2c, hu2⟩ : ∃ a n c, u2 = .slice a n c := by obtain ⟨a, c, e, _⟩ := HB2.out; exact ⟨a, _, c, e⟩
            have hlk : (Instr.lookup 37 (.map (some w1.heap.size)) (.agg #[.int .i64 d.nic, .int .u32 d.nxt]) false).run Try.prog w3 = .ok (.slice la (ws l (d.nic, d.nxt)).length lc) w3 := by
              rw [← hlv]; exact MapIs.look hlm3.map Try.underlying37 zeroS (d.nic, d.nxt)
            obtain ⟨es1, ck1, s, hent, hst⟩ := MapIs.entry (hlm3.map.kept (w' := w3.alloc (.cells #[u2] 40)) (Below.heap_alloc _ _ _ hlm3.map.lt)) Try.underlying37 zeroS (d.nic, d.nxt)
            rw [show look kvs (d.nic, d.nxt) (.slice none 0 0) = .slice la (ws l (d.nic, d.nxt)).length lc from hlv] at hent
            obtain ⟨es0, ck0, hes0⟩ := (hlm3.map.kept (w' := w3.alloc (.cells #[u2] 40)) (Below.heap_alloc _ _ _ hlm3.map.lt)).map
            have hbb0 : (((ws l (d.nic, d.nxt)).length : Int) == 0) = decide (ws l (d.nic, d.nxt) = []) := by
              cases ws l (d.nic, d.nxt) <;> simp
              omega
            have hes1 : (setBlock (w3.alloc (.cells #[u2] 40)) w1.heap.size (.map es1 ck1)).heap[w1.heap.size]? = some (.map es1 ck1) := heap_setBlock_same hes0 _
            have hr3 := hlm3.map.lt
            have fWm : Fr (fun b => b = w1.heap.size) w3 (setBlock (w3.alloc (.cells #[u2] 40)) w1.heap.size (.map es1 ck1)) := ((Fr.refl (fun b => b = w1.heap.size) w3).alloc _).setMap hes0 (fun _ => ⟨rfl, hlm3.map.noTag _⟩) _
            have hnr : ∀ b, (Value.slice la (ws l (d.nic, d.nxt)).length lc).ownBlock = some b → ¬ b = w1.heap.size := fun b hb e => hlm3.map.noTag _ (by rw [← e]; exact ownsRow_tag hown b hb)
            have HOWN := Lib.hid (fWm.ownsRow hown hnr)
            have hnew : RdS (fun _ => True) (setBlock (w3.alloc (.cells #[u2] 40)) w1.heap.size (.map es1 ck1)) (.slice (some ⟨w3.heap.size, 0, none⟩) 1 1) 1 [u2] := by
              have hB := (Blk.new w3 40 [u2]).setMap hes0 (.map es1 ck1)
              exact ⟨_, _, rfl, Nat.le_refl _, fun _ => ⟨w3.heap.size, 0, rfl, trivial, hB.lt, fun j v hv => by rw [Nat.zero_add]; exact hB.cellS hv⟩⟩
            have HNEW := Lib.hid hnew
            obtain ⟨i0, hi0, hz0, hz1, hz2⟩ := info_parts infoBs
            have hwl : (ws l (d.nic, d.nxt)).length ≤ 1000000 := by have h1 := HFINE.out.tot; have h2 := ws_le l (d.nic, d.nxt); omega
            have hkeep : ∀ W4, Gw (setBlock (w3.alloc (.cells #[u2] 40)) w1.heap.size (.map es1 ck1)) W4 (Value.slice la (ws l (d.nic, d.nxt)).length lc).ownBlock → W4.heap[w1.heap.size]? = (setBlock (w3.alloc (.cells #[u2] 40)) w1.heap.size (.map es1 ck1)).heap[w1.heap.size]? := fun W4 hg => hg.block _ (by simp [setBlock]; omega) (fun e => hnr _ e.symm rfl)
            have HKEEP := Lib.hid hkeep
            clear hkeep
            have hT80 : total l ≤ 80 := by have h1 := HFINE.out.tot; omega
            have HST := Lib.hid hst
            have HLM3 := Lib.hid hlm3
            have HHV := Lib.hid hlv
            have HVL := Lib.hid hvl
            have HVS := Lib.hid hvs
            have HNR := Lib.hid hnr
            have HW2 := Lib.hid hw2
            have HW3 := Lib.hid hw3
            have HW4 := Lib.hid hw4
            have HC3 := Lib.hid hc3
            have HF3 := Lib.hid hf3
            have HN3 := Lib.hid hn3
            have HHES1 := Lib.hid hes1
            have hsz : w.heap.size ≤ (setBlock (w3.alloc (.cells #[u2] 40)) w1.heap.size (.map es1 ck1)).heap.size := by have h1 := HK.out.fr.size; have h2 := hf3.size; simp [setBlock]; omega
            clear hst hlm3 hlv hvl hvs hnr hw2 hw3 hw4 hc3 hf3 hn3 hown fWm hnew hes0 hes1
            unfold kv at hent
            subst hu2
            generalize hdec : decide (ws l (d.nic, d.nxt) = []) = b0 at *
            go_wp2_with (at_builtin; refine wpList_append_rd _ rfl (.tmp 96) (.tmp 98) _ rfl w.heap.size 40 i0 _ 1 24 Try.underlying47 hi0 hz0 hz1 hz2 rfl (by omega) (.slice la (ws l (d.nic, d.nxt)).length lc) _ vs (by rfl) HOWN.out (fun _ => True) (.slice (some ⟨w3.heap.size, 0, none⟩) 1 1) 1 [.slice u2a u2n u2c] (by rfl) HNEW.out rfl (by simp [Value.oneCell']) (by simp only [maxLen]; omega) (by omega) hsz ?_; intro v2 w4 hown4 hg4 hat4; obtain ⟨es2, ck2, hst2, hm2⟩ := MapSt.store (T := 37) (HST.out.kept (HKEEP.out _ hg4)) v2)
            go_meet
            have hmm2 : MapIs (setBlock w4 w1.heap.size (.map es2 ck2)) w1.heap.size (upd kvs (d.nic, d.nxt) v2) := by rw [upd_upd] at hm2; exact hm2
            have hb3 := HB2.out.fr HF3.out (fun b _ h1 h2 => by have := HF.out b h2; omega)
            obtain ⟨hs1, hs2⟩ := HLM3.out.store HC3.out.lt HK.out.rm0 (Nat.le_trans HK.out.fr.size HF3.out.size) (d.nic, d.nxt) hb3 _ HVL.out HVS.out hown4 (by rw [HHV.out]; exact hg4) (by rw [HHV.out]; exact hat4) hmm2
            have hFbase : ∀ b, F3 b → w.heap.size ≤ b := fun b hb => by
              rcases HN3.out b hb with h | h
              · exact HF.out b h
              · exact Nat.le_trans HK.out.fr.size h
            have hFbx : ¬ F3 w.heap.size := fun hb => by
              rcases HN3.out _ hb with h | h
              · exact HBX.out h
              · have := HK.out.blk.lt; omega
            have hbxS : ¬ (w.heap.size = w1.heap.size ∨ (look kvs (d.nic, d.nxt) nilS).ownBlock = some w.heap.size) := fun h => by
              have hbk := (HK.out.blk.fr HF3.out HBX.out).tag
              rcases h with e | e
              · exact HLM3.out.map.noTag _ (by rw [← e]; exact hbk)
              · have := (((HLM3.out.row _).base _ e).2.2).uniq hbk; revert this; decide
            have T := HK.out.step2 (S := fun b => F b ∨ b = w1.heap.size ∨ (look kvs (d.nic, d.nxt) nilS).ownBlock = some b) ((HF3.out.mono (fun _ _ e => .inl e)).trans hs2 (fun _ _ e => .inr e)) (fun b hb => by
                rcases hb with h | h | h
                · exact HF.out b h
                · rw [h]; exact HK.out.rm0
                · exact ((HLM3.out.row _).base b h).1) (fun h => by
                rcases h with h | h
                · exact HBX.out h
                · exact hbxS h)
              (HC3.out.fr hs2 (fun b hb h => by
                rcases h with h | h
                · rw [h] at hb; exact HLM3.out.rF hb
                · exact HLM3.out.nF _ b h hb)) hFbase hFbx HFINE2.out ⟨HW2.out, HSHT2.out⟩ (hs1.ext (fun p => HW4.out p))
            exact ⟨_, by rw [HW3.out]; rfl, T⟩
        · have hkb : (d.kind == 0) = false := by simp [hkind]
          by_cases hkl : d.kind = 1 ∨ d.kind = 2
          · obtain ⟨add, hadd⟩ : ∃ add, add = (d.kind == 2) := ⟨_, rfl⟩
            have hk12 : ((d.kind == 1) = true ∧ (d.kind == 2) = false ∧ add = false) ∨ ((d.kind == 1) = false ∧ (d.kind == 2) = true ∧ add = true) := by
              rcases hkl with e | e
              · exact .inl ⟨by simp [e], by simp [e], by simp [hadd, e]⟩
              · exact .inr ⟨by simp [e], by simp [e], by simp [hadd, e]⟩
            clear hkind hadd
            have x0 := HX.out.cellS (i := 0) rfl
            have x3 := HX.out.cellS (i := 3) rfl
            have x4 := HX.out.cellS (i := 4) rfl
            have x5 := HX.out.cellS (i := 5) rfl
            have x6 := HX.out.cellS (i := 6) rfl
            have x7 := HX.out.cellS (i := 7) rfl
            have x8 := HX.out.cellS (i := 8) rfl
            have R := learn_calls hcr hfine (by omega) d.nic d.nxt d.mac add
            unfold macV at R
            have hlk := learn_keeps (now := now) hcr.sor hinv.1 d.nic d.nxt d.mac add
            have HFINE2 := Lib.hid (hfine.learn d.nic d.nxt d.mac add)
            have HSHT2 := Lib.hid (hinv.2.learn (c := c) (now := now) d.nic d.nxt d.mac add)
            have R' := Lib.hid R
            have htl : total l ≤ 80 := by have h1 := hfine.tot; omega
            clear R hcr hlm hK hbb hX' hF hbx hxF hfine hinv x9 hkl
            rcases hk12 with ⟨hk1b, hk2b, rfl⟩ | ⟨hk1b, hk2b, rfl⟩
            all_goals
              go_wp2_with (go_at_call 9; refine R'.out.mono ?_)
              rintro e w3 ⟨u3, rfl, hr3, hf3, F3, hc3, hn3⟩
              have y1 := hf3.cellS x1 HXF.out
              have y2 := hf3.cellS x2 HXF.out
              clear x0 x1 x2 x3 x4 x5 x6 x7 x8 R'
              have hlm3 := HLM.out.next hf3 HF.out hn3
              have hFbase : ∀ b, F3 b → w.heap.size ≤ b := fun b hb => by
                rcases hn3 b hb with h | h
                · exact HF.out b h
                · exact Nat.le_trans HK.out.fr.size h
              have hFbx : ¬ F3 w.heap.size := fun hb => by
                rcases hn3 _ hb with h | h
                · exact HBX.out h
                · have := HK.out.blk.lt; omega
              rcases hlk with ⟨hw1, hw2⟩ | ⟨hw1, hw2, hw3, hw4⟩
              · generalize learn c now l d.nic d.nxt d.mac _ = r at *
                obtain ⟨⟨out, ok⟩, l2⟩ := r
                simp only [Prod.mk.injEq] at hw1
                obtain ⟨rfl, rfl⟩ := hw1
                simp only at hw2
                subst hw2
                obtain ⟨ta, tc, htv⟩ : ∃ a c, u3 = .slice a 0 c := by obtain ⟨vs, h1, ⟨a, c, e, _⟩, _⟩ := hr3; exact ⟨a, c, e⟩
                subst htv
                have HT3 := Lib.hid (HK.out.step hf3 HF.out HBX.out hc3 hn3 HFINE.out.more ⟨HINV.out, HSHT.out⟩ hlm3)
                clear hr3 hf3 hc3 hn3 hlm3 hFbase hFbx HFINE2 HSHT2
                go_wp2
                go_meet
                exact ⟨_, rfl, HT3.out⟩
              · generalize learn c now l d.nic d.nxt d.mac _ = r at *
                obtain ⟨⟨out, ok⟩, l2⟩ := r
                simp only [Prod.mk.injEq] at hw1
                obtain ⟨rfl, rfl⟩ := hw1
                simp only at hw2 hw3 hw4
                have hrow := hlm3.row (d.nic, d.nxt)
                have hwl : (ws l (d.nic, d.nxt)).length ≤ 80 := by have h2 := ws_le l (d.nic, d.nxt); omega
                have hsm := bbsame_any F Nil (fun _ => True) (fun b => b < w.heap.size) w3 u3 (look kvs (d.nic, d.nxt) nilS) (ws l (d.nic, d.nxt)) (ws l (d.nic, d.nxt)) hr3 hrow.bb (by unfold maxLen; omega) (by unfold maxLen; omega) (fun b hb => by have := HSHT.out.ws (d.nic, d.nxt) b hb; unfold maxLen; omega) (fun b hb => by have := HSHT.out.ws (d.nic, d.nxt) b hb; unfold maxLen; omega)
                rw [show decide (ws l (d.nic, d.nxt) = ws l (d.nic, d.nxt)) = true from by simp] at hsm
                have HSM := Lib.hid hsm
                have hlkp : (Instr.lookup 37 (.map (some w1.heap.size)) (.agg #[.int .i64 d.nic, .int .u32 d.nxt]) false).run Try.prog w3 = .ok (look kvs (d.nic, d.nxt) nilS) w3 := MapIs.look hlm3.map Try.underlying37 zeroS (d.nic, d.nxt)
                obtain ⟨ta, tc, htv⟩ : ∃ a c, u3 = .slice a (ws l (d.nic, d.nxt)).length c := by obtain ⟨vs, h1, ⟨a, c, e, _⟩, _⟩ := hr3; exact ⟨a, c, e⟩
                subst htv
                have HLM3 := Lib.hid hlm3
                have HW2 := Lib.hid hw2
                have HW3 := Lib.hid hw3
                have HW4 := Lib.hid hw4
                have HC3 := Lib.hid hc3
                have HF3 := Lib.hid hf3
                have HN3 := Lib.hid hn3
                have HFB := Lib.hid hFbase
                have HFX := Lib.hid hFbx
                clear hr3 hf3 hc3 hn3 hlm3 hFbase hFbx hsm hrow hw2 hw3 hw4
                go_wp2_with (go_at_call 10; refine HSM.out.mono ?_)
                rintro e w4 ⟨rfl, n4, rfl⟩
                obtain ⟨es', ck', hrun, hmap⟩ := MapIs.del (K := 39) (E := 47) (HLM3.out.map.kept (w' := w3.drewN n4) rfl) Try.underlying37 (d.nic, d.nxt) 0
                have HMAP := Lib.hid hmap
                clear hmap hlkp
                unfold kv at hrun
                go_wp2
                go_meet
                exact ⟨(total l2 : Int), by have h7 := HW3.out; congr 1; omega, HK.out.told HF3.out HF.out HBX.out HC3.out HFB.out HFX.out HLM3.out HFINE2.out ⟨HW2.out, HSHT2.out⟩ HW4.out n4 HMAP.out⟩
          · have hk1b : (d.kind == 1) = false := by simpa using fun e => hkl (.inl e)
            have hk2b : (d.kind == 2) = false := by simpa using fun e => hkl (.inr e)
            have x0 := HX.out.cellS (i := 0) rfl
            obtain ⟨ht1, ht2, ht3, ht4⟩ := tick_keeps (c := c) (now := now + 1) hcr.sor hinv.1
            have R' := Lib.hid (tick_calls hcr hfine (by omega) HC.out.hi)
            have HFINE2 := Lib.hid hfine.tick
            have HSHT2 := Lib.hid (hinv.2.tick (c := c) (now := now + 1))
            have htl : total l ≤ 80 := by have h1 := hfine.tot; omega
            have hal : (tickAsks c (now + 1) l).length ≤ 80 := by have h1 := hfine.len; have h2 := tickAsks_length c (now + 1) l; omega
            have HT1 := Lib.hid ht1
            have HT2 := Lib.hid ht2
            have HT3 := Lib.hid ht3
            have HT4 := Lib.hid ht4
            clear ht1 ht2 ht3 ht4 hcr hlm hK hbb hX' hF hbx hxF hfine hinv x1 x2 x9 hkl hkind
            go_wp2_with (go_at_call 11; refine R'.out.mono ?_)
            rintro e w3 ⟨v3, rfl, hv3, hf3, F3, hc3, hn3⟩
            have hlm3 := HLM.out.next hf3 HF.out hn3
            have hFbase : ∀ b, F3 b → w.heap.size ≤ b := fun b hb => by
              rcases hn3 b hb with h | h
              · exact HF.out b h
              · exact Nat.le_trans HK.out.fr.size h
            have hFbx : ¬ F3 w.heap.size := fun hb => by
              rcases hn3 _ hb with h | h
              · exact HBX.out h
              · have := HK.out.blk.lt; omega
            have HWT := Lib.hid (waits_eq hc3)
            have HFW := Lib.hid (HK.out.fr.trans hf3 (fun b hb h => by have := HF.out b h; omega))
            obtain ⟨va, vc, rfl⟩ : ∃ a c', v3 = .slice a (tickAsks c (now + 1) l).length c' := by
              rcases hv3.2 with ⟨h1, h2⟩ | ⟨g, cap, cur, h1, _⟩
              · exact ⟨none, 0, by rw [h1, h2]⟩
              · exact ⟨_, _, h1⟩
            have HV3 := Lib.hid hv3
            have HLM3 := Lib.hid hlm3
            have HC3 := Lib.hid hc3
            have HF3 := Lib.hid hf3
            have HFB := Lib.hid hFbase
            have HFX := Lib.hid hFbx
            have HN3 := Lib.hid hn3
            clear hv3 hlm3 hc3 hf3 hFbase hFbx hn3 x0 R'
            have hlo : tickLost c (now + 1) l ≤ 80 := by have := HT3.out; omega
            generalize hasks : tickAsks c (now + 1) l = asks at *
            generalize hlost : tickLost c (now + 1) l = lost at *
            have HASKS := Lib.hid hasks
            have HLOST := Lib.hid hlost
            clear hasks hlost
            go_wp2_with fail
            go_loop [17] (fun jv => ∃ m : Nat, m ≤ asks.length ∧ jv = .int .i64 m) (fun jv => asks.length - (intOf jv).toNat)
            case atStart => exact ⟨0, Nat.zero_le _, rfl⟩
            case round =>
              obtain ⟨m, hm1, rfl⟩ := hrel
              by_cases hm : m < asks.length
              · obtain ⟨p, hp⟩ : ∃ p, asks[m]? = some p := ⟨_, List.getElem?_eq_getElem hm⟩
                obtain ⟨g2, hva, c0, c1⟩ := own_pair HV3.out hp
                subst hva
                have hpm := List.mem_of_getElem? hp
                have hne := HT1.out p hpm
                obtain ⟨la, lc, hlv⟩ := (HLM3.out.row p).form
                have hlk : (Instr.lookup 37 (.map (some w1.heap.size)) (.agg #[.int .i64 p.1, .int .u32 p.2]) false).run Try.prog w3 = .ok (.slice la (ws l p).length lc) w3 := by
                  rw [← hlv]; exact MapIs.look HLM3.out.map Try.underlying37 zeroS p
                have hnz : (((ws l p).length : Int) == 0) = false := by
                  have : (ws l p).length ≠ 0 := fun e => hne (List.length_eq_zero_iff.1 e)
                  simp; omega
                have hmi : (m : Int) < (asks.length : Int) := by omega
                clear hp hpm hne hlv
                go_wp2
                go_round
                case rel => exact ⟨m + 1, by omega, by go_num⟩
                case measure => simp [intOf]; omega
              · have hmi : ¬ (m : Int) < (asks.length : Int) := by omega
                by_cases hz : lost = 0
                · have hzb : decide (0 < lost) = false := by simp [hz]
                  have hzc : ¬ 0 < lost := by omega
                  have hti : (total l : Int) - (lost : Int) = (total (tickRow c (now + 1) l) : Int) := by have := HT3.out; omega
                  have HTI := Lib.hid hti
                  have T := HK.out.step2 (S := F) HF3.out HF.out HBX.out HC3.out HFB.out HFX.out HFINE2.out ⟨HT2.out, HSHT2.out⟩ (HLM3.out.ext (fun p => (HT4.out hz p)))
                  have HT5 := Lib.hid T
                  clear hz hti T
                  go_wp2
                  go_meet
                  exact ⟨_, by rw [HTI.out], HT5.out⟩
                · have hzb : decide (0 < lost) = true := by simp; omega
                  have hzc : 0 < lost := by omega
                  have hti : (total (tickRow c (now + 1) l) : Int) = (total l : Int) - (lost : Int) := by have := HT3.out; omega
                  have hwt := HWT.out
                  rw [hti] at hwt
                  have HWT2 := Lib.hid hwt
                  have hbb : (((total l : Int) - (lost : Int)) == ((total l : Int) - (lost : Int))) = true := by simp
                  clear hz hti hwt
                  go_wp2_with (first | (go_at_call 12; refine HWT2.out.mono ?_; rintro e w5 ⟨rfl, rfl⟩) | (go_at_call 13; refine (lives_any _).mono ?_; rintro e w5 ⟨rfl, hf5⟩; have HF5 := Lib.hid (HFW.out.trans hf5 (fun _ _ e => e)); clear hf5))
                  go_ret
                  exact ⟨rfl, HF5.out⟩
      case rest =>
        obtain ⟨all2, rfl, hT1⟩ := hcut
        have HT1 := Lib.hid hT1
        obtain ⟨now, l, F, kvs, hcr, hfine, hinv, rfl, hlm, hF, hbx⟩ := hT1.ex
        have e28 := hT1.blk.cellS HC.out.c28
        have e27 := hT1.blk.cellS HC.out.c27
        have hcw : ∀ n, Calls Try.prog 12 #[.pointer (some ⟨bc, 0, none⟩)] (wc.drewN n) (RetV (.int .i64 (total l)) (wc.drewN n)) := fun n => (waits_eq (hcr.fr ((Fr.refl Nil wc).drewN n) (fun _ _ e => e))).mono (fun _ _ h => ⟨h.1, 0, h.2⟩)
        have hcl : ∀ n, Calls Try.prog 14 #[.pointer (some ⟨bc, 0, none⟩)] (wc.drewN n) (RetV (.int .i64 l.length) (wc.drewN n)) := fun n => (len_eq (hcr.fr ((Fr.refl Nil wc).drewN n) (fun _ _ e => e))).mono (fun _ _ h => ⟨h.1, 0, h.2⟩)
        have hq := hinv.1.q
        have hle := hinv.1.len
        have HCW := Lib.hid hcw
        have HCL := Lib.hid hcl
        clear hT1 hcr hfine hinv hlm hF hbx hcw hcl
        have g0 : ((total l : Int) != (total l : Int)) = false := by simp
        rcases Nat.eq_zero_or_pos (total l) with hz | hz
        · have g1 : decide ((total l : Int) > 0) = false := by simp [hz]
          rcases Nat.eq_zero_or_pos l.length with hy | hy
          · have g3 : decide ((l.length : Int) > 0) = false := by simp [hy]
            clear hq hle hz hy
            generalize (total l : Int) = tl at *
            generalize (l.length : Int) = ll at *
            go_wp2_with fail
            go_quiet (first | (go_at_call 12; exact RetV.quiet (HCW.out _)) | (go_at_call 14; exact RetV.quiet (HCL.out _)))
            have HT2 := Lib.hid (HT1.out.frN ((Fr.refl Nil wc).drewN nq))
            clear HT1 HCW HCL e27 e28
            go_wp2
            go_roundw
            case rel => exact ⟨k + 1, tl, by omega, by omega, by go_num, rfl, HT2.out⟩
            case measure => simp [intOf]; omega
          · have g3 : decide ((l.length : Int) > 0) = true := by simp; omega
            have g4 : decide ((l.length : Int) > c.cache) = false := by
              rcases hle with e | e
              · subst e; simp at hy
              · simp; omega
            clear hq hle hz hy
            generalize (total l : Int) = tl at *
            generalize (l.length : Int) = ll at *
            go_wp2_with fail
            go_quiet (first | (go_at_call 12; exact RetV.quiet (HCW.out _)) | (go_at_call 14; exact RetV.quiet (HCL.out _)))
            have HT2 := Lib.hid (HT1.out.frN ((Fr.refl Nil wc).drewN nq))
            clear HT1 HCW HCL e27 e28
            go_wp2
            go_roundw
            case rel => exact ⟨k + 1, tl, by omega, by omega, by go_num, rfl, HT2.out⟩
            case measure => simp [intOf]; omega
        · have g1 : decide ((total l : Int) > 0) = true := by simp; omega
          have g2 : decide ((total l : Int) > c.queue) = false := by simp; omega
          rcases Nat.eq_zero_or_pos l.length with hy | hy
          · have g3 : decide ((l.length : Int) > 0) = false := by simp [hy]
            clear hq hle hz hy
            generalize (total l : Int) = tl at *
            generalize (l.length : Int) = ll at *
            go_wp2_with fail
            go_quiet (first | (go_at_call 12; exact RetV.quiet (HCW.out _)) | (go_at_call 14; exact RetV.quiet (HCL.out _)))
            have HT2 := Lib.hid (HT1.out.frN ((Fr.refl Nil wc).drewN nq))
            clear HT1 HCW HCL e27 e28
            go_wp2
            go_roundw
            case rel => exact ⟨k + 1, tl, by omega, by omega, by go_num, rfl, HT2.out⟩
            case measure => simp [intOf]; omega
          · have g3 : decide ((l.length : Int) > 0) = true := by simp; omega
            have g4 : decide ((l.length : Int) > c.cache) = false := by
              rcases hle with e | e
              · subst e; simp at hy
              · simp; omega
            clear hq hle hz hy
            generalize (total l : Int) = tl at *
            generalize (l.length : Int) = ll at *
            go_wp2_with fail
            go_quiet (first | (go_at_call 12; exact RetV.quiet (HCW.out _)) | (go_at_call 14; exact RetV.quiet (HCL.out _)))
            have HT2 := Lib.hid (HT1.out.frN ((Fr.refl Nil wc).drewN nq))
            clear HT1 HCW HCL e27 e28
            go_wp2
            go_roundw
            case rel => exact ⟨k + 1, tl, by omega, by omega, by go_num, rfl, HT2.out⟩
            case measure => simp [intOf]; omega
    · have HFR := Lib.hid HT.out.fr
      have HNLT := Lib.hid hlt
      have hg : ((k : Int) < (ds.length : Int) ∧ (k : Int) < 80) → False := fun h => HNLT.out ⟨by omega, by omega⟩
      have hcase : ¬ (k : Int) < (ds.length : Int) ∨ ((k : Int) < (ds.length : Int) ∧ ¬ (k : Int) < 80) := by
        by_cases h : (k : Int) < (ds.length : Int)
        · exact .inr ⟨h, fun h' => hg ⟨h, h'⟩⟩
        · exact .inl h
      clear hg HT hlt
      rcases hcase with h3 | ⟨h3, h4⟩
      · go_wp2_with (go_at_call 13; refine (lives_any _).mono ?_)
        rintro e w7 ⟨rfl, hf7⟩
        have HF7 := Lib.hid (HFR.out.trans hf7 (fun _ _ e => e))
        clear hf7
        go_wp2
        go_ret
        exact ⟨rfl, HF7.out⟩
      · go_wp2_with (go_at_call 13; refine (lives_any _).mono ?_)
        rintro e w7 ⟨rfl, hf7⟩
        have HF7 := Lib.hid (HFR.out.trans hf7 (fun _ _ e => e))
        clear hf7
        go_wp2
        go_ret
        exact ⟨rfl, HF7.out⟩

end Go.Proofs.Ytaokmbmimogdgaa
