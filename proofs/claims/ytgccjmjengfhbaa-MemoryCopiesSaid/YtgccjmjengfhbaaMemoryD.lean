/- Part of the proofs over 'linesman/memory': lemmas and walks. Written by merge.py from the templates of the repo. -/
import Derived.Test.YtgccjmjengfhbaaMemoryC
import Derived.Laws.BitsAllLaws
import Derived.StillTailTactics
import Derived.Deep.QuietTactic
import Derived.BigQuiet
import Derived.Deep.RegionHeld3
import Derived.Deep.DrawnRows
import Derived.Test.YtgccjmjengfhbaaKitA
import Derived.Test.YtgccjmjengfhbaaPMemoryStoresx0
import Derived.Test.YtgccjmjengfhbaaChecked
import Derived.Deep.SlicePairs
import Derived.Carry
import Derived.DataShut
set_option linter.unusedVariables false
set_option linter.unusedSimpArgs false
section
set_option maxRecDepth 100000
namespace Go.Proofs.Ytgccjmjengfhbaa
open Go.RowKit Go.Shelf Go.Proofs Go.Proofs.YtgccjmjengfhbaaW.PrintWords

theorem still_load {P : Program} {ops : Array Oper} {w : World} {Q : Act → Prop} {a : Act} {o : Oper} {rest : List Oper} {t : TypeId} {x : Operand} {ad : Addr} {v : Value} (hgd : o.guard = none) (ho : o.op = .load t x) (hx : a.eval x = .pointer (some ad)) (hl : (loadVar t ad).run P w = .ok v w) (h : wpStill P ops w Q rest (a.put o.dst v)) : wpStill P ops w Q (o :: rest) a := by
  unfold wpStill
  have hw : Region.wanted o (yielded ops a.tmps) = true := by simp [Region.wanted, hgd]
  rw [if_pos hw]
  unfold Oper.still
  have hrun : (execOp a.eval o).run P w = .ok (.value v) w := by simp only [execOp, ho, hx, Instr.loadAt, Instr.sureAddr, Sem.run_bind, Sem.run_pure, Result.andThen_ok, hl]
  rw [hrun]
  first | exact h | exact ⟨rfl, h⟩
theorem same1_any (b1 b2 : Nat) (c1 c2 : Nat → Int) (w : World) (h1 : w.heap[b1]? = some (.cells (pgCells PS .u32 c1) 64 (0, 0))) (h2 : w.heap[b2]? = some (.cells (pgCells PS .u32 c2) 64 (0, 0))) :
    Calls Try.prog 30 #[.pointer (some ⟨b1, 0, none⟩), .pointer (some ⟨b2, 0, none⟩)] w fun e w' => e = .returned (.bool (pgEq PS c1 c2)) ∧ w' = w.drew := by
  have hl1 := loadPage (w := w.drew) h1
  have hl2 := loadPage (w := w.drew) h2
  go_enter Try.func30, Try.ntmps30
  go_wp2
  refine wp_region_still_tail 6 (by kernel_rfl) (by kernel_rfl) ?_
  simp only [List.take_succ_cons, List.take_zero, List.drop_succ_cons, List.drop_zero]
  change wpStill _ _ w.drew (fun a' => wpList _ _ _ _ a' w.drew) _ _
  have he := Lib.hid (eqPage c1 c2 w.drew)
  have hg := Lib.hid (fun x y => run_eqGuard_page (P := Try.prog) (t := 64) (by kernel_rfl) .eql x y (pgCells PS .u32 c1) (pgCells PS .u32 c2) w.drew)
  clear h1 h2
  generalize hw2 : w.drew = w2 at hl1 hl2 he hg ⊢
  have HW := Lib.hid hw2
  clear hw2
  generalize hr : pgEq PS c1 c2 = r at he ⊢
  have HRQ := Lib.hid hr
  clear hr
  generalize pgCells PS .u32 c1 = P1 at hl1 he hg ⊢
  generalize pgCells PS .u32 c2 = P2 at hl2 he hg ⊢
  still_step
  still_step
  refine still_load (t := 64) (x := .tmp 6) (by rfl) (by rfl) (by rfl) hl1 ?_
  still_step
  still_step
  refine still_load (t := 64) (x := .tmp 9) (by rfl) (by rfl) (by rfl) hl2 ?_
  refine wpStill_nil ?_
  refine step_bin (op := .eql) (t := 64) (x := .tmp 7) (y := .tmp 10) (by rfl) (by rfl) (by rfl) (by rfl) (hg.out _ _) he.out ?_
  clear he hg hl1 hl2
  go_wp2
  go_ret
  exact ⟨by rw [HRQ.out]; rfl, HW.out.symm⟩
end Go.Proofs.Ytgccjmjengfhbaa
end
section
set_option maxRecDepth 100000
namespace Go.Proofs.Ytgccjmjengfhbaa
open Go.RowKit Go.Shelf Go.Proofs Go.Proofs.YtgccjmjengfhbaaW.PrintWords

/-- The page p has its like in LB. -/
def Like (LB : List Pg) (p : Pg) : Prop := ∃ q ∈ LB, q.num = p.num ∧ pgEq PS p.c q.c = true
theorem nums_of_mget {w w' : World} {ma mb : Nat} {LA LB : List Pg} (hA : MemRep w ma LA) (hB : MemRep w' mb LB) (h : ∀ a, 0 ≤ a → mget LA a = mget LB a) : (LA.map (·.num)).Perm (LB.map (·.num)) := by
  refine (List.perm_ext_iff_of_nodup hA.keys hB.keys).2 (fun n => ?_)
  rw [hA.page_iff, hB.page_iff]
  constructor
  · rintro ⟨a, h0, h1, h2⟩; exact ⟨a, h0, h1, by rw [← h a h0]; exact h2⟩
  · rintro ⟨a, h0, h1, h2⟩; exact ⟨a, h0, h1, by rw [h a h0]; exact h2⟩
theorem eq_plain {w w' : World} {ma mb : Nat} {LA LB : List Pg} (hA : MemRep w ma LA) (hB : MemRep w' mb LB) :
    (LA.length = LB.length ∧ ∀ p ∈ LA, Like LB p) ↔ (∀ a, 0 ≤ a → mget LA a = mget LB a) := by
  constructor
  · rintro ⟨hl, hp⟩ a h0
    by_cases hm : ∃ p ∈ LA, p.num = a / 4096
    · obtain ⟨p, hpA, hpn⟩ := hm
      obtain ⟨q, hqB, hqn, he⟩ := hp p hpA
      have e1 := hA.get_mem hpA (i := (a % 4096).toNat) (by omega)
      have e2 := hB.get_mem hqB (i := (a % 4096).toNat) (by omega)
      rw [hqn] at e2
      have e3 : p.num * 4096 + ((a % 4096).toNat : Int) = a := by omega
      rw [e3] at e1 e2
      rw [e1, e2]
      exact pgEq_iff.1 he _ (by show _ < 4096; omega)
    · have hz : mget LA a = 0 := Classical.byContradiction fun hne => hm (mget_some hne)
      rw [hz]
      refine Eq.symm (Classical.byContradiction fun hne => ?_)
      obtain ⟨q, hqB, hqn⟩ := mget_some hne
      have hsub : ∀ n ∈ LA.map (·.num), n ∈ LB.map (·.num) := by
        intro n hn
        obtain ⟨p, hpA, rfl⟩ := List.mem_map.1 hn
        obtain ⟨q', hq', e, _⟩ := hp p hpA
        exact List.mem_map.2 ⟨q', hq', e⟩
      have hback : q.num ∈ LA.map (·.num) := by
        refine Classical.byContradiction fun hno => ?_
        have := length_le_of_sub (q.num :: LA.map (·.num)) (LB.map (·.num)) (List.nodup_cons.2 ⟨hno, hA.keys⟩) (by
          intro n hn
          rcases List.mem_cons.1 hn with rfl | hn
          · exact List.mem_map.2 ⟨q, hqB, rfl⟩
          · exact hsub n hn)
        simp at this
        omega
      obtain ⟨p, hpA, e⟩ := List.mem_map.1 hback
      exact hm ⟨p, hpA, by rw [e, hqn]⟩
  · intro h
    have hn := nums_of_mget hA hB h
    refine ⟨by simpa using hn.length_eq, fun p hp => ?_⟩
    obtain ⟨q, hq, e⟩ := List.mem_map.1 (hn.mem_iff.1 (List.mem_map.2 ⟨p, hp, rfl⟩))
    refine ⟨q, hq, e, pgEq_iff.2 fun i hi => ?_⟩
    have e1 := hA.get_mem hp (i := i) hi
    have e2 := hB.get_mem hq (i := i) hi
    obtain ⟨⟨h0, _⟩, _⟩ := hA.at_.ok p hp
    rw [e, ← h _ (by omega), e1] at e2
    exact e2

set_option maxHeartbeats 4000000 in
theorem equalFunc_any (ma mb : Nat) (LA LB : List Pg) (w : World) (hA : MemRep w ma LA) (hB : MemRep w mb LB) :
    Calls Try.prog 29 #[.map (some ma), .map (some mb), .func (.func 30) #[] #[]] w fun e w' => ∃ b : Bool, e = .returned (.bool b) ∧ (b = true ↔ ∀ a, 0 ≤ a → mget LA a = mget LB a) ∧ Below w.heap.size w w' := by
  have hp := eq_plain hA hB
  have hlA := run_len_map (P := Try.prog) (ty := 3) Try.underlying52 hA.map
  have hlB := run_len_map (P := Try.prog) (ty := 3) Try.underlying52 hB.map
  rw [List.length_map] at hlA hlB
  obtain ⟨es, clock, hm, hk⟩ := hA.map
  have HP := Lib.hid hp; have HA := Lib.hid hA; have HB := Lib.hid hB; have HM := Lib.hid hm; have HK := Lib.hid hk
  clear hp hA hB hm hk
  go_enter Try.func29, Try.ntmps29
  by_cases hl : LA.length = LB.length
  · go_wp2_with ((with_reducible refine atT (N := 17) rfl ?_); refine step_range rfl rfl rfl Try.underlying52 HM.out ?_; intro r w1 hr hw1; have HR := Lib.hid hr; have HW := Lib.hid hw1; clear hr hw1)
    have hc1 : Came eU32 es clock ma r (LA.map pgPtr) [] w1 := by rw [HW.out, HR.out]; exact Came.start w
    have hb1 : Below w.heap.size w w1 := by rw [HW.out]; exact ((Ext.refl NoB w).alloc _).below
    have hr1 : w.heap.size ≤ r := by rw [HR.out]; exact Nat.le_refl _
    have HC1 := Lib.hid hc1; have HB1 := Lib.hid hb1; have HR1 := Lib.hid hr1
    clear hc1 hb1 hr1
    simp only [Act.put, List.setIfInBounds_toArray, List.set_cons_succ, List.set_cons_zero]
    go_loopg [] (LA.length) (fun (g : Nat) wr => ∃ done : List (Int × Value), g + done.length = LA.length ∧ Came eU32 es clock ma r (LA.map pgPtr) done wr ∧ (∀ p ∈ LA, pgPtr p ∈ done → Like LB p) ∧ Below w.heap.size w wr)
    case atStart => exact ⟨[], by simp, HC1.out, by simp, HB1.out⟩
    case round =>
      obtain ⟨done, hgl, hcm, hgd, hbd⟩ := hrel
      have hAr : MemRep wr ma LA := HA.out.ext (Ext.of_below (S := NoB) hbd) (fun _ _ s => s)
      have hBr : MemRep wr mb LB := HB.out.ext (Ext.of_below (S := NoB) hbd) (fun _ _ s => s)
      have hmd : wr.heap[ma]? = some (.map es clock) := (hbd.block ma (Array.getElem?_eq_some_iff.1 HM.out).1).trans HM.out
      rcases hcm.next (P := Try.prog) (fun a b h => by injection h) hmd HK.out with ⟨hp, hnx⟩ | ⟨p, w2, hpl, hpn, hlt, hnx, hen, hc2, hw2⟩
      · have HNX := Lib.hid hnx; have HPP := Lib.hid hp; have HG := Lib.hid hgd; have HBD := Lib.hid hbd
        clear hnx hp hcm hmd hgl hAr hBr hgd hbd
        go_wp2_with ((with_reducible refine atT (N := 18) rfl ?_); refine step_next rfl rfl rfl HNX.out ?_)
        go_ret
        refine ⟨true, rfl, ?_, HBD.out⟩
        refine ⟨fun _ => HP.out.1 ⟨hl, fun p hp => HG.out p hp (HPP.out.mem_iff.2 (List.mem_map.2 ⟨p, hp, rfl⟩))⟩, fun _ => rfl⟩
      · obtain ⟨pg, hpg, rfl⟩ := List.mem_map.1 hpl
        obtain ⟨itv, itc, hit, hrest⟩ := hcm.it
        have hb2 : Below w.heap.size w w2 := by
          obtain ⟨o, rfl | rfl⟩ := hw2
          · exact ((Ext.of_below (S := NoB) hbd).putObj r o (.inr HR1.out)).below
          · exact ((Ext.of_below (S := NoB) hbd).drew.putObj r o (.inr HR1.out)).below
        have hA2 : MemRep w2 ma LA := HA.out.ext (Ext.of_below (S := NoB) hb2) (fun _ _ s => s)
        have hB2 : MemRep w2 mb LB := HB.out.ext (Ext.of_below (S := NoB) hb2) (fun _ _ s => s)
        have hlk := run_lookup_map_ok (P := Try.prog) keysU32 Try.underlying52 Try.zeroValue62 hB2.map pg.num
        rw [aget_pgs] at hlk
        have hpgA := hA2.at_.pages pg hpg
        have HNX := Lib.hid hnx; have HEN := Lib.hid hen; have HC2 := Lib.hid hc2; have HBB := Lib.hid hb2; have HLT := Lib.hid hlt; have HGL := Lib.hid hgl; have HG := Lib.hid hgd; have HLK := Lib.hid hlk; have HB2 := Lib.hid hB2; have HPA := Lib.hid hpgA; have HPG := Lib.hid hpg; have HA2 := Lib.hid hA2
        clear hnx hen hc2 hb2 hw2 hit hrest hcm hmd hlt hgl hpl hpn hgd hlk hB2 hpgA hAr hBr hbd hpg hA2
        rcases hf : LB.find? (fun q => decide (q.num = pg.num)) with _ | q
        · have hlk := HLK.out
          rw [hf] at hlk
          have HL2 := Lib.hid hlk
          have HFF := Lib.hid hf
          clear hlk HLK hf
          go_wp2_with (first
            | ((with_reducible refine atT (N := 18) rfl ?_); refine step_next rfl rfl rfl HNX.out ?_)
            | ((with_reducible refine atT (N := 20) rfl ?_); refine step_entry rfl rfl rfl HEN.out ?_)
            | ((with_reducible refine atT (N := 26) rfl ?_); refine step_lookup rfl rfl rfl rfl HL2.out ?_))
          go_ret
          refine ⟨false, rfl, ⟨fun h => (by cases h), fun h => ?_⟩, HBB.out⟩
          exfalso
          obtain ⟨q, hq, hqn, _⟩ := (HP.out.2 h).2 pg HPG.out
          have := List.find?_eq_none.1 HFF.out q hq
          simp [hqn] at this
        · obtain ⟨hqB, hqn⟩ := find_some hf
          have hlk := HLK.out
          rw [hf] at hlk
          have hpgB := HB2.out.at_.pages q hqB
          have hsm := same1_any pg.blk q.blk pg.c q.c w2 HPA.out hpgB
          have HL2 := Lib.hid hlk; have HSM := Lib.hid hsm; have HQB := Lib.hid hqB; have HQN := Lib.hid hqn
          clear hlk HLK hf hpgB hsm hqB hqn
          cases hr : pgEq PS pg.c q.c with
          | true =>
            have hsm := HSM.out
            rw [hr] at hsm
            have HS2 := Lib.hid hsm; have HRR := Lib.hid hr
            clear hsm HSM hr
            go_wp2_with (first
              | ((with_reducible refine atT (N := 18) rfl ?_); refine step_next rfl rfl rfl HNX.out ?_)
              | ((with_reducible refine atT (N := 20) rfl ?_); refine step_entry rfl rfl rfl HEN.out ?_)
              | ((with_reducible refine atT (N := 26) rfl ?_); refine step_lookup rfl rfl rfl rfl HL2.out ?_)
              | (go_at_call 30; (refine HS2.out.mono ?_; rintro e w3 ⟨rfl, hw3⟩; have HW3 := Lib.hid hw3; clear hw3)))
            go_roundg (gk - 1)
            case measure =>
              have h1 := HLT.out
              rw [List.length_map] at h1
              have := HGL.out
              omega
            case rel =>
              refine ⟨done ++ [pgPtr pg], ?_, HC2.out.keep (by rw [HW3.out]; rfl), fun p hp hmem => ?_, by rw [HW3.out]; exact HBB.out.drew⟩
              · have h1 := HLT.out
                rw [List.length_map] at h1
                have := HGL.out
                simp
                omega
              · rcases List.mem_append.1 hmem with hm | hm
                · exact HG.out p hp hm
                · have e := List.mem_singleton.1 hm
                  have e1 : p.num = pg.num := congrArg (·.1) e
                  have f1 := find_of_mem HA.out.keys hp rfl
                  have f2 := find_of_mem HA.out.keys HPG.out e1.symm
                  rw [f1] at f2
                  obtain rfl := Option.some.inj f2
                  exact ⟨q, HQB.out, HQN.out, HRR.out⟩
          | false =>
            have hsm := HSM.out
            rw [hr] at hsm
            have HS2 := Lib.hid hsm; have HRR := Lib.hid hr
            clear hsm HSM hr
            go_wp2_with (first
              | ((with_reducible refine atT (N := 18) rfl ?_); refine step_next rfl rfl rfl HNX.out ?_)
              | ((with_reducible refine atT (N := 20) rfl ?_); refine step_entry rfl rfl rfl HEN.out ?_)
              | ((with_reducible refine atT (N := 26) rfl ?_); refine step_lookup rfl rfl rfl rfl HL2.out ?_)
              | (go_at_call 30; (refine HS2.out.mono ?_; rintro e w3 ⟨rfl, hw3⟩; have HW3 := Lib.hid hw3; clear hw3)))
            go_ret
            refine ⟨false, rfl, ⟨fun h => (by cases h), fun h => ?_⟩, by rw [HW3.out]; exact HBB.out.drew⟩
            exfalso
            obtain ⟨q', hq', e', he'⟩ := (HP.out.2 h).2 pg HPG.out
            have f1 := find_of_mem HB.out.keys hq' rfl
            have f2 := find_of_mem HB.out.keys HQB.out (HQN.out.trans e'.symm)
            rw [f1] at f2
            obtain rfl := Option.some.inj f2
            have := HRR.out
            rw [this] at he'
            cases he'
  · go_wp2
    go_ret
    exact ⟨false, rfl, ⟨fun h => (by cases h), fun h => absurd (HP.out.2 h).1 hl⟩, Below.refl _ _⟩

/-- memory.Same: the words are the same. -/
theorem same_any (pa ma pb mb : Nat) (LA LB : List Pg) (w : World) (hA : MemAt w pa ma LA) (hB : MemAt w pb mb LB) :
    Calls Try.prog 12 #[.pointer (some ⟨pa, 0, none⟩), .pointer (some ⟨pb, 0, none⟩)] w fun e w' => ∃ b : Bool, e = .returned (.bool b) ∧ (b = true ↔ ∀ a, 0 ≤ a → mget LA a = mget LB a) ∧ Below w.heap.size w w' := by
  have hca := hA.cell
  have hcb := hB.cell
  have H := Lib.hid (none_some pa ma w hca)
  have H2 := Lib.hid (none_some pb mb w hcb)
  have HE := Lib.hid (equalFunc_any ma mb LA LB w.drew (hA.2.ext ((Ext.refl NoB w).drew) (fun _ _ s => s)) (hB.2.ext ((Ext.refl NoB w).drew) (fun _ _ s => s)))
  clear hA hB
  go_enter Try.func12, Try.ntmps12
  go_wp2_with (go_at_call 26; first | (with_reducible refine H.out.mono ?_; rintro e w' ⟨rfl, rfl⟩) | (with_reducible refine H2.out.mono ?_; rintro e w' ⟨rfl, rfl⟩))
  refine wp_region_still_tail 8 (by kernel_rfl) (by kernel_rfl) ?_
  simp only [List.take_succ_cons, List.take_zero, List.drop_succ_cons, List.drop_zero]
  change wpStill _ _ w.drew (fun a' => wpList _ _ _ _ a' w.drew) _ _
  have hda : w.drew.cell? ⟨pa, 0, none⟩ = some (.map (some ma)) := hca
  have hdb : w.drew.cell? ⟨pb, 0, none⟩ = some (.map (some mb)) := hcb
  have hbw : Below w.heap.size w w.drew := (Below.refl _ _).drew
  have HBW := Lib.hid hbw
  clear hbw hca hcb H H2
  generalize w.drew = w2 at hda hdb HE HBW ⊢
  repeat still_step
  refine wpStill_nil ?_
  go_wp2_with (go_at_call 29; refine HE.out.mono ?_; rintro e w' ⟨b, rfl, h1, h2⟩; have H1 := Lib.hid h1; have H2 := Lib.hid h2; clear h1 h2)
  go_ret
  exact ⟨b, rfl, H1.out, ((Ext.of_below (S := NoB) HBW.out).sub H2.out).below⟩
end Go.Proofs.Ytgccjmjengfhbaa
end
section
set_option maxRecDepth 100000
namespace Go.Proofs.Ytgccjmjengfhbaa
open Go.RowKit Go.Shelf Go.Proofs Go.Proofs.YtgccjmjengfhbaaW.PrintWords
open Go.Proofs.Ytgccjmjengfhbaa.PMemoryStores (S30 k30 k30_mk at_T30 rd_T30)

/-- Two memories of the call's own. -/
structure Mems (w wr : World) (pa ma : Nat) (La : List Pg) (pb mb : Nat) (Lb : List Pg) : Prop where
  a : MemAt wr pa ma La
  b : MemAt wr pb mb Lb
  bel : Below w.heap.size w wr
  fa : ∀ k, foot ma La k → w.heap.size ≤ k
  fb : ∀ k, foot mb Lb k → w.heap.size ≤ k
  dis : ∀ k, foot ma La k → ¬ foot mb Lb k
theorem Mems.swap {w wr : World} {pa ma : Nat} {La : List Pg} {pb mb : Nat} {Lb : List Pg} (h : Mems w wr pa ma La pb mb Lb) : Mems w wr pb mb Lb pa ma La :=
  ⟨h.b, h.a, h.bel, h.fb, h.fa, fun k h1 h2 => h.dis k h2 h1⟩
theorem Mems.quiet {w wr w' : World} {pa ma : Nat} {La : List Pg} {pb mb : Nat} {Lb : List Pg} (h : Mems w wr pa ma La pb mb Lb) (hx : Ext NoB wr w') : Mems w w' pa ma La pb mb Lb :=
  ⟨h.a.ext hx (fun _ _ s => s) (fun s => s), h.b.ext hx (fun _ _ s => s) (fun s => s), ((Ext.of_below (S := NoB) h.bel).trans' hx).below, h.fa, h.fb, h.dis⟩
theorem Mems.storeA {w wr wr0 w' : World} {pa ma : Nat} {La La' : List Pg} {pb mb : Nat} {Lb : List Pg} (h : Mems w wr pa ma La pb mb Lb) (h0 : Ext NoB wr wr0) (h1 : MemAt w' pa ma La') (hx : Ext (foot ma La) wr0 w')
    (hf : ∀ k, foot ma La' k → foot ma La k ∨ wr0.heap.size ≤ k) : Mems w w' pa ma La' pb mb Lb := by
  have hq := h.quiet h0
  refine ⟨h1, hq.b.ext hx (fun k h2 h3 => h.dis k h3 h2) (fun h3 => hq.a.2.not_foot hq.b.1 (by decide) h3), (Ext.of_below (S := NoB) hq.bel).trans hx (fun k hk h3 => absurd (h.fa k h3) (by omega)) |>.below, ?_, h.fb, ?_⟩
  · intro k hk
    rcases hf k hk with h2 | h2
    · exact h.fa k h2
    · have := hq.bel.size; omega
  · intro k hk h3
    rcases hf k hk with h2 | h2
    · exact h.dis k h2 h3
    · have := hq.b.2.foot_lt h3; omega
theorem mget_ext {w w' : World} {ma mb : Nat} {La Lb : List Pg} (hA : MemRep w ma La) (hB : MemRep w' mb Lb) (h : ∀ a, 0 ≤ a → mget La a = mget Lb a) : mget La = mget Lb := by
  funext a
  by_cases h0 : 0 ≤ a
  · exact h a h0
  · have e1 : mget La a = 0 := Classical.byContradiction fun hne => h0 (hA.get_ok hne).1
    have e2 : mget Lb a = 0 := Classical.byContradiction fun hne => h0 (hB.get_ok hne).1
    rw [e1, e2]
theorem cells_same {w w' : World} {ma mb : Nat} {La Lb : List Pg} (hA : MemRep w ma La) (hB : MemRep w' mb Lb) (h : ∀ a, 0 ≤ a → mget La a = mget Lb a) {ks ks' : List Int} (hp : ks.Perm (La.map (·.num))) (hk : ks.Pairwise (· < ·)) (hp' : ks'.Perm (Lb.map (·.num))) (hk' : ks'.Pairwise (· < ·)) (lo : Int) :
    allCells (mget La) lo ks = allCells (mget Lb) lo ks' := by
  have e := mget_ext hA hB h
  have ek : ks = ks' := asc_uniqueI hk hk' (fun n => by rw [hp.mem_iff, hp'.mem_iff, hA.page_iff, hB.page_iff, e])
  rw [e, ek]

/-! ### The plain law of MemoryHolds -/
/-- Of the cells from place k on, one bears the address a. -/
def From (xs : List S30) (k : Nat) (a : Int) : Prop := ∃ j, k ≤ j ∧ ∃ h : j < xs.length, (xs[j]).f0 = a
theorem stored_none (g : Int → Int) (xs : List S30) (a : Int) (h : ∀ c ∈ xs, c.f0 ≠ a) : stored g xs a = g a := by
  unfold stored
  induction xs generalizing g with
  | nil => rfl
  | cons c xs ih =>
    rw [List.foldl_cons, ih _ (fun d hd => h d (by simp [hd]))]
    exact if_neg (fun e => h c (by simp) e.symm)
theorem stored_last (g : Int → Int) (xs : List S30) (i : Nat) (h : i < xs.length) (hn : ¬ From xs (i + 1) (xs[i]).f0) : stored g xs (xs[i]).f0 = (xs[i]).f1 := by
  have e : xs = xs.take (i + 1) ++ xs.drop (i + 1) := (List.take_append_drop _ _).symm
  have e2 : xs.take (i + 1) = xs.take i ++ [xs[i]] := take_last xs i h
  have h3 : ∀ a, stored g xs a = stored (stored g (xs.take (i + 1))) (xs.drop (i + 1)) a := fun a => by
    show List.foldl _ g xs a = List.foldl _ (List.foldl _ g (xs.take (i + 1))) (xs.drop (i + 1)) a
    rw [← List.foldl_append, List.take_append_drop]
  rw [h3, stored_none _ _ _ (fun c hc ec => ?_), e2, stored_snoc]
  · exact if_pos rfl
  · obtain ⟨j, hj, rfl⟩ := List.getElem_of_mem hc
    rw [List.getElem_drop] at ec
    exact hn ⟨i + 1 + j, by omega, by simp at hj; omega, ec⟩
end Go.Proofs.Ytgccjmjengfhbaa
end
section
namespace Go.Proofs.Ytgccjmjengfhbaa
open Go.RowKit
open Go.Proofs.Ytgccjmjengfhbaa.PMemoryStores (S30)
def Half (La : List Pg) (xs : List S30) (k : Nat) (Lb : List Pg) : Prop := ∀ a, 0 ≤ a → (From xs k a → mget Lb a = mget La a) ∧ (¬ From xs k a → mget Lb a = 0)
/-- Of the places from i on, but ahead of j, one bears the address a. -/
def Mid (xs : List S30) (i j : Nat) (a : Int) : Prop := ∃ j', i ≤ j' ∧ j' < j ∧ ∃ h : j' < xs.length, (xs[j']).f0 = a
theorem mid_none (xs : List S30) (i : Nat) (a : Int) : ¬ Mid xs i i a := by rintro ⟨j, h1, h2, _⟩; omega
theorem mid_succ (xs : List S30) (i j : Nat) (a : Int) (hij : i ≤ j) (h : j < xs.length) : Mid xs i (j + 1) a ↔ (Mid xs i j a ∨ (xs[j]).f0 = a) := by
  constructor
  · rintro ⟨j', h1, h2, h3, h4⟩
    by_cases e : j' = j
    · subst e; exact .inr h4
    · exact .inl ⟨j', h1, by omega, h3, h4⟩
  · rintro (⟨j', h1, h2, h3, h4⟩ | h4)
    · exact ⟨j', h1, by omega, h3, h4⟩
    · exact ⟨j, hij, by omega, h, h4⟩
theorem mid_all (xs : List S30) (i : Nat) (a : Int) : Mid xs i xs.length a ↔ From xs i a :=
  ⟨fun ⟨j, h1, _, h3, h4⟩ => ⟨j, h1, h3, h4⟩, fun ⟨j, h1, h3, h4⟩ => ⟨j, h1, h3, h3, h4⟩⟩
theorem from_succ (xs : List S30) (i : Nat) (h : i < xs.length) (a : Int) : From xs i a ↔ ((xs[i]).f0 = a ∨ From xs (i + 1) a) := by
  constructor
  · rintro ⟨j, h1, h2, h3⟩
    by_cases e : j = i
    · subst e; exact .inl h3
    · exact .inr ⟨j, by omega, h2, h3⟩
  · rintro (h1 | ⟨j, h1, h2, h3⟩)
    · exact ⟨i, Nat.le_refl _, h, h1⟩
    · exact ⟨j, by omega, h2, h3⟩
def x5 (a : Int) : Int := bits .xor .u32 a 5
theorem x5_eq {a : Int} (h0 : 0 ≤ a) (h1 : a < 4294967296) : x5 a = ((a.toNat ^^^ 5 : Nat) : Int) := u32_xor a 5 h0 h1 (by decide) (by decide)
theorem x5_ok {a : Int} (h0 : 0 ≤ a) (h1 : a < 4294967296) : 0 ≤ x5 a ∧ x5 a < 4294967296 := by
  rw [x5_eq h0 h1]
  have := Nat.xor_lt_two_pow (n := 32) (x := a.toNat) (y := 5) (by omega) (by decide)
  omega
theorem x5_ne {a : Int} (h0 : 0 ≤ a) (h1 : a < 4294967296) : x5 a ≠ a := by
  rw [x5_eq h0 h1]
  intro e
  have e2 : a.toNat ^^^ 5 = a.toNat := by omega
  have e3 : a.toNat ^^^ (a.toNat ^^^ 5) = a.toNat ^^^ a.toNat := congrArg _ e2
  rw [← Nat.xor_assoc, Nat.xor_self, Nat.zero_xor] at e3
  cases e3

def Fill (La : List Pg) (xs : List S30) (i : Nat) (A : Int) (j : Nat) (Lb : List Pg) : Prop := ∀ a, 0 ≤ a →
  (a = A → mget Lb a = mget La a) ∧ (a = x5 A → (Mid xs (i + 1) j a → mget Lb a = mget La a) ∧ (¬ Mid xs (i + 1) j a → mget Lb a = 0)) ∧
  (a ≠ A → a ≠ x5 A → (From xs (i + 1) a → mget Lb a = mget La a) ∧ (¬ From xs (i + 1) a → mget Lb a = 0))
theorem fill_start {La Lb Lb' : List Pg} {xs : List S30} {i : Nat} {A v : Int} (hH : Half La xs (i + 1) Lb) (hne : x5 A ≠ A) (hv : mget La A = v) (h3 : ∀ a, 0 ≤ a → mget Lb' a = stored (mget Lb) [⟨x5 A, 0⟩, ⟨A, v⟩, ⟨A, v⟩] a) : Fill La xs i A (i + 1) Lb' := by
  intro a h0
  have e : mget Lb' a = if a = A then v else if a = A then v else if a = x5 A then 0 else mget Lb a := h3 a h0
  refine ⟨fun h => ?_, fun h => ⟨fun hm => absurd hm (mid_none _ _ _), fun _ => ?_⟩, fun h1 h2 => ?_⟩
  · rw [e, if_pos h, h, hv]
  · rw [e, if_neg (by rw [h]; exact hne), if_neg (by rw [h]; exact hne), if_pos h]
  · rw [e, if_neg h1, if_neg h1, if_neg h2]; exact hH a h0
theorem fill_hit {La Lb Lb' : List Pg} {xs : List S30} {i j : Nat} {A : Int} (hF : Fill La xs i A j Lb) (hij : i + 1 ≤ j) (hj : j < xs.length) (he : (xs[j]).f0 = x5 A) (hne : x5 A ≠ A) (h3 : ∀ a, 0 ≤ a → mget Lb' a = stored (mget Lb) [⟨x5 A, mget La (x5 A)⟩] a) : Fill La xs i A (j + 1) Lb' := by
  intro a h0
  have e : mget Lb' a = if a = x5 A then mget La (x5 A) else mget Lb a := h3 a h0
  obtain ⟨f1, f2, f3⟩ := hF a h0
  refine ⟨fun h => ?_, fun h => ⟨fun _ => ?_, fun hm => absurd ((mid_succ xs (i + 1) j a hij hj).2 (.inr (by rw [he, h]))) hm⟩, fun h1 h2 => ?_⟩
  · rw [e, if_neg (by rw [h]; exact Ne.symm hne)]; exact f1 h
  · rw [e, if_pos h, h]
  · rw [e, if_neg h2]; exact f3 h1 h2
theorem fill_miss {La Lb : List Pg} {xs : List S30} {i j : Nat} {A : Int} (hF : Fill La xs i A j Lb) (hij : i + 1 ≤ j) (hj : j < xs.length) (he : (xs[j]).f0 ≠ x5 A) : Fill La xs i A (j + 1) Lb := by
  intro a h0
  obtain ⟨f1, f2, f3⟩ := hF a h0
  refine ⟨f1, fun h => ?_, f3⟩
  obtain ⟨g1, g2⟩ := f2 h
  rw [mid_succ xs (i + 1) j a hij hj]
  exact ⟨fun hm => g1 (hm.resolve_right (by rw [h]; exact he)), fun hm => g2 (fun h => hm (.inl h))⟩
theorem fill_end {La Lb : List Pg} {xs : List S30} {i : Nat} (hi : i < xs.length) (hne : x5 (xs[i]).f0 ≠ (xs[i]).f0) (hF : Fill La xs i (xs[i]).f0 xs.length Lb) : Half La xs i Lb := by
  intro a h0
  obtain ⟨f1, f2, f3⟩ := hF a h0
  rw [from_succ xs i hi]
  by_cases e1 : a = (xs[i]).f0
  · exact ⟨fun _ => f1 e1, fun h => absurd (.inl e1.symm) h⟩
  · by_cases e2 : a = x5 (xs[i]).f0
    · obtain ⟨g1, g2⟩ := f2 e2
      rw [mid_all] at g1 g2
      exact ⟨fun h => g1 (h.resolve_left (Ne.symm e1)), fun h => g2 (fun h2 => h (.inr h2))⟩
    · obtain ⟨g1, g2⟩ := f3 e1 e2
      exact ⟨fun h => g1 (h.resolve_left (Ne.symm e1)), fun h => g2 (fun h2 => h (.inr h2))⟩
theorem half_later {La Lb : List Pg} {xs : List S30} {i : Nat} (hi : i < xs.length) (h : Half La xs (i + 1) Lb) (hl : From xs (i + 1) (xs[i]).f0) : Half La xs i Lb := by
  intro a h0
  obtain ⟨f1, f2⟩ := h a h0
  rw [from_succ xs i hi]
  refine ⟨fun hh => f1 ?_, fun hh => f2 (fun h2 => hh (.inr h2))⟩
  rcases hh with e | hh
  · rw [← e]; exact hl
  · exact hh
theorem half_end {La Lb : List Pg} {xs : List S30} (h : Half La xs 0 Lb) (hg : ∀ a, 0 ≤ a → mget La a = stored (mget []) xs a) : ∀ a, 0 ≤ a → mget La a = mget Lb a := by
  intro a h0
  obtain ⟨f1, f2⟩ := h a h0
  by_cases hf : From xs 0 a
  · exact (f1 hf).symm
  · rw [f2 hf, hg a h0, stored_none]
    · rfl
    · intro c hc e
      obtain ⟨j, hj, rfl⟩ := List.getElem_of_mem hc
      exact hf ⟨j, Nat.zero_le _, hj, e⟩
theorem half_start (La : List Pg) (xs : List S30) : Half La xs xs.length [] := by
  intro a h0
  refine ⟨fun ⟨j, h1, h2, _⟩ => by omega, fun _ => rfl⟩
end Go.Proofs.Ytgccjmjengfhbaa
end
section
set_option maxRecDepth 100000
namespace Go.Proofs.Ytgccjmjengfhbaa
open Go.RowKit Go.Shelf Go.Proofs Go.Proofs.YtgccjmjengfhbaaW.PrintWords
open Go.Proofs.Ytgccjmjengfhbaa.PMemoryStores (S30 k30 k30_mk at_T30 rd_T30)

attribute [local go_sem ↓] Go.wp_at_zero Go.wp_at_succ
theorem flat_len (xs : List S30) : (xs.map encC).flatten.length = xs.length * 2 := by
  induction xs with
  | nil => rfl
  | cons x xs ih => rw [List.map_cons, List.flatten_cons, List.length_append, ih]; simp [encC]; omega
theorem storeL {w wr : World} {pa ma : Nat} {La : List Pg} {pb mb : Nat} {Lb : List Pg} (h : Mems w wr pa ma La pb mb Lb) (xs : List S30) (hok : ∀ c ∈ xs, okCell c) (hne : xs.length ≤ 1000) :
    Calls Try.prog 10 #[.pointer (some ⟨pa, 0, none⟩), .slice (some ⟨wr.heap.size, 0, none⟩) xs.length xs.length] (wr.alloc (.cells (xs.map encC).flatten.toArray 30 (0, 0))) fun e w' => e = .returned (.int .i64 0) ∧
      ∃ La', Mems w w' pa ma La' pb mb Lb ∧ ∀ a, 0 ≤ a → mget La' a = stored (mget La) xs a := by
  have hx := (Ext.refl NoB wr).alloc (.cells (xs.map encC).flatten.toArray 30 (0, 0))
  have hg := (MapKept.heap_alloc wr (.cells (xs.map encC).flatten.toArray 30 (0, 0))).1
  generalize hw0 : wr.alloc (.cells (xs.map encC).flatten.toArray 30 (0, 0)) = w0 at hx hg ⊢
  have hs0 : w0.heap.size = wr.heap.size + 1 := by rw [← hw0]; simp
  have ho : OwnC w0 0 (.slice (some ⟨wr.heap.size, 0, none⟩) xs.length xs.length) xs := by
    have hl := flat_len xs
    refine ⟨hl, .inr ⟨wr.heap.size, xs.length, _, rfl, Nat.zero_le _, hg, Nat.le_refl _, by simp only [maxLen]; omega, by simpa using hl, by simp only [List.toList_toArray]; rw [← hl, List.take_length]⟩⟩
  obtain ⟨A, c, hv, hC⟩ := own_K ho
  injection hv with e1 _ _
  subst e1
  refine (store_any pa ma La _ xs.length xs w0 (h.a.ext hx (fun _ _ s => s) (fun s => s)) hC (fun ad e => by cases e; exact ⟨fun hf => by have := h.a.2.foot_lt hf; simp at this, by simp; omega⟩) hok).mono ?_
  rintro e w' ⟨rfl, La', h1, h2, h3, h4⟩
  exact ⟨rfl, La', h.storeA hx h1 h3 h4, h2⟩

theorem mget_ok {w : World} {mb : Nat} {L : List Pg} (h : MemRep w mb L) (a : Int) : 0 ≤ mget L a ∧ mget L a < 4294967296 := by
  by_cases e : mget L a = 0
  · rw [e]; decide
  · exact (h.get_ok e).2.2
theorem load_q {w wr : World} {pa ma : Nat} {La : List Pg} {pb mb : Nat} {Lb : List Pg} (h : Mems w wr pa ma La pb mb Lb) (a : Int) (h0 : 0 ≤ a) (h1 : a < 4294967296) (n : Nat) :
    Calls Try.prog 11 #[.pointer (some ⟨pa, 0, none⟩), .int .u32 a] (wr.drewN n) fun e w' => e = .returned (.int .u32 (mget La a)) ∧ w' = wr.drewN n :=
  (load_any pa ma La a (wr.drewN n) h0 h1 (h.quiet ((Ext.refl NoB wr).drewN n)).a).mono fun _ _ ⟨e1, e2⟩ => ⟨e1, e2.symm⟩
theorem C_below {w wr : World} {A : Option Addr} {n : Nat} {xs : List S30} (h : k30.C w A n xs) (hb : Below w.heap.size w wr) : k30.C wr A n xs :=
  C_ext k30_flat h (Ext.of_below (S := NoB) hb) (fun _ _ s => s)
theorem rd_get (xs : List S30) (i : Nat) (h : i < xs.length) : rd_T30 xs (i : Int) = xs[i] := by
  unfold rd_T30; rw [Int.toNat_natCast, List.getD_eq_getElem?_getD, List.getElem?_eq_getElem h]; rfl
theorem cell_at {w : World} {A : Option Addr} {xs : List S30} (h : k30.C w A xs.length xs) (i : Nat) (hi : i < xs.length) : ∃ ad, A = some ad ∧ w.cell? (ad.add (i * 2)) = some (.int .u32 (xs[i]).f0) ∧ w.cell? ⟨(ad.add (i * 2)).block, (ad.add (i * 2)).off + 1, none⟩ = some (.int .u32 (xs[i]).f1) := by
  obtain ⟨ad, e, c0, c1⟩ := at_T30 h (i : Int) (by omega) (by omega)
  rw [rd_get xs i hi, Int.toNat_natCast] at c0 c1
  exact ⟨ad, e, c0, c1⟩

set_option maxHeartbeats 8000000 in
theorem memoryHolds_any (A : Option Addr) (cap : Nat) (xs : List S30) (w : World) (hC : k30.C w A xs.length xs) (hok : ∀ c ∈ xs, okCell c) (hlen : xs.length ≤ 9223372036854775807) :
    Calls Try.prog 3 #[.slice A xs.length cap] w fun e w' => e = .returned (.bool true) ∧ Below w.heap.size w w' := by
  have HC := Lib.hid hC; have HOK := Lib.hid hok
  clear hC hok
  go_enter Try.func3, Try.ntmps3
  by_cases hl30 : 30 < xs.length
  · go_wp2_with (go_at_call 8; refine (works_any w).mono ?_; rintro e w' ⟨rfl, hb⟩; have HB := Lib.hid hb; clear hb)
    go_ret
    exact ⟨rfl, HB.out⟩
  · go_wp2_with (go_at_call 9; first
      | (with_reducible refine (new_any w).mono ?_; rintro e w1 ⟨pa, ma, rfl, h1, h2, h3, h4⟩; have H1 := Lib.hid h1; have H2 := Lib.hid h2; clear h1 h2)
      | (with_reducible refine (new_any w1).mono ?_; rintro e w2 ⟨pb, mb, rfl, h5, h6, h7, h8⟩; have H5 := Lib.hid h5; have H6 := Lib.hid h6; clear h5 h6))
    have hm0 : Mems w w2 pa ma [] pb mb [] := by
      refine ⟨H1.out.below H6.out, H5.out, ((Ext.of_below (S := NoB) H2.out).sub H6.out).below, ?_, ?_, ?_⟩
      · rintro k (rfl | ⟨p, hp, _⟩)
        · exact h4
        · cases hp
      · rintro k (rfl | ⟨p, hp, _⟩)
        · have := H2.out.size; omega
        · cases hp
      · rintro k (rfl | ⟨p, hp, _⟩) (e | ⟨p, hp, _⟩)
        · have := H1.out.2.map.lt; omega
        · cases hp
        · cases hp
        · cases hp
    have HM0 := Lib.hid hm0
    clear hm0 H1 H2 H5 H6
    go_loopw [5] (fun v5 wr => ∃ k : Nat, k ≤ xs.length ∧ v5 = .int .i64 k ∧ ∃ La, Mems w wr pa ma La pb mb [] ∧ ∀ a, 0 ≤ a → mget La a = stored (mget []) (xs.take k) a) (fun v5 _ => xs.length - (intOf v5).toNat)
    case atStart => exact ⟨0, Nat.zero_le _, rfl, [], HM0.out, fun a _ => rfl⟩
    case round =>
      obtain ⟨k, hk, rfl, La, hM, hg⟩ := hrel
      by_cases hlt : k < xs.length
      · obtain ⟨ad, e, c0, c1⟩ := cell_at (C_below HC.out hM.bel) k hlt
        subst e
        have htk : stored (mget []) (xs.take (k + 1)) = fun a => if a = (xs[k]).f0 then (xs[k]).f1 else stored (mget []) (xs.take k) a := by rw [take_last xs k hlt, stored_snoc]
        have HS := Lib.hid (storeL hM [xs[k]] (by intro c hc; rw [List.mem_singleton] at hc; subst hc; exact HOK.out _ (List.getElem_mem hlt)) (by simp))
        have HT := Lib.hid htk; have HG := Lib.hid hg
        clear htk hg hM
        generalize xs[k] = c at c0 c1 HS HT
        obtain ⟨f0, f1⟩ := c
        dsimp only at c0 c1 HT
        go_wp2_with (go_at_call 10; (refine HS.out.mono ?_; rintro e w3 ⟨rfl, La', h5, h6⟩; have H5 := Lib.hid h5; have H6 := Lib.hid h6; clear h5 h6))
        go_roundw
        case rel =>
          refine ⟨k + 1, by omega, by go_num, La', H5.out, fun a h0 => ?_⟩
          rw [H6.out a h0, HT.out]
          show (if a = f0 then f1 else mget La a) = _
          rw [HG.out a h0]
        case measure => simp [intOf]; omega
      · obtain rfl : k = xs.length := by omega
        rw [List.take_length] at hg
        have HM := Lib.hid hM; have HG := Lib.hid hg
        clear hM hg HM0
        go_wp2
        go_loopw [6] (fun v6 wr => ∃ k : Nat, k ≤ xs.length ∧ v6 = .int .i64 ((k : Int) - 1) ∧ ∃ Lb, Mems w wr pa ma La pb mb Lb ∧ Half La xs k Lb) (fun v6 _ => (intOf v6 + 1).toNat)
        case atStart => exact ⟨xs.length, Nat.le_refl _, rfl, [], HM.out, half_start La xs⟩
        case round =>
          obtain ⟨k, hk, rfl, Lb, hM, hH⟩ := hrel
          by_cases hk0 : k = 0
          · subst hk0
            rw [show (((0 : Nat) : Int) - 1) = -1 from rfl]
            have heq := half_end hH HG.out
            have HEQ := Lib.hid heq; have HMF := Lib.hid hM
            clear heq hH hM HM
            go_wp2_with (first
              | (go_at_call 12; refine (same_any pa ma pb mb La Lb wr HMF.out.a HMF.out.b).mono ?_; rintro e w4 ⟨b, rfl, h1, h2⟩; obtain rfl : b = true := h1.2 HEQ.out; have HM4 := Lib.hid (HMF.out.quiet (Ext.of_below h2)); clear h1 h2)
              | (go_at_call 13; ((with_reducible refine (digest_any pa ma La w4 HM4.out.a).mono ?_); rintro e w5 ⟨ks, h1, h2, rfl, h5⟩; have K1 := Lib.hid h1; have K2 := Lib.hid h2; have HM5 := Lib.hid (HM4.out.quiet (Ext.of_below h5)); clear h1 h2 h5))
              | (go_at_call 13; ((with_reducible refine (digest_any pb mb Lb w5 HM5.out.b).mono ?_); rintro e w6 ⟨ks2, h1, h2, rfl, h5⟩; rw [← cells_same HMF.out.a.2 HMF.out.b.2 HEQ.out K1.out K2.out h1 h2 0]; have HM6 := Lib.hid (HM5.out.quiet (Ext.of_below h5)); clear h1 h2 h5))
              | (go_at_call 14; (with_reducible refine (len_any pa ma La w6 HM6.out.a).mono ?_); rintro e w7 ⟨ks3, rfl, h1, h2, h5⟩; have K3 := Lib.hid h1; have K4 := Lib.hid h2; have HM7 := Lib.hid (HM6.out.quiet (Ext.of_below h5)); clear h1 h2 h5)
              | (go_at_call 14; (with_reducible refine (len_any pb mb Lb w7 HM7.out.b).mono ?_); rintro e w8 ⟨ks4, rfl, h1, h2, h5⟩; rw [← cells_same HMF.out.a.2 HMF.out.b.2 HEQ.out K3.out K4.out h1 h2 0]; have HM8 := Lib.hid (HM7.out.quiet (Ext.of_below h5)); clear h1 h2 h5)
              | (go_at_call 8; refine (works_any w8).mono ?_; rintro e w9 ⟨rfl, h5⟩; have HM9 := Lib.hid (HM8.out.quiet (Ext.of_below h5)); clear h5))
            go_ret
            exact ⟨rfl, HM9.out.bel⟩
          · obtain ⟨i, rfl⟩ : ∃ i, k = i + 1 := ⟨k - 1, by omega⟩
            have hi1 : (((i + 1 : Nat) : Int) - 1) = (i : Int) := by omega
            rw [hi1]
            have hin : i < xs.length := by omega
            have HMB := Lib.hid hM; have HH := Lib.hid hH
            clear hM hH hi1 HM
            go_wp2
            go_loopw [7, 8] (fun v7 v8 w3 => ∃ j : Nat, i + 1 ≤ j ∧ j ≤ xs.length ∧ v8 = .int .i64 j ∧ ∃ b : Bool, v7 = .bool b ∧ (b = true ↔ Mid xs (i + 1) j (xs[i]).f0) ∧ Mems w w3 pa ma La pb mb Lb) (fun _ v8 _ => xs.length - (intOf v8).toNat)
            case atStart => exact ⟨i + 1, Nat.le_refl _, by omega, by simp, false, rfl, ⟨fun h => (by cases h), fun h => absurd h (mid_none _ _ _)⟩, HMB.out⟩
            case round =>
              obtain ⟨j, hj0, hj1, rfl, b, rfl, hb, hM⟩ := hrel
              by_cases hjl : j < xs.length
              · obtain ⟨ad, e, c0, c1⟩ := cell_at (C_below HC.out hM.bel) i hin
                subst e
                obtain ⟨ad', e, d0, d1⟩ := cell_at (C_below HC.out hM.bel) j hjl
                cases e
                have HM2 := Lib.hid hM
                have HBB := Lib.hid hb
                have hms := mid_succ xs (i + 1) j (xs[i]).f0 hj0 hjl
                have HMS := Lib.hid hms
                clear hM hb hms
                generalize hci : xs[i] = ci at c0 c1 HBB HMS ⊢
                generalize hcj : xs[j] = cj at d0 d1 HMS ⊢
                have HCI := Lib.hid hci; have HCJ := Lib.hid hcj
                clear hci hcj
                go_wp2
                cases b
                · go_quiet (fail)
                  go_wp2
                  go_roundw
                  case rel =>
                    refine ⟨j + 1, by omega, by omega, by go_num, (cj.f0 == ci.f0), rfl, ?_, HM2.out.quiet ((Ext.refl NoB wr).drewN nq)⟩
                    have h1 := HBB.out
                    rw [HMS.out]
                    simp at h1
                    simp [h1]
                  case measure => simp [intOf]; omega
                · go_quiet (fail)
                  go_wp2
                  go_roundw
                  case rel =>
                    refine ⟨j + 1, by omega, by omega, by go_num, true, rfl, ?_, HM2.out.quiet ((Ext.refl NoB wr).drewN nq)⟩
                    have h1 := HBB.out
                    rw [HMS.out]
                    simp at h1
                    simp [h1]
                  case measure => simp [intOf]; omega
              · obtain rfl : j = xs.length := by omega
                rw [mid_all] at hb
                obtain ⟨ad, e, c0, c1⟩ := cell_at (C_below HC.out hM.bel) i hin
                subst e
                have hoki := HOK.out _ (List.getElem_mem hin)
                obtain ⟨⟨a0, a1⟩, b0, b1⟩ := hoki
                have HBB := Lib.hid hb; have HM3 := Lib.hid hM
                clear hb hM HMB
                cases b
                · have hnl : ¬ From xs (i + 1) (xs[i]).f0 := fun h => by have := HBB.out.2 h; cases this
                  have hv : mget La (xs[i]).f0 = (xs[i]).f1 := (HG.out _ a0).trans (stored_last _ xs i hin hnl)
                  have hne := x5_ne a0 a1
                  have hx5 := x5_ok a0 a1
                  have hS3 := storeL (HM3.out.quiet ((Ext.refl NoB wr).drew)).swap [⟨x5 (xs[i]).f0, 0⟩, xs[i], ⟨(xs[i]).f0, (xs[i]).f1⟩] (by
                    intro c hc
                    simp only [List.mem_cons, List.not_mem_nil, or_false] at hc
                    rcases hc with rfl | rfl | rfl
                    · exact ⟨hx5, by show (0 : Int) ≤ 0; decide, by show (0 : Int) < 4294967296; decide⟩
                    · exact HOK.out _ (List.getElem_mem hin)
                    · exact HOK.out _ (List.getElem_mem hin)) (by simp)
                  have hfs := fun Lb' => fill_start (Lb' := Lb') HH.out hne hv
                  have HS3 := Lib.hid hS3; have HV := Lib.hid hv; have HNE := Lib.hid hne; have HFS := Lib.hid hfs
                  clear hS3 hv hnl hfs hne
                  have hfe := fun Lb' => fill_end (La := La) (Lb := Lb') hin HNE.out
                  have HFE := Lib.hid hfe
                  clear hfe
                  have hfh := fun Lb' Lb'' j => fill_hit (La := La) (Lb := Lb') (Lb' := Lb'') (xs := xs) (i := i) (j := j) (A := (xs[i]).f0)
                  have hfm := fun Lb' j => fill_miss (La := La) (Lb := Lb') (xs := xs) (i := i) (j := j) (A := (xs[i]).f0)
                  have HFH := Lib.hid hfh; have HFM := Lib.hid hfm
                  clear hfh hfm
                  generalize hci : xs[i] = ci at c0 c1 HBB HS3 HV HNE HFS HFE HFH HFM a0 a1 b0 b1 hx5
                  have HCI := Lib.hid hci
                  clear hci
                  obtain ⟨f0, f1⟩ := ci
                  dsimp only at c0 c1 a0 a1 b0 b1 hx5
                  go_wp2
                  have hnw := World.new_ne wr _ c0
                  have hnw1 := World.new_ne wr _ c1
                  go_region_held3 (fun w' => w'.cell? (ad.add (i * 2)) = some (.int .u32 f0) ∧ w'.cell? ⟨(ad.add (i * 2)).block, (ad.add (i * 2)).off + 1, none⟩ = some (.int .u32 f1)) (go_keep)
                    ((go_at_call 10; refine HS3.out.mono ?_; rintro e w5 ⟨rfl, Lb2, h5, h6⟩; obtain ⟨ad2, e2, q0, q1⟩ := cell_at (C_below HC.out h5.bel) i hin; cases e2; rw [HCI.out] at q0 q1; have H5 := Lib.hid h5.swap; have H6 := Lib.hid (HFS.out _ h6); clear h5 h6))
                  go_wp2
                  go_loopw [9] (fun v9 w6 => ∃ j : Nat, i + 1 ≤ j ∧ j ≤ xs.length ∧ v9 = .int .i64 j ∧ ∃ Lb', Mems w w6 pa ma La pb mb Lb' ∧ Fill La xs i f0 j Lb') (fun v9 _ => xs.length - (intOf v9).toNat)
                  case atStart => exact ⟨i + 1, Nat.le_refl _, by omega, by simp, Lb2, H5.out, H6.out⟩
                  case round =>
                    obtain ⟨j, hj0, hj1, rfl, Lb3, hM, hF⟩ := hrel
                    obtain ⟨ad3, e3, c0, c1⟩ := cell_at (C_below HC.out hM.bel) i hin
                    cases e3
                    rw [HCI.out] at c0 c1
                    dsimp only at c0 c1
                    by_cases hjl : j < xs.length
                    · obtain ⟨ad', e, d0, d1⟩ := cell_at (C_below HC.out hM.bel) j hjl
                      cases e
                      obtain ⟨⟨p0, p1⟩, _⟩ := HOK.out _ (List.getElem_mem hjl)
                      have hfh := fun Lb'' he => HFH.out Lb3 Lb'' j hF hj0 hjl he HNE.out
                      have hfm := fun he => HFM.out Lb3 j hF hj0 hjl he
                      have HFH2 := Lib.hid hfh; have HFM2 := Lib.hid hfm; have HM5 := Lib.hid hM
                      clear hfh hfm hM hF
                      generalize hcj : xs[j] = cj at d0 d1 HFH2 HFM2 p0 p1
                      have HCJ := Lib.hid hcj
                      clear hcj
                      obtain ⟨g0, g1⟩ := cj
                      dsimp only at d0 d1 p0 p1
                      by_cases hcmp : g0 = x5 f0
                      · have hbe : (g0 == bits .xor .u32 f0 5) = true := by simpa [x5] using hcmp
                        have HCM := Lib.hid hcmp
                        clear hcmp
                        go_wp2
                        go_quiet (fail)
                        have d0' : (wr.drewN nq).cell? (ad.add (j * 2)) = some (.int .u32 g0) := d0
                        have hwm := HM5.out.quiet ((Ext.refl NoB wr).drewN nq)
                        have HM6 := Lib.hid hwm
                        clear hwm HM5 d0 d1 c0 c1
                        generalize wr.drewN nq = w7 at d0' HM6 ⊢
                        have HLD := Lib.hid (load_q HM6.out g0 p0 p1 1)
                        have HS4 := Lib.hid (storeL (HM6.out.quiet ((Ext.refl NoB w7).drewN 1)).swap [⟨g0, mget La g0⟩] (by
                          intro c hc
                          rw [List.mem_singleton] at hc
                          subst hc
                          exact ⟨⟨p0, p1⟩, mget_ok HM6.out.a.2 g0⟩) (by simp))
                        have hnw := World.new_ne w7 _ d0'
                        go_wp2
                        go_region_held3 (fun w' => w'.cell? (ad.add (j * 2)) = some (.int .u32 g0)) (go_keep)
                          ((first
                            | (go_at_call 11; refine HLD.out.mono ?_; rintro e w' ⟨rfl, rfl⟩)
                            | (go_at_call 10; refine HS4.out.mono ?_; rintro e w8 ⟨rfl, Lb4, h5, h6⟩; obtain ⟨ad2, e2, q0, q1⟩ := cell_at (C_below HC.out h5.bel) j hjl; cases e2; rw [HCJ.out] at q0; have H7 := Lib.hid h5.swap; have H8 := Lib.hid h6; clear h5 h6)))
                        go_wp2
                        go_roundw
                        case rel =>
                          refine ⟨j + 1, by omega, by omega, by go_num, Lb4, H7.out, HFH2.out Lb4 HCM.out ?_⟩
                          show ∀ a, 0 ≤ a → mget Lb4 a = stored (mget Lb3) [⟨x5 f0, mget La (x5 f0)⟩] a
                          rw [← HCM.out]
                          exact H8.out
                        case measure => simp [intOf]; omega
                      · have hbe : (g0 == bits .xor .u32 f0 5) = false := by simpa [x5] using hcmp
                        have HCM := Lib.hid hcmp
                        clear hcmp
                        go_wp2
                        go_quiet (fail)
                        go_wp2
                        go_roundw
                        case rel => exact ⟨j + 1, by omega, by omega, by go_num, Lb3, HM5.out.quiet ((Ext.refl NoB wr).drewN nq), HFM2.out HCM.out⟩
                        case measure => simp [intOf]; omega
                    · obtain rfl : j = xs.length := by omega
                      have HHF := Lib.hid (HFE.out Lb3 hF)
                      have HLD := Lib.hid (load_q hM f0 a0 a1)
                      have hv : mget La f0 = f1 := HV.out
                      have HM5 := Lib.hid hM
                      clear hM hF
                      rw [hv] at HLD
                      clear hv
                      go_wp2
                      go_quiet ((go_at_call 11; exact Calls.quiet_of_same (HLD.out _)))
                      go_wp2
                      go_roundw
                      case rel => exact ⟨i, by omega, by go_num, Lb3, HM5.out.quiet ((Ext.refl NoB wr).drewN nq), HHF.out⟩
                      case measure => simp [intOf]
                · have hfl : From xs (i + 1) (xs[i]).f0 := HBB.out.1 rfl
                  have HHF := Lib.hid (half_later hin HH.out hfl)
                  have HLD := Lib.hid (load_q HM3.out (xs[i]).f0 a0 a1)
                  clear hfl
                  generalize hci : xs[i] = ci at c0 c1 HLD a0 a1 b0 b1
                  have HCI := Lib.hid hci
                  clear hci
                  obtain ⟨f0, f1⟩ := ci
                  dsimp only at c0 c1 a0 a1 b0 b1
                  generalize mget La f0 = gv at HLD
                  by_cases hgv : gv = f1
                  · subst hgv
                    go_wp2
                    go_quiet ((go_at_call 11; exact Calls.quiet_of_same (HLD.out _)))
                    go_wp2
                    go_roundw
                    case rel => exact ⟨i, by omega, by go_num, Lb, HM3.out.quiet ((Ext.refl NoB wr).drewN nq), HHF.out⟩
                    case measure => simp [intOf]
                  · have hbf : (gv != f1) = true := by simpa using hgv
                    go_wp2
                    go_quiet ((go_at_call 11; exact Calls.quiet_of_same (HLD.out _)))
                    go_wp2
                    go_roundw
                    case rel => exact ⟨i, by omega, by go_num, Lb, HM3.out.quiet ((Ext.refl NoB wr).drewN nq), HHF.out⟩
                    case measure => simp [intOf]
end Go.Proofs.Ytgccjmjengfhbaa
end
section
set_option maxRecDepth 100000
namespace Go.Proofs.Ytgccjmjengfhbaa
open Go.ChangeShapes Go.WideShapes Go.ChangeAt Go.RowKit Go.Deep Go.Proofs.YtgccjmjengfhbaaW.PrintWords
open Go.Proofs.Ytgccjmjengfhbaa.PMemoryStores (S30 k30 k30_mk)
theorem laidOut : laidOutB Try.prog = true := by kernel_rfl

/-- An argument that is a slice of cells. -/
theorem open_cells {H : Type} {enc : TypeId × Value → H} {w : World} {b0 : Nat} {v : Value} {d : DataW H} {p : List MemPlace} (hv : Value.okWide Try.prog w .any b0 22 v) (h : DataW.Trod enc Try.prog w 0 (fun _ => true) true 22 v d p) :
    ∃ (A : Option Addr) (cap : Nat) (xs : List S30), v = .slice A xs.length cap ∧ k30.C w A xs.length xs ∧ (∀ c ∈ xs, (0 ≤ c.f0 ∧ c.f0 < 4294967296) ∧ 0 ≤ c.f1 ∧ c.f1 < 4294967296) ∧ xs.length ≤ 9223372036854775807 := by
  obtain ⟨a0, len, cap, rfl⟩ := okWide_slice Try.underlying22 hv
  obtain ⟨fuel, hf⟩ := h
  rcases open_slice_pairs Try.underlying22 Try.underlying30 (by kernel_rfl) rfl rfl (by kernel_rfl) (by kernel_rfl) hf with ⟨hcs, _⟩ | ⟨a, len', cap', m, n, V0, V1, D0, D1, P0, P1, hcs, _, hl, hm, hmm, _, hi⟩
  · simp [Value.cells] at hcs
    obtain ⟨rfl, rfl, rfl⟩ := hcs
    exact ⟨none, 0, [], rfl, ⟨rfl, by simp, fun h => absurd h (by simp)⟩, by simp, by simp⟩
  · simp [Value.cells] at hcs
    obtain ⟨rfl, rfl, rfl⟩ := hcs
    simp at hmm
    subst hmm
    have hV : ∀ i, i < m → ∃ c : S30, V0 i = .int .u32 c.f0 ∧ V1 i = .int .u32 c.f1 ∧ (0 ≤ c.f0 ∧ c.f0 < 4294967296) ∧ 0 ≤ c.f1 ∧ c.f1 < 4294967296 := by
      intro i hi'
      obtain ⟨_, _, t0, t1⟩ := hi i hi'
      obtain ⟨n0, e0, _, w0⟩ := DataW.trod_int Try.underlying28 t0
      obtain ⟨n1, e1, _, w1⟩ := DataW.trod_int Try.underlying28 t1
      have b0 := (Lit.wf_int_iff .u32 n0).1 w0
      have b1 := (Lit.wf_int_iff .u32 n1).1 w1
      have c0 : 0 ≤ n0 := b0.1
      have c1 : n0 ≤ 4294967295 := b0.2
      have c2 : 0 ≤ n1 := b1.1
      have c3 : n1 ≤ 4294967295 := b1.2
      exact ⟨⟨n0, n1⟩, by simpa using e0, by simpa using e1, ⟨c0, by show n0 < _; omega⟩, c2, by show n1 < _; omega⟩
    refine ⟨some a, m, (List.range len).map fun i => if hh : i < m then (hV i hh).choose else ⟨0, 0⟩, by simp, ?_, ?_, ?_⟩
    · simp only [maxLen] at hm
      refine ⟨rfl, by simp; omega, fun _ => ⟨a, rfl, fun j p hj => ⟨[.int .u32 p.f0, .int .u32 p.f1], rfl, k30_mk w p, fun i u hu => ?_⟩⟩⟩
      rw [List.getElem?_map] at hj
      obtain ⟨j', hj', rfl⟩ := Option.map_eq_some_iff.1 hj
      have hlt : j < len := by rcases Nat.lt_or_ge j len with h | h; exact h; rw [List.getElem?_eq_none (by simpa using h)] at hj'; cases hj'
      rw [List.getElem?_range hlt] at hj'
      cases hj'
      have hjc : j < m := by omega
      rw [dif_pos hjc] at hu
      obtain ⟨e0, e1, _⟩ := (hV j hjc).choose_spec
      obtain ⟨q0, q1, _⟩ := hi j hjc
      match i, hu with
      | 0, hu => injection hu with hu; rw [← hu, ← e0]; exact q0
      | 1, hu => injection hu with hu; rw [← hu, ← e1]; exact q1
    · intro c hc
      obtain ⟨i, hi', rfl⟩ := List.mem_map.1 hc
      have := List.mem_range.1 hi'
      have him : i < m := by omega
      rw [dif_pos him]
      exact (hV i him).choose_spec.2.2
    · simp only [maxLen] at hm
      simp; omega
end Go.Proofs.Ytgccjmjengfhbaa
end
