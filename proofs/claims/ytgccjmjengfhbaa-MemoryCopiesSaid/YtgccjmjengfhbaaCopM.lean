/- Part of the proofs over 'linesman/memory': lemmas and walks. Written by merge.py from the templates of the repo. -/
import Derived.Test.YtgccjmjengfhbaaStoM
import Derived.Deep.WholeRow
set_option linter.unusedVariables false
set_option linter.unusedSimpArgs false
section
set_option maxRecDepth 100000
namespace Go.Proofs.Ytgccjmjengfhbaa
open Go.RowKit Go.Shelf Go.Proofs Go.Proofs.YtgccjmjengfhbaaW.PrintWords
open Go.Proofs.Ytgccjmjengfhbaa.PMemoryStores (S30 k30 k30_mk at_T30 rd_T30)

theorem pgCells_one (n : Nat) (k : IntKind) (c : Nat → Int) : (pgCells n k c).all (·.oneCell') = true := by
  rw [Array.all_eq_true_iff_forall_mem]
  intro v hv
  obtain ⟨i, hi, rfl⟩ := Array.getElem_of_mem hv
  have h := pgCells_get (k := k) (c := c) (i := i) (n := n) (by rwa [pgCells_size] at hi)
  rw [Array.getElem?_eq_getElem hi] at h
  rw [Option.some.inj h]; rfl
section
variable {ops : Array Oper} {rest : List Oper} {o : Oper} {a : Act} {Q : Exit → Act → World → Prop} {W : World}
theorem step_allocPage (hgd : o.guard = none) (ho : o.op = .alloc 64)
    (h : ∀ g w', g = W.heap.size → w' = W.alloc (.cells (pgCells PS .u32 fun _ => 0) 64 (0, 0)) → wpList Try.prog ops Q rest (a.put o.dst (.pointer (some ⟨g, 0, none⟩))) w') : wpList Try.prog ops Q (o :: rest) a W := by
  have hz := zeroPage W
  refine step_val hgd (w1 := W.alloc (.cells (pgCells PS .u32 fun _ => 0) 64 (0, 0))) (v := .pointer (some ⟨W.heap.size, 0, none⟩)) ?_ (h _ _ rfl rfl)
  simp only [execOp, ho, Instr.alloc, Sem.run_bind, hz, Result.andThen_ok, newVar, newRow, newObj, Sem.run_pure, Sem.run, Value.cells]
  rfl
theorem step_storePage {c0 c : Nat → Int} {x v : Operand} {g : Nat} {W0 : World} (hgd : o.guard = none) (ho : o.op = .store 64 x v) (hx : a.eval x = .pointer (some ⟨g, 0, none⟩)) (hv : a.eval v = .agg (pgCells PS .u32 c)) (hg : g = W0.heap.size)
    (hW : W = W0.alloc (.cells (pgCells PS .u32 c0) 64 (0, 0))) (h : ∀ w', w' = W0.alloc (.cells (pgCells PS .u32 c) 64 (0, 0)) → wpList Try.prog ops Q rest (a.put o.dst undef) w') : wpList Try.prog ops Q (o :: rest) a W := by
  subst hg; subst hW
  have hi : (Try.prog.info? 64).map (·.size) = some (pgCells PS .u32 c).size := by
    obtain ⟨i, hi, hz⟩ := Option.map_eq_some_iff.1 infoPage
    simp only [Prod.mk.injEq] at hz
    rw [hi, Option.map_some, hz.2.1, pgCells_size]
  have hst := run_storeAt_new (P := Try.prog) W0 64 (pgCells PS .u32 c0) (pgCells PS .u32 c) hi (by rw [pgCells_size, pgCells_size]) (pgCells_one _ _ _)
  refine step_unit hgd ?_ (h _ rfl)
  simp only [execOp, ho, hx, hv, Sem.run_bind, hst, Result.andThen_ok, Sem.run_pure]
end

/-- A page of the copy. -/
theorem MemRep.grow {w w' : World} {mb : Nat} {L : List Pg} (hM : MemRep w mb L) {p0 : Pg} (hn : p0.num ∉ L.map (·.num)) (hblk : p0.blk = w.heap.size) (hm : MapAt (fun n : Int => .int .u32 n) w' mb (aset (L.map pgPtr) p0.num (.pointer (some ⟨p0.blk, 0, none⟩)))) (hx : Ext (fun k => k = mb) w w')
    (hb : w'.heap[p0.blk]? = some (.cells (pgCells PS .u32 p0.c) 64 (0, 0))) (hok : (0 ≤ p0.num ∧ p0.num < 1048576) ∧ (∀ i, i < PS → 0 ≤ p0.c i ∧ p0.c i < 4294967296)) (hs : ∃ i, i < PS ∧ p0.c i ≠ 0) : MemRep w' mb (L ++ [p0]) := by
  have hnm : p0.num ∉ (L.map pgPtr).map (·.1) := by rw [List.map_map]; exact hn
  refine ⟨?_, ⟨?_, ?_, ?_⟩, ?_⟩
  · have e1 : (L ++ [p0]).map pgPtr = aset (L.map pgPtr) p0.num (.pointer (some ⟨p0.blk, 0, none⟩)) := by
      unfold aset; rw [if_neg hnm]; simp [pgPtr]
    rw [e1]; exact hm
  · intro p hp
    rcases List.mem_append.1 hp with hp | hp
    · exact hx.get (hM.at_.pages p hp) (hM.mb_ne p hp)
    · rw [List.mem_singleton] at hp; subst hp; exact hb
  · rw [List.map_append]
    refine List.nodup_append.2 ⟨hM.at_.blks, by simp, ?_⟩
    intro x hx1 y hy e
    obtain ⟨p, hp, rfl⟩ := List.mem_map.1 hx1
    simp at hy
    have := hM.at_.lt p hp
    omega
  · intro p hp
    rcases List.mem_append.1 hp with hp | hp
    · exact hM.at_.ok p hp
    · rw [List.mem_singleton] at hp; subst hp; exact hok
  · intro p hp
    rcases List.mem_append.1 hp with hp | hp
    · exact hM.some_ p hp
    · rw [List.mem_singleton] at hp; subst hp; exact hs

/-- How far the copy has come. -/
structure Cop (LA : List Pg) (done : List (Int × Value)) (Lb : List Pg) : Prop where
  len : Lb.length = done.length
  fwd : ∀ p ∈ LA, pgPtr p ∈ done → ∃ q ∈ Lb, q.num = p.num ∧ q.c = p.c
  bwd : ∀ q ∈ Lb, ∃ p ∈ LA, pgPtr p ∈ done ∧ p.num = q.num

set_option maxHeartbeats 4000000 in
theorem copy_any (pa ma : Nat) (LA : List Pg) (w : World) (hM : MemAt w pa ma LA) :
    Calls Try.prog 22 #[.pointer (some ⟨pa, 0, none⟩)] w fun e w' => ∃ (pb mb : Nat) (Lb : List Pg), e = .returned (.pointer (some ⟨pb, 0, none⟩)) ∧ MemAt w' pb mb Lb ∧ (∀ a, 0 ≤ a → mget LA a = mget Lb a) ∧ Below w.heap.size w w' ∧ w.heap.size ≤ pb ∧ ∀ k, foot mb Lb k → w.heap.size ≤ k := by
  have hc := hM.cell
  obtain ⟨es, clock, hm, hk⟩ := hM.2.map
  have hkeys := hM.2.keys
  have HA := Lib.hid hM; have HM := Lib.hid hm; have HK := Lib.hid hk; have HKY := Lib.hid hkeys
  clear hM hm hk hkeys
  go_enter Try.func22, Try.ntmps22
  go_wp2_with (first
    | (go_at_call 26; refine (none_some _ _ _ hc).mono ?_; rintro e w' ⟨rfl, rfl⟩)
    | (go_at_call 9; refine (new_any _).mono ?_; rintro e w1 ⟨pb, mb, rfl, h1, h2, h3, h4⟩; have hcw := (Ext.of_below (S := NoB) h2).cellNo hc; have H1 := Lib.hid h1; have H2 := Lib.hid h2; have H3 := Lib.hid h3; have H4 := Lib.hid h4; have hm1 := Lib.hid ((Ext.of_below (S := NoB) h2).get HM.out (fun s => s)); clear h1 h2 h3 h4)
    | ((with_reducible refine atT (N := 14) rfl ?_); refine step_range rfl rfl rfl Try.underlying52 hm1.out ?_; intro r w2 hr hw2; have HR := Lib.hid hr; have HW := Lib.hid hw2; clear hr hw2))
  have hc1 : Came eU32 es clock ma r (LA.map pgPtr) [] w2 := by rw [HW.out, HR.out]; exact Came.start w1
  have hx2 : Ext NoB w1 w2 := by rw [HW.out]; exact (Ext.refl NoB w1).alloc _
  have hr1 : w.heap.size ≤ r := by rw [HR.out]; exact H2.out.size
  have hmb2 := H1.out.ext hx2 (fun _ _ s => s) (fun s => s)
  have HC1 := Lib.hid hc1; have HX2 := Lib.hid (((Ext.of_below (S := NoB) H2.out).trans' hx2)); have HR1 := Lib.hid hr1; have HM2 := Lib.hid hmb2
  clear hc1 hx2 hr1 hmb2 H1
  simp only [Act.put, List.setIfInBounds_toArray, List.set_cons_succ, List.set_cons_zero]
  go_loopg [] (LA.length) (fun (g : Nat) wr => ∃ (done : List (Int × Value)) (Lb : List Pg), g + done.length = LA.length ∧ Came eU32 es clock ma r (LA.map pgPtr) done wr ∧ MemAt wr pb mb Lb ∧ Cop LA done Lb ∧ Ext NoB w wr ∧ ∀ k, foot mb Lb k → w.heap.size ≤ k)
  case atStart => exact ⟨[], [], by simp, HC1.out, HM2.out, ⟨rfl, fun p _ h => (by cases h), fun q h => (by cases h)⟩, HX2.out, fun k hk => by
    rcases hk with rfl | ⟨p, hp, _⟩
    · exact H4.out
    · cases hp⟩
  case round =>
    obtain ⟨done, Lb, hgl, hcm, hB, hCop, hE, hfb⟩ := hrel
    have hmd : wr.heap[ma]? = some (.map es clock) := hE.get HM.out (fun s => s)
    rcases hcm.next (P := Try.prog) (fun a b h => by injection h) hmd HK.out with ⟨hp, hnx⟩ | ⟨p, w3, hpl, hpn, hlt, hnx, hen, hc3, hw3⟩
    · have HNX := Lib.hid hnx; have HPP := Lib.hid hp; have HB := Lib.hid hB; have HCop := Lib.hid hCop; have HE := Lib.hid hE; have HFB := Lib.hid hfb
      clear hnx hp hcm hmd hgl hB hCop hE hfb
      go_wp2_with ((with_reducible refine atT (N := 15) rfl ?_); refine step_next rfl rfl rfl HNX.out ?_)
      go_ret
      refine ⟨pb, mb, Lb, rfl, HB.out, (eq_plain HA.out.2 HB.out.2).1 ⟨?_, fun p hp => ?_⟩, HE.out.below, H3.out, HFB.out⟩
      · have := HPP.out.length_eq; rw [List.length_map] at this; rw [HCop.out.len]; omega
      · obtain ⟨q, hq, e1, e2⟩ := HCop.out.fwd p hp (HPP.out.mem_iff.2 (List.mem_map.2 ⟨p, hp, rfl⟩))
        exact ⟨q, hq, e1, by rw [e2]; exact pgEq_iff.2 (fun i _ => rfl)⟩
    · obtain ⟨pg, hpg, rfl⟩ := List.mem_map.1 hpl
      have hrb : r < wr.heap.size := by
        obtain ⟨itv, itc, hit, _⟩ := hcm.it
        exact (Array.getElem?_eq_some_iff.1 hit).1
      have hrf : ¬ foot mb Lb r := by
        obtain ⟨itv, itc, hit, _⟩ := hcm.it
        rintro (rfl | ⟨q, hq, rfl⟩)
        · obtain ⟨es', c', h1, _⟩ := hB.2.map
          rw [h1] at hit; cases hit
        · rw [hB.2.at_.pages q hq] at hit; cases hit
      have hrp : r ≠ pb := by
        obtain ⟨itv, itc, hit, _⟩ := hcm.it
        rintro rfl
        rw [hB.1] at hit; cases hit
      have hx3 : Ext (fun k => k = r) wr w3 := by
        obtain ⟨o, rfl | rfl⟩ := hw3
        · exact (Ext.refl _ wr).putObj r o (.inl rfl)
        · exact ((Ext.refl _ wr).drew).putObj r o (.inl rfl)
      have hE3 : Ext NoB w w3 := hE.trans hx3 (fun k hk e => by have := HR1.out; omega)
      have hB3 : MemAt w3 pb mb Lb := hB.ext hx3 (fun k h1 h2 => by subst h2; exact hrf h1) (fun e => hrp e.symm)
      have hpg3 := hE3.get (HA.out.2.at_.pages pg hpg) (fun s => s)
      have hlp := loadPage hpg3
      have hnew : pg.num ∉ Lb.map (·.num) := fun hmem => by
        obtain ⟨q, hq, e⟩ := List.mem_map.1 hmem
        obtain ⟨p', hp', hd, e'⟩ := hCop.bwd q hq
        have f1 := find_of_mem HKY.out hp' (e'.trans e)
        have f2 := find_of_mem HKY.out hpg rfl
        rw [f1] at f2
        obtain rfl := Option.some.inj f2
        exact hpn hd
      change (Instr.entry (.pointer (some ⟨r, 0, none⟩))).run Try.prog w3 = .ok (.tuple #[.int .u32 pg.num, .pointer (some ⟨pg.blk, 0, none⟩)]) w3 at hen
      change ∀ ty, (Instr.next (.pointer (some ⟨r, 0, none⟩)) false ty).run Try.prog wr = .ok (.tuple #[.bool true, .int .u32 pg.num, .pointer (some ⟨pg.blk, 0, none⟩)]) w3 at hnx
      have HNX := Lib.hid hnx; have HEN := Lib.hid hen; have HC3 := Lib.hid hc3; have HLT := Lib.hid hlt; have HGL := Lib.hid hgl
      have HB3 := Lib.hid hB3; have HE3 := Lib.hid hE3; have HLP := Lib.hid hlp; have HNEW := Lib.hid hnew; have HCop := Lib.hid hCop; have HFB := Lib.hid hfb; have HPG := Lib.hid hpg; have HPN := Lib.hid hpn
      clear hnx hen hc3 hlt hgl hB3 hE3 hlp hnew hCop hfb hpn hw3 hx3 hE hB hcm hmd hpl hpg3 hpg hrf hrp hrb
      go_wp2_with (first
        | ((with_reducible refine atT (N := 15) rfl ?_); refine step_next rfl rfl rfl HNX.out ?_)
        | ((with_reducible refine atT (N := 17) rfl ?_); refine step_entry rfl rfl rfl HEN.out ?_)
        | ((with_reducible refine atT (N := 22) rfl ?_); refine step_load rfl rfl rfl HLP.out ?_)
        | ((with_reducible refine atT (N := 6) rfl ?_); refine step_allocPage rfl rfl ?_; intro g w4 hg hw4; have HG4 := Lib.hid hg; have HW4 := Lib.hid hw4; clear hg hw4)
        | ((with_reducible refine atStore (N := 6) rfl ?_); refine step_storePage (c := pg.c) (g := g) (W0 := w3) rfl rfl rfl rfl HG4.out HW4.out ?_; intro w5 hw5
           have hx5 : Ext NoB w3 w5 := by rw [hw5]; exact (Ext.refl NoB w3).alloc _
           have hb5 : w5.heap[g]? = some (.cells (pgCells PS .u32 pg.c) 64 (0, 0)) := by rw [hw5, HG4.out]; exact heap_alloc_new w3 _
           have hM5 := HB3.out.ext hx5 (fun _ _ s => s) (fun s => s)
           have hcb5 := hM5.cell
           have HX5 := Lib.hid hx5; have HB5 := Lib.hid hb5; have HM5 := Lib.hid hM5
           clear hw5 hx5 hb5 hM5)
        | (at_mapUpdate; refine wpl_mapUpdate (key := pg.num) (val := .pointer (some ⟨g, 0, none⟩)) rfl _ _ _ rfl keysU32 Try.underlying52 rfl rfl rfl HM5.out.2.map ?_; intro w6 h6 hx6 hs6; have H6 := Lib.hid h6; have HX6 := Lib.hid hx6; clear h6 hx6 hs6))
      have hgs := HG4.out
      have hmbw : mb < w3.heap.size := HB3.out.2.map.lt
      have hx36 : Ext (fun k => k = mb) w3 w6 := ((HX5.out).mono (fun _ _ s => s.elim)).trans' HX6.out
      have hrep : MemRep w6 mb (Lb ++ [⟨pg.num, g, pg.c⟩]) :=
        HB3.out.2.grow (p0 := ⟨pg.num, g, pg.c⟩) HNEW.out hgs H6.out hx36 (HX6.out.get HB5.out (by show ¬ g = mb; omega)) (HA.out.2.at_.ok pg HPG.out) (HA.out.2.some_ pg HPG.out)
      have hpbm : pb ≠ mb := by
        rintro rfl
        obtain ⟨es', c', h1, _⟩ := HB3.out.2.map
        rw [HB3.out.1] at h1; cases h1
      have hmat : MemAt w6 pb mb (Lb ++ [⟨pg.num, g, pg.c⟩]) := ⟨hx36.get HB3.out.1 hpbm, hrep⟩
      have hws := HE3.out.size
      have hE6 : Ext NoB w w6 := HE3.out.trans hx36 (fun k hk e => by have := H4.out; omega)
      have hcop : Cop LA (done ++ [pgPtr pg]) (Lb ++ [⟨pg.num, g, pg.c⟩]) := by
        refine ⟨by simp [HCop.out.len], fun p hp hmem => ?_, fun q hq => ?_⟩
        · rcases List.mem_append.1 hmem with h | h
          · obtain ⟨q, hq, e⟩ := HCop.out.fwd p hp h
            exact ⟨q, List.mem_append_left _ hq, e⟩
          · have e := List.mem_singleton.1 h
            have e1 : p.num = pg.num := congrArg (·.1) e
            have f1 := find_of_mem HKY.out hp rfl
            have f2 := find_of_mem HKY.out HPG.out e1.symm
            rw [f1] at f2
            obtain rfl := Option.some.inj f2
            exact ⟨_, List.mem_append_right _ (List.mem_singleton.2 rfl), rfl, rfl⟩
        · rcases List.mem_append.1 hq with h | h
          · obtain ⟨p, hp, h1, h2⟩ := HCop.out.bwd q h
            exact ⟨p, hp, List.mem_append_left _ h1, h2⟩
          · rw [List.mem_singleton] at h
            subst h
            exact ⟨pg, HPG.out, List.mem_append_right _ (List.mem_singleton.2 rfl), rfl⟩
      have hrn : r ≠ mb := by
        obtain ⟨itv, itc, hit, _⟩ := HC3.out.it
        rintro rfl
        obtain ⟨es', c', h1, _⟩ := HB3.out.2.map
        rw [h1] at hit; cases hit
      have hrlt : r < w3.heap.size := by
        obtain ⟨itv, itc, hit, _⟩ := HC3.out.it
        exact (Array.getElem?_eq_some_iff.1 hit).1
      have hcame := HC3.out.keep (w' := w6) (hx36.block r hrlt hrn)
      have HR6 := Lib.hid hmat; have HE6 := Lib.hid hE6; have HCP := Lib.hid hcop; have HCM := Lib.hid hcame
      clear hmat hE6 hcop hcame hrep hx36
      go_roundg (gk - 1)
      case measure =>
        have h1 := HLT.out
        rw [List.length_map] at h1
        have := HGL.out
        omega
      case rel =>
        refine ⟨done ++ [pgPtr pg], Lb ++ [⟨pg.num, g, pg.c⟩], ?_, HCM.out, HR6.out, HCP.out, HE6.out, ?_⟩
        · have h1 := HLT.out
          rw [List.length_map] at h1
          have := HGL.out
          simp
          omega
        · rintro k (rfl | ⟨q, hq, rfl⟩)
          · exact H4.out
          · rcases List.mem_append.1 hq with h | h
            · exact HFB.out _ (.inr ⟨q, h, rfl⟩)
            · rw [List.mem_singleton] at h; subst h
              show w.heap.size ≤ g
              omega
end Go.Proofs.Ytgccjmjengfhbaa
end
section
set_option maxRecDepth 100000
namespace Go.Proofs.Ytgccjmjengfhbaa
open Go.RowKit Go.Shelf Go.Proofs Go.Proofs.YtgccjmjengfhbaaW.PrintWords
open Go.Proofs.Ytgccjmjengfhbaa.PMemoryStores (S30 k30 k30_mk at_T30 rd_T30)

theorem fits_iff {wa wb : World} {ma mb : Nat} {La Lb : List Pg} (ha : MemRep wa ma La) (hb : MemRep wb mb Lb) {X Y : List S30} (hX : Fits (mget La) X) (hY : Fits (mget Lb) Y) : X = Y ↔ ∀ a, 0 ≤ a → mget La a = mget Lb a := by
  constructor
  · rintro rfl a h0
    by_cases h : mget La a = 0
    · refine h.trans (Eq.symm (Classical.byContradiction fun hne => ?_))
      have := (hX.2 ⟨a, mget Lb a⟩).1 ((hY.2 ⟨a, mget Lb a⟩).2 ⟨h0, rfl, hne⟩)
      exact this.2.2 h
    · have := (hY.2 ⟨a, mget La a⟩).1 ((hX.2 ⟨a, mget La a⟩).2 ⟨h0, rfl, h⟩)
      exact this.2.1
  · intro h
    refine asc_unique hX.1 hY.1 (fun c => ?_)
    rw [hX.2, hY.2]
    constructor
    · rintro ⟨h0, h1, h2⟩; rw [h _ h0] at h1 h2; exact ⟨h0, h1, h2⟩
    · rintro ⟨h0, h1, h2⟩; rw [← h _ h0] at h1 h2; exact ⟨h0, h1, h2⟩
theorem C_one {w : World} {g : Nat} {c : S30} (h : w.heap[g]? = some (.cells #[.int .u32 c.f0, .int .u32 c.f1] 30 (0, 0))) : k30.C w (some ⟨g, 0, none⟩) ([c] : List S30).length [c] := by
  have ho : OwnC w 0 (.slice (some ⟨g, 0, none⟩) 1 1) [c] :=
    ⟨by simp [encC], .inr ⟨g, 1, _, rfl, Nat.zero_le _, h, Nat.le_refl _, by simp only [maxLen]; omega, by simp, by simp [encC]⟩⟩
  obtain ⟨A, c', hv, hC⟩ := own_K ho
  injection hv with e1 _ _
  subst e1
  exact hC
theorem storeX {w wr : World} {pa ma : Nat} {La : List Pg} {pb mb : Nat} {Lb : List Pg} (h : Mems w wr pa ma La pb mb Lb) (g : Nat) (c : S30) (hg : wr.heap[g]? = some (.cells #[.int .u32 c.f0, .int .u32 c.f1] 30 (0, 0))) (hok : okCell c) :
    Calls Try.prog 10 #[.pointer (some ⟨pa, 0, none⟩), .slice (some ⟨g, 0, none⟩) 1 1] wr fun e w' => e = .returned (.int .i64 0) ∧
      ∃ La', Mems w w' pa ma La' pb mb Lb ∧ (∀ a, 0 ≤ a → mget La' a = if a = c.f0 then c.f1 else mget La a) ∧ Ext (foot ma La) wr w' := by
  refine (store_any pa ma La (some ⟨g, 0, none⟩) 1 [c] wr h.a (C_one hg) (fun ad e => ?_) (fun x hx => by rw [List.mem_singleton] at hx; subst hx; exact hok)).mono ?_
  · cases e
    exact ⟨h.a.2.not_foot hg (by decide), (Array.getElem?_eq_some_iff.1 hg).1⟩
  · rintro e w' ⟨rfl, La', h1, h2, h3, h4⟩
    exact ⟨rfl, La', h.storeA (Ext.refl NoB wr) h1 h3 h4, h2, h3⟩

set_option maxHeartbeats 4000000 in
theorem rcells_any (A : Option Addr) (ca : Nat) (xs : List S30) (B : Option Addr) (cb : Nat) (ys : List S30) (w : World) (hA : k30.C w A xs.length xs) (hB : k30.C w B ys.length ys) (hl : xs.length ≤ 1000000) :
    Calls Try.prog 23 #[.slice A xs.length ca, .slice B ys.length cb] w fun e w' => ∃ b : Bool, e = .returned (.bool b) ∧ (b = true ↔ xs = ys) ∧ Below w.heap.size w w' := by
  have HA := Lib.hid hA; have HB := Lib.hid hB
  clear hA hB
  go_enter Try.func23, Try.ntmps23
  by_cases hle : xs.length = ys.length
  · go_wp2
    go_loopw [5] (fun v5 wr => ∃ k : Nat, k ≤ xs.length ∧ v5 = .int .i64 k ∧ xs.take k = ys.take k ∧ Ext NoB w wr) (fun v5 _ => xs.length - (intOf v5).toNat)
    case atStart => exact ⟨0, Nat.zero_le _, rfl, rfl, Ext.refl _ _⟩
    case round =>
      obtain ⟨k, hk, rfl, ht, hE⟩ := hrel
      by_cases hlt : k < xs.length
      · have hlt2 : k < ys.length := by omega
        obtain ⟨ad, e, c0, c1⟩ := cell_at (C_ext k30_flat HA.out hE (fun _ _ s => s)) k hlt
        subst e
        obtain ⟨ad', e, d0, d1⟩ := cell_at (C_ext k30_flat HB.out hE (fun _ _ s => s)) k hlt2
        subst e
        have h1 := take_last xs k hlt
        have h2 := take_last ys k hlt2
        have H1 := Lib.hid h1; have H2 := Lib.hid h2; have HT := Lib.hid ht; have HE := Lib.hid hE; have HLE := Lib.hid hle
        clear h1 h2 ht hE hle
        have hx : xs[k] = ys[k] ∨ xs[k] ≠ ys[k] := Classical.em _
        have hget : xs = ys → xs[k] = ys[k] := fun e => by subst e; rfl
        have HGT := Lib.hid hget
        clear hget
        generalize hxk : xs[k] = x at c0 c1 H1 hx HGT
        generalize hyk : ys[k] = y at d0 d1 H2 hx HGT
        clear hxk hyk
        obtain ⟨x0, x1⟩ := x
        obtain ⟨y0, y1⟩ := y
        dsimp only at c0 c1 d0 d1
        rcases hx with hx | hx
        · injection hx with e0 e1
          subst e0; subst e1
          go_wp2
          go_quiet (fail)
          go_wp2
          go_roundw
          case rel => exact ⟨k + 1, by omega, by simp, by rw [H1.out, H2.out, HT.out], HE.out.drewN _⟩
          case measure => simp [intOf]; omega
        · have hne : ¬ (x0 = y0 ∧ x1 = y1) := fun h => hx (by rw [h.1, h.2])
          clear hx
          by_cases e0 : x0 = y0
          · subst e0
            have e1 : x1 ≠ y1 := fun h => hne ⟨rfl, h⟩
            have e2 : (x1 == y1) = false := by simpa using e1
            have e3 : (x1 != y1) = true := by simpa using e1
            have HN := Lib.hid e1
            clear hne e1
            go_wp2
            go_quiet (fail)
            go_wp2
            go_ret
            exact ⟨false, rfl, ⟨fun h => (by cases h), fun h => absurd (HGT.out h) (fun h => by injection h with h1 h2; exact HN.out h2)⟩, (HE.out.drewN _).below⟩
          · have e2 : (x0 == y0) = false := by simpa using e0
            have e3 : (x0 != y0) = true := by simpa using e0
            have HN := Lib.hid hne
            clear hne e0
            go_wp2
            go_quiet (fail)
            go_wp2
            go_ret
            exact ⟨false, rfl, ⟨fun h => (by cases h), fun h => absurd (HGT.out h) (fun h => by injection h with h1 h2; exact HN.out ⟨h1, h2⟩)⟩, (HE.out.drewN _).below⟩
      · obtain rfl : k = xs.length := by omega
        rw [List.take_length, hle, List.take_length] at ht
        have HE := Lib.hid hE; have HT := Lib.hid ht
        clear hE ht
        go_wp2
        go_ret
        exact ⟨true, rfl, ⟨fun _ => HT.out, fun _ => rfl⟩, HE.out.below⟩
  · go_wp2
    go_ret
    exact ⟨false, rfl, ⟨fun h => (by cases h), fun h => absurd (by rw [h]) hle⟩, Below.refl _ _⟩
end Go.Proofs.Ytgccjmjengfhbaa
end
section
set_option maxRecDepth 100000
namespace Go.Proofs.Ytgccjmjengfhbaa
open Go.RowKit Go.Shelf Go.Proofs Go.Proofs.YtgccjmjengfhbaaW.PrintWords
open Go.Proofs.Ytgccjmjengfhbaa.PMemoryStores (S30 k30 k30_mk at_T30 rd_T30)
attribute [local go_sem ↓] Go.wp_at_zero Go.wp_at_succ

/-- What MemoryCopies' regions keep: the two cells, the reference's memory. -/
structure Kp (base b4 b8 : Nat) (a b : S30) (v : Value) (R : List S30) (W : World) : Prop where
  h4 : W.heap[b4]? = some (.cells #[.int .u32 a.f0, .int .u32 a.f1] 30 (0, 0))
  h5 : W.heap[b4 + 1]? = some (.cells #[.int .u32 b.f0, .int .u32 b.f1] 30 (0, 0))
  h8 : W.heap[b8]? = some (.cells #[v] 38 (0, 0))
  own : OwnK W base v R
section
variable {base b4 b8 : Nat} {a b : S30} {v : Value} {R : List S30} {W W' : World}
theorem Kp.ext {S : Nat → Prop} (h : Kp base b4 b8 a b v R W) (hx : Ext S W W') (hS : ∀ (j : Nat) (cs : Array Value) (t : TypeId), W.heap[j]? = some (.cells cs t (0, 0)) → t ≠ 64 → ¬ S j) : Kp base b4 b8 a b v R W' :=
  ⟨hx.get h.h4 (hS _ _ _ h.h4 (by decide)), hx.get h.h5 (hS _ _ _ h.h5 (by decide)), hx.get h.h8 (hS _ _ _ h.h8 (by decide)), h.own.ext hx (fun j cs _ hc => hS _ _ _ hc (by decide))⟩
theorem Kp.no (h : Kp base b4 b8 a b v R W) (hx : Ext NoB W W') : Kp base b4 b8 a b v R W' := h.ext hx (fun _ _ _ _ _ s => s)
theorem Kp.alloc (h : Kp base b4 b8 a b v R W) (o : Obj) : Kp base b4 b8 a b v R (W.alloc o) := h.no ((Ext.refl NoB W).alloc o)
theorem Kp.drew (h : Kp base b4 b8 a b v R W) : Kp base b4 b8 a b v R W.drew := h.no ((Ext.refl NoB W).drew)
theorem Kp.below (h : Kp base b4 b8 a b v R W) (hb : Below W.heap.size W W') : Kp base b4 b8 a b v R W' := h.no (Ext.of_below hb)
theorem Kp.put (h : Kp base b4 b8 a b v R W) {bn : Nat} {u : Value} (hb : W.heap[bn]? = some (.cells #[u] 38 (0, 0))) (hne : bn ≠ b8) (x : Value) : Kp base b4 b8 a b v R (W.setCell ⟨bn, 0, none⟩ x) := by
  have hx : Ext (fun j => j = bn) W (W.setCell ⟨bn, 0, none⟩ x) := (Ext.refl _ _).setCell _ _ (.inl rfl)
  have key : ∀ (j : Nat) (cs : Array Value) (t : TypeId), W.heap[j]? = some (.cells cs t (0, 0)) → t ≠ 38 → ¬ j = bn := fun j cs t h1 h2 e => by
    subst e; rw [hb] at h1
    have h3 := Option.some.inj h1
    injection h3 with _ h3
    exact h2 h3.symm
  exact ⟨hx.get h.h4 (key _ _ _ h.h4 (by decide)), hx.get h.h5 (key _ _ _ h.h5 (by decide)), hx.get h.h8 (fun e => hne e.symm), h.own.ext hx (fun j cs _ hc => key _ _ _ hc (by decide))⟩
/-- As the walk reads it. -/
theorem Kp.S (h : Kp base b4 b8 a b v R W) : W.cell? ⟨b4, 0, none⟩ = some (.int .u32 a.f0) ∧ W.cell? ⟨b4, 1, none⟩ = some (.int .u32 a.f1) ∧ W.cell? ⟨b4 + 1, 0, none⟩ = some (.int .u32 b.f0) ∧ W.cell? ⟨b4 + 1, 1, none⟩ = some (.int .u32 b.f1) ∧ W.cell? ⟨b8, 0, none⟩ = some v ∧ Kp base b4 b8 a b v R W :=
  ⟨cell_of_row W _ 0 _ _ _ h.h4, cell_of_row W _ 1 _ _ _ h.h4, cell_of_row W _ 0 _ _ _ h.h5, cell_of_row W _ 1 _ _ _ h.h5, cell_of_row W _ 0 _ _ _ h.h8, h⟩
end
theorem Mems.keepK {base b4 b8 : Nat} {a b : S30} {v : Value} {R : List S30} {w0 w3 W w4 : World} {pa ma : Nat} {La : List Pg} {pb mb : Nat} {Lb : List Pg} (h : Mems w0 w3 pa ma La pb mb Lb) (hx : Ext NoB w3 W) (hk : Kp base b4 b8 a b v R w3) (g3 : Ext (foot ma La) W w4) :
    Kp base b4 b8 a b v R w4 ∧ ∀ (g : Nat) (cs : Array Value), W.heap[g]? = some (.cells cs 30 (0, 0)) → w4.heap[g]? = some (.cells cs 30 (0, 0)) :=
  ⟨(hk.no hx).ext g3 (fun j cs t h1 h2 hf => (h.quiet hx).a.2.not_foot h1 h2 hf), fun g cs hg => g3.get hg (fun hf => (h.quiet hx).a.2.not_foot hg (by decide) hf)⟩
theorem heap2 (w : World) (o1 o2 : Obj) : ((w.alloc o1).alloc o2).heap[w.heap.size]? = some o1 := (Below.heap_alloc _ _ _ (by simp)).trans (MapKept.heap_alloc _ _).1
theorem heapD {w : World} {k : Nat} {o : Obj} (h : w.heap[k]? = some o) : w.drew.heap[k]? = some o := h
theorem Kp.S5 {base b4 b8 : Nat} {a b : S30} {v : Value} {R : List S30} {w5 W : World} (h : Kp base b4 b8 a b v R w5) (hx : Ext NoB w5 W) : W.cell? ⟨b4, 0, none⟩ = some (.int .u32 a.f0) ∧ W.cell? ⟨b4, 1, none⟩ = some (.int .u32 a.f1) ∧ W.cell? ⟨b4 + 1, 0, none⟩ = some (.int .u32 b.f0) ∧ W.cell? ⟨b4 + 1, 1, none⟩ = some (.int .u32 b.f1) ∧ W.cell? ⟨b8, 0, none⟩ = some v ∧ Ext NoB w5 W := by
  obtain ⟨h1, h2, h3, h4, h5, _⟩ := (h.no hx).S
  exact ⟨h1, h2, h3, h4, h5, hx⟩
theorem newAfter {w : World} {k : Nat} {o : Obj} {u : Value} {t : TypeId} (h : w.heap[k]? = some o) (v : Value) : ((w.alloc (.cells #[u] t (0, 0))).setCell ⟨k, 0, none⟩ v).cell? ⟨w.heap.size, 0, none⟩ = some u ∧ ((w.alloc (.cells #[u] t (0, 0))).setCell ⟨k, 0, none⟩ v).frozen? ⟨w.heap.size, 0, none⟩ = false := by
  have hk : k < w.heap.size := (Array.getElem?_eq_some_iff.1 h).1
  have hb : ((w.alloc (.cells #[u] t (0, 0))).setCell ⟨k, 0, none⟩ v).heap[w.heap.size]? = some (.cells #[u] t (0, 0)) := (Below.heap_setCell _ _ _ _ (by show w.heap.size ≠ k; omega)).trans (MapKept.heap_alloc w _).1
  exact ⟨by have := cell_of_row _ _ 0 _ _ _ hb; simpa using this, frozenPage hb 0⟩
theorem cell0 {w : World} {b : Nat} {u : Value} {t : TypeId} (h : w.heap[b]? = some (.cells #[u] t (0, 0))) : w.cell? ⟨b, 0, none⟩ = some u := by
  have := cell_of_row w b 0 _ _ _ h
  simpa using this
theorem size_drew (w : World) : w.drew.heap.size = w.heap.size := rfl
theorem C30_put {w : World} {A : Option Addr} {m : Nat} {xs : List S30} {b : Nat} {B : Option Addr} {n c : Nat} {t : TypeId} (h : k30.C w A m xs) (hb : w.heap[b]? = some (.cells #[.slice B n c] t (0, 0))) (v : Value) : k30.C (w.setCell ⟨b, 0, none⟩ v) A m xs :=
  C30_set h (p := ⟨b, 0, none⟩) (by have := cell_of_row w b 0 _ _ _ hb; simpa using this) v
theorem C_alloc {w : World} {A : Option Addr} {m : Nat} {xs : List S30} (h : k30.C w A m xs) (o : Obj) : k30.C (w.alloc o) A m xs := C_ext k30_flat h ((Ext.refl NoB w).alloc o) (fun _ _ s => s)
theorem C_sub {w w' : World} {A : Option Addr} {m : Nat} {xs : List S30} (h : k30.C w A m xs) (hb : Below w.heap.size w w') : k30.C w' A m xs := C_ext k30_flat h (Ext.of_below (S := NoB) hb) (fun _ _ s => s)
theorem put1 {w : World} {b : Nat} {u : Value} {t : TypeId} {fr : Nat × Nat} (h : w.heap[b]? = some (.cells #[u] t fr)) (x : Value) : (w.setCell ⟨b, 0, none⟩ x).heap[b]? = some (.cells #[x] t fr) := by
  have := blk_put h 0 x
  simpa using this

set_option maxHeartbeats 8000000 in
theorem memoryCopies_any (A : Option Addr) (cap : Nat) (xs : List S30) (a b : S30) (w : World) (hC : k30.C w A xs.length xs) (hok : ∀ c ∈ xs, okCell c) (ha : okCell a) (hb : okCell b) (hlen : xs.length ≤ 9223372036854775807) :
    Calls Try.prog 6 #[.slice A xs.length cap, .agg #[.int .u32 a.f0, .int .u32 a.f1], .agg #[.int .u32 b.f0, .int .u32 b.f1]] w fun e w' => e = .returned (.bool true) ∧ Below w.heap.size w w' := by
  have HC := Lib.hid hC; have HOK := Lib.hid hok
  clear hC hok
  go_enter Try.func6, Try.ntmps6
  have hxa := ((Ext.refl NoB w).alloc (.cells #[.int .u32 a.f0, .int .u32 a.f1] 30 (0, 0))).alloc (.cells #[.int .u32 b.f0, .int .u32 b.f1] 30 (0, 0))
  have hb4 : ((w.alloc (.cells #[.int .u32 a.f0, .int .u32 a.f1] 30 (0, 0))).alloc (.cells #[.int .u32 b.f0, .int .u32 b.f1] 30 (0, 0))).heap[w.heap.size]? = some (.cells #[.int .u32 a.f0, .int .u32 a.f1] 30 (0, 0)) := ((Ext.refl NoB _).alloc _).get (MapKept.heap_alloc w _).1 (fun s => s)
  have hb5 : ((w.alloc (.cells #[.int .u32 a.f0, .int .u32 a.f1] 30 (0, 0))).alloc (.cells #[.int .u32 b.f0, .int .u32 b.f1] 30 (0, 0))).heap[w.heap.size + 1]? = some (.cells #[.int .u32 b.f0, .int .u32 b.f1] 30 (0, 0)) := alloc2 _ _ _
  have HXA := Lib.hid hxa; have HB4 := Lib.hid hb4; have HB5 := Lib.hid hb5
  clear hxa hb4 hb5
  by_cases hl30 : 30 < xs.length
  · go_wp2_with (go_at_call 8; (generalize (w.alloc (.cells #[.int .u32 a.f0, .int .u32 a.f1] 30 (0, 0))).alloc (.cells #[.int .u32 b.f0, .int .u32 b.f1] 30 (0, 0)) = w0 at HXA HB4 HB5 ⊢); (with_reducible refine (works_any w0).mono ?_); rintro e w1 ⟨rfl, hb⟩; have HB := Lib.hid hb; clear hb)
    go_ret
    exact ⟨rfl, (HXA.out.sub HB.out).below⟩
  · go_wp2_with (first
      | (go_at_call 15; (generalize (w.alloc (.cells #[.int .u32 a.f0, .int .u32 a.f1] 30 (0, 0))).alloc (.cells #[.int .u32 b.f0, .int .u32 b.f1] 30 (0, 0)) = w0 at HXA HB4 HB5 ⊢); (with_reducible refine (played_any A cap xs w0 (C_ext k30_flat HC.out HXA.out (fun _ _ s => s)) HOK.out (by omega)).mono ?_); rintro e w1 ⟨pa, ma, La, v, R, rfl, h1, h2, h3, h4⟩; obtain ⟨Av, cv, rfl, hRc, hRC⟩ := h2.reads; have H1 := Lib.hid h1; have H2 := Lib.hid h2; have H3 := Lib.hid h3; have H4 := Lib.hid h4; clear h1 h2 h3 h4 hRc hRC)
      | (go_at_call 22
         have hx2 := (Ext.refl NoB w1).alloc (.cells #[.slice Av R.length cv] 38 (0, 0))
         have hb8 := (MapKept.heap_alloc w1 (.cells #[.slice Av R.length cv] 38 (0, 0))).1
         have hs0 := H1.out.bel.size
         generalize w1.alloc (.cells #[.slice Av R.length cv] 38 (0, 0)) = w2 at hx2 hb8 ⊢
         generalize w1.heap.size = b8 at hb8 hs0 ⊢
         have hM2 := H1.out.quiet hx2
         have hx02 : Ext NoB w0 w2 := (Ext.of_below (S := NoB) H1.out.bel).trans' hx2
         have hK2 : Kp w0.heap.size w.heap.size b8 a b (.slice Av R.length cv) R w2 := ⟨hx02.get HB4.out (fun s => s), hx02.get HB5.out (fun s => s), hb8, H2.out.ext hx2 (fun _ _ _ _ s => s)⟩
         (with_reducible refine (copy_any pa ma La w2 hM2.a).mono ?_)
         rintro e w3 ⟨pb, mb, Lb, rfl, g1, g2, g3, g4, g5⟩
         have hx3 := Ext.of_below (S := NoB) g3
         have hM3 : Mems w0 w3 pa ma La pb mb Lb := by
           refine ⟨hM2.a.ext hx3 (fun _ _ s => s) (fun s => s), g1, (hx02.trans' hx3).below, hM2.fa, fun k hk => ?_, fun k h1 h2 => ?_⟩
           · have := g5 k hk; have := hx02.size; omega
           · have := g5 k h2; have := hM2.a.2.foot_lt h1; omega
         have hK3 := hK2.no hx3
         have hb8' : b8 < w3.heap.size := (Array.getElem?_eq_some_iff.1 hK3.h8).1
         have HM3 := Lib.hid hM3; have HK3 := Lib.hid hK3; have HG := Lib.hid g2
         clear hx2 hb8 hM2 hx02 hK2 g1 g2 g3 g4 g5 hx3 hM3 hK3 H1 H2 HB4 HB5))
    have HS1 := Lib.hid (fun (W : World) (g : Nat) (hg : W.heap[g]? = some (.cells #[.int .u32 a.f0, .int .u32 a.f1] 30 (0, 0))) (hx : Ext NoB w3 W) => storeX (HM3.out.quiet hx) g a hg ha)
    refine wp_mono (Q := fun e a' W => e = .normal ∧ ∃ (k1 k2 : Nat) (La' Lb' : List Pg), a' = { tmps := #[.slice A xs.length cap, .agg #[.int .u32 a.f0, .int .u32 a.f1], .agg #[.int .u32 b.f0, .int .u32 b.f1], undef, .pointer (some ⟨w.heap.size, 0, none⟩), .pointer (some ⟨w.heap.size + 1, 0, none⟩), .bool false, .pointer (some ⟨pa, 0, none⟩), .pointer (some ⟨b8, 0, none⟩), .pointer (some ⟨pb, 0, none⟩), .int .i64 0, .int .i64 0, undef, undef, undef, .slice A xs.length cap, .int .i64 (xs.length : Int), .bool (decide (30 < (xs.length : Int))), undef, .tuple #[.pointer (some ⟨pa, 0, none⟩), .agg #[.slice Av R.length cv]], .slice A xs.length cap, .tuple #[.pointer (some ⟨pa, 0, none⟩), .agg #[.slice Av R.length cv]], .pointer (some ⟨pa, 0, none⟩), .agg #[.slice Av R.length cv], .pointer (some ⟨pa, 0, none⟩), .pointer (some ⟨pb, 0, none⟩), .pointer (some ⟨pa, 0, none⟩), .agg #[.int .u32 a.f0, .int .u32 a.f1], .slice (some ⟨k1, 0, none⟩) 1 1, .int .i64 0, .pointer (some ⟨pb, 0, none⟩), .agg #[.int .u32 b.f0, .int .u32 b.f1], .slice (some ⟨k2, 0, none⟩) 1 1, .int .i64 0, undef, undef, undef, undef, undef, undef, undef, undef, undef, undef, undef, undef, undef, undef, undef, undef, undef, undef, undef, undef, undef, undef, undef, undef, undef, undef, undef, undef, undef, undef, undef, undef, undef, undef, undef, undef, undef, undef, undef, undef, undef, undef, undef, undef, undef, undef, undef, undef, undef, undef], defers := [] } ∧ Mems w0 W pa ma La' pb mb Lb' ∧ (∀ p, 0 ≤ p → mget La' p = if p = a.f0 then a.f1 else mget La p) ∧ (∀ p, 0 ≤ p → mget Lb' p = if p = b.f0 then b.f1 else mget Lb p) ∧ Kp w0.heap.size w.heap.size b8 a b (.slice Av R.length cv) R W) ?_ ?_
    · go_region_held3 (fun w' => w'.cell? ⟨w.heap.size, 0, none⟩ = some (.int .u32 a.f0) ∧ w'.cell? ⟨w.heap.size, 1, none⟩ = some (.int .u32 a.f1) ∧ w'.cell? ⟨w.heap.size + 1, 0, none⟩ = some (.int .u32 b.f0) ∧ w'.cell? ⟨w.heap.size + 1, 1, none⟩ = some (.int .u32 b.f1) ∧ w'.cell? ⟨b8, 0, none⟩ = some (.slice Av R.length cv) ∧ Kp w0.heap.size w.heap.size b8 a b (.slice Av R.length cv) R w')
        ((refine Kp.S ?_; (repeat (first | with_reducible exact HK3.out | with_reducible exact HK3.out.drew | with_reducible exact HK4.out | with_reducible exact HK5.out | with_reducible refine Kp.alloc ?_ _ | with_reducible refine Kp.drew ?_)); done))
        ((first
          | (go_at_call 10
             (with_reducible refine (HS1.out _ _ (by first | exact heapD (alloc2 _ _ _) | exact heapD (MapKept.heap_alloc _ _).1 | exact heapD (heap2 _ _ _) | exact (MapKept.heap_alloc _ _).1 | exact heap2 _ _ _) (by (repeat (first | with_reducible exact Ext.refl _ _ | with_reducible exact (Ext.refl _ _).drew | with_reducible refine Ext.alloc ?_ _ | with_reducible refine Ext.drew ?_)); done)).mono ?_)
             rintro e w4 ⟨rfl, La', g1, g2, g3⟩
             obtain ⟨hk4, hzz⟩ := Mems.keepK HM3.out (by (repeat (first | with_reducible exact Ext.refl _ _ | with_reducible exact (Ext.refl _ _).drew | with_reducible refine Ext.alloc ?_ _ | with_reducible refine Ext.drew ?_)); done) HK3.out g3
             have HZ := Lib.hid hzz
             have HS2 := Lib.hid (fun (W : World) (g : Nat) (hg : W.heap[g]? = some (.cells #[.int .u32 b.f0, .int .u32 b.f1] 30 (0, 0))) (hx : Ext NoB w4 W) => storeX ((g1.quiet hx).swap) g b hg hb)
             have G1 := Lib.hid g1; have G2 := Lib.hid g2; have HK4 := Lib.hid hk4
             clear g1 g2 g3 hk4 hzz)
          | (go_at_call 10
             (with_reducible refine (HS2.out _ _ (by first | exact (MapKept.heap_alloc _ _).1 | exact HZ.out _ _ (heapD (alloc2 _ _ _)) | exact HZ.out _ _ (heapD (MapKept.heap_alloc _ _).1) | exact HZ.out _ _ (heapD (heap2 _ _ _)) | exact HZ.out _ _ (MapKept.heap_alloc _ _).1 | exact HZ.out _ _ (heap2 _ _ _)) (by (repeat (first | with_reducible exact Ext.refl _ _ | with_reducible exact (Ext.refl _ _).drew | with_reducible refine Ext.alloc ?_ _ | with_reducible refine Ext.drew ?_)); done)).mono ?_)
             rintro e w5 ⟨rfl, Lb', f1, f2, f3⟩
             obtain ⟨hk5, _⟩ := Mems.keepK G1.out.swap (by (repeat (first | with_reducible exact Ext.refl _ _ | with_reducible exact (Ext.refl _ _).drew | with_reducible refine Ext.alloc ?_ _ | with_reducible refine Ext.drew ?_)); done) HK4.out f3
             have F1 := Lib.hid f1; have F2 := Lib.hid f2; have HK5 := Lib.hid hk5
             clear f1 f2 f3 hk5)))
      all_goals exact ⟨rfl, _, _, La', Lb', rfl, F1.out.swap, G2.out, F2.out, HK5.out⟩
    · rintro e a' w5 ⟨rfl, k1, k2, La', Lb', rfl, hM5, hga, hgb, hK5⟩
      have hRd := Kd.R_reads' hK5.own
      have hRl : R.length ≤ 1000000 := by have := H4.out; omega
      have HR := Lib.hid (fun (x : S30) (W : World) (hx : Ext NoB w5 W) => rstore_any Av cv R x.f0 x.f1 W (C_ext k30_flat hRd.2.2 hx (fun _ _ s => s)) hRd.2.1 hRl)
      have HM5 := Lib.hid hM5; have HGA := Lib.hid hga; have HGB := Lib.hid hgb; have HK5 := Lib.hid hK5
      clear hRd hM5 hga hgb hK5
      have hd5 : w5.drew.heap.size = w5.heap.size := rfl
      go_wp2
      refine wp_mono (Q := fun e a' W => e = .normal ∧ ∃ (b12 b13 : Nat) (A12 : Option Addr) (c12 : Nat) (A13 : Option Addr) (c13 : Nat), a' = { tmps := #[.slice A xs.length cap, .agg #[.int .u32 a.f0, .int .u32 a.f1], .agg #[.int .u32 b.f0, .int .u32 b.f1], undef, .pointer (some ⟨w.heap.size, 0, none⟩), .pointer (some ⟨w.heap.size + 1, 0, none⟩), .bool false, .pointer (some ⟨pa, 0, none⟩), .pointer (some ⟨b8, 0, none⟩), .pointer (some ⟨pb, 0, none⟩), .int .i64 0, .int .i64 0, .pointer (some ⟨b12, 0, none⟩), .pointer (some ⟨b13, 0, none⟩), undef, .slice A xs.length cap, .int .i64 (xs.length : Int), .bool (decide (30 < (xs.length : Int))), undef, .tuple #[.pointer (some ⟨pa, 0, none⟩), .agg #[.slice Av R.length cv]], .slice A xs.length cap, .tuple #[.pointer (some ⟨pa, 0, none⟩), .agg #[.slice Av R.length cv]], .pointer (some ⟨pa, 0, none⟩), .agg #[.slice Av R.length cv], .pointer (some ⟨pa, 0, none⟩), .pointer (some ⟨pb, 0, none⟩), .pointer (some ⟨pa, 0, none⟩), .agg #[.int .u32 a.f0, .int .u32 a.f1], .slice (some ⟨k1, 0, none⟩) 1 1, .int .i64 0, .pointer (some ⟨pb, 0, none⟩), .agg #[.int .u32 b.f0, .int .u32 b.f1], .slice (some ⟨k2, 0, none⟩) 1 1, .int .i64 0, .agg #[.slice Av R.length cv], .pointer (some ⟨w.heap.size, 0, none⟩), .int .u32 a.f0, .pointer (some ⟨w.heap.size, 1, none⟩), .int .u32 a.f1, .agg #[.slice A12 (ins a.f0 a.f1 R).length c12], .agg #[.slice Av R.length cv], .pointer (some ⟨w.heap.size + 1, 0, none⟩), .int .u32 b.f0, .pointer (some ⟨w.heap.size + 1, 1, none⟩), .int .u32 b.f1, .agg #[.slice A13 (ins b.f0 b.f1 R).length c13], undef, undef, undef, undef, undef, undef, undef, undef, undef, undef, undef, undef, undef, undef, undef, undef, undef, undef, undef, undef, undef, undef, undef, undef, undef, undef, undef, undef, undef, undef, undef, undef, undef, undef, undef, undef, undef, undef], defers := [] } ∧ Ext NoB w5 W ∧ (ins a.f0 a.f1 R).length ≤ c12 ∧ (ins b.f0 b.f1 R).length ≤ c13 ∧
        W.heap[b12]? = some (.cells #[.slice A12 (ins a.f0 a.f1 R).length c12] 38 (0, 0)) ∧ W.heap[b13]? = some (.cells #[.slice A13 (ins b.f0 b.f1 R).length c13] 38 (0, 0)) ∧
        k30.C W A12 (ins a.f0 a.f1 R).length (ins a.f0 a.f1 R) ∧ k30.C W A13 (ins b.f0 b.f1 R).length (ins b.f0 b.f1 R)) ?_ ?_
      · go_region_held3 (fun w' => w'.cell? ⟨w.heap.size, 0, none⟩ = some (.int .u32 a.f0) ∧ w'.cell? ⟨w.heap.size, 1, none⟩ = some (.int .u32 a.f1) ∧ w'.cell? ⟨w.heap.size + 1, 0, none⟩ = some (.int .u32 b.f0) ∧ w'.cell? ⟨w.heap.size + 1, 1, none⟩ = some (.int .u32 b.f1) ∧ w'.cell? ⟨b8, 0, none⟩ = some (.slice Av R.length cv) ∧ Ext NoB w5 w')
          ((refine Kp.S5 HK5.out ?_; (repeat (first
        | with_reducible assumption
        | with_reducible exact Ext.refl _ _
        | with_reducible exact HC12.out
        | with_reducible exact HC13.out
        | with_reducible exact (MapKept.heap_alloc _ _).1
        | with_reducible exact alloc2 _ _ _
        | with_reducible refine Ext.alloc ?_ _
        | with_reducible refine Ext.drew ?_
        | with_reducible refine Ext.sub ?_ HB2.out
        | with_reducible refine Ext.sub ?_ HB1.out
        | with_reducible refine Ext.setCell ?_ _ _ (.inr ?_)
        | with_reducible refine put1 (u := .slice none 0 0) ?_ _
        | with_reducible refine C30_put (B := none) (n := 0) (c := 0) (t := 38) ?_ ?_ _
        | with_reducible refine C_alloc ?_ _
        | with_reducible refine C_sub ?_ HB2.out
        | with_reducible refine (Below.heap_setCell _ _ _ _ ?_).trans ?_
        | with_reducible refine (Below.heap_alloc _ _ _ ?_).trans ?_
        | omega
        | (dsimp only; omega)
        | (simp only [World.size_alloc, size_drew]; omega))); done))
          ((first
            | (go_at_call 19
               (with_reducible refine (HR.out a _ (by (repeat (first | with_reducible exact Ext.refl _ _ | with_reducible refine Ext.alloc ?_ _ | with_reducible refine Ext.drew ?_ | with_reducible refine Ext.sub ?_ HB1.out)); done)).mono ?_)
               rintro e w6 ⟨v12, rfl, h8, h9⟩
               obtain ⟨A12, c12, rfl, hle12, hC12⟩ := h8.reads
               have HB1 := Lib.hid h9; have HC12 := Lib.hid hC12; have hs1 := h9.size
               (try simp only [World.size_alloc, size_drew] at hs1)
               clear h8 h9 hC12
               (first | (have z1 : w6.heap[w5.heap.size]? = some (.cells #[.slice none 0 0] 38 (0, 0)) := (Ext.of_below (S := NoB) HB1.out).get (heapD (MapKept.heap_alloc _ _).1) (fun s => s)) | (have z1 : w6.heap[w5.heap.size]? = some (.cells #[.slice none 0 0] 38 (0, 0)) := (Ext.of_below (S := NoB) HB1.out).get (heapD (heap2 _ _ _)) (fun s => s)) | skip); (try have z1c := cell_of_row _ _ 0 _ _ _ z1); (try simp only [List.getElem?_toArray, List.getElem?_cons_zero] at z1c); (try have z1f := frozenPage z1 0); (try have z1n := World.new_ne _ _ z1c)
               (first | (have z2 : w6.heap[w5.heap.size + 1]? = some (.cells #[.slice none 0 0] 38 (0, 0)) := (Ext.of_below (S := NoB) HB1.out).get (heapD (alloc2 _ _ _)) (fun s => s)) | skip); (try have z2c := cell_of_row _ _ 0 _ _ _ z2); (try simp only [List.getElem?_toArray, List.getElem?_cons_zero] at z2c); (try have z2f := frozenPage z2 0); (try have z2n := World.new_ne _ _ z2c))
            | (go_at_call 19
               (with_reducible refine (HR.out b _ (by (repeat (first | with_reducible exact Ext.refl _ _ | with_reducible refine Ext.alloc ?_ _ | with_reducible refine Ext.drew ?_ | with_reducible refine Ext.sub ?_ HB1.out)); done)).mono ?_)
               rintro e w7 ⟨v13, rfl, h8, h9⟩
               obtain ⟨A13, c13, rfl, hle13, hC13⟩ := h8.reads
               have HB2 := Lib.hid h9; have HC13 := Lib.hid hC13; have hs2 := h9.size
               (try simp only [World.size_alloc, size_drew] at hs2)
               clear h8 h9 hC13
               (first | (have y1 : w7.heap[w5.heap.size]? = some (.cells #[.slice none 0 0] 38 (0, 0)) := (Ext.of_below (S := NoB) HB2.out).get z1 (fun s => s)) | (have y1 : w7.heap[w5.heap.size]? = some (.cells #[.slice none 0 0] 38 (0, 0)) := (Ext.of_below (S := NoB) HB2.out).get (((Ext.refl NoB _).alloc _).get z1 (fun s => s)) (fun s => s)) | (have y1 : w7.heap[w5.heap.size]? = some (.cells #[.slice none 0 0] 38 (0, 0)) := (Ext.of_below (S := NoB) HB2.out).get ((((Ext.refl NoB _).alloc _).alloc _).get z1 (fun s => s)) (fun s => s)) | skip); (try have y1c := cell_of_row _ _ 0 _ _ _ y1); (try simp only [List.getElem?_toArray, List.getElem?_cons_zero] at y1c); (try have y1f := frozenPage y1 0); (try have y1n := World.new_ne _ _ y1c); (try have y1a := fun o => ((Ext.refl NoB w7).alloc o).get y1 (fun s => s)); (try have y1ac := fun o => cell0 (y1a o)); (try have y1af := fun o => frozenPage (y1a o) 0); (try have y1s := fun v => newAfter (u := .slice none 0 0) (t := 38) y1 v); (try have y1sc := fun v => (y1s v).1); (try have y1sf := fun v => (y1s v).2)
               (first | (have y2 : w7.heap[w5.heap.size + 1]? = some (.cells #[.slice none 0 0] 38 (0, 0)) := (Ext.of_below (S := NoB) HB2.out).get z2 (fun s => s)) | (have y2 : w7.heap[w5.heap.size + 1]? = some (.cells #[.slice none 0 0] 38 (0, 0)) := (Ext.of_below (S := NoB) HB2.out).get (((Ext.refl NoB _).alloc _).get z2 (fun s => s)) (fun s => s)) | (have y2 : w7.heap[w5.heap.size + 1]? = some (.cells #[.slice none 0 0] 38 (0, 0)) := (Ext.of_below (S := NoB) HB2.out).get ((((Ext.refl NoB _).alloc _).alloc _).get z2 (fun s => s)) (fun s => s)) | skip); (try have y2c := cell_of_row _ _ 0 _ _ _ y2); (try simp only [List.getElem?_toArray, List.getElem?_cons_zero] at y2c); (try have y2f := frozenPage y2 0); (try have y2n := World.new_ne _ _ y2c); (try have y2a := fun o => ((Ext.refl NoB w7).alloc o).get y2 (fun s => s)); (try have y2ac := fun o => cell0 (y2a o)); (try have y2af := fun o => frozenPage (y2a o) 0); (try have y2s := fun v => newAfter (u := .slice none 0 0) (t := 38) y2 v); (try have y2sc := fun v => (y2s v).1); (try have y2sf := fun v => (y2s v).2)
               (first | (have y3 : w7.heap[w6.heap.size]? = some (.cells #[.slice none 0 0] 38 (0, 0)) := (Ext.of_below (S := NoB) HB2.out).get (MapKept.heap_alloc _ _).1 (fun s => s)) | (have y3 : w7.heap[w6.heap.size]? = some (.cells #[.slice none 0 0] 38 (0, 0)) := (Ext.of_below (S := NoB) HB2.out).get (heap2 _ _ _) (fun s => s)) | skip); (try have y3c := cell_of_row _ _ 0 _ _ _ y3); (try simp only [List.getElem?_toArray, List.getElem?_cons_zero] at y3c); (try have y3f := frozenPage y3 0); (try have y3n := World.new_ne _ _ y3c); (try have y3a := fun o => ((Ext.refl NoB w7).alloc o).get y3 (fun s => s)); (try have y3ac := fun o => cell0 (y3a o)); (try have y3af := fun o => frozenPage (y3a o) 0); (try have y3s := fun v => newAfter (u := .slice none 0 0) (t := 38) y3 v); (try have y3sc := fun v => (y3s v).1); (try have y3sf := fun v => (y3s v).2)
               (first | (have y4 : w7.heap[w6.heap.size + 1]? = some (.cells #[.slice none 0 0] 38 (0, 0)) := (Ext.of_below (S := NoB) HB2.out).get (alloc2 _ _ _) (fun s => s)) | skip); (try have y4c := cell_of_row _ _ 0 _ _ _ y4); (try simp only [List.getElem?_toArray, List.getElem?_cons_zero] at y4c); (try have y4f := frozenPage y4 0); (try have y4n := World.new_ne _ _ y4c); (try have y4a := fun o => ((Ext.refl NoB w7).alloc o).get y4 (fun s => s)); (try have y4ac := fun o => cell0 (y4a o)); (try have y4af := fun o => frozenPage (y4a o) 0); (try have y4s := fun v => newAfter (u := .slice none 0 0) (t := 38) y4 v); (try have y4sc := fun v => (y4s v).1); (try have y4sf := fun v => (y4s v).2))))
        all_goals
          refine ⟨rfl, _, _, A12, c12, A13, c13, rfl, (by assumption : _ ∧ _ ∧ _ ∧ _ ∧ _ ∧ Ext NoB w5 _).2.2.2.2.2, hle12, hle13, ?_, ?_, ?_, ?_⟩
        all_goals (repeat (first
        | with_reducible assumption
        | with_reducible exact Ext.refl _ _
        | with_reducible exact HC12.out
        | with_reducible exact HC13.out
        | with_reducible exact (MapKept.heap_alloc _ _).1
        | with_reducible exact alloc2 _ _ _
        | with_reducible refine Ext.alloc ?_ _
        | with_reducible refine Ext.drew ?_
        | with_reducible refine Ext.sub ?_ HB2.out
        | with_reducible refine Ext.sub ?_ HB1.out
        | with_reducible refine Ext.setCell ?_ _ _ (.inr ?_)
        | with_reducible refine put1 (u := .slice none 0 0) ?_ _
        | with_reducible refine C30_put (B := none) (n := 0) (c := 0) (t := 38) ?_ ?_ _
        | with_reducible refine C_alloc ?_ _
        | with_reducible refine C_sub ?_ HB2.out
        | with_reducible refine (Below.heap_setCell _ _ _ _ ?_).trans ?_
        | with_reducible refine (Below.heap_alloc _ _ _ ?_).trans ?_
        | omega
        | (dsimp only; omega)
        | (simp only [World.size_alloc, size_drew]; omega)))
      · rintro e a' w8 ⟨rfl, b12, b13, A12, c12, A13, c13, rfl, hx8, hl12, hl13, h12, h13, hC12, hC13⟩
        have hM8 := HM5.out.quiet hx8
        have hFX : Fits (mget La') (ins a.f0 a.f1 R) := fits_ins H3.out ha.1.1 HGA.out
        have hFY : Fits (mget Lb') (ins b.f0 b.f1 R) := fits_ins H3.out hb.1.1 (fun p h0 => by rw [HGB.out p h0, HG.out p h0])
        have hlX := len_ins a.f0 a.f1 H3.out.1
        have hlY := len_ins b.f0 b.f1 H3.out.1
        have hiff := fits_iff hM8.a.2 hM8.b.2 hFX hFY
        generalize ins a.f0 a.f1 R = X at *
        generalize ins b.f0 b.f1 R = Y at *
        have hc12 := cell0 h12
        have hc13 := cell0 h13
        have hlX6 : X.length ≤ 1000000 := by have := H4.out; omega
        have hlY6 : Y.length ≤ 1000000 := by have := H4.out; omega
        have HM8 := Lib.hid hM8; have HFX := Lib.hid hFX; have HFY := Lib.hid hFY; have HIFF := Lib.hid hiff; have HC12 := Lib.hid hC12; have HC13 := Lib.hid hC13; have HX8 := Lib.hid hx8
        clear hM8 hFX hFY hiff hC12 hC13 hx8 h12 h13 hlX hlY HM5 HGA HGB HK5 HR HS1 HM3 HK3 HG
        go_wp2_with (first
          | (go_at_call 23; (with_reducible refine (rcells_any A12 c12 X A13 c13 Y w8 HC12.out HC13.out hlX6).mono ?_); rintro e w9 ⟨bc, rfl, g1, g2⟩
             have E9 := Ext.of_below (S := NoB) g2
             have hc129 := E9.cellNo hc12; have hc139 := E9.cellNo hc13
             have HM9 := Lib.hid (HM8.out.quiet E9); have HC129 := Lib.hid (C_ext k30_flat HC12.out E9 (fun _ _ s => s)); have HC139 := Lib.hid (C_ext k30_flat HC13.out E9 (fun _ _ s => s)); have HBC := Lib.hid (g1.trans HIFF.out)
             clear g1 g2 E9)
          | (go_at_call 17; refine (num_any 0 _).mono ?_; rintro e w' ⟨rfl, rfl⟩)
          | (go_at_call 20; first
            | (have hi := is_any pa ma La' A12 c12 X 0 99 w9 HM9.out.a HC129.out hl12 HFX.out hlX6 (by decide) (by decide); (with_reducible refine hi.mono ?_); clear hi; rintro e w10 ⟨rfl, g2⟩
               have E10 := Ext.of_below (S := NoB) g2
               have hc1310 := E10.cellNo hc139
               have HM10 := Lib.hid (HM9.out.quiet E10); have HC1310 := Lib.hid (C_ext k30_flat HC139.out E10 (fun _ _ s => s))
               clear g2 E10)
            | (have hi := is_any pb mb Lb' A13 c13 Y 0 99 w10 HM10.out.b HC1310.out hl13 HFY.out hlY6 (by decide) (by decide); (with_reducible refine hi.mono ?_); clear hi; rintro e w11 ⟨rfl, g2⟩
               have HM11 := Lib.hid (HM10.out.quiet (Ext.of_below (S := NoB) g2))
               clear g2))
          | (go_at_call 12; first
            | ((with_reducible refine (same_any pa ma pb mb La' Lb' w11 HM11.out.a HM11.out.b).mono ?_); rintro e w12 ⟨b1, rfl, g1, g2⟩
               obtain rfl : b1 = bc := Bool.eq_iff_iff.2 (g1.trans HBC.out.symm)
               have HM12 := Lib.hid (HM11.out.quiet (Ext.of_below (S := NoB) g2))
               clear g1 g2)
            | ((with_reducible refine (same_any pb mb pa ma Lb' La' w12 HM12.out.b HM12.out.a).mono ?_); rintro e w13 ⟨b2, rfl, g1, g2⟩
               obtain rfl : b2 = b1 := Bool.eq_iff_iff.2 ((g1.trans ⟨fun h p h0 => (h p h0).symm, fun h p h0 => (h p h0).symm⟩).trans HBC.out.symm)
               have HM13 := Lib.hid (HM12.out.quiet (Ext.of_below (S := NoB) g2))
               clear g1 g2))
          | (go_at_call 8; (with_reducible refine (works_any w13).mono ?_); rintro e w14 ⟨rfl, g2⟩
             have HM14 := Lib.hid (HM13.out.quiet (Ext.of_below (S := NoB) g2))
             clear g2))
        go_ret
        exact ⟨rfl, (HXA.out.trans' (Ext.of_below (S := NoB) HM14.out.bel)).below⟩
end Go.Proofs.Ytgccjmjengfhbaa
end
section
set_option maxRecDepth 100000
namespace Go.Proofs.Ytgccjmjengfhbaa
open Go.ChangeShapes Go.WideShapes Go.ChangeAt Go.RowKit Go.Deep Go.Proofs.YtgccjmjengfhbaaW.PrintWords
open Go.Proofs.Ytgccjmjengfhbaa.PMemoryStores (S30 k30 k30_mk)

/-- An argument that is a cell. -/
theorem open_cell {H : Type} {enc : TypeId × Value → H} {w : World} {b0 : Nat} {v : Value} {d : DataW H} {p : List MemPlace} (hv : Value.okWide Try.prog w .any b0 30 v) (h : DataW.Trod enc Try.prog w 0 (fun _ => true) true 30 v d p) :
    ∃ c : S30, v = .agg #[.int .u32 c.f0, .int .u32 c.f1] ∧ okCell c ∧ p = [] := by
  obtain ⟨cs, rfl, hsz⟩ := okWide_struct Try.underlying30 hv
  obtain ⟨fuel, hf⟩ := h
  obtain ⟨y0, y1, n, hx, hl, h0, h1⟩ := trod_struct2 Try.underlying30 hf
  obtain ⟨n0, e0, rfl, w0⟩ := DataW.trod_int Try.underlying28 h0
  obtain ⟨n1, e1, rfl, w1⟩ := DataW.trod_int Try.underlying28 h1
  have hc0 : Try.prog.cellsOf 28 = 1 := by kernel_rfl
  have hc1 : Try.prog.cellsOf 30 = 2 := by kernel_rfl
  have b0 := (Lit.wf_int_iff .u32 n0).1 w0
  have b1 := (Lit.wf_int_iff .u32 n1).1 w1
  have c0 : 0 ≤ n0 := b0.1
  have c1 : n0 ≤ 4294967295 := b0.2
  have c2 : 0 ≤ n1 := b1.1
  have c3 : n1 ≤ 4294967295 := b1.2
  simp only [hc0] at e0 e1
  rw [hc1] at hsz
  obtain ⟨l⟩ := cs
  match l, hsz with
  | [a, b], _ =>
    simp [Value.cells] at e0 e1
    subst e0; subst e1
    refine ⟨⟨n0, n1⟩, rfl, ⟨⟨c0, by show n0 < _; omega⟩, c2, by show n1 < _; omega⟩, ?_⟩
    injection hx with _ hp
end Go.Proofs.Ytgccjmjengfhbaa
end
