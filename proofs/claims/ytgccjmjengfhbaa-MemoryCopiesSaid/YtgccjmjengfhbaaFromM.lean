/- Part of the proofs over 'linesman/memory': lemmas and walks. Written by merge.py from the templates of the repo. -/
import Derived.Test.YtgccjmjengfhbaaRefM
import Derived.Test.YtgccjmjengfhbaaKitB
set_option linter.unusedVariables false
set_option linter.unusedSimpArgs false
section
set_option maxRecDepth 100000
namespace Go.Proofs.Ytgccjmjengfhbaa
open Go.RowKit Go.Shelf Go.Proofs Go.Proofs.YtgccjmjengfhbaaW.PrintWords
open Go.Proofs.Ytgccjmjengfhbaa.PMemoryStores (S30 k30 k30_mk at_T30 rd_T30)

theorem C_keep {w w' : World} {A : Option Addr} {xs : List S30} {B : Nat} (h : k30.C w A xs.length xs) (hk : KeepData B w w') : k30.C w' A xs.length xs :=
  C_same k30_flat h (fun ad hne e => by obtain ⟨_, _, _, h1⟩ := C_block h (by decide) hne e; rw [h1, hk.cells h1])
theorem C_lt {w : World} {A : Option Addr} {xs : List S30} (h : k30.C w A xs.length xs) : ∀ ad, xs ≠ [] → A = some ad → ad.block < w.heap.size := fun ad hne e => by
  obtain ⟨_, _, _, h1⟩ := C_block h (by decide) hne e; exact (Array.getElem?_eq_some_iff.1 h1).1

/-- What MemoryFrom's loops leave alone: blocks below N0. -/
structure FI (w : World) (N0 : Nat) (many : Int) (Cs : List S30) (b10 : Nat) (A5 : Option Addr) (c5 : Nat) (Bs : Nat) (A3 : Option Addr) (c3 : Nat) (wr : World) : Prop where
  ext : Ext NoB w wr
  many_ : wr.heap[w.heap.size]? = some (.cells #[.int .i64 many] 3 (0, 0))
  res : wr.heap[w.heap.size + 1]? = some (.cells #[.bool false] 4 (0, 0))
  all_ : wr.heap[b10]? = some (.cells #[.slice A5 Cs.length c5] 22 (0, 0))
  seq : wr.heap[Bs]? = some (.cells #[.slice A3 Cs.length c3] 22 (0, 0))
  C5 : k30.C wr A5 Cs.length Cs
  C3 : k30.C wr A3 Cs.length Cs
  l0 : w.heap.size + 1 < N0
  l1 : b10 < N0
  l2 : Bs < N0
  l5 : ∀ ad, Cs ≠ [] → A5 = some ad → ad.block < N0
  l3 : ∀ ad, Cs ≠ [] → A3 = some ad → ad.block < N0
section
variable {w : World} {N0 : Nat} {many : Int} {Cs : List S30} {b10 : Nat} {A5 : Option Addr} {c5 : Nat} {Bs : Nat} {A3 : Option Addr} {c3 : Nat} {wr w' : World}
theorem FI.keep {B : Nat} (h : FI w N0 many Cs b10 A5 c5 Bs A3 c3 wr) (hk : KeepData B wr w') (hB : w.heap.size ≤ B) : FI w N0 many Cs b10 A5 c5 Bs A3 c3 w' :=
  ⟨hk.ext h.ext hB, hk.cells h.many_, hk.cells h.res, hk.cells h.all_, hk.cells h.seq, C_keep h.C5 hk, C_keep h.C3 hk, h.l0, h.l1, h.l2, h.l5, h.l3⟩
theorem FI.move {S : Nat → Prop} (h : FI w N0 many Cs b10 A5 c5 Bs A3 c3 wr) (hx : Ext S wr w') (hS : ∀ k, S k → N0 ≤ k) : FI w N0 many Cs b10 A5 c5 Bs A3 c3 w' := by
  have hn : ∀ k, k < N0 → ¬ S k := fun k hk s => by have := hS k s; omega
  have hl := h.l0
  have hb : ∀ k, k < wr.heap.size → k < N0 → w'.heap[k]? = wr.heap[k]? := fun k h1 h2 => hx.block k h1 (hn k h2)
  refine ⟨h.ext.trans hx (fun k hk s => absurd s (hn k (by omega))), hx.get h.many_ (hn _ (by omega)), hx.get h.res (hn _ h.l0), hx.get h.all_ (hn _ h.l1), hx.get h.seq (hn _ h.l2), ?_, ?_, h.l0, h.l1, h.l2, h.l5, h.l3⟩
  · exact C_same k30_flat h.C5 (fun ad hne e => hb _ (C_lt h.C5 ad hne e) (h.l5 ad hne e))
  · exact C_same k30_flat h.C3 (fun ad hne e => hb _ (C_lt h.C3 ad hne e) (h.l3 ad hne e))
end
end Go.Proofs.Ytgccjmjengfhbaa
end
section
set_option maxRecDepth 100000
namespace Go.Proofs.Ytgccjmjengfhbaa
open Go.RowKit Go.Shelf Go.Proofs Go.Proofs.YtgccjmjengfhbaaW.PrintWords
open Go.Proofs.Ytgccjmjengfhbaa.PMemoryStores (S30 k30 k30_mk at_T30 rd_T30)

/-- How many rounds the first turn has. -/
def turns (len : Nat) (many : Int) : Int := min (len : Int) (max 1 many)
theorem turns_full {len : Nat} {many : Int} (h : ∀ n, 1 ≤ n → n ≤ len → (n : Int) < many) : turns len many = len := by
  unfold turns
  rcases Nat.eq_zero_or_pos len with rfl | hp
  · simp; omega
  · have := h len hp (Nat.le_refl _); omega
theorem turns_stop {len n : Nat} {many : Int} (h1 : 1 ≤ n) (h2 : n ≤ len) (h3 : many ≤ n) (h4 : ∀ m, 1 ≤ m → m < n → (m : Int) < many) : turns len many = n := by
  unfold turns
  by_cases h5 : n = 1
  · subst h5; omega
  · have := h4 (n - 1) (by omega) (by omega); omega

set_option maxHeartbeats 8000000 in
theorem memoryFrom_any (A : Option Addr) (cap : Nat) (xs : List S30) (lo many : Int) (w : World) (hC : k30.C w A xs.length xs) (hok : ∀ c ∈ xs, okCell c) (hlo : 0 ≤ lo) (hlo2 : lo < 4294967296) (hlen : xs.length ≤ 9223372036854775807) :
    Calls Try.prog 4 #[.slice A xs.length cap, .int .u32 lo, .int .i64 many] w fun e w' => e = .returned (.bool true) ∧ Below w.heap.size w w' := by
  have HC := Lib.hid hC; have HOK := Lib.hid hok
  clear hC hok
  refine (callsIn_wide (n := 4)).1 ?_
  refine callsIn_of_wp_marks Try.func4 rfl trivial ?_ rfl
  simp only [Try.ntmps4, List.size_toArray, List.length_cons, List.length_nil, Nat.reduceAdd, Nat.reduceSub, Array.replicate_succ, Array.replicate_zero, List.push_toArray, List.append_toArray, List.nil_append, List.cons_append]
  have hnil := isNil
  have hx0 : Ext NoB w ((w.alloc (.cells #[.int .i64 many] 3 (0, 0))).alloc (.cells #[.bool false] 4 (0, 0))) := ((Ext.refl _ _).alloc _).alloc _
  have hb5 : ((w.alloc (.cells #[.int .i64 many] 3 (0, 0))).alloc (.cells #[.bool false] 4 (0, 0))).heap[w.heap.size]? = some (.cells #[.int .i64 many] 3 (0, 0)) := ((Ext.refl NoB _).alloc _).get (MapKept.heap_alloc w _).1 (fun s => s)
  have hb6 : ((w.alloc (.cells #[.int .i64 many] 3 (0, 0))).alloc (.cells #[.bool false] 4 (0, 0))).heap[w.heap.size + 1]? = some (.cells #[.bool false] 4 (0, 0)) := alloc2 _ _ _
  have HX0 := Lib.hid hx0; have HB5 := Lib.hid hb5; have HB6 := Lib.hid hb6
  clear hx0 hb5 hb6
  by_cases hl30 : 30 < xs.length
  · gi_wp2_with (fail)
    generalize hw0 : (w.alloc (.cells #[.int .i64 many] 3 (0, 0))).alloc (.cells #[.bool false] 4 (0, 0)) = w0 at HX0 HB5 HB6 ⊢
    clear hw0
    refine ⟨trivial, (callsIn_wide.2 (works_any w0)).mono ?_⟩
    rintro e w1 ⟨rfl, hb⟩
    have hc6 := (Ext.of_below (S := NoB) hb).get HB6.out (fun s => s)
    have hce := cell_of_row w1 _ 0 _ _ _ hc6
    simp only [List.getElem?_toArray, List.getElem?_cons_zero] at hce
    have hfr := frozenPage hc6 0
    have HX1 := Lib.hid (HX0.out.sub hb)
    have HC6 := Lib.hid hc6
    clear hb hc6 HX0 HB5 HB6
    gi_wp2
    have hblk := blk_put HC6.out 0 (.bool true)
    have hX5 := HX1.out.setCell ⟨w.heap.size + 1, 0, none⟩ (.bool true) (.inr (Nat.le_succ _))
    generalize w1.setCell ⟨w.heap.size + 1, 0, none⟩ (.bool true) = w5 at hblk hX5 ⊢
    refine marksPost_none rfl (results_cell1 rfl _ _ rfl (v := .bool true) ?_ Try.isAgg4) ⟨rfl, hX5.below⟩
    have := cell_of_row w5 _ 0 _ _ _ hblk
    simpa using this
  · gi_wp2_with (fail)
    generalize hw0 : (w.alloc (.cells #[.int .i64 many] 3 (0, 0))).alloc (.cells #[.bool false] 4 (0, 0)) = w0 at HX0 HB5 HB6 ⊢
    have hw0s : w.heap.size + 2 ≤ w0.heap.size := by rw [← hw0]; simp
    clear hw0
    have HCC := Lib.hid (C_below (wr := w0) HC.out HX0.out.below)
    refine ⟨trivial, (callsIn_wide.2 (played_any A cap xs w0 HCC.out HOK.out (by omega))).mono ?_⟩
    rintro e w1 ⟨pa, ma, La, v, R, rfl, h1, h2, h3, h4⟩
    obtain ⟨Av, cv, rfl, hRc, hRC⟩ := h2.reads
    have H1 := Lib.hid h1; have H2 := Lib.hid h2; have H3 := Lib.hid h3; have H4 := Lib.hid h4
    clear h1 h2 h3 h4 hRc hRC
    gi_wp2_with (fail)
    have hx2 := (Ext.refl NoB w1).alloc (.cells #[.slice Av R.length cv] 38 (0, 0))
    have hb8 := (MapKept.heap_alloc w1 (.cells #[.slice Av R.length cv] 38 (0, 0))).1
    generalize hw2 : w1.alloc (.cells #[.slice Av R.length cv] 38 (0, 0)) = w2 at hx2 hb8 ⊢
    generalize hb8e : w1.heap.size = b8 at hb8 ⊢
    have hM2 := H1.out.quiet hx2
    have hO2 := H2.out.ext hx2 (fun _ _ _ _ s => s)
    have hB5 := hx2.get ((Ext.of_below (S := NoB) H1.out.bel).get HB5.out (fun s => s)) (fun s => s)
    have hB6 := hx2.get ((Ext.of_below (S := NoB) H1.out.bel).get HB6.out (fun s => s)) (fun s => s)
    have hwx2 : Ext NoB w w2 := (HX0.out.sub H1.out.bel).trans' hx2
    have HM2 := Lib.hid hM2; have HO2 := Lib.hid hO2; have HB52 := Lib.hid hB5; have HB62 := Lib.hid hB6; have HX2 := Lib.hid hwx2; have HB8 := Lib.hid hb8
    clear hw2 hb8e hx2 hM2 hO2 hB5 hB6 hwx2 hb8 HX0 HB5 HB6 H1 H2 HCC
    refine ⟨trivial, (callsIn_wide.2 (from_call pa ma La lo w2 HM2.out.a hlo hlo2)).mono ?_⟩
    rintro e w3 ⟨Bs, A3, c3, ks, rfl, h1, h2, h3, h5, h6, h7, h8⟩
    have hfc := fits_cells HM2.out.a.2 H3.out h1 h2 lo
    have hlenC : (allCells (mget La) lo ks).length ≤ 30 := by rw [hfc]; exact Nat.le_trans (List.length_filter_le _ _) (by have := H4.out; omega)
    have HK1 := Lib.hid h1; have HK2 := Lib.hid h2; have HBs := Lib.hid h3; have HCs := Lib.hid h5; have HFC := Lib.hid hfc
    have hM3 := HM2.out.quiet (Ext.of_below h8)
    have hok2 : ∀ c ∈ ([⟨lo, 9⟩, ⟨4294967295, 8⟩] : List S30), okCell c := by
      intro c hc
      simp only [List.mem_cons, List.not_mem_nil, or_false] at hc
      rcases hc with rfl | rfl
      · exact ⟨⟨hlo, hlo2⟩, by show (0 : Int) ≤ 9; decide, by show (9 : Int) < 4294967296; decide⟩
      · exact ⟨⟨by show (0 : Int) ≤ 4294967295; decide, by show (4294967295 : Int) < 4294967296; decide⟩, by show (0 : Int) ≤ 8; decide, by show (8 : Int) < 4294967296; decide⟩
    have HS := Lib.hid (store1 hM3 [⟨lo, 9⟩, ⟨4294967295, 8⟩] hok2 (by simp))
    have HX8 := Lib.hid h8; have HM3 := Lib.hid hM3; have H67 := Lib.hid (And.intro h6 h7)
    clear h1 h2 h3 h5 h6 h7 h8 hfc hM3 hok2
    generalize allCells (mget La) lo ks = Cs at HBs HCs HFC hlenC
    have hb83 := (Ext.of_below (S := NoB) HX8.out).get HB8.out (fun s => s)
    have hO3 := HO2.out.ext (Ext.of_below (S := NoB) HX8.out) (fun _ _ _ _ s => s)
    have hB53 := (Ext.of_below (S := NoB) HX8.out).get HB52.out (fun s => s)
    have hB63 := (Ext.of_below (S := NoB) HX8.out).get HB62.out (fun s => s)
    have hnf : ∀ (j : Nat) (cs : Array Value) (t : TypeId), w3.heap[j]? = some (.cells cs t (0, 0)) → t ≠ 64 → ¬ foot ma La j := fun j cs t h1 h2 => HM3.out.a.2.not_foot h1 h2
    have HB83 := Lib.hid hb83; have HO3 := Lib.hid hO3; have HB53 := Lib.hid hB53; have HB63 := Lib.hid hB63; have HNF := Lib.hid hnf
    clear hb83 hO3 hB53 hB63 hnf
    gi_wp2_with (refine ⟨trivial, ?_⟩; first
      | (gi_at_call 10; (refine (callsIn_wide.2 HS.out).mono ?_; rintro e w4 ⟨rfl, La2, h1, h2, h3⟩; have hq8 := h3.get HB83.out (HNF.out _ _ _ HB83.out (by decide)); have hcq8 := cell_of_row w4 b8 0 _ _ _ hq8; simp only [List.getElem?_toArray, List.getElem?_cons_zero] at hcq8; have HO4 := Lib.hid (HO3.out.ext h3 (fun j cs _ hc => HNF.out _ _ _ hc (by decide))); have HB54 := Lib.hid (h3.get HB53.out (HNF.out _ _ _ HB53.out (by decide))); have HB64 := Lib.hid (h3.get HB63.out (HNF.out _ _ _ HB63.out (by decide))); have HM4 := Lib.hid h1; have HX4 := Lib.hid h3; clear h1 h2 h3 hq8))
      | (gi_at_call 17; refine (callsIn_wide.2 (num_any 0 _)).mono ?_; rintro e w' ⟨rfl, rfl⟩))
    obtain ⟨Av2, cv2, hv2, hRc, hRC⟩ := HO4.out.reads
    injection hv2 with e1 _ e2
    subst e1; subst e2
    refine ⟨trivial, (callsIn_wide.2 (rfrom_any Av cv R lo w4 hRC hRc (by have := H4.out; omega) H3.out.1)).mono ?_⟩
    rintro e w5 ⟨A5, c5, rfl, h1, h2⟩
    rw [← HFC.out] at h1 ⊢
    have H5 := Lib.hid h1; have HX5 := Lib.hid h2
    clear h1 h2 hRc hRC
    have hx4w : Ext NoB w w4 := (HX2.out.sub HX8.out).trans HX4.out (fun k hk hf => absurd (HM3.out.fa k hf) (by omega))
    have hbs4 := HX4.out.get HBs.out (fun hf => by have := HM2.out.a.2.foot_lt hf; have := H67.out.1; omega)
    have hc34 : k30.C w4 A3 Cs.length Cs := C_ext k30_flat HCs.out HX4.out (fun ad e hf => by have := HM2.out.a.2.foot_lt hf; have := H67.out.2 ad e; omega)
    have hx5 := Ext.of_below (S := NoB) HX5.out
    have hFI0 : FI w (w5.heap.size + 1) many Cs w5.heap.size A5 c5 Bs A3 c3 ((w5.alloc (.cells #[.slice A5 Cs.length c5] 22 (0, 0))).alloc (.cells #[.int .i64 0] 3 (0, 0))) := by
      have hxa := ((Ext.refl NoB w5).alloc (.cells #[.slice A5 Cs.length c5] 22 (0, 0))).alloc (.cells #[.int .i64 0] 3 (0, 0))
      have hxb := (Ext.refl NoB (w5.alloc (.cells #[.slice A5 Cs.length c5] 22 (0, 0)))).alloc (.cells #[.int .i64 0] 3 (0, 0))
      have q5 := hx5.get HB54.out (fun s => s)
      have q6 := hx5.get HB64.out (fun s => s)
      have qs := hx5.get hbs4 (fun s => s)
      have c3' := C_ext k30_flat hc34 hx5 (fun _ _ s => s)
      have l6 := (Array.getElem?_eq_some_iff.1 q6).1
      have ls := (Array.getElem?_eq_some_iff.1 qs).1
      exact ⟨(hx4w.trans' hx5).trans' hxa, hxa.get q5 (fun s => s), hxa.get q6 (fun s => s), hxb.get (MapKept.heap_alloc w5 _).1 (fun s => s), hxa.get qs (fun s => s), C_ext k30_flat H5.out hxa (fun _ _ s => s), C_ext k30_flat c3' hxa (fun _ _ s => s),
        by omega, by omega, by omega, fun ad hne e => by have := C_lt H5.out ad hne e; omega, fun ad hne e => by have := C_lt c3' ad hne e; omega⟩
    have hbt0 : ((w5.alloc (.cells #[.slice A5 Cs.length c5] 22 (0, 0))).alloc (.cells #[.int .i64 0] 3 (0, 0))).heap[w5.heap.size + 1]? = some (.cells #[.int .i64 0] 3 (0, 0)) := alloc2 _ _ _
    have HFI := Lib.hid hFI0; have HBT := Lib.hid hbt0
    clear hx4w hbs4 hc34 hx5 hFI0 hbt0
    gi_wp2
    generalize hw6 : (w5.alloc (.cells #[.slice A5 Cs.length c5] 22 (0, 0))).alloc (.cells #[.int .i64 0] 3 (0, 0)) = w6 at HFI HBT ⊢
    generalize hb10 : w5.heap.size = b10 at HFI HBT ⊢
    clear hw6
    have hct := cell_of_row w6 (b10 + 1) 0 _ _ _ HBT.out
    simp only [List.getElem?_toArray, List.getElem?_cons_zero] at hct
    refine wpIn_loop_rounds 3 ?_
    rw [roundsIn_succ]
    gi_wp2
    have hx7 := (Ext.refl NoB w6).alloc (.cells #[.int .i64 0] 3 (0, 0))
    have hbn := (MapKept.heap_alloc w6 (.cells #[.int .i64 0] 3 (0, 0))).1
    generalize hw7 : w6.alloc (.cells #[.int .i64 0] 3 (0, 0)) = w7 at hx7 hbn ⊢
    have hI7 := HFI.out.move hx7 (fun _ s => s.elim)
    have hbt7 := hx7.get HBT.out (fun s => s)
    have hbnl : b10 + 1 < w6.heap.size := (Array.getElem?_eq_some_iff.1 HBT.out).1
    have hN7 : w6.heap.size < w7.heap.size := (Array.getElem?_eq_some_iff.1 hbn).1
    generalize hbne : w6.heap.size = bn at hbn hbnl hN7 ⊢
    clear hw7 hbne hct
    have hit := from_iter 3 Bs (by decide) A3 c3 Cs w7 hI7.seq hI7.C3
    have hFp : ∀ k, sliceFp Bs A3 Cs k → (∃ o, w7.heap[k]? = some o ∧ isBook o = false) ∧ k < b10 + 1 := by
      rintro k (rfl | ⟨hne, ad, e, rfl⟩)
      · exact ⟨⟨_, hI7.seq, rfl⟩, hI7.l2⟩
      · obtain ⟨_, _, _, h⟩ := C_block hI7.C3 (by decide) hne e; exact ⟨⟨_, h, rfl⟩, hI7.l3 ad hne e⟩
    have hl0 := hI7.l0
    have HI7 := Lib.hid hI7; have HBT7 := Lib.hid hbt7; have HBN := Lib.hid hbn
    clear hI7 hbt7 hbn hx7
    refine wp_rfDq (F := FW) (n := 4) rfl (by decide) (gf := 35) (lb := #[.pointer (some ⟨Bs, 0, none⟩)]) rfl trivial (enters_of Try.func35 (by kernel_rfl) rfl) hit (fun k hk => (hFp k hk).1) (fun _ => rfl)
      (fun pre W => FI w (b10 + 1) many Cs b10 A5 c5 Bs A3 c3 W ∧ W.heap[b10 + 1]? = some (.cells #[.int .i64 0] 3 (0, 0)) ∧ W.heap[bn]? = some (.cells #[.int .i64 (pre.length : Int)] 3 (0, 0)) ∧ ∀ m : Nat, 1 ≤ m → m ≤ pre.length → (m : Int) < many)
      (fun pre W => FI w (b10 + 1) many Cs b10 A5 c5 Bs A3 c3 W ∧ W.heap[b10 + 1]? = some (.cells #[.int .i64 0] 3 (0, 0)) ∧ W.heap[bn]? = some (.cells #[.int .i64 (pre.length : Int)] 3 (0, 0)) ∧ many ≤ pre.length ∧ ∀ m : Nat, 1 ≤ m → m < pre.length → (m : Int) < many)
      (fun W => FI w (b10 + 1) many Cs b10 A5 c5 Bs A3 c3 W ∧ W.heap[b10 + 1]? = some (.cells #[.int .i64 0] 3 (0, 0)) ∧ W.heap[bn]? = some (.cells #[.int .i64 (turns Cs.length many)] 3 (0, 0)))
      ?hI ?hIx ⟨HI7.out, HBT7.out, HBN.out, fun m h1 h2 => by simp at h2; omega⟩ ?hF1 ?hF2 ?asg ?assign ?body ?fin
    case hI => exact fun s Wa Wb ⟨h1, h2, h3, h4⟩ hk => ⟨h1.keep hk (by omega), hk.cells h2, hk.cells h3, h4⟩
    case hIx => exact fun s Wa Wb ⟨h1, h2, h3, h4⟩ hk => ⟨h1.keep hk (by omega), hk.cells h2, hk.cells h3, h4⟩
    case hF1 => rintro ys W rfl ⟨h1, h2, h3, h4⟩; exact ⟨h1, h2, by rw [turns_full h4]; exact h3⟩
    case hF2 =>
      rintro pre x W ⟨post, hok⟩ ⟨h1, h2, h3, h4, h5⟩
      refine ⟨h1, h2, ?_⟩
      rw [turns_stop (n := (pre ++ [x]).length) (by simp) (by rw [hok]; simp) h4 h5]
      exact h3
    case assign =>
      rintro l pre x W K hok hK
      simp only [pairArgs]
      gi_wp2
      exact hK
    case body =>
      rintro l pre x Wa ⟨post, hok⟩ hl hlr ⟨h1, h2, h3, h4⟩ hfp hsz2
      have hpl : pre.length < Cs.length := by rw [hok]; simp
      obtain ⟨ad, e, c0, c1⟩ := cell_at h1.C5 pre.length hpl
      subst e
      have hget : Cs[pre.length] = x := by simp [hok]
      rw [hget] at c0 c1
      have q1 := cell_of_row Wa w.heap.size 0 _ _ _ h1.many_
      have q2 := cell_of_row Wa (b10 + 1) 0 _ _ _ h2
      have q3 := cell_of_row Wa bn 0 _ _ _ h3
      have q4 := cell_of_row Wa b10 0 _ _ _ h1.all_
      have f3 := frozenPage h3 0
      simp only [List.getElem?_toArray, List.getElem?_cons_zero] at q1 q2 q3 q4
      have HH1 := Lib.hid h1; have HH2 := Lib.hid h2; have HH3 := Lib.hid h3; have HH4 := Lib.hid h4; have HOK2 := Lib.hid hok
      clear h1 h2 h3 h4 hok hget hfp hlr
      obtain ⟨f0, f1⟩ := x
      dsimp only at c0 c1
      by_cases hmany : many ≤ (pre.length : Int) + 1
      · gi_wp2
        have hE : Ext (fun j => j = bn) Wa (Wa.setCell ⟨bn, 0, none⟩ (.int .i64 ((pre.length : Int) + 1))) := (Ext.refl _ _).setCell _ _ (.inl rfl)
        have hY : YKeep w7.heap.size (Priv (sliceFp Bs A3 Cs) (w7.heap.size + 2) 2) Wa (Wa.setCell ⟨bn, 0, none⟩ (.int .i64 ((pre.length : Int) + 1))) := by
          refine YKeep.of_ext hE (fun k hk => ?_) (fun k o ho e => .inl (by subst e; rw [HH3.out] at ho; cases ho; rfl))
          rcases hk with hk | ⟨k1, k2⟩
          · have := (hFp k hk).2; exact ⟨by omega, by omega⟩
          · exact ⟨by omega, by omega⟩
        have hI9 := HH1.out.move hE (fun k e => by omega)
        have h29 := hE.get HH2.out (by omega)
        have h39 : (Wa.setCell ⟨bn, 0, none⟩ (.int .i64 ((pre.length : Int) + 1))).heap[bn]? = some (.cells #[.int .i64 ((pre ++ [⟨f0, f1⟩] : List S30).length : Int)] 3 (0, 0)) := by
          have := blk_put HH3.out 0 (.int .i64 ((pre.length : Int) + 1))
          simpa using this
        exact ⟨hY, rfl, hI9, h29, h39, by simp; omega, fun m m1 m2 => HH4.out m m1 (by simp at m2; omega)⟩
      · gi_wp2
        have hE : Ext (fun j => j = bn) Wa (Wa.setCell ⟨bn, 0, none⟩ (.int .i64 ((pre.length : Int) + 1))) := (Ext.refl _ _).setCell _ _ (.inl rfl)
        have hY : YKeep w7.heap.size (Priv (sliceFp Bs A3 Cs) (w7.heap.size + 2) 2) Wa (Wa.setCell ⟨bn, 0, none⟩ (.int .i64 ((pre.length : Int) + 1))) := by
          refine YKeep.of_ext hE (fun k hk => ?_) (fun k o ho e => .inl (by subst e; rw [HH3.out] at ho; cases ho; rfl))
          rcases hk with hk | ⟨k1, k2⟩
          · have := (hFp k hk).2; exact ⟨by omega, by omega⟩
          · exact ⟨by omega, by omega⟩
        have hI9 := HH1.out.move hE (fun k e => by omega)
        have h29 := hE.get HH2.out (by omega)
        have h39 : (Wa.setCell ⟨bn, 0, none⟩ (.int .i64 ((pre.length : Int) + 1))).heap[bn]? = some (.cells #[.int .i64 ((pre ++ [⟨f0, f1⟩] : List S30).length : Int)] 3 (0, 0)) := by
          have := blk_put HH3.out 0 (.int .i64 ((pre.length : Int) + 1))
          simpa using this
        refine ⟨hY, hI9, h29, h39, fun m m1 m2 => ?_⟩
        by_cases e : m ≤ pre.length
        · exact HH4.out m m1 e
        · simp at m2; omega
    case fin =>
      rintro D W hD ⟨h1, h2, h3⟩ hDd
      have hmn : min (Cs.length : Int) (max 1 many) = turns Cs.length many := rfl
      generalize turns Cs.length many = N at hmn h3
      have q1 := cell_of_row W w.heap.size 0 _ _ _ h1.many_
      have q2 := cell_of_row W (b10 + 1) 0 _ _ _ h2
      have q3 := cell_of_row W bn 0 _ _ _ h3
      have q4 := cell_of_row W b10 0 _ _ _ h1.all_
      simp only [List.getElem?_toArray, List.getElem?_cons_zero] at q1 q2 q3 q4
      have HH1 := Lib.hid h1; have HH2 := Lib.hid h2; have HH3 := Lib.hid h3; have HD1 := Lib.hid hDd
      clear h1 h2 h3 hDd HI7 HBT7 HBN hit hFp
      gi_wp2
      rw [roundsIn_succ]
      have hx8 := (Ext.refl NoB W).alloc (.cells #[.int .i64 1] 3 (0, 0))
      have hbt8 := (MapKept.heap_alloc W (.cells #[.int .i64 1] 3 (0, 0))).1
      have hI8 := HH1.out.move hx8 (fun _ s => s.elim)
      have hD8 := hx8.get HD1.out (fun s => s)
      have hlW : b10 + 1 < W.heap.size := (Array.getElem?_eq_some_iff.1 HH2.out).1
      have hlD : D < W.heap.size := (Array.getElem?_eq_some_iff.1 HD1.out).1
      generalize hW8 : W.alloc (.cells #[.int .i64 1] 3 (0, 0)) = W8 at hx8 hbt8 hI8 hD8 ⊢
      generalize hbte : W.heap.size = b11 at hbt8 hlW hlD ⊢
      clear hW8 hbte hx8 HH1 HH2 HH3 HD1 q1 q2 q3 q4
      have hct8 := cell_of_row W8 b11 0 _ _ _ hbt8
      simp only [List.getElem?_toArray, List.getElem?_cons_zero] at hct8
      have HI8 := Lib.hid hI8; have HBT8 := Lib.hid hbt8; have HD8 := Lib.hid hD8
      clear hI8 hbt8 hD8
      gi_wp2
      have hx9 := (Ext.refl NoB W8).alloc (.cells #[.int .i64 0] 3 (0, 0))
      have hbn9 := (MapKept.heap_alloc W8 (.cells #[.int .i64 0] 3 (0, 0))).1
      generalize hW9 : W8.alloc (.cells #[.int .i64 0] 3 (0, 0)) = W9 at hx9 hbn9 ⊢
      have hI9 := HI8.out.move hx9 (fun _ s => s.elim)
      have hbt9 := hx9.get HBT8.out (fun s => s)
      have hD9 := hx9.get HD8.out (fun s => s)
      have hbnl2 : b11 < W8.heap.size := (Array.getElem?_eq_some_iff.1 HBT8.out).1
      have hN9 : W8.heap.size < W9.heap.size := (Array.getElem?_eq_some_iff.1 hbn9).1
      generalize hbne : W8.heap.size = bn2 at hbn9 hbnl2 hN9 ⊢
      clear hW9 hbne hct8 hx9 HI8 HBT8 HD8
      have hit2 := from_iter 3 Bs (by decide) A3 c3 Cs W9 hI9.seq hI9.C3
      have hFp2 : ∀ k, sliceFp Bs A3 Cs k → (∃ o, W9.heap[k]? = some o ∧ isBook o = false) ∧ k < b10 + 1 := by
        rintro k (rfl | ⟨hne, ad, e, rfl⟩)
        · exact ⟨⟨_, hI9.seq, rfl⟩, hI9.l2⟩
        · obtain ⟨_, _, _, h⟩ := C_block hI9.C3 (by decide) hne e; exact ⟨⟨_, h, rfl⟩, hI9.l3 ad hne e⟩
      have HI9 := Lib.hid hI9; have HBT9 := Lib.hid hbt9; have HBN9 := Lib.hid hbn9; have HD9 := Lib.hid hD9
      clear hI9 hbt9 hbn9 hD9
      refine wp_rfDq (F := FW) (n := 4) rfl (by decide) (gf := 35) (lb := #[.pointer (some ⟨Bs, 0, none⟩)]) rfl trivial (enters_of Try.func35 (by kernel_rfl) rfl) hit2 (fun k hk => (hFp2 k hk).1) (fun _ => rfl)
        (fun pre V => FI w (b10 + 1) many Cs b10 A5 c5 Bs A3 c3 V ∧ V.heap[b11]? = some (.cells #[.int .i64 1] 3 (0, 0)) ∧ V.heap[bn2]? = some (.cells #[.int .i64 (pre.length : Int)] 3 (0, 0)) ∧ V.heap[D]? = some (.deferred (some [])))
        (fun _ _ => False)
        (fun V => FI w (b10 + 1) many Cs b10 A5 c5 Bs A3 c3 V ∧ V.heap[b11]? = some (.cells #[.int .i64 1] 3 (0, 0)) ∧ V.heap[bn2]? = some (.cells #[.int .i64 (Cs.length : Int)] 3 (0, 0)) ∧ V.heap[D]? = some (.deferred (some [])))
        ?hI2 ?hIx2 ⟨HI9.out, HBT9.out, HBN9.out, HD9.out⟩ ?hF12 ?hF22 ?asg2 ?assign2 ?body2 ?fin2
      case hI2 => exact fun s Wa Wb ⟨h1, h2, h3, h4⟩ hk => ⟨h1.keep hk (by omega), hk.cells h2, hk.cells h3, hk.same _ _ h4 (.inl (by omega))⟩
      case hIx2 => exact fun s Wa Wb h hk => h
      case hF12 => rintro ys V rfl ⟨h1, h2, h3, h4⟩; exact ⟨h1, h2, h3, h4⟩
      case hF22 => exact fun _ _ _ _ h => h.elim
      case assign2 =>
        rintro l pre x V K hok hK
        simp only [pairArgs]
        gi_wp2
        exact hK
      case body2 =>
        rintro l pre x Wa ⟨post, hok⟩ hl hlr ⟨h1, h2, h3, h4⟩ hfp hsz2
        have hpl : pre.length < Cs.length := by rw [hok]; simp
        obtain ⟨ad, e, c0, c1⟩ := cell_at h1.C5 pre.length hpl
        subst e
        have hget : Cs[pre.length] = x := by simp [hok]
        rw [hget] at c0 c1
        have q2 := cell_of_row Wa b11 0 _ _ _ h2
        have q3 := cell_of_row Wa bn2 0 _ _ _ h3
        have q4 := cell_of_row Wa b10 0 _ _ _ h1.all_
        have f3 := frozenPage h3 0
        simp only [List.getElem?_toArray, List.getElem?_cons_zero] at q2 q3 q4
        have HH1 := Lib.hid h1; have HH2 := Lib.hid h2; have HH3 := Lib.hid h3; have HH4 := Lib.hid h4; have HOK2 := Lib.hid hok
        clear h1 h2 h3 h4 hok hget hfp hlr
        obtain ⟨f0, f1⟩ := x
        dsimp only at c0 c1
        gi_wp2
        have hE : Ext (fun j => j = bn2) Wa (Wa.setCell ⟨bn2, 0, none⟩ (.int .i64 ((pre.length : Int) + 1))) := (Ext.refl _ _).setCell _ _ (.inl rfl)
        have hY : YKeep W9.heap.size (Priv (sliceFp Bs A3 Cs) (W9.heap.size + 2) 2) Wa (Wa.setCell ⟨bn2, 0, none⟩ (.int .i64 ((pre.length : Int) + 1))) := by
          refine YKeep.of_ext hE (fun k hk => ?_) (fun k o ho e => .inl (by subst e; rw [HH3.out] at ho; cases ho; rfl))
          rcases hk with hk | ⟨k1, k2⟩
          · have := (hFp2 k hk).2; exact ⟨by omega, by omega⟩
          · exact ⟨by omega, by omega⟩
        have hI9 := HH1.out.move hE (fun k e => by omega)
        have h29 := hE.get HH2.out (by omega)
        have h49 := hE.get HH4.out (by omega)
        have h39 : (Wa.setCell ⟨bn2, 0, none⟩ (.int .i64 ((pre.length : Int) + 1))).heap[bn2]? = some (.cells #[.int .i64 ((pre ++ [⟨f0, f1⟩] : List S30).length : Int)] 3 (0, 0)) := by
          have := blk_put HH3.out 0 (.int .i64 ((pre.length : Int) + 1))
          simpa using this
        exact ⟨hY, hI9, h29, h39, h49⟩
      case fin2 =>
        rintro D2 V hD2 ⟨h1, h2, h3, h4⟩ hDd2
        have q1 := cell_of_row V w.heap.size 0 _ _ _ h1.many_
        have q2 := cell_of_row V b11 0 _ _ _ h2
        have q3 := cell_of_row V bn2 0 _ _ _ h3
        have q4 := cell_of_row V b10 0 _ _ _ h1.all_
        simp only [List.getElem?_toArray, List.getElem?_cons_zero] at q1 q2 q3 q4
        have HH1 := Lib.hid h1; have HH4 := Lib.hid h4; have HDD2 := Lib.hid hDd2
        clear h1 h2 h3 h4 hDd2 HI9 HBT9 HBN9 HD9 hit2 hFp2
        gi_wp2
        rw [roundsIn_succ]
        have hx10 := (Ext.refl NoB V).alloc (.cells #[.int .i64 2] 3 (0, 0))
        have hbt10 := (MapKept.heap_alloc V (.cells #[.int .i64 2] 3 (0, 0))).1
        have hI10 := HH1.out.move hx10 (fun _ s => s.elim)
        have hD10 := hx10.get HH4.out (fun s => s)
        have hE10 := hx10.get HDD2.out (fun s => s)
        generalize hV8 : V.alloc (.cells #[.int .i64 2] 3 (0, 0)) = V8 at hx10 hbt10 hI10 hD10 hE10 ⊢
        have hct10 := cell_of_row V8 _ 0 _ _ _ hbt10
        simp only [List.getElem?_toArray, List.getElem?_cons_zero] at hct10
        have HI10 := Lib.hid hI10; have HD10 := Lib.hid hD10; have HE10 := Lib.hid hE10
        clear hV8 hx10 hbt10 hI10 hD10 hE10 HH1 HH4 HDD2 q1 q2 q3 q4
        gi_wp2_with (fail)
        refine ⟨trivial, (callsIn_wide.2 (works_any _)).mono ?_⟩
        rintro e V1 ⟨rfl, hb⟩
        have hbx := Ext.of_below (S := NoB) hb
        have hc6 := hbx.get HI10.out.res (fun s => s)
        have hd1 := hbx.get HD10.out (fun s => s)
        have hd2 := hbx.get HE10.out (fun s => s)
        have hX1 := HI10.out.ext.sub hb
        have hl0' := HI10.out.l0
        have hce := cell_of_row V1 _ 0 _ _ _ hc6
        simp only [List.getElem?_toArray, List.getElem?_cons_zero] at hce
        have hfr := frozenPage hc6 0
        have HC6 := Lib.hid hc6; have HX1 := Lib.hid hX1; have HG1 := Lib.hid hd1; have HG2 := Lib.hid hd2
        clear hb hbx hc6 hd1 hd2 hX1 HI10 HD10 HE10
        gi_wp2
        have hblk := blk_put HC6.out 0 (.bool true)
        have hX5 := HX1.out.setCell ⟨w.heap.size + 1, 0, none⟩ (.bool true) (.inr (Nat.le_succ _))
        have hg1 : (V1.setCell ⟨w.heap.size + 1, 0, none⟩ (.bool true)).heap[D]? = some (.deferred (some [])) := (Below.heap_setCell _ _ _ _ (by show D ≠ w.heap.size + 1; omega)).trans HG1.out
        have hg2 : (V1.setCell ⟨w.heap.size + 1, 0, none⟩ (.bool true)).heap[D2]? = some (.deferred (some [])) := (Below.heap_setCell _ _ _ _ (by show D2 ≠ w.heap.size + 1; omega)).trans HG2.out
        generalize V1.setCell ⟨w.heap.size + 1, 0, none⟩ (.bool true) = V5 at hblk hX5 hg1 hg2 ⊢
        refine marksPost2 (D1 := D) (D2 := D2) rfl (by omega) hg2 hg1 (results_cell1 rfl _ _ rfl (v := .bool true) ?_ Try.isAgg4) ⟨rfl, ((hX5.putObj D2 _ (.inr (by omega))).putObj D _ (.inr (by omega))).below⟩
        have := cell_of_row ((V5.putObj D2 (.deferred none)).putObj D (.deferred none)) (w.heap.size + 1) 0 _ _ _ ((World.putObj_heap_other (by omega)).trans ((World.putObj_heap_other (by omega)).trans hblk))
        simpa using this
end Go.Proofs.Ytgccjmjengfhbaa
end
