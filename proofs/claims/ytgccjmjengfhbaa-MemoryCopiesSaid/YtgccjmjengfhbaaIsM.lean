/- Part of the proofs over 'linesman/memory': lemmas and walks. Written by merge.py from the templates of the repo. -/
import Derived.Test.YtgccjmjengfhbaaRefM
import Derived.Test.YtgccjmjengfhbaaFromM
import Derived.Deep.RegionHeld3
import Derived.Deep.DrawnRows
set_option linter.unusedVariables false
set_option linter.unusedSimpArgs false
section
/-! The reference memory: what its Load and Pages answer (plain), and a row of page numbers. -/
set_option maxRecDepth 100000
namespace Go.Proofs.Ytgccjmjengfhbaa
open Go.RowKit Go.Shelf Go.Proofs Go.Proofs.YtgccjmjengfhbaaW.PrintWords
open Go.Proofs.Ytgccjmjengfhbaa.PMemoryStores (S30 k30 rd_T30 linesmanref06_Memory_Load.l0 linesmanref06_Memory_Load.f linesmanref06_Memory_Pages.l0 linesmanref06_Memory_Pages.f)

/-- A row of numbers of 32 bits. -/
def U32s (w : World) (A : Option Addr) (ks : List Int) : Prop := ∀ i (h : i < ks.length), ∃ ad, A = some ad ∧ w.cell? (ad.add i) = some (.int .u32 ks[i])
theorem U32s.keep {w w' : World} {A : Option Addr} {ks : List Int} (h : U32s w A ks) (hk : ∀ ad v, w.cell? ad = some v → w'.cell? ad = some v) : U32s w' A ks := fun i hi => by
  obtain ⟨ad, e, hc⟩ := h i hi
  exact ⟨ad, e, hk _ _ hc⟩
theorem Ext.cellNo {w w' : World} (h : Ext NoB w w') {ad : Addr} {v : Value} (hc : w.cell? ad = some v) : w'.cell? ad = some v :=
  (KeepData.of_ext (B := 0) h).cell hc
theorem U32s.ext {w w' : World} {A : Option Addr} {ks : List Int} (h : U32s w A ks) (hx : Ext NoB w w') : U32s w' A ks := h.keep (fun _ _ => hx.cellNo)
theorem U32s.of_own {w : World} {base : Nat} {v : Value} {ks : List Int} (h : w.ownsRow base 28 1 v ks.length (ks.map eU32)) : ∃ A c, v = .slice A ks.length c ∧ U32s w A ks := by
  obtain ⟨h1, h2⟩ := h
  rcases h2 with ⟨rfl, h0⟩ | ⟨g, cap, cur, rfl, _, hg, hn, _, hc, ht⟩
  · exact ⟨none, 0, by rw [h0], fun i hi => by omega⟩
  · refine ⟨_, _, rfl, fun i hi => ⟨_, rfl, ?_⟩⟩
    have hl : i < cur.toList.length := by simp; omega
    have e : (cur.toList.take (ks.length * 1))[i]? = (ks.map eU32)[i]? := by rw [ht]
    rw [List.getElem?_take, if_pos (by omega), List.getElem?_map, List.getElem?_eq_getElem hi] at e
    have := cell_of_row w g i _ _ _ hg
    simp only [Array.getElem?_toList] at e
    rw [e] at this
    have ha : (⟨g, 0, none⟩ : Addr).add i = ⟨g, i, none⟩ := by unfold Addr.add; split <;> simp_all
    rw [ha]; exact this
theorem U32s.of_K {w : World} {base : Nat} {v : Value} {ks : List Int} (h : Kd.R (Kd.int .u32) 28 w base (fun _ => True) v ks) : ∃ A c, v = .slice A ks.length c ∧ U32s w A ks := by
  obtain ⟨A, c, e, _, hC⟩ := Kd.R_reads h
  refine ⟨A, c, e, fun i hi => ?_⟩
  obtain ⟨ad, e2, hc⟩ := Kd.at_int hC (i : Int) (by omega) (by omega)
  refine ⟨ad, e2, ?_⟩
  unfold rd at hc
  rw [Int.toNat_natCast, List.getD_eq_getElem?_getD, List.getElem?_eq_getElem hi] at hc
  exact hc

/-- Load. -/
theorem load_l0 {g : Int → Int} (a : Int) (l : List S30) (hF : Fits g l) (h0 : 0 ≤ a) (hl : l.length ≤ 1000000) : ∀ (n i k : Nat), i + n = l.length → n + 1 ≤ k → (∀ c ∈ l.take i, c.f0 ≠ a) →
    linesmanref06_Memory_Load.l0 k a (i : Int) l = some (g a)
  | n, i, k, hi, hk, hb => by
    obtain ⟨k, rfl⟩ : ∃ k', k = k' + 1 := ⟨k - 1, by omega⟩
    rw [linesmanref06_Memory_Load.l0]
    by_cases hil : i < l.length
    · have hr := rd_get l i hil
      have hw : wrap64 ((i : Int) + 1) = ((i + 1 : Nat) : Int) := by
        rw [show (i : Int) + 1 = ((i + 1 : Nat) : Int) by omega]
        exact IntWalk.wrap64_in _ (by omega)
      rw [if_pos (by omega), if_pos (by omega), hr, hw]
      by_cases he : (l[i]).f0 = a
      · rw [if_pos he]
        have := (hF.2 l[i]).1 (List.getElem_mem hil)
        rw [this.2.1, he]
      · rw [if_neg he]
        obtain ⟨n, rfl⟩ : ∃ n', n = n' + 1 := ⟨n - 1, by omega⟩
        refine load_l0 a l hF h0 hl n (i + 1) k (by omega) (by omega) (fun c hc => ?_)
        rw [take_last l i hil, List.mem_append, List.mem_singleton] at hc
        rcases hc with hc | rfl
        · exact hb c hc
        · exact he
    · rw [if_neg (by omega)]
      have : g a = 0 := Classical.byContradiction fun hne => by
        have hm := (hF.2 ⟨a, g a⟩).2 ⟨h0, rfl, hne⟩
        rw [List.take_of_length_le (by omega)] at hb
        exact hb _ hm rfl
      rw [this]
theorem load_f {g : Int → Int} (a : Int) (l : List S30) (hF : Fits g l) (h0 : 0 ≤ a) (hl : l.length ≤ 1000000) : linesmanref06_Memory_Load.f (l.length + 1) l a = some (g a) :=
  load_l0 a l hF h0 hl l.length 0 (l.length + 1) (by omega) (Nat.le_refl _) (by simp)

/-- Pages. -/
theorem rd_last {out : List Int} {y : Int} (h : out.getLast? = some y) (hl : out.length ≤ 1000000) : 0 < out.length ∧ rd out (wrap64 ((out.length : Int) - 1)) = y ∧ 0 ≤ wrap64 ((out.length : Int) - 1) ∧ wrap64 ((out.length : Int) - 1) < out.length := by
  have hp : 0 < out.length := by
    cases out with
    | nil => cases h
    | cons => simp
  have hw : wrap64 ((out.length : Int) - 1) = ((out.length - 1 : Nat) : Int) := by
    rw [show (out.length : Int) - 1 = ((out.length - 1 : Nat) : Int) by omega]
    exact IntWalk.wrap64_in _ (by omega)
  rw [hw]
  refine ⟨hp, ?_, by omega, by omega⟩
  unfold rd
  rw [Int.toNat_natCast, List.getD_eq_getElem?_getD, ← List.getLast?_eq_getElem?, h]
  rfl
theorem pages_l0 (l : List S30) (hA : Asc l) (hb : ∀ c ∈ l, 0 ≤ c.f0 ∧ c.f0 < 4294967296) (hl : l.length ≤ 1000000) : ∀ (n i k : Nat) (out : List Int), i + n = l.length → n + 1 ≤ k → out.length ≤ i → out.Pairwise (· < ·) →
    (∀ m, m ∈ out ↔ ∃ c ∈ l.take i, c.f0 / 4096 = m) → (∀ h : 0 < i, ∃ h2 : i - 1 < l.length, out.getLast? = some (l[i - 1].f0 / 4096)) →
    ∃ r, linesmanref06_Memory_Pages.l0 k out (i : Int) l = some r ∧ r.length ≤ l.length ∧ r.Pairwise (· < ·) ∧ ∀ m, m ∈ r ↔ ∃ c ∈ l, c.f0 / 4096 = m
  | n, i, k, out, hi, hk, ho, hp, hm, hlast => by
    obtain ⟨k, rfl⟩ : ∃ k', k = k' + 1 := ⟨k - 1, by omega⟩
    rw [linesmanref06_Memory_Pages.l0]
    by_cases hil : i < l.length
    · have hr := rd_get l i hil
      have hw : wrap64 ((i : Int) + 1) = ((i + 1 : Nat) : Int) := by
        rw [show (i : Int) + 1 = ((i + 1 : Nat) : Int) by omega]
        exact IntWalk.wrap64_in _ (by omega)
      have hbi := hb _ (List.getElem_mem hil)
      have hd : (Int.tdiv (l[i]).f0 4096) % 4294967296 = (l[i]).f0 / 4096 := by
        rw [Int.tdiv_eq_ediv_of_nonneg hbi.1]; omega
      obtain ⟨n, rfl⟩ : ∃ n', n = n' + 1 := ⟨n - 1, by omega⟩
      rw [if_pos (by omega), if_pos (by omega), hr, hw, hd]
      have htk : ∀ m, (∃ c ∈ l.take (i + 1), c.f0 / 4096 = m) ↔ (m ∈ out ∨ m = (l[i]).f0 / 4096) := by
        intro m
        rw [take_last l i hil, hm]
        constructor
        · rintro ⟨c, hc, rfl⟩
          rw [List.mem_append, List.mem_singleton] at hc
          rcases hc with hc | rfl
          · exact .inl ⟨c, hc, rfl⟩
          · exact .inr rfl
        · rintro (⟨c, hc, rfl⟩ | rfl)
          · exact ⟨c, List.mem_append_left _ hc, rfl⟩
          · exact ⟨_, List.mem_append_right _ (List.mem_singleton.2 rfl), rfl⟩
      have hle : ∀ m ∈ out, m ≤ (l[i]).f0 / 4096 := fun m hmo => by
        obtain ⟨c, hc, rfl⟩ := (hm m).1 hmo
        obtain ⟨j, hj, rfl⟩ := List.getElem_of_mem hc
        rw [List.length_take] at hj
        rw [List.getElem_take]
        have := List.pairwise_iff_getElem.1 hA j i (by omega) hil (by omega)
        omega
      have app : (∀ m ∈ out, m ≠ (l[i]).f0 / 4096) → ∃ r, linesmanref06_Memory_Pages.l0 k (out ++ [(l[i]).f0 / 4096]) ((i + 1 : Nat) : Int) l = some r ∧ r.length ≤ l.length ∧ r.Pairwise (· < ·) ∧ ∀ m, m ∈ r ↔ ∃ c ∈ l, c.f0 / 4096 = m := fun hne => by
        refine pages_l0 l hA hb hl n (i + 1) k _ (by omega) (by omega) (by simp; omega) ?_ ?_ ?_
        · rw [List.pairwise_append]
          refine ⟨hp, List.pairwise_singleton _ _, fun a ha b hb => ?_⟩
          rw [List.mem_singleton] at hb
          subst hb
          have h1 := hle a ha
          have h2 := hne a ha
          omega
        · intro m
          rw [htk, List.mem_append, List.mem_singleton]
        · intro _
          exact ⟨by simpa using hil, by simp⟩
      by_cases hi0 : 0 < i
      · obtain ⟨h2, hL⟩ := hlast hi0
        obtain ⟨e1, e2, e3, e4⟩ := rd_last hL (by omega)
        rw [if_neg (by omega), if_pos e3, if_pos e4, e2]
        by_cases he : (l[i - 1]).f0 / 4096 = (l[i]).f0 / 4096
        · rw [if_pos he]
          refine pages_l0 l hA hb hl n (i + 1) k out (by omega) (by omega) (by omega) hp ?_ ?_
          · intro m
            rw [htk]
            constructor
            · exact .inl
            · rintro (h | rfl)
              · exact h
              · rw [← he]; exact List.mem_of_getLast? hL
          · intro _
            exact ⟨by simpa using hil, by rw [hL, he]; simp⟩
        · rw [if_neg he, if_pos (by omega)]
          refine app (fun m hmo => ?_)
          obtain ⟨c, hc, rfl⟩ := (hm m).1 hmo
          obtain ⟨j, hj, rfl⟩ := List.getElem_of_mem hc
          rw [List.length_take] at hj
          rw [List.getElem_take]
          intro e
          have h1 : (l[j]'(by omega)).f0 ≤ (l[i - 1]).f0 := by
            rcases Nat.lt_or_ge j (i - 1) with h | h
            · exact Int.le_of_lt (List.pairwise_iff_getElem.1 hA j (i - 1) (by omega) h2 h)
            · obtain rfl : j = i - 1 := by omega
              exact Int.le_refl _
          have h3 := List.pairwise_iff_getElem.1 hA (i - 1) i h2 hil (by omega)
          omega
      · obtain rfl : i = 0 := by omega
        have hnil : out = [] := List.length_eq_zero_iff.1 (by omega)
        subst hnil
        rw [if_pos (by simp), if_pos (by simp)]
        exact app (fun m hmo => by cases hmo)
    · rw [if_neg (by omega)]
      refine ⟨out, rfl, by omega, hp, fun m => ?_⟩
      rw [hm, List.take_of_length_le (by omega)]
theorem pages_f (l : List S30) (hA : Asc l) (hb : ∀ c ∈ l, 0 ≤ c.f0 ∧ c.f0 < 4294967296) (hl : l.length ≤ 1000000) : ∃ r, linesmanref06_Memory_Pages.f (l.length + 1) l = some r ∧ r.length ≤ l.length ∧ r.Pairwise (· < ·) ∧ ∀ m, m ∈ r ↔ ∃ c ∈ l, c.f0 / 4096 = m :=
  pages_l0 l hA hb hl l.length 0 (l.length + 1) [] (by omega) (Nat.le_refl _) (Nat.le_refl _) List.Pairwise.nil (fun m => by simp) (fun h => by omega)

theorem fits_bounds {w : World} {mb : Nat} {L : List Pg} (h : MemRep w mb L) {R : List S30} (hF : Fits (mget L) R) : ∀ c ∈ R, 0 ≤ c.f0 ∧ c.f0 < 4294967296 := fun c hc => by
  obtain ⟨h1, h2, h3⟩ := (hF.2 c).1 hc
  have := h.get_ok h3
  exact ⟨this.1, this.2.1⟩
/-- The reference's pages are the memory's. -/
theorem fits_pages {w : World} {mb : Nat} {L : List Pg} (h : MemRep w mb L) {R : List S30} (hF : Fits (mget L) R) {ks r : List Int} (hp : ks.Perm (L.map (·.num))) (hk : ks.Pairwise (· < ·)) (hr : r.Pairwise (· < ·)) (hm : ∀ m, m ∈ r ↔ ∃ c ∈ R, c.f0 / 4096 = m) : r = ks := by
  refine asc_uniqueI hr hk (fun m => ?_)
  rw [hm, hp.mem_iff, h.page_iff]
  constructor
  · rintro ⟨c, hc, rfl⟩
    obtain ⟨h1, h2, h3⟩ := (hF.2 c).1 hc
    exact ⟨c.f0, h1, rfl, h3⟩
  · rintro ⟨a, h0, rfl, h3⟩
    exact ⟨⟨a, mget L a⟩, (hF.2 _).2 ⟨h0, rfl, h3⟩, rfl⟩

theorem rload_any (A : Option Addr) (c : Nat) (R : List S30) (a : Int) (g : Int → Int) (w : World) (hC : k30.C w A R.length R) (hc : R.length ≤ c) (hl : R.length ≤ 1000000) (hF : Fits g R) (h0 : 0 ≤ a) :
    Calls Try.prog 38 #[.agg #[.slice A R.length c], .int .u32 a] w fun e w' => e = .returned (.int .u32 (g a)) ∧ Below w.heap.size w w' :=
  PMemoryStores.linesmanref06_Memory_Load.calls (R.length + 1) A c R a (g a) w hC hc (load_f a R hF h0 hl)
theorem rpages_any (A : Option Addr) (c : Nat) (R : List S30) (w w0 : World) (mb : Nat) (L : List Pg) (ks : List Int) (hC : k30.C w A R.length R) (hc : R.length ≤ c) (hl : R.length ≤ 1000000) (hM : MemRep w0 mb L) (hF : Fits (mget L) R) (hp : ks.Perm (L.map (·.num))) (hk : ks.Pairwise (· < ·)) :
    Calls Try.prog 37 #[.agg #[.slice A R.length c]] w fun e w' => ∃ Aq cq, e = .returned (.slice Aq ks.length cq) ∧ U32s w' Aq ks ∧ Below w.heap.size w w' := by
  obtain ⟨r, h1, h2, h3, h4⟩ := pages_f R hF.1 (fits_bounds hM hF) hl
  obtain rfl := fits_pages hM hF hp hk h3 h4
  refine (PMemoryStores.linesmanref06_Memory_Pages.calls (R.length + 1) A c R r w hC hc h1).mono ?_
  rintro e w' ⟨v, rfl, h5, h6⟩
  obtain ⟨Aq, cq, rfl, h7⟩ := U32s.of_K h5
  exact ⟨Aq, cq, rfl, h7, h6⟩
end Go.Proofs.Ytgccjmjengfhbaa
end
section
set_option maxRecDepth 100000
namespace Go.Proofs.Ytgccjmjengfhbaa
open Go.RowKit Go.Shelf Go.Proofs Go.Proofs.YtgccjmjengfhbaaW.PrintWords
open Go.Proofs.Ytgccjmjengfhbaa.PMemoryStores (S30 k30 k30_mk at_T30 rd_T30)
attribute [local go_sem ↓] Go.wp_at_zero Go.wp_at_succ

theorem U32s.set {w : World} {A : Option Addr} {ks : List Int} (h : U32s w A ks) {p : Addr} {B : Option Addr} {n c : Nat} (hp : w.cell? p = some (.slice B n c)) (v : Value) : U32s (w.setCell p v) A ks := fun i hi => by
  obtain ⟨ad, e, hc⟩ := h i hi
  refine ⟨ad, e, ?_⟩
  rw [World.cell?_setCell_other _ _ _ _ (fun he => by rw [he, hc] at hp; cases hp)]
  exact hc
theorem C30_set {w : World} {A : Option Addr} {m : Nat} {xs : List S30} {p : Addr} {B : Option Addr} {n c : Nat} (h : k30.C w A m xs) (hp : w.cell? p = some (.slice B n c)) (v : Value) : k30.C (w.setCell p v) A m xs := by
  refine ⟨h.1, h.2.1, fun hq => ?_⟩
  obtain ⟨ad, e, hc⟩ := h.2.2 hq
  refine ⟨ad, e, fun j x hj => ?_⟩
  obtain ⟨cs, h1, h2, h3⟩ := hc j x hj
  refine ⟨cs, h1, k30_flat _ _ _ _ h2, fun i u hu => ?_⟩
  have hcell := h3 i u hu
  rw [World.cell?_setCell_other _ _ _ _ (fun he => ?_)]
  · exact hcell
  · rw [he, hcell] at hp
    have := PMemoryStores.k30_open h2
    subst this
    match i, hu with
    | 0, hu => injection hu with hu; rw [← hu] at hp; cases hp
    | 1, hu => injection hu with hu; rw [← hu] at hp; cases hp
theorem fits_len {w : World} {mb : Nat} {L : List Pg} (h : MemRep w mb L) {R : List S30} (hF : Fits (mget L) R) (hl : R.length ≤ 1000000) {ks : List Int} (hp : ks.Perm (L.map (·.num))) (hk : ks.Pairwise (· < ·)) : ks.length ≤ 1000000 := by
  obtain ⟨r, _, h2, h3, h4⟩ := pages_f R hF.1 (fits_bounds h hF) hl
  obtain rfl := fits_pages h hF hp hk h3 h4
  omega
theorem andExt {w2 W : World} {ad : Addr} {v : Value} (hc : w2.cell? ad = some v) (hx : Ext NoB w2 W) : W.cell? ad = some v ∧ Ext NoB w2 W := ⟨hx.cellNo hc, hx⟩

theorem Ext.realloc {w2 w : World} {o o' : Obj} (h : Ext NoB w2 (w.alloc o)) (hs : w2.heap.size ≤ w.heap.size) : Ext NoB w2 (w.alloc o') :=
  ⟨h.os, h.tape, h.output, by simp; omega, fun k hk hn => by
    rw [Below.heap_alloc _ _ _ (by omega), ← h.block k hk hn, Below.heap_alloc _ _ _ (by omega)]⟩

set_option maxHeartbeats 8000000 in
theorem is_any (pa ma : Nat) (La : List Pg) (A : Option Addr) (cv : Nat) (R : List S30) (lo many : Int) (w : World) (hM : MemAt w pa ma La) (hC : k30.C w A R.length R) (hc : R.length ≤ cv) (hF : Fits (mget La) R) (hl : R.length ≤ 1000000) (hlo : 0 ≤ lo) (hlo2 : lo < 4294967296) :
    Calls Try.prog 20 #[.pointer (some ⟨pa, 0, none⟩), .agg #[.slice A R.length cv], .int .u32 lo, .int .i64 many] w fun e w' => e = .returned (.bool true) ∧ Below w.heap.size w w' := by
  have HC := Lib.hid hC; have HF := Lib.hid hF; have HM := Lib.hid hM
  clear hC hF hM
  refine (callsIn_wide (n := 4)).1 ?_
  refine callsIn_of_wp_marks Try.func20 rfl trivial ?_ rfl
  simp only [Try.ntmps20, List.size_toArray, List.length_cons, List.length_nil, Nat.reduceAdd, Nat.reduceSub, Array.replicate_succ, Array.replicate_zero, List.push_toArray, List.append_toArray, List.nil_append, List.cons_append]
  have hnil := isNil
  have hxa := (Ext.refl NoB w).alloc (.cells #[.slice A R.length cv] 38 (0, 0))
  have hba := (MapKept.heap_alloc w (.cells #[.slice A R.length cv] 38 (0, 0))).1
  have hsa : (w.alloc (.cells #[.slice A R.length cv] 38 (0, 0))).heap.size = w.heap.size + 1 := by simp
  gi_wp2
  generalize hwa : w.alloc (.cells #[.slice A R.length cv] 38 (0, 0)) = wa at hxa hba hsa ⊢
  have hx0 : Ext NoB wa ((wa.alloc (.cells #[.int .i64 many] 3 (0, 0))).alloc (.cells #[.bool false] 4 (0, 0))) := ((Ext.refl _ _).alloc _).alloc _
  have hb7 : ((wa.alloc (.cells #[.int .i64 many] 3 (0, 0))).alloc (.cells #[.bool false] 4 (0, 0))).heap[wa.heap.size]? = some (.cells #[.int .i64 many] 3 (0, 0)) := ((Ext.refl NoB _).alloc _).get (MapKept.heap_alloc wa _).1 (fun s => s)
  have hb8 : ((wa.alloc (.cells #[.int .i64 many] 3 (0, 0))).alloc (.cells #[.bool false] 4 (0, 0))).heap[wa.heap.size + 1]? = some (.cells #[.bool false] 4 (0, 0)) := alloc2 _ _ _
  generalize hw0 : (wa.alloc (.cells #[.int .i64 many] 3 (0, 0))).alloc (.cells #[.bool false] 4 (0, 0)) = w2 at hx0 hb7 hb8 ⊢
  have hC2 := C_ext k30_flat (C_ext k30_flat HC.out hxa (fun _ _ s => s)) hx0 (fun _ _ s => s)
  have hM2 : MemAt w2 pa ma La := (HM.out.ext hxa (fun _ _ s => s) (fun s => s)).ext hx0 (fun _ _ s => s) (fun s => s)
  have hb5 := hx0.get hba (fun s => s)
  have hc5 := cell_of_row w2 w.heap.size 0 _ _ _ hb5
  simp only [List.getElem?_toArray, List.getElem?_cons_zero] at hc5
  have HC2 := Lib.hid hC2; have HM2 := Lib.hid hM2; have HB7 := Lib.hid hb7; have HB8 := Lib.hid hb8; have HX0 := Lib.hid hx0; have HXA := Lib.hid hxa; have HC5 := Lib.hid hc5
  clear hC2 hM2 hb7 hb8 hx0 hxa hb5 hba hwa hw0 HC HM hc5
  have hd0 : w2.drew.heap.size = w2.heap.size := rfl
  refine wpIn_mono (Q := fun e a' W => e = .normal ∧ ∃ (bX : Nat) (A5 : Option Addr) (c5 : Nat) (Ap : Option Addr) (cp : Nat) (Aq : Option Addr) (cq : Nat) (ks : List Int),
    a' = { tmps := #[.pointer (some ⟨pa, 0, none⟩), .agg #[.slice A R.length cv], .int .u32 lo, .int .i64 many, undef, .pointer (some ⟨w.heap.size, 0, none⟩), undef, .pointer (some ⟨w.heap.size + 1, 0, none⟩), .pointer (some ⟨w.heap.size + 2, 0, none⟩), .pointer (some ⟨bX, 0, none⟩), .slice Ap ks.length cp, .slice Aq ks.length cq, undef, undef, undef, undef, undef, .agg #[.slice A R.length cv], .int .u32 lo, .slice A5 (R.filter (fun c => decide (lo ≤ c.f0))).length c5, .pointer (some ⟨pa, 0, none⟩), .slice Ap ks.length cp, .agg #[.slice A R.length cv], .slice Aq ks.length cq, undef, undef, undef, undef, undef, undef, undef, undef, undef, undef, undef, undef, undef, undef, undef, undef, undef, undef, undef, undef, undef, undef, undef, undef, undef, undef, undef, undef, undef, undef, undef, undef, undef, undef, undef, undef, undef, undef, undef, undef, undef, undef, undef, undef, undef, undef, undef, undef, undef, undef, undef, undef, undef, undef, undef, undef, undef, undef, undef, undef, undef, undef, undef, undef, undef, undef, undef, undef, undef, undef, undef, undef, undef, undef, undef, undef, undef, undef, undef, undef, undef], defers := [] } ∧
    Ext NoB w2 W ∧ k30.C W A5 (R.filter (fun c => decide (lo ≤ c.f0))).length (R.filter (fun c => decide (lo ≤ c.f0))) ∧ U32s W Ap ks ∧ U32s W Aq ks ∧
    W.heap[bX]? = some (.cells #[.slice A5 (R.filter (fun c => decide (lo ≤ c.f0))).length c5] 22 (0, 0)) ∧ ks.length ≤ 1000000) ?_ ?_
  · refine wpIn_wide.2 ?_
    go_region_held3 (fun w' => w'.cell? ⟨w.heap.size, 0, none⟩ = some (.slice A R.length cv) ∧ Ext NoB w2 w')
      ((refine andExt HC5.out ?_; first
        | exact (Ext.refl NoB w2).drew
        | exact Ext.alloc (And.right (by assumption : _ ∧ Ext NoB w2 _)) _
        | exact Ext.sub (And.right (by assumption : _ ∧ Ext NoB w2 _)) HB3.out
        | exact Ext.sub (And.right (by assumption : _ ∧ Ext NoB w2 _)) HB2.out
        | exact Ext.sub (And.right (by assumption : _ ∧ Ext NoB w2 _)) HB1.out
        | exact Ext.realloc (And.right (by assumption : _ ∧ Ext NoB w2 _)) (by omega)
        | exact Ext.setCell (And.right (by assumption : _ ∧ Ext NoB w2 _)) _ _ (.inr (by first | omega | (dsimp only; omega)))))
      ((first
        | (go_at_call 18; refine (rfrom_any A cv R lo _ (C_ext k30_flat HC2.out (And.right (by assumption : _ ∧ Ext NoB w2 _)) (fun _ _ s => s)) hc hl HF.out.1).mono ?_; rintro e w3 ⟨A5, c5, rfl, h1, h2⟩; have H5 := Lib.hid h1; have HB1 := Lib.hid h2; have hs1 := h2.size; (try simp only [World.size_alloc] at hs1); clear h1 h2; (first | (have hz := (Ext.of_below (S := NoB) HB1.out).get hz (fun s => s)) | (have hz := (Ext.of_below (S := NoB) HB1.out).get (MapKept.heap_alloc _ _).1 (fun s => s)) | skip); (try have hz1 := cell_of_row _ _ 0 _ _ _ hz); (try simp only [List.getElem?_toArray, List.getElem?_cons_zero] at hz1); (try have hz2 := frozenPage hz 0))
        | (go_at_call 24; refine (pages_any pa ma La _ (HM2.out.ext (And.right (by assumption : _ ∧ Ext NoB w2 _)) (fun _ _ s => s) (fun s => s))).mono ?_; rintro e w4 ⟨v, ks, rfl, h1, h2, h3, h4⟩; obtain ⟨Ap, cp, rfl, hU⟩ := U32s.of_own h3; have HK1 := Lib.hid h1; have HK2 := Lib.hid h2; have HU := Lib.hid hU; have HB2 := Lib.hid h4; have hs2 := h4.size; (try simp only [World.size_alloc] at hs2); clear h1 h2 h3 h4 hU; (first | (have hz := (Ext.of_below (S := NoB) HB2.out).get hz (fun s => s)) | (have hz := (Ext.of_below (S := NoB) HB2.out).get (MapKept.heap_alloc _ _).1 (fun s => s)) | skip); (try have hz1 := cell_of_row _ _ 0 _ _ _ hz); (try simp only [List.getElem?_toArray, List.getElem?_cons_zero] at hz1); (try have hz2 := frozenPage hz 0))
        | (go_at_call 37; refine (rpages_any A cv R _ w2 ma La ks (C_ext k30_flat HC2.out (And.right (by assumption : _ ∧ Ext NoB w2 _)) (fun _ _ s => s)) hc hl HM2.out.2 HF.out HK1.out HK2.out).mono ?_; rintro e w5 ⟨Aq, cq, rfl, h1, h2⟩; have HKL := Lib.hid (fits_len HM2.out.2 HF.out hl HK1.out HK2.out); have HV := Lib.hid h1; have HB3 := Lib.hid h2; have hs3 := h2.size; (try simp only [World.size_alloc] at hs3); clear h1 h2; (first | (have hz := (Ext.of_below (S := NoB) HB3.out).get hz (fun s => s)) | (have hz := (Ext.of_below (S := NoB) HB3.out).get (MapKept.heap_alloc _ _).1 (fun s => s)) | skip); (try have hz1 := cell_of_row _ _ 0 _ _ _ hz); (try simp only [List.getElem?_toArray, List.getElem?_cons_zero] at hz1); (try have hz2 := frozenPage hz 0))))
    all_goals
      refine ⟨rfl, _, A5, c5, Ap, cp, Aq, cq, ks, rfl, And.right (by assumption : _ ∧ Ext NoB w2 _), ?_, ?_, ?_, ?_, HKL.out⟩
      · first
          | exact C30_set (C_ext k30_flat H5.out (S := NoB) (by (repeat (first | with_reducible exact Ext.refl _ _ | with_reducible refine Ext.sub ?_ HB3.out | with_reducible refine Ext.sub ?_ HB2.out | with_reducible refine Ext.sub ?_ HB1.out | with_reducible refine Ext.alloc ?_ _)); done) (fun _ _ s => s)) hz1 _
          | exact C_ext k30_flat H5.out (S := NoB) (by (repeat (first | with_reducible exact Ext.refl _ _ | with_reducible refine Ext.sub ?_ HB3.out | with_reducible refine Ext.sub ?_ HB2.out | with_reducible refine Ext.sub ?_ HB1.out | with_reducible refine Ext.alloc ?_ _)); done) (fun _ _ s => s)
      · first
          | exact (HU.out.ext (by (repeat (first | with_reducible exact Ext.refl _ _ | with_reducible refine Ext.sub ?_ HB3.out | with_reducible refine Ext.sub ?_ HB2.out | with_reducible refine Ext.sub ?_ HB1.out | with_reducible refine Ext.alloc ?_ _)); done)).set hz1 _
          | exact HU.out.ext (by (repeat (first | with_reducible exact Ext.refl _ _ | with_reducible refine Ext.sub ?_ HB3.out | with_reducible refine Ext.sub ?_ HB2.out | with_reducible refine Ext.sub ?_ HB1.out | with_reducible refine Ext.alloc ?_ _)); done)
      · first
          | exact (HV.out.ext (by (repeat (first | with_reducible exact Ext.refl _ _ | with_reducible refine Ext.sub ?_ HB3.out | with_reducible refine Ext.sub ?_ HB2.out | with_reducible refine Ext.sub ?_ HB1.out | with_reducible refine Ext.alloc ?_ _)); done)).set hz1 _
          | exact HV.out.ext (by (repeat (first | with_reducible exact Ext.refl _ _ | with_reducible refine Ext.sub ?_ HB3.out | with_reducible refine Ext.sub ?_ HB2.out | with_reducible refine Ext.sub ?_ HB1.out | with_reducible refine Ext.alloc ?_ _)); done)
      · first
          | exact (MapKept.heap_alloc _ _).1
          | (have hblk := blk_put hz 0 (.slice A5 (R.filter (fun c => decide (lo ≤ c.f0))).length c5); simpa using hblk)
  · rintro e a' W ⟨rfl, bX, A5, c5, Ap, cp, Aq, cq, ks, rfl, hX, h1, h2, h3, h4, h5⟩
    have hM3 : MemAt W pa ma La := HM2.out.ext hX (fun _ _ s => s) (fun s => s)
    have HCS := Lib.hid (rfl : R.filter (fun c => decide (lo ≤ c.f0)) = R.filter (fun c => decide (lo ≤ c.f0)))
    have hlC : (R.filter (fun c => decide (lo ≤ c.f0))).length ≤ 1000000 := Nat.le_trans (List.length_filter_le _ _) hl
    generalize hCs : R.filter (fun c => decide (lo ≤ c.f0)) = Cs at h1 h4 hlC ⊢
    have HCs := Lib.hid hCs; have HM3 := Lib.hid hM3; have H1 := Lib.hid h1; have H2 := Lib.hid h2; have H3 := Lib.hid h3; have H4 := Lib.hid h4; have HX := Lib.hid hX
    clear hCs HCS hM3 h1 h2 h3 h4 hX
    gi_wp2_with (fail)
    refine ⟨trivial, (callsIn_wide.2 (from_call pa ma La lo W HM3.out hlo hlo2)).mono ?_⟩
    rintro e w6 ⟨Bs, A3, c3, ks3, rfl, k1, k2, k3, k5, k6, k7, k8⟩
    have hfc := fits_cells HM2.out.2 HF.out k1 k2 lo
    rw [HCs.out] at hfc
    rw [hfc] at k3 k5
    have hx6 := Ext.of_below (S := NoB) k8
    have hC6 := C_ext k30_flat (C_ext k30_flat HC2.out HX.out (fun _ _ s => s)) hx6 (fun _ _ s => s)
    have hM6 : MemAt w6 pa ma La := HM3.out.ext hx6 (fun _ _ s => s) (fun s => s)
    have hc6 := hx6.cellNo (HX.out.cellNo HC5.out)
    have HK3 := Lib.hid k3; have HK5 := Lib.hid k5; have HX6 := Lib.hid hx6; have HC6 := Lib.hid hC6; have HM6 := Lib.hid hM6; have HC56 := Lib.hid hc6
    clear k1 k2 k3 k5 k6 k7 k8 hfc hx6 hC6 hM6 hc6
    gi_wp2
    refine wpIn_wide.2 ?_
    go_region_held3 (fun w' => w'.cell? ⟨w.heap.size, 0, none⟩ = some (.slice A R.length cv) ∧ Ext NoB w6 w')
      ((refine andExt HC56.out ?_; first
        | exact (Ext.refl NoB w6).drew
        | exact Ext.sub (And.right (by assumption : _ ∧ Ext NoB w6 _)) HB3.out
        | exact Ext.sub (And.right (by assumption : _ ∧ Ext NoB w6 _)) HB2.out
        | exact Ext.sub (And.right (by assumption : _ ∧ Ext NoB w6 _)) HB1.out
        | exact And.right (by assumption : _ ∧ Ext NoB w6 _)))
      ((first
        | (go_at_call 14; refine (len_any pa ma La _ (HM6.out.ext (And.right (by assumption : _ ∧ Ext NoB w6 _)) (fun _ _ s => s) (fun s => s))).mono ?_; rintro e w7 ⟨ks7, rfl, g1, g2, g5⟩; rw [fits_cells HM2.out.2 HF.out g1 g2 0, List.filter_eq_self.2 (fun c hc => by simpa using ((HF.out.2 c).1 hc).1)]; have HB1 := Lib.hid g5; clear g1 g2 g5)
        | (go_at_call 11; refine (load_any pa ma La lo _ hlo hlo2 (HM6.out.ext (And.right (by assumption : _ ∧ Ext NoB w6 _)) (fun _ _ s => s) (fun s => s))).mono ?_; rintro e w' ⟨rfl, rfl⟩)
        | (go_at_call 38; refine (rload_any A cv R lo (mget La) _ (C_ext k30_flat HC6.out (And.right (by assumption : _ ∧ Ext NoB w6 _)) (fun _ _ s => s)) hc hl HF.out hlo).mono ?_; rintro e w8 ⟨rfl, g5⟩; have HB3 := Lib.hid g5; clear g5)))
    have hX8 : Ext NoB wa w8 := ((HX0.out.trans' HX.out).trans' HX6.out).trans' (And.right (by assumption : _ ∧ Ext NoB w6 w8))
    have hW8 : Ext NoB W w8 := HX6.out.trans' (And.right (by assumption : _ ∧ Ext NoB w6 w8))
    have h68 : Ext NoB w6 w8 := And.right (by assumption : _ ∧ Ext NoB w6 w8)
    have HX8 := Lib.hid hX8; have HW8 := Lib.hid hW8; have H68 := Lib.hid h68
    have HU := Lib.hid (H2.out.ext hW8); have HV := Lib.hid (H3.out.ext hW8)
    clear hX8 hW8 h68 HB1 HB3
    gi_wp2
    gi_loopw [13] (fun i wr => ∃ k : Nat, k ≤ ks.length ∧ i = .int .i64 k ∧ Ext NoB w8 wr) (fun i _ => ks.length - (intOf i).toNat)
    case atStart => exact ⟨0, Nat.zero_le _, rfl, Ext.refl _ _⟩
    case round =>
      obtain ⟨k, hk, rfl, hE⟩ := hrel
      by_cases hlt : k < ks.length
      · obtain ⟨ad, e, c0⟩ := (HU.out.ext hE) k hlt
        subst e
        obtain ⟨ad', e', c1⟩ := (HV.out.ext hE) k hlt
        subst e'
        have HE := Lib.hid hE
        clear hE
        generalize ks[k] = y at c0 c1
        gi_wp2
        refine wpIn_wide.2 ?_
        go_quiet (fail)
        gi_wp2
        go_roundw
        case rel => exact ⟨k + 1, by omega, by simp, HE.out.drewN _⟩
        case measure => simp [intOf]; omega
      · obtain rfl : k = ks.length := by omega
        have HE := Lib.hid hE
        clear hE
        gi_wp2
        have hxr : Ext NoB w6 wr := H68.out.trans' HE.out
        have hWr : Ext NoB W wr := HW8.out.trans' HE.out
        have har : Ext NoB wa wr := HX8.out.trans' HE.out
        have hx7 := (Ext.refl NoB wr).alloc (.cells #[.int .i64 0] 3 (0, 0))
        have hbn := (MapKept.heap_alloc wr (.cells #[.int .i64 0] 3 (0, 0))).1
        generalize hw7 : wr.alloc (.cells #[.int .i64 0] 3 (0, 0)) = v7 at hx7 hbn ⊢
        have r7 := (HE.out.get (H68.out.get (HX6.out.get (HX.out.get HB7.out (fun s => s)) (fun s => s)) (fun s => s)) (fun s => s))
        have r8 := (HE.out.get (H68.out.get (HX6.out.get (HX.out.get HB8.out (fun s => s)) (fun s => s)) (fun s => s)) (fun s => s))
        have rX := hWr.get H4.out (fun s => s)
        have rS := hxr.get HK3.out (fun s => s)
        have rC5 := C_ext k30_flat H1.out hWr (fun _ _ s => s)
        have rC3 := C_ext k30_flat HK5.out hxr (fun _ _ s => s)
        have hI7 : FI wa wr.heap.size many Cs bX A5 c5 Bs A3 c3 v7 :=
          ⟨har.trans' hx7, hx7.get r7 (fun s => s), hx7.get r8 (fun s => s), hx7.get rX (fun s => s), hx7.get rS (fun s => s), C_ext k30_flat rC5 hx7 (fun _ _ s => s), C_ext k30_flat rC3 hx7 (fun _ _ s => s),
            (Array.getElem?_eq_some_iff.1 r8).1, (Array.getElem?_eq_some_iff.1 rX).1, (Array.getElem?_eq_some_iff.1 rS).1, C_lt rC5, C_lt rC3⟩
        have hN7 : wr.heap.size < v7.heap.size := (Array.getElem?_eq_some_iff.1 hbn).1
        generalize hbne : wr.heap.size = bn at hbn hI7 hN7 ⊢
        clear hw7 hbne r7 r8 rX rS rC5 rC3 hx7 hxr hWr har HE
        have hit := from_iter 3 Bs (by decide) A3 c3 Cs v7 hI7.seq hI7.C3
        have hFp : ∀ k, sliceFp Bs A3 Cs k → (∃ o, v7.heap[k]? = some o ∧ isBook o = false) ∧ k < bn := by
          rintro k (rfl | ⟨hne, ad, e, rfl⟩)
          · exact ⟨⟨_, hI7.seq, rfl⟩, hI7.l2⟩
          · obtain ⟨_, _, _, h⟩ := C_block hI7.C3 (by decide) hne e; exact ⟨⟨_, h, rfl⟩, hI7.l3 ad hne e⟩
        have hl0 := hI7.l0
        have HI7 := Lib.hid hI7; have HBN := Lib.hid hbn
        clear hI7 hbn
        refine wp_rfDq (F := FW) (n := 4) rfl (by decide) (gf := 35) (lb := #[.pointer (some ⟨Bs, 0, none⟩)]) rfl trivial (enters_of Try.func35 (by kernel_rfl) rfl) hit (fun k hk => (hFp k hk).1) (fun _ => rfl)
          (fun pre V => FI wa bn many Cs bX A5 c5 Bs A3 c3 V ∧ V.heap[bn]? = some (.cells #[.int .i64 (pre.length : Int)] 3 (0, 0)) ∧ ∀ m : Nat, 1 ≤ m → m ≤ pre.length → (m : Int) < many)
          (fun pre V => FI wa bn many Cs bX A5 c5 Bs A3 c3 V ∧ V.heap[bn]? = some (.cells #[.int .i64 (pre.length : Int)] 3 (0, 0)) ∧ many ≤ pre.length ∧ ∀ m : Nat, 1 ≤ m → m < pre.length → (m : Int) < many)
          (fun V => FI wa bn many Cs bX A5 c5 Bs A3 c3 V ∧ V.heap[bn]? = some (.cells #[.int .i64 (turns Cs.length many)] 3 (0, 0)))
          ?hI ?hIx ⟨HI7.out, HBN.out, fun m h1 h2 => by simp at h2; omega⟩ ?hF1 ?hF2 ?asg ?assign ?body ?fin
        case hI => exact fun s Wa Wb ⟨h1, h3, h4⟩ hk => ⟨h1.keep hk (by omega), hk.cells h3, h4⟩
        case hIx => exact fun s Wa Wb ⟨h1, h3, h4⟩ hk => ⟨h1.keep hk (by omega), hk.cells h3, h4⟩
        case hF1 => rintro ys V rfl ⟨h1, h3, h4⟩; exact ⟨h1, by rw [turns_full h4]; exact h3⟩
        case hF2 =>
          rintro pre x V ⟨post, hok⟩ ⟨h1, h3, h4, h5⟩
          refine ⟨h1, ?_⟩
          rw [turns_stop (n := (pre ++ [x]).length) (by simp) (by rw [hok]; simp) h4 h5]
          exact h3
        case assign =>
          rintro l pre x V K hok hK
          simp only [pairArgs]
          gi_wp2
          exact hK
        case body =>
          rintro l pre x Wa ⟨post, hok⟩ hl hlr ⟨h1, h3, h4⟩ hfp hsz2
          have hpl : pre.length < Cs.length := by rw [hok]; simp
          obtain ⟨ad, e, c0, c1⟩ := cell_at h1.C5 pre.length hpl
          subst e
          have hget : Cs[pre.length] = x := by simp [hok]
          rw [hget] at c0 c1
          have q1 := cell_of_row Wa wa.heap.size 0 _ _ _ h1.many_
          have q3 := cell_of_row Wa bn 0 _ _ _ h3
          have q4 := cell_of_row Wa bX 0 _ _ _ h1.all_
          have f3 := frozenPage h3 0
          rw [hsa] at q1
          simp only [List.getElem?_toArray, List.getElem?_cons_zero] at q1 q3 q4
          have HH1 := Lib.hid h1; have HH3 := Lib.hid h3; have HH4 := Lib.hid h4; have HOK2 := Lib.hid hok
          clear h1 h3 h4 hok hget hfp hlr
          obtain ⟨f0, f1⟩ := x
          dsimp only at c0 c1
          have hE : Ext (fun j => j = bn) Wa (Wa.setCell ⟨bn, 0, none⟩ (.int .i64 ((pre.length : Int) + 1))) := (Ext.refl _ _).setCell _ _ (.inl rfl)
          have hY : YKeep v7.heap.size (Priv (sliceFp Bs A3 Cs) (v7.heap.size + 2) 2) Wa (Wa.setCell ⟨bn, 0, none⟩ (.int .i64 ((pre.length : Int) + 1))) := by
            refine YKeep.of_ext hE (fun k hk => ?_) (fun k o ho e => .inl (by subst e; rw [HH3.out] at ho; cases ho; rfl))
            rcases hk with hk | ⟨k1, k2⟩
            · have := (hFp k hk).2; exact ⟨by omega, by omega⟩
            · exact ⟨by omega, by omega⟩
          have hI9 := HH1.out.move hE (fun k e => by omega)
          have h39 : (Wa.setCell ⟨bn, 0, none⟩ (.int .i64 ((pre.length : Int) + 1))).heap[bn]? = some (.cells #[.int .i64 ((pre ++ [⟨f0, f1⟩] : List S30).length : Int)] 3 (0, 0)) := by
            have := blk_put HH3.out 0 (.int .i64 ((pre.length : Int) + 1))
            simpa using this
          have HE9 := Lib.hid hE; have HY9 := Lib.hid hY; have HI9 := Lib.hid hI9; have H39 := Lib.hid h39
          clear hE hY hI9 h39
          by_cases hmany : many ≤ (pre.length : Int) + 1
          · gi_wp2
            exact ⟨HY9.out, rfl, HI9.out, H39.out, by simp; omega, fun m m1 m2 => HH4.out m m1 (by simp at m2; omega)⟩
          · gi_wp2
            refine ⟨HY9.out, HI9.out, H39.out, fun m m1 m2 => ?_⟩
            by_cases e : m ≤ pre.length
            · exact HH4.out m m1 e
            · simp at m2; omega
        case fin =>
          rintro D V hD ⟨h1, h3⟩ hDd
          have hmn : min (Cs.length : Int) (max 1 many) = turns Cs.length many := rfl
          generalize turns Cs.length many = N at hmn h3
          have q1 := cell_of_row V wa.heap.size 0 _ _ _ h1.many_
          have q2 := cell_of_row V (wa.heap.size + 1) 0 _ _ _ h1.res
          have q3 := cell_of_row V bn 0 _ _ _ h3
          have q4 := cell_of_row V bX 0 _ _ _ h1.all_
          have f2 := frozenPage h1.res 0
          rw [hsa] at q1 q2 f2
          simp only [List.getElem?_toArray, List.getElem?_cons_zero] at q1 q2 q3 q4
          have HH1 := Lib.hid h1; have HH3 := Lib.hid h3; have HD1 := Lib.hid hDd
          clear h1 h3 hDd HI7 HBN hit hFp
          gi_wp2
          have hres := HH1.out.res
          rw [hsa, show w.heap.size + 1 + 1 = w.heap.size + 2 from rfl] at hres
          have hblk := blk_put hres 0 (.bool true)
          have hXV : Ext NoB w V := HXA.out.trans' HH1.out.ext
          have hX5 := hXV.setCell ⟨w.heap.size + 2, 0, none⟩ (.bool true) (.inr (by show w.heap.size ≤ w.heap.size + 2; omega))
          have hg1 : (V.setCell ⟨w.heap.size + 2, 0, none⟩ (.bool true)).heap[D]? = some (.deferred (some [])) := (Below.heap_setCell _ _ _ _ (by show D ≠ w.heap.size + 2; omega)).trans HD1.out
          generalize V.setCell ⟨w.heap.size + 2, 0, none⟩ (.bool true) = V5 at hblk hX5 hg1 ⊢
          refine marksPost (D := D) rfl hg1 (results_cell1 rfl _ _ rfl (v := .bool true) ?_ Try.isAgg4) ⟨rfl, (hX5.putObj D _ (.inr (by omega))).below⟩
          have := cell_of_row (V5.putObj D (.deferred none)) (w.heap.size + 2) 0 _ _ _ ((World.putObj_heap_other (by omega)).trans hblk)
          simpa using this
end Go.Proofs.Ytgccjmjengfhbaa
end
