/- Part of the proofs over 'linesman/memory': lemmas and walks. Written by merge.py from the templates of the repo. -/
import Derived.Test.YtgccjmjengfhbaaMemoryD
import Derived.Test.YtgccjmjengfhbaaRefP
import Derived.IntWalk
import Derived.StillTailTactics
set_option linter.unusedVariables false
set_option linter.unusedSimpArgs false
section
/-! The reference memory: what its Store, From, Load and Pages compute (plain). -/
namespace Go.Proofs.Ytgccjmjengfhbaa
open Go.RowKit Go.Proofs.YtgccjmjengfhbaaW.PrintWords
open Go.Proofs.Ytgccjmjengfhbaa.PMemoryStores (S30 k30 rd_T30 linesmanref06_Memory_Store.l0 linesmanref06_Memory_Store.j1 linesmanref06_Memory_Store.f linesmanref06_Memory_From.l0 linesmanref06_Memory_From.f)

/-- Store, an element at a time. -/
def fin (a w : Int) : List S30 → List S30 → Bool → List S30
  | [], out, there => if there = true then out else out ++ [⟨a, w⟩]
  | x :: xs, out, there =>
    if there = false ∧ a ≤ x.f0 then fin a w xs (if x.f0 = a then out ++ [⟨a, w⟩] else (out ++ [⟨a, w⟩]) ++ [x]) true
    else fin a w xs (if x.f0 = a then out else out ++ [x]) there
def ins (a w : Int) (l : List S30) : List S30 := fin a w l [] (w == 0)
theorem fin_ge {a w : Int} {x : S30} {xs out : List S30} (h : a ≤ x.f0) : fin a w (x :: xs) out false = fin a w xs (if x.f0 = a then out ++ [⟨a, w⟩] else (out ++ [⟨a, w⟩]) ++ [x]) true := by
  rw [fin]; rw [if_pos ⟨rfl, h⟩]
theorem fin_lt {a w : Int} {x : S30} {xs out : List S30} (h : ¬ a ≤ x.f0) : fin a w (x :: xs) out false = fin a w xs (out ++ [x]) false := by
  rw [fin]; rw [if_neg (fun hh => h hh.2), if_neg (by omega)]
theorem fin_th {a w : Int} {x : S30} {xs out : List S30} : fin a w (x :: xs) out true = fin a w xs (if x.f0 = a then out else out ++ [x]) true := by
  rw [fin]; rw [if_neg (fun hh => by cases hh.1)]
theorem l0_fin (a w : Int) (l : List S30) (hl : l.length ≤ 1000000) : ∀ (n i : Nat) (out : List S30) (there : Bool) (k : Nat), i + n = l.length → out.length ≤ 2 * i → 2 * n + 1 ≤ k →
    linesmanref06_Memory_Store.l0 k a w out there (i : Int) l = some (fin a w (l.drop i) out there)
  | 0, i, out, there, k, hi, ho, hk => by
    obtain ⟨k, rfl⟩ : ∃ k', k = k' + 1 := ⟨k - 1, by omega⟩
    rw [linesmanref06_Memory_Store.l0, if_neg (by omega), List.drop_eq_nil_of_le (by omega)]
    unfold fin
    cases there
    · rw [if_neg (by simp), if_pos (by omega), if_neg (by simp)]
    · rw [if_pos rfl, if_pos rfl]
  | n + 1, i, out, there, k, hi, ho, hk => by
    obtain ⟨k, rfl⟩ : ∃ k', k = k' + 1 + 1 := ⟨k - 2, by omega⟩
    have hil : i < l.length := by omega
    have hr := rd_get l i hil
    have hw : wrap64 ((i : Int) + 1) = ((i + 1 : Nat) : Int) := by
      rw [show (i : Int) + 1 = ((i + 1 : Nat) : Int) by omega]
      exact IntWalk.wrap64_in _ (by omega)
    rw [linesmanref06_Memory_Store.l0, if_pos (by omega), if_pos (by omega), hr, List.drop_eq_getElem_cons hil]
    generalize l[i] = x
    obtain ⟨x0, x1⟩ := x
    have ih := fun out there h1 => l0_fin a w l hl n (i + 1) out there k (by omega) h1 (by omega)
    cases there
    · rw [if_neg (by simp), linesmanref06_Memory_Store.j1]
      by_cases hge : a ≤ x0
      · rw [if_pos (by simpa using hge), if_pos (by omega)]
        simp only [Option.bind_some, hw]
        rw [fin_ge hge]
        by_cases he : x0 = a
        · rw [if_pos he, if_pos he]; exact ih _ _ (by simp; omega)
        · rw [if_neg he, if_neg he, if_pos (by simp; omega)]; exact ih _ _ (by simp; omega)
      · rw [if_neg (by simpa using hge)]
        simp only [hw]
        rw [fin_lt hge]
        by_cases he : x0 = a
        · exact absurd (by omega) hge
        · rw [if_neg he, if_pos (by omega)]; exact ih _ _ (by simp; omega)
    · rw [if_pos rfl, linesmanref06_Memory_Store.j1, if_neg (by simp)]
      simp only [hw]
      rw [fin_th]
      by_cases he : x0 = a
      · rw [if_pos he, if_pos he]; exact ih _ _ (by omega)
      · rw [if_neg he, if_neg he, if_pos (by omega)]; exact ih _ _ (by simp; omega)
theorem store_f (a w : Int) (l : List S30) (hl : l.length ≤ 1000000) : linesmanref06_Memory_Store.f (2 * l.length + 1) l a w = some (ins a w l) := by
  have := l0_fin a w l hl l.length 0 [] (w == 0) (2 * l.length + 1) (by omega) (by simp) (Nat.le_refl _)
  rw [List.drop_zero] at this
  exact this
theorem fin_true (a w : Int) : ∀ (xs out : List S30), fin a w xs out true = out ++ xs.filter (fun c => decide (c.f0 ≠ a))
  | [], out => by unfold fin; simp
  | x :: xs, out => by
    unfold fin
    rw [if_neg (fun h => by cases h.1), fin_true a w xs]
    by_cases he : x.f0 = a
    · rw [if_pos he, List.filter_cons_of_neg (by simpa using he)]
    · rw [if_neg he, List.filter_cons_of_pos (by simpa using he)]; simp
theorem fin_false (a w : Int) : ∀ (xs out : List S30), Asc xs → fin a w xs out false = out ++ (xs.filter (fun c => decide (c.f0 < a)) ++ (⟨a, w⟩ :: xs.filter (fun c => decide (a < c.f0))))
  | [], out, _ => by unfold fin; simp
  | x :: xs, out, h => by
    unfold Asc at h
    rw [List.pairwise_cons] at h
    unfold fin
    by_cases hge : a ≤ x.f0
    · rw [if_pos ⟨rfl, hge⟩, fin_true a w xs]
      have e1 : xs.filter (fun c => decide (c.f0 < a)) = [] := List.filter_eq_nil_iff.2 (fun c hc => by have := h.1 c hc; simp; omega)
      have e2 : xs.filter (fun c => decide (c.f0 ≠ a)) = xs := List.filter_eq_self.2 (fun c hc => by have := h.1 c hc; simp; omega)
      have e3 : xs.filter (fun c => decide (a < c.f0)) = xs := List.filter_eq_self.2 (fun c hc => by have := h.1 c hc; simp; omega)
      rw [List.filter_cons_of_neg (by simpa using hge), e1, e2]
      by_cases he : x.f0 = a
      · rw [if_pos he, List.filter_cons_of_neg (by simp; omega), e3]; simp
      · rw [if_neg he, List.filter_cons_of_pos (by simp; omega), e3]; simp
    · rw [if_neg (fun h => hge h.2), if_neg (by omega), fin_false a w xs _ h.2, List.filter_cons_of_pos (by simp; omega), List.filter_cons_of_neg (by simp; omega)]
      simp
theorem mem_ins {a w : Int} {l : List S30} (hl : Asc l) (c : S30) : c ∈ ins a w l ↔ ((w ≠ 0 ∧ c = ⟨a, w⟩) ∨ (c ∈ l ∧ c.f0 ≠ a)) := by
  unfold ins
  by_cases hw : w = 0
  · subst hw
    rw [show ((0 : Int) == 0) = true from rfl, fin_true]
    simp
  · rw [show (w == 0) = false by simpa using hw, fin_false a w l [] hl]
    simp only [List.nil_append, List.mem_append, List.mem_cons, List.mem_filter, decide_eq_true_eq]
    constructor
    · rintro (⟨h1, h2⟩ | rfl | ⟨h1, h2⟩)
      · exact .inr ⟨h1, by omega⟩
      · exact .inl ⟨hw, rfl⟩
      · exact .inr ⟨h1, by omega⟩
    · rintro (⟨_, rfl⟩ | ⟨h1, h2⟩)
      · exact .inr (.inl rfl)
      · by_cases hlt : c.f0 < a
        · exact .inl ⟨h1, hlt⟩
        · exact .inr (.inr ⟨h1, by omega⟩)
theorem asc_ins {a w : Int} {l : List S30} (hl : Asc l) : Asc (ins a w l) := by
  unfold ins
  by_cases hw : w = 0
  · subst hw
    rw [show ((0 : Int) == 0) = true from rfl, fin_true]
    exact List.Pairwise.filter _ hl
  · rw [show (w == 0) = false by simpa using hw, fin_false a w l [] hl]
    unfold Asc
    rw [List.nil_append, List.pairwise_append, List.pairwise_cons]
    refine ⟨List.Pairwise.filter _ hl, ⟨fun c hc => by simpa using (List.mem_filter.1 hc).2, List.Pairwise.filter _ hl⟩, fun b hb c hc => ?_⟩
    have h1 : b.f0 < a := by simpa using (List.mem_filter.1 hb).2
    rcases List.mem_cons.1 hc with rfl | hc
    · exact h1
    · have h2 : a < c.f0 := by simpa using (List.mem_filter.1 hc).2
      omega
/-- The reference follows the memory. -/
theorem fits_ins {g g' : Int → Int} {R : List S30} {a w : Int} (h : Fits g R) (h0 : 0 ≤ a) (hg : ∀ b, 0 ≤ b → g' b = if b = a then w else g b) : Fits g' (ins a w R) := by
  refine ⟨asc_ins h.1, fun c => ?_⟩
  rw [mem_ins h.1, h.2]
  obtain ⟨c0, c1⟩ := c
  constructor
  · rintro (⟨hw, e⟩ | ⟨⟨h1, h2, h3⟩, h4⟩)
    · injection e with e0 e1
      subst e0; subst e1
      have := hg c0 h0
      rw [if_pos rfl] at this
      exact ⟨h0, this.symm, by rw [this]; exact hw⟩
    · have := hg c0 h1
      rw [if_neg h4] at this
      exact ⟨h1, by rw [this]; exact h2, by rw [this]; exact h3⟩
  · rintro ⟨h1, h2, h3⟩
    dsimp only at h1 h2 h3
    have := hg c0 h1
    by_cases e : c0 = a
    · subst e
      rw [if_pos rfl] at this
      rw [this] at h2 h3
      exact .inl ⟨h3, by rw [h2]⟩
    · rw [if_neg e] at this
      rw [this] at h2 h3
      exact .inr ⟨⟨h1, h2, h3⟩, e⟩
theorem fits_nil : Fits (mget []) [] := ⟨List.Pairwise.nil, fun c => ⟨fun h => (by cases h), fun h => absurd rfl h.2.2⟩⟩
theorem len_ins (a w : Int) {l : List S30} (hl : Asc l) : (ins a w l).length ≤ l.length + 1 := by
  unfold ins
  by_cases hw : w = 0
  · subst hw
    rw [show ((0 : Int) == 0) = true from rfl, fin_true]
    simp
    exact Nat.le_succ_of_le (List.length_filter_le _ _)
  · rw [show (w == 0) = false by simpa using hw, fin_false a w l [] hl]
    have : (l.filter (fun c => decide (c.f0 < a))).length + (l.filter (fun c => decide (a < c.f0))).length ≤ l.length := by
      clear hl
      induction l with
      | nil => simp
      | cons x xs ih =>
        by_cases h1 : x.f0 < a
        · rw [List.filter_cons_of_pos (by simpa using h1), List.filter_cons_of_neg (by simp; omega)]; simp; omega
        · by_cases h2 : a < x.f0
          · rw [List.filter_cons_of_neg (by simpa using h1), List.filter_cons_of_pos (by simpa using h2)]; simp; omega
          · rw [List.filter_cons_of_neg (by simpa using h1), List.filter_cons_of_neg (by simpa using h2)]; simp; omega
    simp
    omega
/-- From: the cells from the address on. -/
theorem from_l0 (a : Int) (l : List S30) (hl : l.length ≤ 1000000) (ha : Asc l) : ∀ (n i k : Nat), i + n = l.length → n + 1 ≤ k → (∀ c ∈ l.take i, c.f0 < a) →
    linesmanref06_Memory_From.l0 k a (i : Int) l = some (l.filter (fun c => decide (a ≤ c.f0)))
  | n, i, k, hi, hk, hb => by
    obtain ⟨k, rfl⟩ : ∃ k', k = k' + 1 := ⟨k - 1, by omega⟩
    have key : (∀ c ∈ l.drop i, a ≤ c.f0) → l.drop i = l.filter (fun c => decide (a ≤ c.f0)) := fun h => by
      conv => rhs; rw [← List.take_append_drop i l]
      rw [List.filter_append, List.filter_eq_nil_iff.2 (fun c hc => by have := hb c hc; simp; omega), List.nil_append, List.filter_eq_self.2 (fun c hc => by simpa using h c hc)]
    rw [linesmanref06_Memory_From.l0]
    by_cases hil : i < l.length
    · have hr := rd_get l i hil
      have hw : wrap64 ((i : Int) + 1) = ((i + 1 : Nat) : Int) := by
        rw [show (i : Int) + 1 = ((i + 1 : Nat) : Int) by omega]
        exact IntWalk.wrap64_in _ (by omega)
      rw [if_pos (by omega), if_pos (by omega), hr, hw]
      by_cases hlt : (l[i]).f0 < a
      · rw [if_pos hlt]
        obtain ⟨n, rfl⟩ : ∃ n', n = n' + 1 := ⟨n - 1, by omega⟩
        refine from_l0 a l hl ha n (i + 1) k (by omega) (by omega) (fun c hc => ?_)
        rw [take_last l i hil, List.mem_append, List.mem_singleton] at hc
        rcases hc with hc | rfl
        · exact hb c hc
        · exact hlt
      · rw [if_neg hlt, if_pos (by omega), Int.toNat_natCast, key (fun c hc => ?_)]
        rw [List.drop_eq_getElem_cons hil, List.mem_cons] at hc
        rcases hc with rfl | hc
        · omega
        · have hp : (l.drop i).Pairwise (fun a b => a.f0 < b.f0) := List.Pairwise.drop ha
          rw [List.drop_eq_getElem_cons hil, List.pairwise_cons] at hp
          have := hp.1 c hc
          omega
    · rw [if_neg (by omega), if_pos (by omega), if_pos (by omega), Int.toNat_natCast, key (fun c hc => ?_)]
      rw [List.drop_eq_nil_of_le (by omega)] at hc
      cases hc
theorem from_f (a : Int) (l : List S30) (hl : l.length ≤ 1000000) (ha : Asc l) : linesmanref06_Memory_From.f (l.length + 1) l a = some (l.filter (fun c => decide (a ≤ c.f0))) :=
  from_l0 a l hl ha l.length 0 (l.length + 1) (by omega) (Nat.le_refl _) (by simp)
end Go.Proofs.Ytgccjmjengfhbaa
end
section
set_option maxRecDepth 100000
namespace Go.Proofs.Ytgccjmjengfhbaa
open Go.RowKit Go.Shelf Go.Proofs Go.Proofs.YtgccjmjengfhbaaW.PrintWords
open Go.Proofs.Ytgccjmjengfhbaa.PMemoryStores (S30 k30 k30_mk at_T30 rd_T30)

/-- A row of cells of the call's own, as the reference holds it. -/
def OwnK (w : World) (base : Nat) (v : Value) (R : List S30) : Prop := Kd.R k30 30 w base (fun _ => True) v R
theorem OwnK.ext {w w' : World} {base : Nat} {v : Value} {R : List S30} {S : Nat → Prop} (h : OwnK w base v R) (hx : Ext S w w') (hS : ∀ k cs, base ≤ k → w.heap[k]? = some (.cells cs 30 (0, 0)) → ¬ S k) : OwnK w' base v R := by
  refine Kd.R_mono (Kd.R_move (Kd.R_bound h) (fun k hk => ?_)) (fun _ _ => trivial)
  obtain ⟨_, hb, hlt, q, hq, cells, hc⟩ := hk
  have hq30 : q = 30 := by
    have : q ∈ [30] := hq
    simpa using this
  subst hq30
  exact hx.block k hlt (hS k cells hb hc)
theorem OwnK.reads {w : World} {base : Nat} {v : Value} {R : List S30} (h : OwnK w base v R) : ∃ A c, v = .slice A R.length c ∧ R.length ≤ c ∧ k30.C w A R.length R := Kd.R_reads h
theorem OwnK.nil (w : World) (base : Nat) : OwnK w base (.slice none 0 0) [] := Kd.R_nil _ _ _ _ _

theorem rstore_any (A : Option Addr) (c : Nat) (R : List S30) (a wd : Int) (w : World) (hC : k30.C w A R.length R) (hc : R.length ≤ c) (hl : R.length ≤ 1000000) :
    Calls Try.prog 19 #[.agg #[.slice A R.length c], .int .u32 a, .int .u32 wd] w fun e w' => ∃ v, e = .returned (.agg #[v]) ∧ OwnK w' w.heap.size v (ins a wd R) ∧ Below w.heap.size w w' :=
  PMemoryStores.linesmanref06_Memory_Store.calls (2 * R.length + 1) A c R a wd (ins a wd R) w hC hc (store_f a wd R hl)

/-- The first place from the address a on. -/
def fst (a : Int) (R : List S30) : Nat := (R.takeWhile (fun c => decide (c.f0 < a))).length
theorem fst_le (a : Int) (R : List S30) : fst a R ≤ R.length := by
  unfold fst
  have := (List.takeWhile_prefix (l := R) (fun c : S30 => decide (c.f0 < a))).length_le
  exact this
theorem asc_drop (a : Int) : ∀ (R : List S30), Asc R → R.drop (fst a R) = R.filter (fun c => decide (a ≤ c.f0)) ∧ ∀ i (h : i < R.length), i < fst a R ↔ (R[i]).f0 < a
  | [], _ => ⟨rfl, fun i h => by simp at h⟩
  | x :: xs, hA => by
    unfold Asc at hA
    rw [List.pairwise_cons] at hA
    obtain ⟨ih1, ih2⟩ := asc_drop a xs hA.2
    unfold fst at ih1 ih2 ⊢
    by_cases h : x.f0 < a
    · rw [List.takeWhile_cons_of_pos (by simpa using h), List.filter_cons_of_neg (by simp; omega)]
      refine ⟨by simpa using ih1, fun i hi => ?_⟩
      cases i with
      | zero => simp [h]
      | succ i => simpa using ih2 i (by simpa using hi)
    · rw [List.takeWhile_cons_of_neg (by simpa using h)]
      refine ⟨?_, fun i hi => ?_⟩
      · rw [List.filter_eq_self.2 (fun c hc => ?_)]
        · rfl
        · rcases List.mem_cons.1 hc with rfl | hc
          · simp; omega
          · have := hA.1 c hc; simp; omega
      · cases i with
        | zero => simp; omega
        | succ i =>
          have := hA.1 (xs[i]'(by simpa using hi)) (List.getElem_mem _)
          simp; omega

theorem C_drop {w : World} {ad : Addr} {R : List S30} (h : k30.C w (some ad) R.length R) (k : Nat) (hk : k ≤ R.length) : k30.C w (some (ad.add (k * 2))) (R.length - k) (R.drop k) := by
  obtain ⟨h1, h2, h3⟩ := h
  refine ⟨by simp, by omega, fun hp => ?_⟩
  obtain ⟨ad', e, h4⟩ := h3 (by omega)
  cases e
  refine ⟨_, rfl, fun j p hj => ?_⟩
  rw [List.getElem?_drop] at hj
  obtain ⟨cs, q1, q2, q3⟩ := h4 (k + j) p hj
  refine ⟨cs, q1, q2, fun i u hu => ?_⟩
  have := q3 i u hu
  rw [Go.Deep.add_add]
  rw [show k * 2 + (j * k30.sz + i) = (k + j) * k30.sz + i by show k * 2 + (j * 2 + i) = (k + j) * 2 + i; omega]
  exact this
theorem C_nil (w : World) (A : Option Addr) : k30.C w A 0 [] := ⟨rfl, by omega, fun h => absurd h (by omega)⟩
set_option maxHeartbeats 1000000 in
theorem rfrom_any (A : Option Addr) (c : Nat) (R : List S30) (a : Int) (w : World) (hC : k30.C w A R.length R) (hc : R.length ≤ c) (hl : R.length ≤ 1000000) (ha : Asc R) :
    Calls Try.prog 18 #[.agg #[.slice A R.length c], .int .u32 a] w fun e w' => ∃ A' c', e = .returned (.slice A' (R.filter (fun c => decide (a ≤ c.f0))).length c') ∧ k30.C w' A' (R.filter (fun c => decide (a ≤ c.f0))).length (R.filter (fun c => decide (a ≤ c.f0))) ∧ Below w.heap.size w w' := by
  obtain ⟨hd1, hd2⟩ := asc_drop a R ha
  have hfl := fst_le a R
  have HD1 := Lib.hid hd1; have HD2 := Lib.hid hd2
  clear hd1 hd2
  have hx := (Ext.refl NoB w).alloc (.cells #[.slice A R.length c] 38 (0, 0))
  have hb := (MapKept.heap_alloc w (.cells #[.slice A R.length c] 38 (0, 0))).1
  have HX := Lib.hid hx; have HC := Lib.hid hC
  clear hx hC
  go_enter Try.func18, Try.ntmps18
  go_wp2
  generalize hw1 : w.alloc (.cells #[.slice A R.length c] 38 (0, 0)) = w1 at hb HX ⊢
  have hcb := cell_of_row w1 w.heap.size 0 _ _ _ hb
  simp only [List.getElem?_toArray, List.getElem?_cons_zero] at hcb
  have hC1 : k30.C w1 A R.length R := C_ext k30_flat HC.out HX.out (fun _ _ s => s)
  have HC1 := Lib.hid hC1
  clear hw1 hb hC1 HC
  go_loopw [5] (fun v wr => ∃ k : Nat, k ≤ fst a R ∧ v = .int .i64 k ∧ wr = w1) (fun v _ => R.length - (intOf v).toNat)
  case atStart => exact ⟨0, Nat.zero_le _, rfl, rfl⟩
  case round =>
    obtain ⟨k, hk, rfl, rfl⟩ := hrel
    by_cases hkl : k < R.length
    · obtain ⟨ad, e, c0, c1⟩ := cell_at HC1.out k hkl
      subst e
      have h2 := HD2.out k hkl
      generalize R[k] = x at c0 h2
      by_cases hlt : x.f0 < a
      · have hkf := h2.2 hlt
        go_wp2
        go_roundw
        case rel => exact ⟨k + 1, by omega, by go_num, trivial⟩
        case measure => simp [intOf]; omega
      · have hkf : k = fst a R := by have := fun h => hlt (h2.1 h); omega
        have HKF := Lib.hid hkf
        clear hkf h2 hfl
        go_wp2
        go_ret
        have hlen : (R.filter (fun c => decide (a ≤ c.f0))).length = R.length - k := by rw [← HD1.out, List.length_drop, HKF.out]
        refine ⟨some (ad.add (k * 2)), ⟨c - k, ?_⟩, ?_, HX.out.below⟩
        · rw [hlen]; rfl
        · rw [hlen, ← HD1.out, ← HKF.out]
          exact C_drop HC1.out k (by omega)
    · obtain rfl : k = R.length := by omega
      have hkf : R.length = fst a R := by omega
      have HKF := Lib.hid hkf
      have hlen : (R.filter (fun c => decide (a ≤ c.f0))).length = 0 := by rw [← HD1.out, List.length_drop, ← hkf]; omega
      have hnil := List.length_eq_zero_iff.1 hlen
      have HNI := Lib.hid hnil
      clear hkf hlen hnil hfl hk
      rcases A with _ | ad
      · have hR0 : R.length = 0 := Classical.byContradiction fun h0 => by obtain ⟨_, e, _⟩ := HC1.out.2.2 (by omega); cases e
        obtain rfl : R = [] := List.length_eq_zero_iff.1 hR0
        go_wp2
        go_ret
        rw [HNI.out]
        exact ⟨_, _, rfl, C_nil _ _, HX.out.below⟩
      · by_cases hcc : c = R.length
        · subst hcc
          go_wp2
          go_ret
          rw [HNI.out]
          exact ⟨_, _, rfl, C_nil _ _, HX.out.below⟩
        · go_wp2
          go_ret
          rw [HNI.out]
          exact ⟨_, _, rfl, C_nil _ _, HX.out.below⟩
end Go.Proofs.Ytgccjmjengfhbaa
end
section
set_option maxRecDepth 100000
namespace Go.Proofs.Ytgccjmjengfhbaa
open Go.RowKit Go.Shelf Go.Proofs Go.Proofs.YtgccjmjengfhbaaW.PrintWords
open Go.Proofs.Ytgccjmjengfhbaa.PMemoryStores (S30 k30 k30_mk at_T30 rd_T30)

/-- One memory of the call's own. -/
structure Mem1 (w wr : World) (pa ma : Nat) (La : List Pg) : Prop where
  a : MemAt wr pa ma La
  bel : Below w.heap.size w wr
  fa : ∀ k, foot ma La k → w.heap.size ≤ k
  pa : w.heap.size ≤ pa
theorem Mem1.quiet {w wr w' : World} {pa ma : Nat} {La : List Pg} (h : Mem1 w wr pa ma La) (hx : Ext NoB wr w') : Mem1 w w' pa ma La :=
  ⟨h.a.ext hx (fun _ _ s => s) (fun s => s), ((Ext.of_below (S := NoB) h.bel).trans' hx).below, h.fa, h.pa⟩
theorem Mem1.ext {w wr w' : World} {pa ma : Nat} {La : List Pg} {S : Nat → Prop} (h : Mem1 w wr pa ma La) (hx : Ext S wr w') (hS : ∀ k, foot ma La k → ¬ S k) (hp : ¬ S pa) (hB : ∀ k, k < w.heap.size → ¬ S k) : Mem1 w w' pa ma La :=
  ⟨h.a.ext hx hS hp, ((Ext.of_below (S := NoB) h.bel).trans hx (fun k hk s => absurd s (hB k hk))).below, h.fa, h.pa⟩
theorem Mem1.set {w wr : World} {pa ma : Nat} {La : List Pg} (h : Mem1 w wr pa ma La) {b : Nat} {cs : Array Value} (hb : wr.heap[b]? = some (.cells cs 38 (0, 0))) (hw : w.heap.size ≤ b) (u : Value) : Mem1 w (wr.setCell ⟨b, 0, none⟩ u) pa ma La := by
  refine h.ext (S := fun k => k = b) ((Ext.refl _ _).setCell _ _ (.inl rfl)) (fun k hk e => ?_) (fun e => ?_) (fun k hk e => by omega)
  · subst e; exact h.a.2.not_foot hb (by decide) hk
  · have h1 := h.a.1
    rw [e] at h1
    rw [hb] at h1
    have h2 := Option.some.inj h1
    injection h2 with h3 h4
    cases h4
theorem store1 {w wr : World} {pa ma : Nat} {La : List Pg} (h : Mem1 w wr pa ma La) (xs : List S30) (hok : ∀ c ∈ xs, okCell c) (hne : xs.length ≤ 1000) :
    Calls Try.prog 10 #[.pointer (some ⟨pa, 0, none⟩), .slice (some ⟨wr.heap.size, 0, none⟩) xs.length xs.length] (wr.alloc (.cells (xs.map encC).flatten.toArray 30 (0, 0))) fun e w' => e = .returned (.int .i64 0) ∧
      ∃ La', Mem1 w w' pa ma La' ∧ (∀ a, 0 ≤ a → mget La' a = stored (mget La) xs a) ∧ Ext (foot ma La) wr w' := by
  have hx := (Ext.refl NoB wr).alloc (.cells (xs.map encC).flatten.toArray 30 (0, 0))
  have hg := (MapKept.heap_alloc wr (.cells (xs.map encC).flatten.toArray 30 (0, 0))).1
  generalize hw0 : wr.alloc (.cells (xs.map encC).flatten.toArray 30 (0, 0)) = w0 at hx hg ⊢
  have hs0 : w0.heap.size = wr.heap.size + 1 := by rw [← hw0]; simp
  have hl := flat_len xs
  have ho : OwnC w0 0 (.slice (some ⟨wr.heap.size, 0, none⟩) xs.length xs.length) xs :=
    ⟨hl, .inr ⟨wr.heap.size, xs.length, _, rfl, Nat.zero_le _, hg, Nat.le_refl _, by simp only [maxLen]; omega, by simpa using hl, by simp only [List.toList_toArray]; rw [← hl, List.take_length]⟩⟩
  obtain ⟨A, c, hv, hC⟩ := own_K ho
  injection hv with e1 _ _
  subst e1
  refine (store_any pa ma La _ xs.length xs w0 (h.a.ext hx (fun _ _ s => s) (fun s => s)) hC (fun ad e => by cases e; exact ⟨fun hf => by have := h.a.2.foot_lt hf; simp at this, by simp; omega⟩) hok).mono ?_
  rintro e w' ⟨rfl, La', h1, h2, h3, h4⟩
  have hX : Ext (foot ma La) wr w' := (hx.mono (fun _ _ s => s.elim)).trans' h3
  refine ⟨rfl, La', ⟨h1, ((Ext.of_below (S := NoB) h.bel).trans hX (fun k hk hf => absurd (h.fa k hf) (by omega))).below, fun k hk => ?_, h.pa⟩, h2, hX⟩
  rcases h4 k hk with h5 | h5
  · exact h.fa k h5
  · have := h.bel.size; omega
/-- Two results, the second a cell's. -/
theorem results_tmp_cell {P : Program} {fn : Func} {t p : Tmp} {ty : TypeId} (h : fn.results = #[.tmp t, .cell p ty]) (tmps : Array Value) (w : World) {g : Nat} {v : Value}
    (hp : tmps.getD p undef = .pointer (some ⟨g, 0, none⟩)) (hl : (loadVar ty ⟨g, 0, none⟩).run P w = .ok v w) : (results fn tmps).run P w = .ok (.tuple #[tmps.getD t undef, v]) w := by
  have hp' : tmps[p]?.getD undef = .pointer (some ⟨g, 0, none⟩) := by simpa using hp
  simp [results, h, hp', asAddr, hl, Result.andThen]

set_option maxHeartbeats 4000000 in
theorem played_any (A : Option Addr) (cap : Nat) (xs : List S30) (w : World) (hC : k30.C w A xs.length xs) (hok : ∀ c ∈ xs, okCell c) (hlen : xs.length ≤ 1000) :
    Calls Try.prog 15 #[.slice A xs.length cap] w fun e w' => ∃ (pa ma : Nat) (La : List Pg) (v : Value) (R : List S30), e = .returned (.tuple #[.pointer (some ⟨pa, 0, none⟩), .agg #[v]]) ∧ Mem1 w w' pa ma La ∧ OwnK w' w.heap.size v R ∧ Fits (mget La) R ∧ R.length ≤ xs.length := by
  have HC := Lib.hid hC; have HOK := Lib.hid hok
  clear hC hok
  go_enter Try.func15, Try.ntmps15
  have hb3 := (MapKept.heap_alloc w (.cells #[.slice none 0 0] 38 (0, 0))).1
  have hx0 := (Ext.refl NoB w).alloc (.cells #[.slice none 0 0] 38 (0, 0))
  have HB3 := Lib.hid hb3; have HX0 := Lib.hid hx0
  clear hb3 hx0
  go_wp2_with (go_at_call 9; refine (new_any _).mono ?_; rintro e w1 ⟨pa, ma, rfl, h1, h2, h3, h4⟩; have H1 := Lib.hid h1; have H2 := Lib.hid h2; have H34 := Lib.hid (And.intro h3 h4); clear h1 h2 h3 h4)
  have hb5 := (MapKept.heap_alloc w1 (.cells #[.slice none 0 0] 38 (0, 0))).1
  have hx1 := (Ext.refl NoB w1).alloc (.cells #[.slice none 0 0] 38 (0, 0))
  have hxw : Ext NoB w w1 := HX0.out.sub H2.out
  have hbw1 := (Ext.of_below (S := NoB) H2.out).get HB3.out (fun s => s)
  have hle : w.heap.size < w1.heap.size := (Array.getElem?_eq_some_iff.1 hbw1).1
  have hm1 : Mem1 w w1 pa ma [] := ⟨H1.out, hxw.below, fun k hk => by
    rcases hk with rfl | ⟨p, hp, _⟩
    · have := H34.out.2; simp at this; omega
    · exact absurd hp List.not_mem_nil, by have := H34.out.1; simp at this; omega⟩
  have HM1 := Lib.hid (hm1.quiet hx1)
  have HB5 := Lib.hid hb5; have HBW := Lib.hid (hx1.get hbw1 (fun s => s))
  clear hb5 hx1 hxw hbw1 hm1 HB3 HX0 H1 H2 H34
  generalize hw2 : w1.alloc (.cells #[.slice none 0 0] 38 (0, 0)) = w2 at HM1 HB5 HBW ⊢
  generalize hb5 : w1.heap.size = b5 at hle HB5 ⊢
  clear hw2 hb5
  go_loopw [6] (fun v6 wr => ∃ k : Nat, k ≤ xs.length ∧ v6 = .int .i64 k ∧ ∃ (La : List Pg) (v : Value) (R : List S30), Mem1 w wr pa ma La ∧ wr.heap[w.heap.size]? = some (.cells #[.slice none 0 0] 38 (0, 0)) ∧ wr.heap[b5]? = some (.cells #[v] 38 (0, 0)) ∧ OwnK wr w.heap.size v R ∧ Fits (mget La) R ∧ R.length ≤ k) (fun v6 _ => xs.length - (intOf v6).toNat)
  case atStart => exact ⟨0, Nat.zero_le _, rfl, [], _, [], HM1.out, HBW.out, HB5.out, OwnK.nil _ _, fits_nil, Nat.zero_le _⟩
  case round =>
    obtain ⟨k, hk, rfl, La, v, R, hM, hr3, hr5, hO, hF, hRl⟩ := hrel
    by_cases hlt : k < xs.length
    · obtain ⟨ad, e, c0, c1⟩ := cell_at (C_below HC.out hM.bel) k hlt
      subst e
      have hoki := HOK.out _ (List.getElem_mem hlt)
      have HS := Lib.hid (store1 hM [xs[k]] (by intro c hc; rw [List.mem_singleton] at hc; subst hc; exact HOK.out _ (List.getElem_mem hlt)) (by simp))
      have HR3 := Lib.hid hr3; have HR5 := Lib.hid hr5; have HO := Lib.hid hO; have HF := Lib.hid hF; have HM := Lib.hid hM
      clear hr3 hr5 hO hF hM HM1 HBW HB5
      generalize hci : xs[k] = c at c0 c1 HS hoki
      have HCI := Lib.hid hci
      clear hci
      obtain ⟨f0, f1⟩ := c
      obtain ⟨⟨a0, a1⟩, b0, b1⟩ := hoki
      dsimp only at c0 c1 a0 a1 b0 b1
      go_wp2_with (go_at_call 10; (refine HS.out.mono ?_; rintro e w3 ⟨rfl, La', h5, h6, h7⟩; have H5 := Lib.hid h5; have H6 := Lib.hid h6; have H7 := Lib.hid h7; clear h5 h6 h7))
      obtain ⟨ad2, e2, d0, d1⟩ := cell_at (C_below HC.out H5.out.bel) k hlt
      cases e2
      rw [HCI.out] at d0 d1
      dsimp only at d0 d1
      have hq3 := H7.out.get HR3.out (fun hf => HM.out.a.2.not_foot HR3.out (by decide) hf)
      have hq5 := H7.out.get HR5.out (fun hf => HM.out.a.2.not_foot HR5.out (by decide) hf)
      have hO3 : OwnK w3 w.heap.size v R := HO.out.ext H7.out (fun k cs _ hc hf => HM.out.a.2.not_foot hc (by decide) hf)
      have hF3 : Fits (mget La') (ins f0 f1 R) := fits_ins HF.out a0 (fun b hb => H6.out b hb)
      have hxd : Ext NoB w3 w3.drew := (Ext.refl NoB w3).drew
      refine wp_region_still_tail 11 (by kernel_rfl) (by kernel_rfl) ?_
      simp only [List.take_succ_cons, List.take_zero, List.drop_succ_cons, List.drop_zero]
      change wpStill _ _ w3.drew (fun a' => wpList _ _ _ _ a' w3.drew) _ _
      have d0' : w3.drew.cell? (ad.add (k * 2)) = some (.int .u32 f0) := d0
      have d1' : w3.drew.cell? ⟨(ad.add (k * 2)).block, (ad.add (k * 2)).off + 1, none⟩ = some (.int .u32 f1) := d1
      have hq3' := hxd.get hq3 (fun s => s)
      have hq5' := hxd.get hq5 (fun s => s)
      have hO4 := hO3.ext hxd (fun _ _ _ _ s => s)
      have HM4 := Lib.hid (H5.out.quiet hxd)
      have HQ3 := Lib.hid hq3'; have HQ5 := Lib.hid hq5'; have HO4 := Lib.hid hO4; have HF4 := Lib.hid hF3
      clear d0 d1 c0 c1 hq3 hq5 hq3' hq5' hO3 hO4 hF3 hxd
      generalize w3.drew = w4 at d0' d1' HQ3 HQ5 HO4 HM4 ⊢
      obtain ⟨A', c', rfl, hRc, hCr⟩ := HO4.out.reads
      have hcb := cell_of_row w4 b5 0 _ _ _ HQ5.out
      simp only [List.getElem?_toArray, List.getElem?_cons_zero] at hcb
      have HRS := Lib.hid (rstore_any A' c' R f0 f1 w4 hCr hRc (by omega))
      clear hCr hRc
      repeat still_step
      refine wpStill_nil ?_
      go_wp2_with (go_at_call 19; go_loud (refine HRS.out.mono ?_; rintro e w5 ⟨v2, rfl, h8, h9⟩; obtain ⟨A2, c2, rfl, _⟩ := h8.reads; have hs5 := (Ext.of_below (S := NoB) h9).get HQ5.out (fun s => s); have hcb5 := cell_of_row w5 b5 0 _ _ _ hs5; simp only [List.getElem?_toArray, List.getElem?_cons_zero] at hcb5; have hfr5 := frozenPage hs5 0; have H8 := Lib.hid h8; have H9 := Lib.hid h9; have HS5 := Lib.hid hs5; clear h8 h9 hs5))
      go_roundw
      case rel =>
        have hlt5 := (Array.getElem?_eq_some_iff.1 HQ5.out).1
        have hX9 := Ext.of_below (S := NoB) H9.out
        have hblk := blk_put HS5.out 0 (.slice A2 (ins f0 f1 R).length c2)
        have hXs : Ext (fun j => j = b5) w5 (w5.setCell ⟨b5, 0, none⟩ (.slice A2 (ins f0 f1 R).length c2)) := (Ext.refl _ _).setCell _ _ (.inl rfl)
        refine ⟨k + 1, by omega, by go_num, La', _, ins f0 f1 R, (HM4.out.quiet hX9).set HS5.out (by omega) _, ?_, by simpa using hblk, ?_, HF4.out, by have := len_ins f0 f1 HF.out.1; omega⟩
        · exact hXs.get (hX9.get HQ3.out (fun s => s)) (by omega)
        · refine OwnK.ext ?_ hXs (fun j cs _ hc e => ?_)
          · exact Kd.R_lower H8.out (by have := HM4.out.bel.size; omega)
          · subst e; rw [HS5.out] at hc; cases hc
      case measure => simp [intOf]; omega
    · obtain rfl : k = xs.length := by omega
      obtain ⟨A', c', rfl, _⟩ := hO.reads
      have hcb := cell_of_row wr b5 0 _ _ _ hr5
      simp only [List.getElem?_toArray, List.getElem?_cons_zero] at hcb
      have hce3 := cell_of_row wr w.heap.size 0 _ _ _ hr3
      simp only [List.getElem?_toArray, List.getElem?_cons_zero] at hce3
      have hfr3 := frozenPage hr3 0
      have HR3 := Lib.hid hr3; have HR5 := Lib.hid hr5; have HO := Lib.hid hO; have HF := Lib.hid hF; have HM := Lib.hid hM
      clear hr3 hr5 hO hF hM HM1 HBW HB5
      go_wp2
      refine wp_region_still_tail 3 (by kernel_rfl) (by kernel_rfl) ?_
      simp only [List.take_succ_cons, List.take_zero, List.drop_succ_cons, List.drop_zero]
      change wpStill _ _ wr.drew (fun a' => wpList _ _ _ _ a' wr.drew) _ _
      have hcb' : wr.drew.cell? ⟨b5, 0, none⟩ = some (.slice A' R.length c') := hcb
      have hce3' : wr.drew.cell? ⟨w.heap.size, 0, none⟩ = some (.slice none 0 0) := hce3
      have hfr3' : wr.drew.frozen? ⟨w.heap.size, 0, none⟩ = false := hfr3
      have HX4 := Lib.hid ((Ext.refl NoB wr).drew)
      clear hcb hce3 hfr3
      generalize wr.drew = w4 at hcb' hce3' hfr3' HX4 ⊢
      repeat still_step
      refine wpStill_nil ?_
      go_wp2
      have hr34 := HX4.out.get HR3.out (fun s => s)
      have hblk := blk_put hr34 0 (.slice A' R.length c')
      have hXs : Ext (fun j => j = w.heap.size) w4 (w4.setCell ⟨w.heap.size, 0, none⟩ (.slice A' R.length c')) := (Ext.refl _ _).setCell _ _ (.inl rfl)
      have hfin := (HM.out.quiet HX4.out).set hr34 (Nat.le_refl _) (.slice A' R.length c')
      have hofin : OwnK (w4.setCell ⟨w.heap.size, 0, none⟩ (.slice A' R.length c')) w.heap.size (.slice A' R.length c') R := (HO.out.ext HX4.out (fun _ _ _ _ s => s)).ext hXs (fun j cs _ hc e => by subst e; rw [hr34] at hc; cases hc)
      generalize w4.setCell ⟨w.heap.size, 0, none⟩ (.slice A' R.length c') = w6 at hblk hXs hfin hofin ⊢
      refine bodyPost_ret (results_tmp_cell rfl _ _ rfl (run_loadVar_row w6 w.heap.size _ _ #[.slice A' R.length c'] (0, 0) _ (by simpa using hblk) Try.underlying38 rfl (by kernel_rfl))) rfl ?_
      exact ⟨pa, ma, La, _, R, rfl, hfin, hofin, HF.out, hRl⟩
end Go.Proofs.Ytgccjmjengfhbaa
end
