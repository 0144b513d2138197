/- Part of the proofs over 'linesman/memory': lemmas and walks. Written by merge.py from the templates of the repo. -/
import Derived.Test.YtgccjmjengfhbaaMemoryB
set_option linter.unusedVariables false
set_option linter.unusedSimpArgs false
section
/-! The plain law: what a memory's cells and pages are, from what it answers. -/
namespace Go.Proofs.Ytgccjmjengfhbaa
open Go.RowKit
open Go.Proofs.Ytgccjmjengfhbaa.PMemoryStores (S30)

theorem asc_uniqueI : ∀ {xs ys : List Int}, xs.Pairwise (· < ·) → ys.Pairwise (· < ·) → (∀ a, a ∈ xs ↔ a ∈ ys) → xs = ys
  | [], [], _, _, _ => rfl
  | [], y :: ys, _, _, h => by have := (h y).2 (by simp); simp at this
  | x :: xs, [], _, _, h => by have := (h x).1 (by simp); simp at this
  | x :: xs, y :: ys, hx, hy, h => by
    rw [List.pairwise_cons] at hx hy
    have hxy : x = y := by
      have h1 := (h x).1 (by simp)
      have h2 := (h y).2 (by simp)
      rcases List.mem_cons.1 h1 with h1 | h1
      · exact h1
      · rcases List.mem_cons.1 h2 with h2 | h2
        · exact h2.symm
        · have := hx.1 y h2; have := hy.1 x h1; omega
    subst hxy
    rw [asc_uniqueI hx.2 hy.2 (fun a => ?_)]
    constructor
    · intro ha
      rcases List.mem_cons.1 ((h a).1 (by simp [ha])) with e | e
      · have := hx.1 a ha; omega
      · exact e
    · intro ha
      rcases List.mem_cons.1 ((h a).2 (by simp [ha])) with e | e
      · have := hy.1 a ha; omega
      · exact e
def Asc (R : List S30) : Prop := R.Pairwise (fun a b => a.f0 < b.f0)
theorem asc_unique : ∀ {xs ys : List S30}, Asc xs → Asc ys → (∀ a, a ∈ xs ↔ a ∈ ys) → xs = ys
  | [], [], _, _, _ => rfl
  | [], y :: ys, _, _, h => by have := (h y).2 (by simp); simp at this
  | x :: xs, [], _, _, h => by have := (h x).1 (by simp); simp at this
  | x :: xs, y :: ys, hx, hy, h => by
    unfold Asc at hx hy
    rw [List.pairwise_cons] at hx hy
    have hxy : x = y := by
      have h1 := (h x).1 (by simp)
      have h2 := (h y).2 (by simp)
      rcases List.mem_cons.1 h1 with h1 | h1
      · exact h1
      · rcases List.mem_cons.1 h2 with h2 | h2
        · exact h2.symm
        · have := hx.1 y h2; have := hy.1 x h1; omega
    subst hxy
    rw [asc_unique hx.2 hy.2 (fun a => ?_)]
    constructor
    · intro ha
      rcases List.mem_cons.1 ((h a).1 (by simp [ha])) with e | e
      · have := hx.1 a ha; rw [e] at this; omega
      · exact e
    · intro ha
      rcases List.mem_cons.1 ((h a).2 (by simp [ha])) with e | e
      · have := hy.1 a ha; rw [e] at this; omega
      · exact e

/-- R: the cells that are not 0, rising. -/
def Fits (g : Int → Int) (R : List S30) : Prop := Asc R ∧ ∀ c : S30, c ∈ R ↔ (0 ≤ c.f0 ∧ c.f1 = g c.f0 ∧ g c.f0 ≠ 0)
def pagesOf (R : List S30) : List Int := R.foldl (fun out c => if out.getLast? = some (c.f0 / 4096) then out else out ++ [c.f0 / 4096]) []

theorem mem_pageCells {g : Int → Int} {lo n : Int} {m : Nat} {c : S30} : c ∈ pageCells g lo n m ↔ ∃ i : Nat, i < m ∧ g (n * 4096 + i) ≠ 0 ∧ lo ≤ n * 4096 + i ∧ c = ⟨n * 4096 + i, g (n * 4096 + i)⟩ := by
  unfold pageCells
  rw [List.mem_filterMap]
  constructor
  · rintro ⟨i, hi, h⟩
    split at h
    · rename_i hh
      exact ⟨i, List.mem_range.1 hi, hh.1, hh.2, by simpa using h.symm⟩
    · cases h
  · rintro ⟨i, hi, h1, h2, rfl⟩
    exact ⟨i, List.mem_range.2 hi, by rw [if_pos ⟨h1, h2⟩]⟩
theorem asc_pageCells (g : Int → Int) (lo n : Int) (m : Nat) : Asc (pageCells g lo n m) := by
  induction m with
  | zero => exact List.Pairwise.nil
  | succ m ih =>
    rw [pageCells_succ]
    unfold Asc
    rw [List.pairwise_append]
    refine ⟨ih, by split <;> simp, ?_⟩
    intro a ha b hb
    obtain ⟨i, hi, _, _, rfl⟩ := mem_pageCells.1 ha
    split at hb
    · rw [List.mem_singleton] at hb; subst hb; dsimp only; omega
    · cases hb
theorem mem_allCells {g : Int → Int} {lo : Int} {ks : List Int} {c : S30} : c ∈ allCells g lo ks ↔ ∃ n ∈ ks, ∃ i : Nat, i < 4096 ∧ g (n * 4096 + i) ≠ 0 ∧ lo ≤ n * 4096 + i ∧ c = ⟨n * 4096 + i, g (n * 4096 + i)⟩ := by
  unfold allCells
  rw [List.mem_flatMap]
  exact ⟨fun ⟨n, hn, h⟩ => ⟨n, hn, mem_pageCells.1 h⟩, fun ⟨n, hn, h⟩ => ⟨n, hn, mem_pageCells.2 h⟩⟩
theorem asc_allCells (g : Int → Int) (lo : Int) {ks : List Int} (hk : ks.Pairwise (· < ·)) : Asc (allCells g lo ks) := by
  induction ks with
  | nil => exact List.Pairwise.nil
  | cons n ks ih =>
    rw [List.pairwise_cons] at hk
    unfold Asc
    rw [show allCells g lo (n :: ks) = pageCells g lo n 4096 ++ allCells g lo ks from rfl, List.pairwise_append]
    refine ⟨asc_pageCells _ _ _ _, ih hk.2, ?_⟩
    intro a ha b hb
    obtain ⟨i, hi, _, _, rfl⟩ := mem_pageCells.1 ha
    obtain ⟨n', hn', j, hj, _, _, rfl⟩ := mem_allCells.1 hb
    have := hk.1 n' hn'
    dsimp only; omega
theorem MemRep.get_mem {w : World} {mb : Nat} {L : List Pg} (h : MemRep w mb L) {p : Pg} (hp : p ∈ L) {i : Nat} (hi : i < 4096) : mget L (p.num * 4096 + i) = p.c i := by
  unfold mget
  have e1 : (p.num * 4096 + (i : Int)) / 4096 = p.num := by omega
  have e2 : ((p.num * 4096 + (i : Int)) % 4096).toNat = i := by omega
  rw [e1, e2, find_of_mem h.keys hp rfl]
theorem mget_some {L : List Pg} {a : Int} (h : mget L a ≠ 0) : ∃ p ∈ L, p.num = a / 4096 := by
  unfold mget at h
  split at h
  · rename_i p hp; obtain ⟨h1, h2⟩ := find_some hp; exact ⟨p, h1, h2⟩
  · exact absurd rfl h
theorem MemRep.page_iff {w : World} {mb : Nat} {L : List Pg} (h : MemRep w mb L) (n : Int) : n ∈ L.map (·.num) ↔ ∃ a, 0 ≤ a ∧ a / 4096 = n ∧ mget L a ≠ 0 := by
  rw [List.mem_map]
  constructor
  · rintro ⟨p, hp, rfl⟩
    obtain ⟨i, hi, hc⟩ := h.some_ p hp
    obtain ⟨⟨h0, h1⟩, _⟩ := h.at_.ok p hp
    exact ⟨p.num * 4096 + i, by omega, by have : i < 4096 := hi; omega, by rw [h.get_mem hp hi]; exact hc⟩
  · rintro ⟨a, h0, rfl, hm⟩
    exact mget_some hm
theorem MemRep.get_ok {w : World} {mb : Nat} {L : List Pg} (h : MemRep w mb L) {a : Int} (hm : mget L a ≠ 0) : 0 ≤ a ∧ a < 4294967296 ∧ 0 ≤ mget L a ∧ mget L a < 4294967296 := by
  obtain ⟨p, hp, hn⟩ := mget_some hm
  obtain ⟨⟨h0, h1⟩, h2⟩ := h.at_.ok p hp
  have e := h.get_mem hp (i := (a % 4096).toNat) (by omega)
  have e2 : p.num * 4096 + ((a % 4096).toNat : Int) = a := by omega
  rw [e2] at e
  have := h2 (a % 4096).toNat (by show _ < 4096; omega)
  rw [e]
  exact ⟨by omega, by omega, this.1, this.2⟩
theorem fits_cells {w : World} {mb : Nat} {L : List Pg} (h : MemRep w mb L) {R : List S30} (hF : Fits (mget L) R) {ks : List Int} (hp : ks.Perm (L.map (·.num))) (hk : ks.Pairwise (· < ·)) (lo : Int) :
    allCells (mget L) lo ks = R.filter (fun c => decide (lo ≤ c.f0)) := by
  refine asc_unique (asc_allCells _ _ hk) (List.Pairwise.filter _ hF.1) (fun c => ?_)
  rw [mem_allCells, List.mem_filter, hF.2, decide_eq_true_eq]
  constructor
  · rintro ⟨n, hn, i, hi, h1, h2, rfl⟩
    exact ⟨⟨(h.get_ok h1).1, rfl, h1⟩, h2⟩
  · rintro ⟨⟨h0, h1, h2⟩, h3⟩
    refine ⟨c.f0 / 4096, hp.mem_iff.2 ((h.page_iff _).2 ⟨c.f0, h0, rfl, h2⟩), (c.f0 % 4096).toNat, by omega, ?_⟩
    have e : c.f0 / 4096 * 4096 + ((c.f0 % 4096).toNat : Int) = c.f0 := by omega
    rw [e]
    exact ⟨h2, h3, by rw [← h1]⟩
end Go.Proofs.Ytgccjmjengfhbaa
end
section
set_option maxRecDepth 100000
namespace Go.Proofs.Ytgccjmjengfhbaa
open Go.RowKit Go.Shelf Go.Proofs Go.Proofs.YtgccjmjengfhbaaW.PrintWords
open Go.Proofs.Ytgccjmjengfhbaa.PMemoryStores (S30 k30 k30_mk at_T30 rd_T30)

theorem MemAt.below {w w' : World} {pb mb : Nat} {L : List Pg} (h : MemAt w pb mb L) (hb : Below w.heap.size w w') : MemAt w' pb mb L := h.ext (Ext.of_below (S := NoB) hb) (fun _ _ s => s) (fun s => s)
theorem digest_any (pb mb : Nat) (L : List Pg) (w : World) (hM : MemAt w pb mb L) :
    Calls Try.prog 13 #[.pointer (some ⟨pb, 0, none⟩)] w fun e w' => ∃ ks, ks.Perm (L.map (·.num)) ∧ ks.Pairwise (· < ·) ∧ e = .returned (.int .u64 ((crc (cellsB (allCells (mget L) 0 ks)) : Nat) : Int)) ∧ Below w.heap.size w w' := by
  refine (md_gen (some ⟨pb, 0, none⟩) (fun C => ∃ ks, C = allCells (mget L) 0 ks ∧ ks.Perm (L.map (·.num)) ∧ ks.Pairwise (· < ·)) w (fun w1 hb => ?_)).mono ?_
  · have h1 := hM.below hb
    refine (cells_any pb mb L 0 w1 h1 (by omega) (by omega) (rise_any h1)).mono ?_
    rintro e w' ⟨v, ks, rfl, h2, h3, h4, h5⟩
    refine ⟨v, _, rfl, ⟨ks, rfl, h2, h3⟩, ?_, ?_, h4, h5⟩
    · intro c hc
      obtain ⟨n, hn, i, hi, g1, g2, rfl⟩ := mem_allCells.1 hc
      obtain ⟨a0, a1, a2, a3⟩ := hM.2.get_ok g1
      exact ⟨⟨a0, a1⟩, a2, a3⟩
    · have := allCells_len (mget L) 0 ks
      have h6 := h2.length_eq
      have h7 := hM.2.len
      simp at h6
      omega
  · rintro e w' ⟨C, rfl, ⟨ks, rfl, h2, h3⟩, _, h5⟩
    exact ⟨ks, h2, h3, rfl, h5⟩
theorem num_any (n : Int) (w : World) : Calls Try.prog 17 #[.int .i64 n] w fun e w' => e = .returned (.int .i64 n) ∧ w = w' := by
  go_enter Try.func17, Try.ntmps17
  go_wp2
  go_ret
  exact ⟨rfl, rfl⟩
def wk : List S30 := [⟨4096, 7⟩, ⟨1, 5⟩, ⟨4096, 0⟩]
theorem wk_ok : ∀ c ∈ wk, okCell c := by
  intro c hc
  simp only [wk, List.mem_cons, List.not_mem_nil, or_false] at hc
  rcases hc with rfl | rfl | rfl <;> exact ⟨⟨by decide, by decide⟩, by decide, by decide⟩
theorem wk_get (a : Int) : stored (mget []) wk a = if a = 1 then 5 else 0 := by
  simp only [stored, wk, List.foldl_cons, List.foldl_nil, mget, List.find?_nil]
  split
  · rename_i h; subst h; simp
  · rfl
theorem wk_fits {w : World} {mb : Nat} {L : List Pg} (h : MemRep w mb L) (hg : ∀ a, 0 ≤ a → mget L a = stored (mget []) wk a) : Fits (mget L) [⟨1, 5⟩] := by
  refine ⟨by simp [Asc], fun c => ?_⟩
  rw [List.mem_singleton]
  constructor
  · rintro rfl
    have := hg 1 (by omega)
    rw [wk_get] at this
    simp at this
    exact ⟨by decide, this.symm, by show mget L 1 ≠ 0; rw [this]; decide⟩
  · rintro ⟨h0, h1, h2⟩
    rw [hg _ h0, wk_get] at h1 h2
    obtain ⟨f0, f1⟩ := c
    dsimp only at h0 h1 h2
    split at h1
    · rename_i e; subst e; subst h1; rfl
    · rename_i e; rw [if_neg e] at h2; exact absurd rfl h2
theorem wk_pages {w : World} {mb : Nat} {L : List Pg} (h : MemRep w mb L) (hg : ∀ a, 0 ≤ a → mget L a = stored (mget []) wk a) {ks : List Int} (hp : ks.Perm (L.map (·.num))) (hk : ks.Pairwise (· < ·)) : ks = [0] := by
  refine asc_uniqueI hk (by simp) (fun n => ?_)
  rw [hp.mem_iff, h.page_iff, List.mem_singleton]
  constructor
  · rintro ⟨a, h0, rfl, h1⟩
    rw [hg a h0, wk_get] at h1
    split at h1
    · rename_i e; subst e; rfl
    · exact absurd rfl h1
  · rintro rfl
    refine ⟨1, by omega, rfl, ?_⟩
    rw [hg 1 (by omega), wk_get]; simp
theorem wk_C (w : World) (g : Nat) (hg : w.heap[g]? = some (.cells #[.int .u32 4096, .int .u32 7, .int .u32 1, .int .u32 5, .int .u32 4096, .int .u32 0] 30 (0, 0))) : k30.C w (some ⟨g, 0, none⟩) wk.length wk := by
  have ho : OwnC w 0 (.slice (some ⟨g, 0, none⟩) 3 3) wk := ⟨rfl, .inr ⟨g, 3, _, rfl, Nat.zero_le _, hg, by decide, by decide, rfl, rfl⟩⟩
  obtain ⟨A, c, hv, hC⟩ := own_K ho
  injection hv with e1 _ _
  rw [e1]; exact hC

theorem wk_B (w : World) (g : Nat) (hg : w.heap[g]? = some (.cells #[.int .u8 1, .int .u8 0, .int .u8 0, .int .u8 0, .int .u8 5, .int .u8 0, .int .u8 0, .int .u8 0] 5 (0, 0))) : BytesAt w (some ⟨g, 0, none⟩) [1, 0, 0, 0, 5, 0, 0, 0] := by
  have ho : w.ownsRow 0 5 1 (.slice (some ⟨g, 0, none⟩) 8 8) 8 ([1, 0, 0, 0, 5, 0, 0, 0].map encB) := ⟨rfl, .inr ⟨g, 8, _, rfl, Nat.zero_le _, hg, by decide, by decide, rfl, rfl⟩⟩
  obtain ⟨A, c, hv, hC, _⟩ := bytes_of_own ho rfl
  injection hv with e1 _ _
  rw [e1]; exact hC
def wcrc : Nat := crc [1, 0, 0, 0, 5, 0, 0, 0]
theorem wcrc_eq : crc [1, 0, 0, 0, 5, 0, 0, 0] = wcrc := rfl
theorem wcrc_eq' : crc (cellsB (([⟨1, 5⟩] : List S30).filter fun c => decide (0 ≤ c.f0))) = wcrc := rfl
theorem wl1 {w : World} {pb mb : Nat} {L : List Pg} (h : MemAt w pb mb L) (hg : ∀ a, 0 ≤ a → mget L a = stored (mget []) wk a) : Calls Try.prog 11 #[.pointer (some ⟨pb, 0, none⟩), .int .u32 1] w fun e w' => e = .returned (.int .u32 5) ∧ w = w' := by
  have := load_any pb mb L 1 w (by decide) (by decide) h
  rw [hg 1 (by decide), wk_get] at this
  exact this
theorem wl2 {w : World} {pb mb : Nat} {L : List Pg} (h : MemAt w pb mb L) (hg : ∀ a, 0 ≤ a → mget L a = stored (mget []) wk a) : Calls Try.prog 11 #[.pointer (some ⟨pb, 0, none⟩), .int .u32 4096] w fun e w' => e = .returned (.int .u32 0) ∧ w = w' := by
  have := load_any pb mb L 4096 w (by decide) (by decide) h
  rw [hg 4096 (by decide), wk_get] at this
  exact this
theorem wk_foot {mb n : Nat} (h : mb < n) : ¬ foot mb [] n := by
  rintro (e | ⟨p, hp, _⟩)
  · omega
  · cases hp
attribute [irreducible] wcrc
attribute [local irreducible] crc
set_option maxHeartbeats 600000 in
theorem works_any (w : World) : Calls Try.prog 8 #[] w fun e w' => e = .returned (.bool true) ∧ Below w.heap.size w w' := by
  go_enter Try.func8, Try.ntmps8
  go_wp2_with (first
    | (go_at_call 9; go_loud (refine (new_any w).mono ?_; rintro e w1 ⟨pb, mb, rfl, h1, h2, h3, h4⟩; have H1 := Lib.hid h1; have H2 := Lib.hid h2; clear h1 h2))
    | (go_at_call 10; go_loud (refine (store_any pb mb [] (some ⟨w1.heap.size, 0, none⟩) 3 wk (w1.alloc (.cells #[.int .u32 4096, .int .u32 7, .int .u32 1, .int .u32 5, .int .u32 4096, .int .u32 0] 30 (0, 0))) (H1.out.ext ((Ext.refl NoB w1).alloc _) (fun _ _ s => s) (fun s => s)) (wk_C _ _ (MapKept.heap_alloc w1 _).1) (fun ad e => by cases e; exact ⟨wk_foot H1.out.2.map.lt, by simp⟩) wk_ok).mono ?_; rintro e w2 ⟨rfl, L, h5, h6, h7, h8⟩; have H5 := Lib.hid h5; have H6 := Lib.hid h6; have H7 := Lib.hid h7; clear h5 h6 h7 h8))
    | (go_at_call 24; go_loud (refine (pages_any pb mb L w2 H5.out).mono ?_; rintro e w3 ⟨v, ks, rfl, h9, h10, h11, h12⟩; have hks := wk_pages H5.out.2 H6.out h9 h10; subst hks; obtain ⟨g1, cap1, rfl, _, _⟩ := h11.form (by decide); have H11 := Lib.hid h11; have H12 := Lib.hid h12; have HM3 := Lib.hid (H5.out.below h12); clear h9 h10 h11 h12))
    | (go_at_call 17; refine (num_any 0 _).mono ?_; rintro e w' ⟨rfl, rfl⟩)
    | (go_at_call 11; with_reducible refine (wl1 HM3.out H6.out).mono ?_; rintro e w' ⟨rfl, rfl⟩)
    | (go_at_call 11; with_reducible refine (wl2 HM3.out H6.out).mono ?_; rintro e w' ⟨rfl, rfl⟩)
    | (go_at_call 14; go_loud (refine (len_any pb mb L w3 HM3.out).mono ?_; rintro e w4 ⟨ks, rfl, h13, h14, h15⟩; rw [fits_cells HM3.out.2 (wk_fits H5.out.2 H6.out) h13 h14 0]; have hrow := own_ext H11.out (Ext.of_below (S := NoB) h15) (fun _ _ s => s); have hcell := hrow.cells (g := g1) rfl 0 (.int .u32 0) rfl; rw [add0] at hcell; have HM4 := Lib.hid (HM3.out.below h15); have H15 := Lib.hid h15; clear h13 h14 h15 hrow))
    | (go_at_call 13; go_loud (refine (digest_any pb mb L w4 HM4.out).mono ?_; rintro e w5 ⟨ks2, h16, h17, rfl, h18⟩; rw [fits_cells HM4.out.2 (wk_fits H5.out.2 H6.out) h16 h17 0, wcrc_eq']; have H18 := Lib.hid h18; clear h16 h17 h18))
    | (go_at_call 25; go_loud (refine (of_any (some ⟨w5.heap.size, 0, none⟩) 8 [1, 0, 0, 0, 5, 0, 0, 0] (w5.alloc (.cells #[.int .u8 1, .int .u8 0, .int .u8 0, .int .u8 0, .int .u8 5, .int .u8 0, .int .u8 0, .int .u8 0] 5 (0, 0))) (wk_B _ _ (MapKept.heap_alloc w5 _).1) (by decide) (by decide)).mono ?_; rintro e w6 ⟨rfl, rfl⟩; rw [wcrc_eq])))
  go_ret
  refine ⟨rfl, ?_⟩
  have hX : Ext NoB w w2 := ((Ext.of_below (S := NoB) H2.out).alloc _).trans H7.out (fun k hk h => absurd h (by
    rintro (e | ⟨p, hp, _⟩)
    · omega
    · cases hp))
  exact ((((hX.sub H12.out).sub H15.out).sub H18.out).alloc _).below
end Go.Proofs.Ytgccjmjengfhbaa
end
section
set_option maxRecDepth 100000
namespace Go.Proofs.Ytgccjmjengfhbaa
open Go.RowKit Go.Shelf Go.Proofs Go.Proofs.YtgccjmjengfhbaaW.PrintWords
open Go.Proofs.Ytgccjmjengfhbaa.PMemoryStores (S30 k30 k30_mk at_T30 rd_T30)

/-- No memory. -/
def NoneM (w : World) (p : Option Addr) : Prop := p = none ∨ ∃ pb, p = some ⟨pb, 0, none⟩ ∧ w.cell? ⟨pb, 0, none⟩ = some (.map none)
theorem NoneM.of_ext {w w' : World} {p : Option Addr} (h : NoneM w p) (hx : Ext NoB w w') : NoneM w' p := by
  rcases h with h | ⟨pb, h1, h2⟩
  · exact .inl h
  · refine .inr ⟨pb, h1, ?_⟩
    have hlt : pb < w.heap.size := by
      unfold World.cell? at h2
      cases hh : w.heap[pb]? with
      | none => rw [hh] at h2; simp at h2
      | some o => exact (Array.getElem?_eq_some_iff.1 hh).1
    exact (World.cell?_of_block (hx.block pb hlt (fun s => s))).trans h2
theorem none_any {w : World} {p : Option Addr} (h : NoneM w p) : Calls Try.prog 26 #[.pointer p] w fun e w' => e = .returned (.bool true) ∧ w = w' := by
  rcases h with rfl | ⟨pb, rfl, hc⟩
  · exact none_nil w
  · exact none_zero pb w hc
theorem load_none {w : World} {p : Option Addr} (a : Int) (h : NoneM w p) : Calls Try.prog 11 #[.pointer p, .int .u32 a] w fun e w' => e = .returned (.int .u32 0) ∧ w = w' := by
  have H := Lib.hid (none_any h)
  clear h
  go_enter Try.func11, Try.ntmps11
  go_wp2_with (go_at_call 26; refine H.out.mono ?_; rintro e w' ⟨rfl, rfl⟩)
  go_ret
  exact ⟨rfl, rfl⟩
theorem pages_none {w : World} {p : Option Addr} (h : NoneM w p) : Calls Try.prog 24 #[.pointer p] w fun e w' => e = .returned (.slice none 0 0) ∧ w = w' := by
  have H := Lib.hid (none_any h)
  clear h
  go_enter Try.func24, Try.ntmps24
  go_wp2_with (go_at_call 26; refine H.out.mono ?_; rintro e w' ⟨rfl, rfl⟩)
  go_ret
  exact ⟨rfl, rfl⟩
theorem cells_none {w : World} {p : Option Addr} (a : Int) (h : NoneM w p) : Calls Try.prog 33 #[.pointer p, .int .u32 a] w fun e w' => e = .returned (.slice none 0 0) ∧ w = w' := by
  have H := Lib.hid (none_any h)
  clear h
  go_enter Try.func33, Try.ntmps33
  go_wp2_with (go_at_call 26; refine H.out.mono ?_; rintro e w' ⟨rfl, rfl⟩)
  go_ret
  exact ⟨rfl, rfl⟩
theorem copy_none {w : World} {p : Option Addr} (h : NoneM w p) : Calls Try.prog 22 #[.pointer p] w fun e w' => e = .returned (.pointer none) ∧ w = w' := by
  have H := Lib.hid (none_any h)
  clear h
  go_enter Try.func22, Try.ntmps22
  go_wp2_with (go_at_call 26; refine H.out.mono ?_; rintro e w' ⟨rfl, rfl⟩)
  go_ret
  exact ⟨rfl, rfl⟩
theorem store_none {w : World} {p : Option Addr} (h : NoneM w p) : Calls Try.prog 10 #[.pointer p, .slice none 0 0] w fun e w' => e = .returned (.int .i64 1) ∧ w = w' := by
  have H := Lib.hid (none_any h)
  clear h
  go_enter Try.func10, Try.ntmps10
  go_wp2
  refine wp_scope_fwd 0 (fun a wr => a = { tmps := #[.pointer p, .slice none 0 0, undef, undef, .int .i64 0, undef, undef, .pointer p, .bool true, undef, undef, undef, undef, undef, undef, undef, undef, undef, undef, undef, undef, undef, undef, undef, undef], defers := [] } ∧ wr = w) rfl ?_ ?_
  · go_wp2_with (go_at_call 26; refine H.out.mono ?_; rintro e w' ⟨rfl, rfl⟩)
    refine wp_goto ?_
    simp only [Exit.then]
    exact jump_goto.mpr ⟨rfl, rfl⟩
  · rintro a wr ⟨rfl, rfl⟩
    go_wp2
    try rw [Exit.noGoto_ret]
    go_ret
    exact ⟨rfl, rfl⟩
theorem len_none {w : World} {p : Option Addr} (h : NoneM w p) : Calls Try.prog 14 #[.pointer p] w fun e w' => e = .returned (.int .i64 0) ∧ w = w' := by
  have H := Lib.hid (cells_none 0 h)
  clear h
  go_enter Try.func14, Try.ntmps14
  go_wp2_with (go_at_call 33; refine H.out.mono ?_; rintro e w' ⟨rfl, rfl⟩)
  go_ret
  exact ⟨rfl, rfl⟩
theorem digest_none {w : World} {p : Option Addr} (h : NoneM w p) : Calls Try.prog 13 #[.pointer p] w fun e w' => e = .returned (.int .u64 ((crc [] : Nat) : Int)) ∧ Below w.heap.size w w' := by
  refine (md_gen p (fun C => C = []) w (fun w1 hb => ?_)).mono ?_
  · refine (cells_none 0 (h.of_ext (Ext.of_below hb))).mono ?_
    rintro e w' ⟨rfl, rfl⟩
    exact ⟨_, [], rfl, rfl, by simp, by simp, World.ownsRow_nil _ _ _ _, (Ext.refl NoB w1).below⟩
  · rintro e w' ⟨C, rfl, rfl, _, h5⟩
    exact ⟨rfl, h5⟩
theorem from_none {w : World} {p : Option Addr} (a : Int) (h : NoneM w p) : Calls Try.prog 16 #[.pointer p, .int .u32 a] w fun e w' => e = .returned (.func (.func 35) #[] #[.pointer (some ⟨w.heap.size, 0, none⟩)]) ∧ w' = w.alloc (.cells #[.slice none 0 0] 22 (0, 0)) := by
  have H := Lib.hid (cells_none a h)
  clear h
  go_enter Try.func16, Try.ntmps16
  go_wp2_with (go_at_call 33; refine H.out.mono ?_; rintro e w' ⟨rfl, rfl⟩)
  go_ret
  exact ⟨rfl, rfl⟩
theorem same_none {w : World} {p q : Option Addr} (h : NoneM w p) (h2 : NoneM w q) : Calls Try.prog 12 #[.pointer p, .pointer q] w fun e w' => e = .returned (.bool true) ∧ w = w' := by
  have H := Lib.hid (none_any h)
  have H2 := Lib.hid (none_any h2)
  clear h h2
  go_enter Try.func12, Try.ntmps12
  go_wp2_with (go_at_call 26; first | (with_reducible refine H.out.mono ?_; rintro e w' ⟨rfl, rfl⟩) | (with_reducible refine H2.out.mono ?_; rintro e w' ⟨rfl, rfl⟩))
  go_ret
  exact ⟨rfl, rfl⟩
theorem same_half {w : World} {pb mb : Nat} {q : Option Addr} (h : w.cell? ⟨pb, 0, none⟩ = some (.map (some mb))) (h2 : NoneM w q) : Calls Try.prog 12 #[.pointer (some ⟨pb, 0, none⟩), .pointer q] w fun e w' => e = .returned (.bool false) ∧ w = w' := by
  have H := Lib.hid (none_some pb mb w h)
  have H2 := Lib.hid (none_any h2)
  clear h h2
  go_enter Try.func12, Try.ntmps12
  go_wp2_with (go_at_call 26; first | (with_reducible refine H.out.mono ?_; rintro e w' ⟨rfl, rfl⟩) | (with_reducible refine H2.out.mono ?_; rintro e w' ⟨rfl, rfl⟩))
  go_ret
  exact ⟨rfl, rfl⟩
end Go.Proofs.Ytgccjmjengfhbaa
end
section
set_option maxRecDepth 100000
namespace Go.Proofs.Ytgccjmjengfhbaa
open Go.RowKit Go.Shelf Go.Proofs Go.Proofs.YtgccjmjengfhbaaW.PrintWords
open Go.Proofs.Ytgccjmjengfhbaa.PMemoryStores (S30 k30 k30_mk at_T30 rd_T30)

theorem results_cell1 {P : Program} {fn : Func} {p : Tmp} {ty : TypeId} (h : fn.results = #[.cell p ty]) (tmps : Array Value) (w : World) {g : Nat} {v : Value}
    (hp : tmps.getD p undef = .pointer (some ⟨g, 0, none⟩)) (hc : w.cell? ⟨g, 0, none⟩ = some v) (ha : ∀ w, (isAgg ty).run P w = .ok false w) : (results fn tmps).run P w = .ok v w := by
  have hp' : tmps[p]?.getD undef = .pointer (some ⟨g, 0, none⟩) := by simpa using hp
  simp [results, h, hp', asAddr, loadVar, ha, hc, Result.andThen]
theorem noneM_nil (w : World) : NoneM w none := .inl rfl
theorem isNil (f : Fn) (a b : Array Value) (W : World) : (binOp .eql 42 (.func f a b) .nilFunc).run Try.prog W = .ok (.bool false) W := by
  first | kernel_rfl | rfl
attribute [local irreducible] crc
set_option maxHeartbeats 4000000 in
theorem memoryNone_any (addr : Int) (zero : Bool) (w : World) (h0 : 0 ≤ addr) (h1 : addr < 4294967296) :
    Calls Try.prog 7 #[.int .u32 addr, .bool zero] w fun e w' => e = .returned (.bool true) ∧ Below w.heap.size w w' := by
  refine (callsIn_wide (n := 4)).1 ?_
  refine callsIn_of_wp_marks Try.func7 rfl trivial ?_ rfl
  simp only [Try.ntmps7, List.size_toArray, List.length_cons, List.length_nil, Nat.reduceAdd, Nat.reduceSub, Array.replicate_succ, Array.replicate_zero, List.push_toArray, List.append_toArray, List.nil_append, List.cons_append]
  have hnil := isNil
  cases zero
  · gi_wp2_with (fail)
    have hx0 : Ext NoB w (w.alloc (.cells #[.bool false] 4 (0, 0))) := (Ext.refl _ _).alloc _
    have hb0 : (w.alloc (.cells #[.bool false] 4 (0, 0))).heap[w.heap.size]? = some (.cells #[.bool false] 4 (0, 0)) := (MapKept.heap_alloc w _).1
    have hN : NoneM (w.alloc (.cells #[.bool false] 4 (0, 0))) (none) := .inl rfl
    have hs0 : (w.alloc (.cells #[.bool false] 4 (0, 0))).heap.size = w.heap.size + 1 := by simp
    generalize hW0 : w.alloc (.cells #[.bool false] 4 (0, 0)) = W0 at hx0 hb0 hN hs0 ⊢
    clear hW0
    refine ⟨trivial, (callsIn_wide.2 (from_none addr hN)).mono ?_⟩
    rintro e W1 ⟨rfl, rfl⟩
    have hx1 := hx0.alloc (.cells #[.slice none 0 0] 22 (0, 0))
    have hb1 := ((Ext.refl NoB W0).alloc (.cells #[.slice none 0 0] 22 (0, 0))).get hb0 (fun s => s)
    have hN1 := hN.of_ext ((Ext.refl NoB W0).alloc (.cells #[.slice none 0 0] 22 (0, 0)))
    have hBs := (MapKept.heap_alloc W0 (.cells #[.slice none 0 0] 22 (0, 0))).1
    gi_wp2
    generalize hW1 : W0.alloc (.cells #[.slice none 0 0] 22 (0, 0)) = W1 at hx1 hb1 hN1 hBs ⊢
    clear hW1 hx0 hb0 hN
    have hlt1 : w.heap.size < W1.heap.size := (Array.getElem?_eq_some_iff.1 hb1).1
    rw [hs0] at hBs
    clear hs0
    have hC0 : k30.C W1 none ([] : List S30).length [] := by
      obtain ⟨A, c, hv, hC⟩ := own_K (w := W1) (base := 0) (v := .slice none 0 0) (xs := []) (World.ownsRow_nil _ _ _ _)
      injection hv with e1 _ _
      rw [e1]; exact hC
    have hit := from_iter 3 (w.heap.size + 1) (by decide) none 0 [] W1 hBs hC0
    have hFp : ∀ k, sliceFp (w.heap.size + 1) none ([] : List S30) k → ∃ o, W1.heap[k]? = some o ∧ isBook o = false := by
      rintro k (rfl | ⟨hne, _⟩)
      · exact ⟨_, hBs, rfl⟩
      · exact absurd rfl hne
    refine wp_rfD (F := FW) (n := 4) rfl (by decide) (gf := 35) (lb := #[.pointer (some ⟨w.heap.size + 1, 0, none⟩)]) rfl trivial (enters_of Try.func35 (by kernel_rfl) rfl) hit hFp (fun _ => rfl)
      (fun _ W => Ext NoB w W ∧ W.heap[w.heap.size]? = some (.cells #[.bool false] 4 (0, 0)) ∧ NoneM W (none)) (fun _ _ _ => False)
      (fun s A B h hk => by obtain ⟨h1, h2, h3⟩ := h; exact ⟨hk.ext h1 hx1.size, hk.cells h2, h3.imp id (fun ⟨pb, e1, e2⟩ => ⟨pb, e1, hk.cell e2⟩)⟩) (fun _ _ _ _ h _ => h)
      ⟨hx1, hb1, hN1⟩ (fun _ _ _ => True) (fun _ _ _ _ _ _ => trivial) ?assign ?body ?done ?stop
    case assign =>
      rintro l pre x W K ⟨post, h⟩
      cases pre <;> simp at h
    case body =>
      rintro l pre x a' W ⟨post, h⟩
      cases pre <;> simp at h
    case stop => exact fun _ _ _ _ _ _ _ h _ => h.elim
    case done =>
      rintro D ys W hD rfl ⟨h2, h3, h4⟩ hDd
      have HX := Lib.hid h2; have HB := Lib.hid h3; have HN := Lib.hid h4; have HD := Lib.hid hDd
      clear h2 h3 h4 hDd hit hFp hBs hx1 hb1 hN1 hC0
      gi_wp2_with (refine ⟨trivial, ?_⟩; first
        | (gi_at_call 10; refine (callsIn_wide.2 (store_none HN.out)).mono ?_; rintro e w' ⟨rfl, rfl⟩)
        | (gi_at_call 17; refine (callsIn_wide.2 (num_any 1 _)).mono ?_; rintro e w' ⟨rfl, rfl⟩)
        | (gi_at_call 11; refine (callsIn_wide.2 (load_none addr HN.out)).mono ?_; rintro e w' ⟨rfl, rfl⟩)
        | (gi_at_call 14; refine (callsIn_wide.2 (len_none HN.out)).mono ?_; rintro e w' ⟨rfl, rfl⟩)
        | (gi_at_call 24; refine (callsIn_wide.2 (pages_none HN.out)).mono ?_; rintro e w' ⟨rfl, rfl⟩)
        | (gi_at_call 13; refine (callsIn_wide.2 (digest_none HN.out)).mono ?_; rintro e W2 ⟨rfl, hb⟩; have HB2 := Lib.hid hb; have HN2 := Lib.hid (HN.out.of_ext (Ext.of_below hb)); clear hb)
        | (gi_at_call 25; refine (callsIn_wide.2 (of_any none 0 [] W2 (fun j hj => absurd hj (by simp)) (by simp) (by simp))).mono ?_; rintro e w' ⟨rfl, rfl⟩)
        | (gi_at_call 22; refine (callsIn_wide.2 (copy_none HN2.out)).mono ?_; rintro e w' ⟨rfl, rfl⟩)
        | (gi_at_call 9; refine (callsIn_wide.2 (new_any _)).mono ?_; rintro e W3 ⟨pb, mb, rfl, h5, h6, _, _⟩; have H5 := Lib.hid h5; have H6 := Lib.hid h6; have HN3 := Lib.hid (HN2.out.of_ext (Ext.of_below h6)); clear h5 h6)
        | (gi_at_call 12; with_reducible refine (callsIn_wide.2 (same_none HN2.out (noneM_nil _))).mono ?_; rintro e w' ⟨rfl, rfl⟩)
        | (gi_at_call 12; with_reducible refine (callsIn_wide.2 (same_half H5.out.cell HN3.out)).mono ?_; rintro e w' ⟨rfl, rfl⟩)
        | (gi_at_call 8; refine (callsIn_wide.2 (works_any _)).mono ?_; rintro e W4 ⟨rfl, hb⟩; have hc4 := (Ext.of_below (S := NoB) hb).get ((Ext.of_below (S := NoB) H6.out).get ((Ext.of_below (S := NoB) HB2.out).get HB.out (fun s => s)) (fun s => s)) (fun s => s); have hd4 := (Ext.of_below (S := NoB) hb).get ((Ext.of_below (S := NoB) H6.out).get ((Ext.of_below (S := NoB) HB2.out).get HD.out (fun s => s)) (fun s => s)) (fun s => s); have hce4 := cell_of_row W4 _ 0 _ _ _ hc4; simp only [List.getElem?_toArray, List.getElem?_cons_zero] at hce4; have hfr4 := frozenPage hc4 0; have HC4 := Lib.hid hc4; have HD4 := Lib.hid hd4; have HB4 := Lib.hid hb; clear hb hc4 hd4))
      have hblk := blk_put HC4.out 0 (.bool true)
      have hX4 : Ext NoB w W4 := ((HX.out.sub HB2.out).sub H6.out).sub HB4.out
      have hX5 := hX4.setCell ⟨w.heap.size, 0, none⟩ (.bool true) (.inr (Nat.le_refl _))
      have hD5 : (W4.setCell ⟨w.heap.size, 0, none⟩ (.bool true)).heap[D]? = some (.deferred (some [])) := (Below.heap_setCell _ _ _ _ (by show D ≠ w.heap.size; omega)).trans HD4.out
      generalize W4.setCell ⟨w.heap.size, 0, none⟩ (.bool true) = W5 at hblk hX5 hD5 ⊢
      refine marksPost (D := D) rfl hD5 (results_cell1 rfl _ _ rfl (v := .bool true) ?_ Try.isAgg4) ⟨rfl, (hX5.putObj D _ (.inr (by omega))).below⟩
      have := cell_of_row (W5.putObj D (.deferred none)) w.heap.size 0 _ _ _ ((World.putObj_heap_other (by omega)).trans hblk)
      simpa using this
  · gi_wp2_with (fail)
    have hx0 : Ext NoB w ((w.alloc (.cells #[.bool false] 4 (0, 0))).alloc (.cells #[.map none] 54 (0, 0))) := ((Ext.refl _ _).alloc _).alloc _
    have hb0 : ((w.alloc (.cells #[.bool false] 4 (0, 0))).alloc (.cells #[.map none] 54 (0, 0))).heap[w.heap.size]? = some (.cells #[.bool false] 4 (0, 0)) := ((Ext.refl NoB _).alloc _).get (MapKept.heap_alloc w _).1 (fun s => s)
    have hN : NoneM ((w.alloc (.cells #[.bool false] 4 (0, 0))).alloc (.cells #[.map none] 54 (0, 0))) (some ⟨w.heap.size + 1, 0, none⟩) := .inr ⟨_, rfl, by have := (MapKept.heap_alloc (w.alloc (.cells #[.bool false] 4 (0, 0))) (.cells #[.map none] 54 (0, 0))).1; rw [World.size_alloc] at this; exact cell_of_row _ _ 0 _ _ _ this⟩
    have hs0 : ((w.alloc (.cells #[.bool false] 4 (0, 0))).alloc (.cells #[.map none] 54 (0, 0))).heap.size = w.heap.size + 2 := by simp
    generalize hW0 : (w.alloc (.cells #[.bool false] 4 (0, 0))).alloc (.cells #[.map none] 54 (0, 0)) = W0 at hx0 hb0 hN hs0 ⊢
    clear hW0
    refine ⟨trivial, (callsIn_wide.2 (from_none addr hN)).mono ?_⟩
    rintro e W1 ⟨rfl, rfl⟩
    have hx1 := hx0.alloc (.cells #[.slice none 0 0] 22 (0, 0))
    have hb1 := ((Ext.refl NoB W0).alloc (.cells #[.slice none 0 0] 22 (0, 0))).get hb0 (fun s => s)
    have hN1 := hN.of_ext ((Ext.refl NoB W0).alloc (.cells #[.slice none 0 0] 22 (0, 0)))
    have hBs := (MapKept.heap_alloc W0 (.cells #[.slice none 0 0] 22 (0, 0))).1
    gi_wp2
    generalize hW1 : W0.alloc (.cells #[.slice none 0 0] 22 (0, 0)) = W1 at hx1 hb1 hN1 hBs ⊢
    clear hW1 hx0 hb0 hN
    have hlt1 : w.heap.size < W1.heap.size := (Array.getElem?_eq_some_iff.1 hb1).1
    rw [hs0] at hBs
    clear hs0
    have hC0 : k30.C W1 none ([] : List S30).length [] := by
      obtain ⟨A, c, hv, hC⟩ := own_K (w := W1) (base := 0) (v := .slice none 0 0) (xs := []) (World.ownsRow_nil _ _ _ _)
      injection hv with e1 _ _
      rw [e1]; exact hC
    have hit := from_iter 3 (w.heap.size + 2) (by decide) none 0 [] W1 hBs hC0
    have hFp : ∀ k, sliceFp (w.heap.size + 2) none ([] : List S30) k → ∃ o, W1.heap[k]? = some o ∧ isBook o = false := by
      rintro k (rfl | ⟨hne, _⟩)
      · exact ⟨_, hBs, rfl⟩
      · exact absurd rfl hne
    refine wp_rfD (F := FW) (n := 4) rfl (by decide) (gf := 35) (lb := #[.pointer (some ⟨w.heap.size + 2, 0, none⟩)]) rfl trivial (enters_of Try.func35 (by kernel_rfl) rfl) hit hFp (fun _ => rfl)
      (fun _ W => Ext NoB w W ∧ W.heap[w.heap.size]? = some (.cells #[.bool false] 4 (0, 0)) ∧ NoneM W (some ⟨w.heap.size + 1, 0, none⟩)) (fun _ _ _ => False)
      (fun s A B h hk => by obtain ⟨h1, h2, h3⟩ := h; exact ⟨hk.ext h1 hx1.size, hk.cells h2, h3.imp id (fun ⟨pb, e1, e2⟩ => ⟨pb, e1, hk.cell e2⟩)⟩) (fun _ _ _ _ h _ => h)
      ⟨hx1, hb1, hN1⟩ (fun _ _ _ => True) (fun _ _ _ _ _ _ => trivial) ?assign2 ?body2 ?done2 ?stop2
    case assign2 =>
      rintro l pre x W K ⟨post, h⟩
      cases pre <;> simp at h
    case body2 =>
      rintro l pre x a' W ⟨post, h⟩
      cases pre <;> simp at h
    case stop2 => exact fun _ _ _ _ _ _ _ h _ => h.elim
    case done2 =>
      rintro D ys W hD rfl ⟨h2, h3, h4⟩ hDd
      have HX := Lib.hid h2; have HB := Lib.hid h3; have HN := Lib.hid h4; have HD := Lib.hid hDd
      clear h2 h3 h4 hDd hit hFp hBs hx1 hb1 hN1 hC0
      gi_wp2_with (refine ⟨trivial, ?_⟩; first
        | (gi_at_call 10; refine (callsIn_wide.2 (store_none HN.out)).mono ?_; rintro e w' ⟨rfl, rfl⟩)
        | (gi_at_call 17; refine (callsIn_wide.2 (num_any 1 _)).mono ?_; rintro e w' ⟨rfl, rfl⟩)
        | (gi_at_call 11; refine (callsIn_wide.2 (load_none addr HN.out)).mono ?_; rintro e w' ⟨rfl, rfl⟩)
        | (gi_at_call 14; refine (callsIn_wide.2 (len_none HN.out)).mono ?_; rintro e w' ⟨rfl, rfl⟩)
        | (gi_at_call 24; refine (callsIn_wide.2 (pages_none HN.out)).mono ?_; rintro e w' ⟨rfl, rfl⟩)
        | (gi_at_call 13; refine (callsIn_wide.2 (digest_none HN.out)).mono ?_; rintro e W2 ⟨rfl, hb⟩; have HB2 := Lib.hid hb; have HN2 := Lib.hid (HN.out.of_ext (Ext.of_below hb)); clear hb)
        | (gi_at_call 25; refine (callsIn_wide.2 (of_any none 0 [] W2 (fun j hj => absurd hj (by simp)) (by simp) (by simp))).mono ?_; rintro e w' ⟨rfl, rfl⟩)
        | (gi_at_call 22; refine (callsIn_wide.2 (copy_none HN2.out)).mono ?_; rintro e w' ⟨rfl, rfl⟩)
        | (gi_at_call 9; refine (callsIn_wide.2 (new_any _)).mono ?_; rintro e W3 ⟨pb, mb, rfl, h5, h6, _, _⟩; have H5 := Lib.hid h5; have H6 := Lib.hid h6; have HN3 := Lib.hid (HN2.out.of_ext (Ext.of_below h6)); clear h5 h6)
        | (gi_at_call 12; with_reducible refine (callsIn_wide.2 (same_none HN2.out (noneM_nil _))).mono ?_; rintro e w' ⟨rfl, rfl⟩)
        | (gi_at_call 12; with_reducible refine (callsIn_wide.2 (same_half H5.out.cell HN3.out)).mono ?_; rintro e w' ⟨rfl, rfl⟩)
        | (gi_at_call 8; refine (callsIn_wide.2 (works_any _)).mono ?_; rintro e W4 ⟨rfl, hb⟩; have hc4 := (Ext.of_below (S := NoB) hb).get ((Ext.of_below (S := NoB) H6.out).get ((Ext.of_below (S := NoB) HB2.out).get HB.out (fun s => s)) (fun s => s)) (fun s => s); have hd4 := (Ext.of_below (S := NoB) hb).get ((Ext.of_below (S := NoB) H6.out).get ((Ext.of_below (S := NoB) HB2.out).get HD.out (fun s => s)) (fun s => s)) (fun s => s); have hce4 := cell_of_row W4 _ 0 _ _ _ hc4; simp only [List.getElem?_toArray, List.getElem?_cons_zero] at hce4; have hfr4 := frozenPage hc4 0; have HC4 := Lib.hid hc4; have HD4 := Lib.hid hd4; have HB4 := Lib.hid hb; clear hb hc4 hd4))
      have hblk := blk_put HC4.out 0 (.bool true)
      have hX4 : Ext NoB w W4 := ((HX.out.sub HB2.out).sub H6.out).sub HB4.out
      have hX5 := hX4.setCell ⟨w.heap.size, 0, none⟩ (.bool true) (.inr (Nat.le_refl _))
      have hD5 : (W4.setCell ⟨w.heap.size, 0, none⟩ (.bool true)).heap[D]? = some (.deferred (some [])) := (Below.heap_setCell _ _ _ _ (by show D ≠ w.heap.size; omega)).trans HD4.out
      generalize W4.setCell ⟨w.heap.size, 0, none⟩ (.bool true) = W5 at hblk hX5 hD5 ⊢
      refine marksPost (D := D) rfl hD5 (results_cell1 rfl _ _ rfl (v := .bool true) ?_ Try.isAgg4) ⟨rfl, (hX5.putObj D _ (.inr (by omega))).below⟩
      have := cell_of_row (W5.putObj D (.deferred none)) w.heap.size 0 _ _ _ ((World.putObj_heap_other (by omega)).trans hblk)
      simpa using this
end Go.Proofs.Ytgccjmjengfhbaa
end
