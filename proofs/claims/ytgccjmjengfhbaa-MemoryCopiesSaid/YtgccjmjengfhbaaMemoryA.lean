/- Part of the proofs over 'linesman/memory': lemmas and walks. Written by merge.py from the templates of the repo. -/
import Derived.Test.YtgccjmjengfhbaaKitA
import Derived.Test.YtgccjmjengfhbaaProg
import Derived.Lib.Hide
import Derived.Test.YtgccjmjengfhbaaPMemoryStoresx0
import Derived.Shelf.Abstract
import Derived.Shelf.SlSortCmp.Whole1
set_option linter.unusedVariables false
set_option linter.unusedSimpArgs false
section
namespace Go.Proofs.Ytgccjmjengfhbaa
open Go.RowKit

/-! ### Layer 6: the memory's pages -/
def PS : Nat := 4096
theorem PS_eq : PS = 4096 := rfl
theorem infoPage : (Try.prog.info? 64).map (fun i => (i.zero, i.size, i.bytes)) = some (some (.agg (Array.replicate PS (.int .u32 0))), PS, 16384) := by kernel_rfl
theorem keysU32 : Keys Try.prog 28 (fun n : Int => .int .u32 n) := keys_int Try.underlying28
theorem undPage : Try.prog.underlying 64 = some (.array PS 28) := Try.underlying64
theorem zeroPage (w : World) : (zeroValue 64).run Try.prog w = .ok (.agg (pgCells PS .u32 fun _ => 0)) w := by
  obtain ⟨i, hi, hz⟩ := Option.map_eq_some_iff.1 infoPage
  simp only [Prod.mk.injEq] at hz
  simp only [zeroValue, typeInfo, Sem.run_bind]
  simp [hi, hz.1, Result.andThen, ← pgCells_zero]
theorem buildPage (w : World) : (Instr.build 64 #[]).run Try.prog w = .ok (.agg (pgCells PS .u32 fun _ => 0)) w := by
  simp only [Instr.build, Sem.run_bind, zeroPage, Result.andThen_ok, run_underlying undPage, Try.sizeOf28, Instr.fill, Sem.run_pure, Value.cells]
theorem eqPage (c c' : Nat → Int) (w : World) : (binOp .eql 64 (.agg (pgCells PS .u32 c)) (.agg (pgCells PS .u32 c'))).run Try.prog w = .ok (.bool (pgEq PS c c')) w :=
  run_eql_page undPage Try.underlying28 Try.sizeOf28 c c' w
theorem loadPage {w : World} {b : Nat} {c : Nat → Int} (h : w.heap[b]? = some (.cells (pgCells PS .u32 c) 64 (0, 0))) : (loadVar 64 ⟨b, 0, none⟩).run Try.prog w = .ok (.agg (pgCells PS .u32 c)) w := by
  refine run_loadVar_row w b 64 64 _ (0, 0) _ h undPage rfl ?_
  obtain ⟨i, hi, hz⟩ := Option.map_eq_some_iff.1 infoPage
  simp only [Prod.mk.injEq] at hz
  rw [hi, Option.map_some, hz.2.1, pgCells_size]
theorem cellPage {w : World} {b : Nat} {c : Nat → Int} (h : w.heap[b]? = some (.cells (pgCells PS .u32 c) 64 (0, 0))) {i : Nat} (hi : i < PS) : w.cell? ⟨b, i, none⟩ = some (.int .u32 (c i)) :=
  (cell_of_row w b i _ _ _ h).trans (pgCells_get hi)
theorem frozenPage {w : World} {b : Nat} {cs : Array Value} {t : TypeId} (h : w.heap[b]? = some (.cells cs t (0, 0))) (i : Nat) : w.frozen? ⟨b, i, none⟩ = false := by simp [World.frozen?, h]
theorem setPage {w : World} {b : Nat} {c : Nat → Int} (h : w.heap[b]? = some (.cells (pgCells PS .u32 c) 64 (0, 0))) (i : Nat) (x : Int) :
    (w.setCell ⟨b, i, none⟩ (.int .u32 x)).heap[b]? = some (.cells (pgCells PS .u32 (fun j => if j = i then x else c j)) 64 (0, 0)) := by
  simp [World.setCell, Array.getElem?_modify, h, pgCells_set]

structure Pg where
  num : Int
  blk : Nat
  c : Nat → Int
def pgPtr (p : Pg) : Int × Value := (p.num, .pointer (some ⟨p.blk, 0, none⟩))
def mget (L : List Pg) (a : Int) : Int := match L.find? (fun p => p.num = a / 4096) with
  | some p => p.c (a % 4096).toNat
  | none => 0
structure PgsAt (w : World) (L : List Pg) : Prop where
  pages : ∀ p ∈ L, w.heap[p.blk]? = some (.cells (pgCells PS .u32 p.c) 64 (0, 0))
  blks : (L.map (·.blk)).Nodup
  ok : ∀ p ∈ L, (0 ≤ p.num ∧ p.num < 1048576) ∧ (∀ i, i < PS → 0 ≤ p.c i ∧ p.c i < 4294967296)
structure MemRep (w : World) (mb : Nat) (L : List Pg) : Prop where
  map : MapAt (fun n : Int => .int .u32 n) w mb (L.map pgPtr)
  at_ : PgsAt w L
  some_ : ∀ p ∈ L, ∃ i, i < PS ∧ p.c i ≠ 0
def foot (mb : Nat) (L : List Pg) (k : Nat) : Prop := k = mb ∨ ∃ p ∈ L, k = p.blk

theorem MemRep.keys {w : World} {mb : Nat} {L : List Pg} (h : MemRep w mb L) : (L.map (·.num)).Nodup := by
  have := h.map.nodup
  unfold anodup at this
  rwa [List.map_map] at this
theorem aget_pgs (L : List Pg) (n : Int) : aget (L.map pgPtr) n = (L.find? (fun p => p.num = n)).map (fun p => .pointer (some ⟨p.blk, 0, none⟩)) := by
  induction L with
  | nil => rfl
  | cons p L ih =>
    rw [List.map_cons, aget_cons, List.find?_cons]
    by_cases h : p.num = n
    · simp [pgPtr, h]
    · simp [pgPtr, h, ← ih]
theorem MemRep.new (w : World) : MemRep (w.alloc (.map #[] 0)) w.heap.size [] := ⟨MapAt.new _ w, ⟨by simp, by simp, by simp⟩, by simp⟩
theorem PgsAt.lt {w : World} {L : List Pg} (h : PgsAt w L) : ∀ p ∈ L, p.blk < w.heap.size := fun p hp => (Array.getElem?_eq_some_iff.1 (h.pages p hp)).1
theorem MemRep.foot_lt {w : World} {mb : Nat} {L : List Pg} (h : MemRep w mb L) {k : Nat} (hk : foot mb L k) : k < w.heap.size := by
  rcases hk with rfl | ⟨p, hp, rfl⟩
  · exact h.map.lt
  · exact h.at_.lt p hp
theorem MemRep.ext {w w' : World} {mb : Nat} {L : List Pg} {S : Nat → Prop} (h : MemRep w mb L) (hx : Ext S w w') (hd : ∀ k, foot mb L k → ¬ S k) : MemRep w' mb L :=
  ⟨h.map.ext hx (hd _ (.inl rfl)), ⟨fun p hp => hx.get (h.at_.pages p hp) (hd _ (.inr ⟨p, hp, rfl⟩)), h.at_.blks, h.at_.ok⟩, h.some_⟩
theorem MemRep.mb_ne {w : World} {mb : Nat} {L : List Pg} (h : MemRep w mb L) : ∀ p ∈ L, p.blk ≠ mb := by
  rintro p hp rfl
  obtain ⟨es, c, h1, _⟩ := h.map
  rw [h.at_.pages p hp] at h1; cases h1

/-- The block is not one of the memory's. -/
theorem MemRep.not_foot {w : World} {mb : Nat} {L : List Pg} (h : MemRep w mb L) {k : Nat} {cs : Array Value} {t : TypeId} {fr : Nat × Nat} (hk : w.heap[k]? = some (.cells cs t fr)) (ht : t ≠ 64) : ¬ foot mb L k := by
  rintro (rfl | ⟨p, hp, rfl⟩)
  · obtain ⟨es, c, h1, _⟩ := h.map
    rw [hk] at h1; cases h1
  · rw [h.at_.pages p hp] at hk; have h2 := Option.some.inj hk; injection h2 with h3 h4; exact ht h4.symm

theorem at_any (a : Int) (h0 : 0 ≤ a) (h1 : a < 4294967296) (w : World) : Calls Try.prog 41 #[.int .u32 a] w fun e w' => e = .returned (.tuple #[.int .u32 (a / 4096), .int .u32 (a % 4096)]) ∧ w = w' := by
  go_enter Try.func41, Try.ntmps41
  go_wp2
  go_ret2
  exact ⟨rfl, rfl⟩

theorem empty_any (b : Nat) (c : Nat → Int) (w : World) (h : w.heap[b]? = some (.cells (pgCells PS .u32 c) 64 (0, 0))) :
    Calls Try.prog 42 #[.pointer (some ⟨b, 0, none⟩)] w fun e w' => e = .returned (.bool (pgEq PS c fun _ => 0)) ∧ w = w' := by
  have hl := Lib.hid (loadPage h)
  have hb := Lib.hid (buildPage w)
  have he := Lib.hid (eqPage c (fun _ => 0) w)
  have hg := Lib.hid (fun x y => run_eqGuard_page (P := Try.prog) (t := 64) (by kernel_rfl) .eql x y (pgCells PS .u32 c) (pgCells PS .u32 fun _ => 0) w)
  generalize pgEq PS c (fun _ => 0) = r at he ⊢
  go_enter Try.func42, Try.ntmps42
  go_wp2_with (first
    | ((with_reducible refine atT (N := 5) rfl ?_); refine step_load rfl rfl rfl hl.out ?_)
    | ((with_reducible refine atT (N := 6) rfl ?_); refine step_build rfl rfl (by simp only [List.map_toArray, List.map_nil]) hb.out ?_)
    | ((with_reducible refine atT (N := 7) rfl ?_); refine step_bin rfl rfl rfl rfl (hg.out _ _) he.out ?_))
  go_ret
  exact ⟨rfl, rfl⟩
end Go.Proofs.Ytgccjmjengfhbaa
end
section
namespace Go.Proofs.Ytgccjmjengfhbaa
open Go.RowKit

theorem lookPage {w : World} {mb : Nat} {l : List (Int × Value)} (h : MapAt (fun n : Int => .int .u32 n) w mb l) (n : Int) : (Instr.lookup 52 (.map (some mb)) (.int .u32 n) false).run Try.prog w = .ok ((aget l n).getD (.pointer none)) w :=
  run_lookup_map keysU32 Try.underlying52 Try.zeroValue62 h n

/-- 'put' where the page is not there: a 0. -/
theorem put_none0 (mb : Nat) (l : List (Int × Value)) (addr : Int) (w : World) (h0 : 0 ≤ addr) (h1 : addr < 4294967296) (hM : MapAt (fun n : Int => .int .u32 n) w mb l) (hn : aget l (addr / 4096) = none) :
    Calls Try.prog 27 #[.map (some mb), .int .u32 addr, .int .u32 0] w fun e w' => e = .returned (.tuple #[]) ∧ w = w' := by
  have hl := Lib.hid (lookPage hM (addr / 4096))
  rw [hn] at hl
  clear hn hM
  go_enter Try.func27, Try.ntmps27
  go_wp2_with (first
    | (go_at_call 41; refine (at_any addr h0 h1 _).mono ?_; rintro e w' ⟨rfl, rfl⟩)
    | ((with_reducible refine atT (N := 15) rfl ?_); refine step_lookup rfl rfl rfl rfl hl.out ?_))
  exact bodyPost_ret (results_none rfl _ _ _) rfl ⟨rfl, rfl⟩

/-- A new page. -/
theorem put_none (mb : Nat) (l : List (Int × Value)) (addr word : Int) (w : World) (h0 : 0 ≤ addr) (h1 : addr < 4294967296) (hw0 : (word == 0) = false) (hM : MapAt (fun n : Int => .int .u32 n) w mb l) (hn : aget l (addr / 4096) = none) :
    Calls Try.prog 27 #[.map (some mb), .int .u32 addr, .int .u32 word] w fun e w' => e = .returned (.tuple #[]) ∧
      MapAt (fun n : Int => .int .u32 n) w' mb (aset l (addr / 4096) (.pointer (some ⟨w.heap.size, 0, none⟩))) ∧ Ext (fun k => k = mb) w w' ∧
      w'.heap[w.heap.size]? = some (.cells (pgCells PS .u32 (fun j => if j = (addr % 4096).toNat then word else 0)) 64 (0, 0)) := by
  have hlt := hM.lt
  have hl := Lib.hid (lookPage hM (addr / 4096))
  rw [hn] at hl
  have hb := Lib.hid (fun W => buildPage W)
  have hM' := Lib.hid hM
  have hi0 : 0 ≤ addr % 4096 := by omega
  have hi1 : addr % 4096 < 4096 := by omega
  have hiP : (addr % 4096).toNat < PS := by have := PS_eq; omega
  clear hn hM
  go_enter Try.func27, Try.ntmps27
  go_wp2_with (first
    | (go_at_call 41; refine (at_any addr h0 h1 _).mono ?_; rintro e w' ⟨rfl, rfl⟩)
    | ((with_reducible refine atT (N := 15) rfl ?_); refine step_lookup rfl rfl rfl rfl hl.out ?_)
    | ((with_reducible refine atT (N := 21) rfl ?_); refine step_build rfl rfl (by simp only [List.map_toArray, List.map_nil]) (hb.out _) ?_)
    | ((with_reducible refine atT (N := 22) rfl ?_); refine step_box rfl rfl rfl ?_; intro g w1 hg hw1; have HG := Lib.hid hg; have HW := Lib.hid hw1; clear hg hw1)
    | (at_mapUpdate; refine wpl_mapUpdate (key := addr / 4096) (val := .pointer (some ⟨g, 0, none⟩)) rfl _ _ _ rfl keysU32 Try.underlying52 rfl rfl rfl (by rw [HW.out]; exact hM'.out.ext ((Ext.refl NoB _).alloc _) (fun s => s)) ?_; intro w2 h2 hx2 hs2
       have hblk : w2.heap[g]? = some (.cells (pgCells PS .u32 fun _ => 0) 64 (0, 0)) := hx2.get (by rw [HW.out, HG.out]; exact heap_alloc_new w (.cells (pgCells PS .u32 fun _ => 0) 64 (0, 0))) (by rw [HG.out]; omega)
       have hce := cellPage hblk hiP
       have hfr := frozenPage hblk (addr % 4096).toNat
       have hsz : w.heap.size + 1 = w2.heap.size := by rw [hs2, HW.out]; simp
       have HM2 := Lib.hid h2; have HX2 := Lib.hid hx2; have HS2 := Lib.hid hsz; have HB2 := Lib.hid hblk; clear h2 hx2 hs2 hblk hsz)
    | ((with_reducible refine atT (N := 25) rfl ?_); have hq := lookPage HM2.out (addr / 4096); rw [aget_aset, if_pos rfl] at hq; refine step_lookup rfl rfl rfl rfl hq ?_; clear hq)
    | ((with_reducible refine atT (N := 29) rfl ?_); refine step_indexArr rfl rfl rfl rfl undPage Try.sizeOf28 hi0 hi1 (by decide) ?_)
    | ((with_reducible refine atStore (N := 29) rfl ?_); refine step_store1 (u := .int .u32 word) rfl rfl rfl rfl (Try.sizeOf28 _) rfl rfl hce hfr rfl ?_; have HS3 := Lib.hid (setPage HB2.out (addr % 4096).toNat word); have HX3 := Lib.hid ((Ext.refl (fun k => k = g) w2).setCell ⟨g, (addr % 4096).toNat, none⟩ (.int .u32 word) (.inl rfl)); revert HS3 HX3; generalize w2.setCell ⟨g, (addr % 4096).toNat, none⟩ (.int .u32 word) = w3; intro HS3 HX3))
  have hgm : mb ≠ g := by rw [HG.out]; omega
  have hx1 : Ext (fun k => k = mb) w w2 := ((Ext.refl (fun k => k = mb) w).alloc (.cells (pgCells PS .u32 fun _ => 0) 64 (0, 0))).trans' (by rw [HW.out] at HX2; exact HX2.out)
  have hx3 : Ext (fun k => k = mb) w w3 := hx1.trans HX3.out (fun k hk e => by rw [HG.out] at e; omega)
  have hm3 := HM2.out.ext HX3.out hgm
  have hs3 := HS3.out
  rw [HG.out] at hm3 hs3
  exact bodyPost_end (results_none rfl _ _ _) rfl ⟨rfl, hm3, hx3, hs3⟩

/-- A page that is there: a word that is not 0. -/
theorem put_some (mb b : Nat) (l : List (Int × Value)) (c : Nat → Int) (addr word : Int) (w : World) (h0 : 0 ≤ addr) (h1 : addr < 4294967296) (hw0 : (word == 0) = false) (hM : MapAt (fun n : Int => .int .u32 n) w mb l) (hn : aget l (addr / 4096) = some (.pointer (some ⟨b, 0, none⟩)))
    (hb : w.heap[b]? = some (.cells (pgCells PS .u32 c) 64 (0, 0))) :
    Calls Try.prog 27 #[.map (some mb), .int .u32 addr, .int .u32 word] w fun e w' => e = .returned (.tuple #[]) ∧ w' = w.setCell ⟨b, (addr % 4096).toNat, none⟩ (.int .u32 word) := by
  have hl := Lib.hid (lookPage hM (addr / 4096))
  rw [hn] at hl
  have hi0 : 0 ≤ addr % 4096 := by omega
  have hi1 : addr % 4096 < 4096 := by omega
  have hiP : (addr % 4096).toNat < PS := by have := PS_eq; omega
  have hce := cellPage hb hiP
  have hfr := frozenPage hb (addr % 4096).toNat
  clear hn hM hb
  go_enter Try.func27, Try.ntmps27
  go_wp2_with (first
    | (go_at_call 41; refine (at_any addr h0 h1 _).mono ?_; rintro e w' ⟨rfl, rfl⟩)
    | ((with_reducible refine atT (N := 15) rfl ?_); refine step_lookup rfl rfl rfl rfl hl.out ?_)
    | ((with_reducible refine atT (N := 25) rfl ?_); refine step_lookup rfl rfl rfl rfl hl.out ?_)
    | ((with_reducible refine atT (N := 29) rfl ?_); refine step_indexArr rfl rfl rfl rfl undPage Try.sizeOf28 hi0 hi1 (by decide) ?_)
    | ((with_reducible refine atStore (N := 29) rfl ?_); refine step_store1 (u := .int .u32 word) rfl rfl rfl rfl (Try.sizeOf28 _) rfl rfl hce hfr rfl ?_; generalize hw3 : w.setCell ⟨b, (addr % 4096).toNat, none⟩ (.int .u32 word) = w3; have HW3 := Lib.hid hw3; clear hw3))
  exact bodyPost_end (results_none rfl _ _ _) rfl ⟨rfl, HW3.out.symm⟩

/-- A page that is there: a 0; it is still not empty. -/
theorem put_keep (mb b : Nat) (l : List (Int × Value)) (c : Nat → Int) (addr : Int) (w : World) (h0 : 0 ≤ addr) (h1 : addr < 4294967296) (hM : MapAt (fun n : Int => .int .u32 n) w mb l) (hn : aget l (addr / 4096) = some (.pointer (some ⟨b, 0, none⟩)))
    (hb : w.heap[b]? = some (.cells (pgCells PS .u32 c) 64 (0, 0))) (he : pgEq PS (fun j => if j = (addr % 4096).toNat then 0 else c j) (fun _ => 0) = false) :
    Calls Try.prog 27 #[.map (some mb), .int .u32 addr, .int .u32 0] w fun e w' => e = .returned (.tuple #[]) ∧ w' = w.setCell ⟨b, (addr % 4096).toNat, none⟩ (.int .u32 0) := by
  have hl := Lib.hid (lookPage hM (addr / 4096))
  rw [hn] at hl
  have hne : mb ≠ b := by rintro rfl; obtain ⟨es, c', h1', _⟩ := hM; rw [hb] at h1'; cases h1'
  have hM3 := hM.ext ((Ext.refl (fun k => k = b) w).setCell ⟨b, (addr % 4096).toNat, none⟩ (.int .u32 0) (.inl rfl)) hne
  have hl3 := Lib.hid (lookPage hM3 (addr / 4096))
  rw [hn] at hl3
  have hs3 := setPage hb (addr % 4096).toNat 0
  have hi0 : 0 ≤ addr % 4096 := by omega
  have hi1 : addr % 4096 < 4096 := by omega
  have hiP : (addr % 4096).toNat < PS := by have := PS_eq; omega
  have hce := cellPage hb hiP
  have hfr := frozenPage hb (addr % 4096).toNat
  generalize hw3 : w.setCell ⟨b, (addr % 4096).toNat, none⟩ (.int .u32 0) = w3 at hl3 hs3
  have HW3 := Lib.hid hw3
  have HS3 := Lib.hid hs3
  have HE := Lib.hid he
  clear hn hM hb hM3 hs3 hw3 he
  go_enter Try.func27, Try.ntmps27
  go_wp2_with (first
    | (go_at_call 41; refine (at_any addr h0 h1 _).mono ?_; rintro e w' ⟨rfl, rfl⟩)
    | (go_at_call 42; refine (empty_any _ _ _ HS3.out).mono ?_; rintro e w' ⟨rfl, rfl⟩; rw [HE.out])
    | ((with_reducible refine atT (N := 15) rfl ?_); refine step_lookup rfl rfl rfl rfl hl.out ?_)
    | ((with_reducible refine atT (N := 25) rfl ?_); refine step_lookup rfl rfl rfl rfl hl.out ?_)
    | ((with_reducible refine atT (N := 35) rfl ?_); refine step_lookup_g rfl rfl rfl rfl hl3.out ?_)
    | ((with_reducible refine atT (N := 29) rfl ?_); refine step_indexArr rfl rfl rfl rfl undPage Try.sizeOf28 hi0 hi1 (by decide) ?_)
    | ((with_reducible refine atStore (N := 29) rfl ?_); refine step_store1 (u := .int .u32 0) rfl rfl rfl rfl (Try.sizeOf28 _) rfl rfl hce hfr rfl ?_; rw [HW3.out]))
  exact bodyPost_end (results_none rfl _ _ _) rfl ⟨rfl, rfl⟩

/-- A page that is there: a 0, and it is empty now. -/
theorem put_del (mb b : Nat) (l : List (Int × Value)) (c : Nat → Int) (addr : Int) (w : World) (h0 : 0 ≤ addr) (h1 : addr < 4294967296) (hM : MapAt (fun n : Int => .int .u32 n) w mb l) (hn : aget l (addr / 4096) = some (.pointer (some ⟨b, 0, none⟩)))
    (hb : w.heap[b]? = some (.cells (pgCells PS .u32 c) 64 (0, 0))) (he : pgEq PS (fun j => if j = (addr % 4096).toNat then 0 else c j) (fun _ => 0) = true) :
    Calls Try.prog 27 #[.map (some mb), .int .u32 addr, .int .u32 0] w fun e w' => e = .returned (.tuple #[]) ∧ MapAt (fun n : Int => .int .u32 n) w' mb (adel l (addr / 4096)) ∧ Ext (fun k => k = mb ∨ k = b) w w' := by
  have hl := Lib.hid (lookPage hM (addr / 4096))
  rw [hn] at hl
  have hne : mb ≠ b := by rintro rfl; obtain ⟨es, c', h1', _⟩ := hM; rw [hb] at h1'; cases h1'
  have hx3 := (Ext.refl (fun k => k = b) w).setCell ⟨b, (addr % 4096).toNat, none⟩ (.int .u32 0) (.inl rfl)
  have hM3 := hM.ext hx3 hne
  have hl3 := Lib.hid (lookPage hM3 (addr / 4096))
  rw [hn] at hl3
  have hs3 := setPage hb (addr % 4096).toNat 0
  have hi0 : 0 ≤ addr % 4096 := by omega
  have hi1 : addr % 4096 < 4096 := by omega
  have hiP : (addr % 4096).toNat < PS := by have := PS_eq; omega
  have hce := cellPage hb hiP
  have hfr := frozenPage hb (addr % 4096).toNat
  generalize hw3 : w.setCell ⟨b, (addr % 4096).toNat, none⟩ (.int .u32 0) = w3 at hl3 hs3 hM3 hx3
  have HW3 := Lib.hid hw3
  have HS3 := Lib.hid hs3
  have HE := Lib.hid he
  have HM3 := Lib.hid hM3
  have HX3 := Lib.hid hx3
  clear hn hM hb hM3 hs3 hw3 he hx3
  go_enter Try.func27, Try.ntmps27
  go_wp2_with (first
    | (go_at_call 41; refine (at_any addr h0 h1 _).mono ?_; rintro e w' ⟨rfl, rfl⟩)
    | (go_at_call 42; refine (empty_any _ _ _ HS3.out).mono ?_; rintro e w' ⟨rfl, rfl⟩; rw [HE.out])
    | ((with_reducible refine atT (N := 15) rfl ?_); refine step_lookup rfl rfl rfl rfl hl.out ?_)
    | ((with_reducible refine atT (N := 25) rfl ?_); refine step_lookup rfl rfl rfl rfl hl.out ?_)
    | ((with_reducible refine atT (N := 35) rfl ?_); refine step_lookup_g rfl rfl rfl rfl hl3.out ?_)
    | ((with_reducible refine atT (N := 29) rfl ?_); refine step_indexArr rfl rfl rfl rfl undPage Try.sizeOf28 hi0 hi1 (by decide) ?_)
    | ((with_reducible refine atStore (N := 29) rfl ?_); refine step_store1 (u := .int .u32 0) rfl rfl rfl rfl (Try.sizeOf28 _) rfl rfl hce hfr rfl ?_; rw [HW3.out])
    | (at_delete; refine wpl_delete rfl _ _ rfl keysU32 Try.underlying52 rfl rfl HM3.out ?_; intro w4 h4 hx4 hs4; have HM4 := Lib.hid h4; have HX4 := Lib.hid hx4; clear h4 hx4 hs4))
  exact bodyPost_end (results_none rfl _ _ _) rfl ⟨rfl, HM4.out, (HX3.out.mono (fun _ _ e => .inr e)).trans HX4.out (fun _ _ e => .inl e)⟩
end Go.Proofs.Ytgccjmjengfhbaa
end
section
namespace Go.Proofs.Ytgccjmjengfhbaa
open Go.RowKit

/-! ### 'put' as one contract; 'word', 'Store', 'Load' -/
def updPg (L : List Pg) (n : Int) (f : (Nat → Int) → Nat → Int) : List Pg := L.map fun p => if p.num = n then { p with c := f p.c } else p
theorem updPg_ptr (L : List Pg) (n : Int) (f : (Nat → Int) → Nat → Int) : (updPg L n f).map pgPtr = L.map pgPtr := by
  unfold updPg; rw [List.map_map]; apply List.map_congr_left; intro p _; by_cases h : p.num = n <;> simp [pgPtr, h]
theorem updPg_blk (L : List Pg) (n : Int) (f : (Nat → Int) → Nat → Int) : (updPg L n f).map (·.blk) = L.map (·.blk) := by
  unfold updPg; rw [List.map_map]; apply List.map_congr_left; intro p _; by_cases h : p.num = n <;> simp [h]
theorem find_some {L : List Pg} {n : Int} {p : Pg} (h : L.find? (fun p => p.num = n) = some p) : p ∈ L ∧ p.num = n := ⟨List.mem_of_find?_eq_some h, by simpa using List.find?_some h⟩
theorem find_of_mem {L : List Pg} (hn : (L.map (·.num)).Nodup) {p : Pg} (hp : p ∈ L) {n : Int} (h : p.num = n) : L.find? (fun p => p.num = n) = some p := by
  induction L with
  | nil => simp at hp
  | cons q L ih =>
    rw [List.map_cons, List.nodup_cons] at hn
    rw [List.find?_cons]
    rcases List.mem_cons.1 hp with rfl | hp
    · simp [h]
    · have : ¬ q.num = n := fun e => hn.1 (by rw [e, ← h]; exact List.mem_map.2 ⟨p, hp, rfl⟩)
      simp [this, ih hn.2 hp]
theorem find_upd {L : List Pg} {n m : Int} {f : (Nat → Int) → Nat → Int} : (updPg L n f).find? (fun p => p.num = m) = (L.find? (fun p => p.num = m)).map fun p => if p.num = n then { p with c := f p.c } else p := by
  induction L with
  | nil => rfl
  | cons q L ih =>
    unfold updPg at ih ⊢
    rw [List.map_cons, List.find?_cons, List.find?_cons, ih]
    by_cases h : q.num = n
    · rw [if_pos h]
      by_cases h2 : q.num = m
      · rw [decide_eq_true h2]; simp only [Option.map_some]; rw [if_pos h]
      · rw [decide_eq_false h2]
    · rw [if_neg h]
      by_cases h2 : q.num = m
      · rw [decide_eq_true h2]; simp only [Option.map_some]; rw [if_neg h]
      · rw [decide_eq_false h2]

theorem div_mod_ne {a b : Int} (h : a ≠ b) (ha : 0 ≤ a) (hb : 0 ≤ b) (hd : a / 4096 = b / 4096) : (a % 4096).toNat ≠ (b % 4096).toNat := by omega

/-- **'put': the word lies there now, all else lies as it lay.** -/
theorem put_any (mb : Nat) (L : List Pg) (addr word : Int) (w : World) (h0 : 0 ≤ addr) (h1 : addr < 4294967296) (hw0 : 0 ≤ word) (hw1 : word < 4294967296) (hM : MemRep w mb L) :
    Calls Try.prog 27 #[.map (some mb), .int .u32 addr, .int .u32 word] w fun e w' => e = .returned (.tuple #[]) ∧ ∃ L', MemRep w' mb L' ∧ (∀ a, 0 ≤ a → mget L' a = if a = addr then word else mget L a) ∧ Ext (foot mb L) w w' ∧ (∀ k, foot mb L' k → foot mb L k ∨ w.heap.size ≤ k) := by
  have hag := aget_pgs L (addr / 4096)
  have hiP : (addr % 4096).toNat < PS := by have := PS_eq; omega
  cases hf : L.find? (fun p => p.num = addr / 4096) with
  | none =>
    rw [hf] at hag
    by_cases hz : word = 0
    · subst hz
      refine (put_none0 mb _ addr w h0 h1 hM.map hag).mono ?_
      rintro e w' ⟨rfl, rfl⟩
      refine ⟨rfl, L, hM, fun a ha => ?_, Ext.refl _ _, fun k hk => .inl hk⟩
      by_cases e : a = addr
      · subst e; simp [mget, hf]
      · simp [e]
    · refine (put_none mb _ addr word w h0 h1 (by simpa using hz) hM.map hag).mono ?_
      rintro e w' ⟨rfl, hm, hx, hb⟩
      have hnm : addr / 4096 ∉ (L.map pgPtr).map (·.1) := aget_none.1 hag
      let p0 : Pg := ⟨addr / 4096, w.heap.size, fun j => if j = (addr % 4096).toNat then word else 0⟩
      refine ⟨rfl, L ++ [p0], ⟨?_, ⟨?_, ?_, ?_⟩, ?_⟩, fun a ha => ?_, hx.mono (fun k _ e => .inl e), ?_⟩
      · have e1 : (L ++ [p0]).map pgPtr = aset (L.map pgPtr) (addr / 4096) (.pointer (some ⟨w.heap.size, 0, none⟩)) := by
          unfold aset; rw [if_neg hnm]; simp [p0, pgPtr]
        rw [e1]; exact hm
      · intro p hp
        rcases List.mem_append.1 hp with hp | hp
        · exact hx.get (hM.at_.pages p hp) (hM.mb_ne p hp)
        · simp at hp; subst hp; exact hb
      · rw [List.map_append]
        refine List.nodup_append.2 ⟨hM.at_.blks, by simp, ?_⟩
        intro x hx1 y hy e
        obtain ⟨p, hp, rfl⟩ := List.mem_map.1 hx1
        simp [p0] at hy
        have := hM.at_.lt p hp
        omega
      · intro p hp
        rcases List.mem_append.1 hp with hp | hp
        · exact hM.at_.ok p hp
        · simp at hp; subst hp
          refine ⟨by simp only [p0]; omega, fun i _ => ?_⟩
          simp only [p0]; split <;> omega
      · intro p hp
        rcases List.mem_append.1 hp with hp | hp
        · exact hM.some_ p hp
        · simp at hp; subst hp; exact ⟨_, hiP, by simp [p0, hz]⟩
      · unfold mget
        rw [List.find?_append]
        by_cases e : a = addr
        · subst e; rw [hf]; simp [p0]
        · rw [if_neg e]
          cases hfa : L.find? (fun p => p.num = a / 4096) with
          | some p => simp
          | none =>
            by_cases hd : addr / 4096 = a / 4096
            · have := div_mod_ne (fun x => e x.symm) h0 ha hd
              simp [p0, hd]; intro hx; exact absurd hx.symm this
            · simp [p0, hd]
      · rintro k (rfl | ⟨p, hp, rfl⟩)
        · exact .inl (.inl rfl)
        · rcases List.mem_append.1 hp with hp | hp
          · exact .inl (.inr ⟨p, hp, rfl⟩)
          · simp at hp; subst hp; exact .inr (Nat.le_refl _)
  | some p =>
    obtain ⟨hp, hpn⟩ := find_some hf
    rw [hf] at hag
    have hblk := hM.at_.pages p hp
    have hkey := hM.keys
    let f : (Nat → Int) → Nat → Int := fun c j => if j = (addr % 4096).toNat then word else c j
    have hupd : ∀ w', (∀ q ∈ L, q.num ≠ addr / 4096 → w'.heap[q.blk]? = w.heap[q.blk]?) → w'.heap[p.blk]? = some (.cells (pgCells PS .u32 (f p.c)) 64 (0, 0)) → PgsAt w' (updPg L (addr / 4096) f) := by
      intro w' h1' h2'
      refine ⟨?_, by rw [updPg_blk]; exact hM.at_.blks, ?_⟩
      · intro q hq
        obtain ⟨r, hr, rfl⟩ := List.mem_map.1 hq
        by_cases e : r.num = addr / 4096
        · rw [if_pos e]
          have : r = p := by
            have a1 := find_of_mem hkey hr e
            rw [hf] at a1; exact (Option.some.inj a1).symm
          subst this; exact h2'
        · rw [if_neg e, h1' r hr e]; exact hM.at_.pages r hr
      · intro q hq
        obtain ⟨r, hr, rfl⟩ := List.mem_map.1 hq
        have := hM.at_.ok r hr
        by_cases e : r.num = addr / 4096
        · rw [if_pos e]; refine ⟨this.1, fun i hi => ?_⟩; simp only [f]; split; exact ⟨hw0, hw1⟩; exact this.2 i hi
        · rw [if_neg e]; exact this
    have hget : ∀ a, 0 ≤ a → mget (updPg L (addr / 4096) f) a = if a = addr then word else mget L a := by
      intro a ha
      unfold mget
      rw [find_upd]
      by_cases e : a = addr
      · subst e; rw [hf]; simp [hpn, f]
      · rw [if_neg e]
        cases hfa : L.find? (fun p => p.num = a / 4096) with
        | none => simp
        | some q =>
          obtain ⟨hq, hqn⟩ := find_some hfa
          by_cases e2 : q.num = addr / 4096
          · have hd : a / 4096 = addr / 4096 := hqn.symm.trans e2
            have := div_mod_ne e ha h0 hd
            simp [e2, f, this]
          · simp [e2]
    have hother : ∀ (v : Value), ∀ q ∈ L, q.num ≠ addr / 4096 → (w.setCell ⟨p.blk, (addr % 4096).toNat, none⟩ v).heap[q.blk]? = w.heap[q.blk]? := by
      intro v q hq hne
      refine Below.heap_setCell _ _ _ _ ?_
      intro hb
      have : q = p := by
        obtain ⟨i, hi⟩ := List.getElem?_of_mem hq
        obtain ⟨j, hj⟩ := List.getElem?_of_mem hp
        have g1 : (L.map (·.blk))[i]? = some q.blk := by simp [hi]
        have g2 : (L.map (·.blk))[j]? = some p.blk := by simp [hj]
        have hlt : i < (L.map (·.blk)).length := (List.getElem?_eq_some_iff.1 g1).1
        have hb' : q.blk = p.blk := hb
        have := (List.getElem?_inj hlt hM.at_.blks).1 (g1.trans (by rw [hb', g2]))
        subst this; rw [hi] at hj; exact Option.some.inj hj
      subst this; exact hne hpn
    have hfoot : ∀ k, foot mb (updPg L (addr / 4096) f) k → foot mb L k := by
      rintro k (rfl | ⟨q, hq, rfl⟩)
      · exact .inl rfl
      · obtain ⟨r, hr, rfl⟩ := List.mem_map.1 hq
        refine .inr ⟨r, hr, ?_⟩; by_cases e : r.num = addr / 4096 <;> simp [e]
    by_cases hz : word = 0
    · cases hE : pgEq PS (fun j => if j = (addr % 4096).toNat then 0 else p.c j) (fun _ => 0) with
      | false =>
        subst hz
        refine (put_keep mb p.blk _ p.c addr w h0 h1 hM.map hag hblk hE).mono ?_
        rintro e w' ⟨rfl, rfl⟩
        refine ⟨rfl, updPg L (addr / 4096) f, ⟨?_, hupd _ (hother _) (setPage hblk _ _), ?_⟩, hget, (Ext.refl _ _).setCell _ _ (.inl (.inr ⟨p, hp, rfl⟩)), fun k hk => .inl (hfoot k hk)⟩
        · rw [updPg_ptr]
          exact hM.map.ext ((Ext.refl (fun k => k = p.blk) w).setCell ⟨p.blk, (addr % 4096).toNat, none⟩ (.int .u32 0) (.inl rfl)) (hM.mb_ne p hp).symm
        · intro q hq
          obtain ⟨r, hr, rfl⟩ := List.mem_map.1 hq
          by_cases e : r.num = addr / 4096
          · have : r = p := by
              have a1 := find_of_mem hkey hr e
              rw [hf] at a1; exact (Option.some.inj a1).symm
            subst this
            rw [if_pos e]
            have : ¬ ∀ i, i < PS → f r.c i = 0 := fun hx => by
              have := (pgEq_iff (n := PS) (c := fun j => if j = (addr % 4096).toNat then 0 else r.c j) (c' := fun _ => 0)).2 hx
              rw [hE] at this; cases this
            exact Classical.not_not.1 fun hx => this fun i hi => Classical.not_not.1 fun hy => hx ⟨i, hi, hy⟩
          · rw [if_neg e]; exact hM.some_ r hr
      | true =>
        subst hz
        refine (put_del mb p.blk _ p.c addr w h0 h1 hM.map hag hblk hE).mono ?_
        rintro e w' ⟨rfl, hm, hx⟩
        have hsub : ∀ q ∈ L.filter (fun q => q.num ≠ addr / 4096), q ∈ L ∧ q.num ≠ addr / 4096 := fun q hq => by
          have := List.mem_filter.1 hq; exact ⟨this.1, by simpa using this.2⟩
        have hblkne : ∀ q ∈ L, q.num ≠ addr / 4096 → q.blk ≠ p.blk := by
          intro q hq hne hb
          have := hother (.int .u32 0) q hq hne
          apply hne
          obtain ⟨i, hi⟩ := List.getElem?_of_mem hq
          obtain ⟨j, hj⟩ := List.getElem?_of_mem hp
          have g1 : (L.map (·.blk))[i]? = some q.blk := by simp [hi]
          have g2 : (L.map (·.blk))[j]? = some p.blk := by simp [hj]
          have hlt : i < (L.map (·.blk)).length := (List.getElem?_eq_some_iff.1 g1).1
          have := (List.getElem?_inj hlt hM.at_.blks).1 (g1.trans (by rw [hb, g2]))
          subst this; rw [hi] at hj; rw [Option.some.inj hj]; exact hpn
        refine ⟨rfl, L.filter (fun q => q.num ≠ addr / 4096), ⟨?_, ⟨?_, ?_, ?_⟩, ?_⟩, fun a ha => ?_, hx.mono (fun k _ e => e.elim .inl (fun e => .inr ⟨p, hp, e⟩)), ?_⟩
        · have : (L.filter (fun q => q.num ≠ addr / 4096)).map pgPtr = adel (L.map pgPtr) (addr / 4096) := by
            unfold adel; rw [List.filter_map]; rfl
          rw [this]; exact hm
        · intro q hq
          obtain ⟨hq1, hq2⟩ := hsub q hq
          refine hx.get (hM.at_.pages q hq1) ?_
          rintro (e | e)
          · exact hM.mb_ne q hq1 e
          · exact hblkne q hq1 hq2 e
        · exact hM.at_.blks.sublist (List.Sublist.map _ List.filter_sublist)
        · intro q hq; exact hM.at_.ok q (hsub q hq).1
        · intro q hq; exact hM.some_ q (hsub q hq).1
        · unfold mget
          have hfil : ∀ m : Int, (L.filter (fun q => q.num ≠ addr / 4096)).find? (fun p => p.num = m) = if m = addr / 4096 then none else L.find? (fun p => p.num = m) := by
            intro m
            clear hsub hfoot hget hupd hother hblkne hm hx hkey hag hblk hE hf hp hM
            induction L with
            | nil => simp
            | cons q L ih =>
              rw [List.filter_cons, List.find?_cons]
              by_cases e : q.num = addr / 4096
              · simp only [e, ne_eq, not_true_eq_false, decide_false, Bool.false_eq_true, if_false]
                rw [ih]
                by_cases e2 : m = addr / 4096
                · simp [e2]
                · have : ¬ addr / 4096 = m := fun x => e2 x.symm
                  simp [e2, this]
              · simp only [ne_eq, e, not_false_eq_true, decide_true, if_true]
                rw [List.find?_cons, ih]
                by_cases e2 : q.num = m
                · have : ¬ m = addr / 4096 := fun x => e (e2.trans x)
                  simp [e2, this]
                · simp [e2]
          rw [hfil]
          by_cases e : a = addr
          · subst e; simp
          · rw [if_neg e]
            by_cases hd : a / 4096 = addr / 4096
            · rw [if_pos hd, hd, hf]
              have := (pgEq_iff.1 hE) (a % 4096).toNat (by have := PS_eq; omega)
              rw [if_neg (div_mod_ne e ha h0 hd)] at this
              exact this.symm
            · rw [if_neg hd]
        · rintro k (rfl | ⟨q, hq, rfl⟩)
          · exact .inl (.inl rfl)
          · exact .inl (.inr ⟨q, (hsub q hq).1, rfl⟩)
    · refine (put_some mb p.blk _ p.c addr word w h0 h1 (by simpa using hz) hM.map hag hblk).mono ?_
      rintro e w' ⟨rfl, rfl⟩
      refine ⟨rfl, updPg L (addr / 4096) f, ⟨?_, hupd _ (hother _) (setPage hblk _ _), ?_⟩, hget, (Ext.refl _ _).setCell _ _ (.inl (.inr ⟨p, hp, rfl⟩)), fun k hk => .inl (hfoot k hk)⟩
      · rw [updPg_ptr]
        exact hM.map.ext ((Ext.refl (fun k => k = p.blk) w).setCell ⟨p.blk, (addr % 4096).toNat, none⟩ (.int .u32 word) (.inl rfl)) (hM.mb_ne p hp).symm
      · intro q hq
        obtain ⟨r, hr, rfl⟩ := List.mem_map.1 hq
        by_cases e : r.num = addr / 4096
        · rw [if_pos e]; exact ⟨_, hiP, by simp [f, hz]⟩
        · rw [if_neg e]; exact hM.some_ r hr
end Go.Proofs.Ytgccjmjengfhbaa
end
section
namespace Go.Proofs.Ytgccjmjengfhbaa
open Go.RowKit Go.Proofs.YtgccjmjengfhbaaW.PrintWords
open Go.Proofs.Ytgccjmjengfhbaa.PMemoryStores (S30 k30 at_T30 rd_T30)

/-- The memory behind a pointer. -/
def MemAt (w : World) (pb mb : Nat) (L : List Pg) : Prop := w.heap[pb]? = some (.cells #[.map (some mb)] 54 (0, 0)) ∧ MemRep w mb L
theorem MemAt.cell {w : World} {pb mb : Nat} {L : List Pg} (h : MemAt w pb mb L) : w.cell? ⟨pb, 0, none⟩ = some (.map (some mb)) := cell_of_row w pb 0 _ _ _ h.1
theorem MemAt.pb {w : World} {pb mb : Nat} {L : List Pg} (h : MemAt w pb mb L) : ¬ foot mb L pb := h.2.not_foot h.1 (by decide)
theorem MemAt.ext {w w' : World} {pb mb : Nat} {L : List Pg} {S : Nat → Prop} (h : MemAt w pb mb L) (hx : Ext S w w') (hd : ∀ k, foot mb L k → ¬ S k) (hp : ¬ S pb) : MemAt w' pb mb L := ⟨hx.get h.1 hp, h.2.ext hx hd⟩

theorem none_some (pb m : Nat) (w : World) (h : w.cell? ⟨pb, 0, none⟩ = some (.map (some m))) : Calls Try.prog 26 #[.pointer (some ⟨pb, 0, none⟩)] w fun e w' => e = .returned (.bool false) ∧ w = w' := by
  have hm := fun w r => run_eql_map_nil (P := Try.prog) w 52 28 62 r Try.underlying52
  go_enter Try.func26, Try.ntmps26
  go_wp2
  go_ret
  exact ⟨rfl, rfl⟩
theorem none_zero (pb : Nat) (w : World) (h : w.cell? ⟨pb, 0, none⟩ = some (.map none)) : Calls Try.prog 26 #[.pointer (some ⟨pb, 0, none⟩)] w fun e w' => e = .returned (.bool true) ∧ w = w' := by
  have hm := fun w r => run_eql_map_nil (P := Try.prog) w 52 28 62 r Try.underlying52
  go_enter Try.func26, Try.ntmps26
  go_wp2
  go_ret
  exact ⟨rfl, rfl⟩
theorem none_nil (w : World) : Calls Try.prog 26 #[.pointer none] w fun e w' => e = .returned (.bool true) ∧ w = w' := by
  go_enter Try.func26, Try.ntmps26
  go_wp2
  go_ret
  exact ⟨rfl, rfl⟩
theorem new_any (w : World) : Calls Try.prog 9 #[] w fun e w' => ∃ pb mb, e = .returned (.pointer (some ⟨pb, 0, none⟩)) ∧ MemAt w' pb mb [] ∧ Below w.heap.size w w' ∧ w.heap.size ≤ pb ∧ w.heap.size ≤ mb := by
  have hmm := @run_makeMap Try.prog
  go_enter Try.func9, Try.ntmps9
  go_wp2
  go_ret
  refine ⟨_, w.heap.size, rfl, ⟨?_, ?_⟩, ((Below.refl _ w).alloc (Nat.le_refl _) _).alloc (by simp) _, by simp, Nat.le_refl _⟩
  · have := heap_alloc_new (w.alloc (.map #[] 0)) (.cells #[.map (some w.heap.size)] 54 (0, 0)); simpa using this
  · exact (MemRep.new w).ext ((Ext.refl NoB _).alloc _) (fun _ _ s => s)

/-- **'word'.** -/
theorem word_any (mb : Nat) (L : List Pg) (addr : Int) (w : World) (h0 : 0 ≤ addr) (h1 : addr < 4294967296) (hM : MemRep w mb L) :
    Calls Try.prog 28 #[.map (some mb), .int .u32 addr] w fun e w' => e = .returned (.int .u32 (mget L addr)) ∧ w = w' := by
  have hag := aget_pgs L (addr / 4096)
  have hl := Lib.hid (lookPage hM.map (addr / 4096))
  have hi0 : 0 ≤ addr % 4096 := by omega
  have hi1 : addr % 4096 < 4096 := by omega
  have hiP : (addr % 4096).toNat < PS := by have := PS_eq; omega
  cases hf : L.find? (fun p => p.num = addr / 4096) with
  | none =>
    have hres : mget L addr = 0 := by simp [mget, hf]
    rw [hres]
    rw [hf] at hag
    rw [hag] at hl
    clear hag hf hM hres
    go_enter Try.func28, Try.ntmps28
    go_wp2_with (first
      | (go_at_call 41; refine (at_any addr h0 h1 _).mono ?_; rintro e w' ⟨rfl, rfl⟩)
      | ((with_reducible refine atT (N := 14) rfl ?_); refine step_lookup rfl rfl rfl rfl hl.out ?_))
    go_ret
    exact ⟨rfl, rfl⟩
  | some p =>
    have hres : mget L addr = p.c (addr % 4096).toNat := by simp [mget, hf]
    rw [hres]
    rw [hf] at hag
    rw [hag] at hl
    have hce := cellPage (hM.at_.pages p (find_some hf).1) hiP
    clear hag hf hM hres
    go_enter Try.func28, Try.ntmps28
    go_wp2_with (first
      | (go_at_call 41; refine (at_any addr h0 h1 _).mono ?_; rintro e w' ⟨rfl, rfl⟩)
      | ((with_reducible refine atT (N := 14) rfl ?_); refine step_lookup rfl rfl rfl rfl hl.out ?_)
      | ((with_reducible refine atT (N := 18) rfl ?_); refine step_lookup rfl rfl rfl rfl hl.out ?_)
      | ((with_reducible refine atT (N := 21) rfl ?_); refine step_indexArr rfl rfl rfl rfl undPage Try.sizeOf28 hi0 hi1 (by decide) ?_))
    go_ret
    exact ⟨rfl, rfl⟩

theorem load_any (pb mb : Nat) (L : List Pg) (addr : Int) (w : World) (h0 : 0 ≤ addr) (h1 : addr < 4294967296) (hM : MemAt w pb mb L) :
    Calls Try.prog 11 #[.pointer (some ⟨pb, 0, none⟩), .int .u32 addr] w fun e w' => e = .returned (.int .u32 (mget L addr)) ∧ w = w' := by
  have hc := hM.cell
  have hW := Lib.hid (word_any mb L addr w h0 h1 hM.2)
  clear hM
  go_enter Try.func11, Try.ntmps11
  go_wp2_with (first
    | (go_at_call 26; refine (none_some _ _ _ hc).mono ?_; rintro e w' ⟨rfl, rfl⟩)
    | (go_at_call 28; refine (hW.out).mono ?_; rintro e w' ⟨rfl, rfl⟩))
  go_ret
  exact ⟨rfl, rfl⟩
end Go.Proofs.Ytgccjmjengfhbaa
end
section
namespace Go.Proofs.Ytgccjmjengfhbaa
open Go.RowKit Go.Proofs.YtgccjmjengfhbaaW.PrintWords
open Go.Proofs.Ytgccjmjengfhbaa.PMemoryStores (S30 k30 at_T30 rd_T30)

theorem C_ext {α : Type} {d : Kd α} {w w' : World} {A : Option Addr} {n : Nat} {xs : List α} {S : Nat → Prop} (hflat : ∀ (w w' : World) x cs, d.K w x cs → d.K w' x cs) (h : d.C w A n xs) (hx : Ext S w w') (hn : ∀ ad, A = some ad → ¬ S ad.block) : d.C w' A n xs := by
  refine ⟨h.1, h.2.1, fun hp => ?_⟩
  obtain ⟨ad, e, hc⟩ := h.2.2 hp
  refine ⟨ad, e, fun j p hj => ?_⟩
  obtain ⟨c, h1, h2, h3⟩ := hc j p hj
  refine ⟨c, h1, hflat _ _ _ _ h2, fun i u hu => ?_⟩
  have := h3 i u hu
  have hb : (ad.add (j * d.sz + i)).block = ad.block := by unfold Addr.add; split <;> rfl
  have hlt := World.block_lt_of_cell? w _ this
  rw [World.cell?_of_block (w := w) (hx.block _ hlt (by rw [hb]; exact hn ad e))]
  exact this
theorem k30_flat (w w' : World) (x : S30) (cs : List Value) (h : k30.K w x cs) : k30.K w' x cs := h

def okCell (c : S30) : Prop := (0 ≤ c.f0 ∧ c.f0 < 4294967296) ∧ 0 ≤ c.f1 ∧ c.f1 < 4294967296
def stored (g : Int → Int) (xs : List S30) : Int → Int := xs.foldl (fun g c a => if a = c.f0 then c.f1 else g a) g
theorem stored_snoc (g : Int → Int) (xs : List S30) (c : S30) : stored g (xs ++ [c]) = fun a => if a = c.f0 then c.f1 else stored g xs a := by simp [stored]
theorem take_succ_get {α : Type} (xs : List α) (k : Nat) (z : α) (h : k < xs.length) : xs.take (k + 1) = xs.take k ++ [xs.getD k z] := by
  rw [List.take_succ_eq_append_getElem h, List.getD_eq_getElem?_getD, List.getElem?_eq_getElem h]; rfl

set_option maxRecDepth 100000 in
set_option maxHeartbeats 1000000 in
theorem store_any (pb mb : Nat) (L : List Pg) (A : Option Addr) (cap : Nat) (xs : List S30) (w : World) (hM : MemAt w pb mb L) (hC : k30.C w A xs.length xs) (hA : ∀ ad, A = some ad → ¬ foot mb L ad.block ∧ ad.block < w.heap.size) (hok : ∀ c ∈ xs, okCell c) :
    Calls Try.prog 10 #[.pointer (some ⟨pb, 0, none⟩), .slice A xs.length cap] w fun e w' => e = .returned (.int .i64 0) ∧
      ∃ L', MemAt w' pb mb L' ∧ (∀ a, 0 ≤ a → mget L' a = stored (mget L) xs a) ∧ Ext (foot mb L) w w' ∧ (∀ k, foot mb L' k → foot mb L k ∨ w.heap.size ≤ k) := by
  have hlen := hC.2.1
  have hc := hM.cell
  have HM := Lib.hid hM
  have HC := Lib.hid hC
  have HA := Lib.hid hA
  have HOK := Lib.hid hok
  clear hM hC hA hok
  go_enter Try.func10, Try.ntmps10
  go_wp2
  go_step3
  go_wp2_with (first
    | (go_at_call 26; refine (none_some _ _ _ hc).mono ?_; rintro e w' ⟨rfl, rfl⟩))
  go_loopw [11] (fun v11 wr => ∃ k : Nat, k ≤ xs.length ∧ v11 = .int .i64 k ∧ ∃ Lk, MemAt wr pb mb Lk ∧ (∀ a, 0 ≤ a → mget Lk a = stored (mget L) (xs.take k) a) ∧ Ext (foot mb L) w wr ∧ (∀ j, foot mb Lk j → foot mb L j ∨ w.heap.size ≤ j)) (fun v11 _ => xs.length - (intOf v11).toNat)
  case atStart => exact ⟨0, Nat.zero_le _, rfl, L, HM.out, fun a _ => rfl, Ext.refl _ _, fun j hj => .inl hj⟩
  case round =>
    obtain ⟨k, hk, rfl, Lk, hMk, hgk, hxk, hfk⟩ := hrel
    by_cases hlt : k < xs.length
    · have HCk := C_ext k30_flat HC.out hxk (fun ad e => (HA.out ad e).1)
      obtain ⟨ad, hAe, hx0, hx1⟩ := at_T30 HCk (k : Int) (by omega) (by omega)
      obtain rfl := hAe
      simp only [Int.toNat_natCast] at hx0 hx1
      have hck := hMk.cell
      have HMk := Lib.hid hMk; have HGk := Lib.hid hgk; have HXk := Lib.hid hxk; have HFk := Lib.hid hfk
      clear hMk hgk hxk hfk HCk
      generalize hr : rd_T30 xs (k : Int) = c at hx0 hx1
      have HR := Lib.hid hr; clear hr
      obtain ⟨f0, f1⟩ := c
      dsimp only at hx0 hx1
      have hin : ({ f0 := f0, f1 := f1 } : S30) ∈ xs := by
        have h1 := HR.out
        unfold rd_T30 at h1
        rw [Int.toNat_natCast, List.getD_eq_getElem?_getD, List.getElem?_eq_getElem hlt] at h1
        simp only [Option.getD_some] at h1
        exact h1 ▸ List.getElem_mem hlt
      have hokc := HOK.out _ hin
      obtain ⟨⟨ha0, ha1⟩, hb0, hb1⟩ := hokc
      dsimp only at ha0 ha1 hb0 hb1
      have hx2 : Ext NoB wr (wr.alloc (.cells #[.int .u32 f0, .int .u32 f1] 30 (0, 0))).drew := ((Ext.refl NoB wr).alloc _).drew
      have HM2 := Lib.hid (HMk.out.ext hx2 (fun _ _ s => s) (fun s => s))
      have hs2 : (wr.alloc (.cells #[.int .u32 f0, .int .u32 f1] 30 (0, 0))).drew.heap.size = wr.heap.size + 1 := by
        show (wr.alloc _).heap.size = _; simp
      have HP := Lib.hid (put_any mb Lk f0 f1 (wr.alloc (.cells #[.int .u32 f0, .int .u32 f1] 30 (0, 0))).drew ha0 ha1 hb0 hb1 HM2.out.2)
      have hk2 : (wr.alloc (.cells #[.int .u32 f0, .int .u32 f1] 30 (0, 0))).drew.heap[wr.heap.size]? = some (.cells #[.int .u32 f0, .int .u32 f1] 30 (0, 0)) := heap_alloc_new wr _
      have HX2 := Lib.hid hx2
      have HS2 := Lib.hid hs2
      have HK2 := Lib.hid hk2
      clear hx2 hs2 hk2
      go_wp2
      refine wp_region_still_tail 8 (by kernel_rfl) (by kernel_rfl) ?_
      simp only [List.take_succ_cons, List.take_zero, List.drop_succ_cons, List.drop_zero]
      change wpStill _ _ (wr.alloc (.cells #[.int .u32 f0, .int .u32 f1] 30 (0, 0))).drew (fun a' => wpList _ _ _ _ a' (wr.alloc (.cells #[.int .u32 f0, .int .u32 f1] 30 (0, 0))).drew) _ _
      generalize (wr.alloc (.cells #[.int .u32 f0, .int .u32 f1] 30 (0, 0))).drew = w2 at HP HX2 HM2 HS2 HK2 ⊢
      have hc2 := HM2.out.cell
      have hd0 : w2.cell? ⟨wr.heap.size, 0, none⟩ = some (.int .u32 f0) := cell_of_row w2 _ 0 _ _ _ HK2.out
      have hd1 : w2.cell? ⟨wr.heap.size, 1, none⟩ = some (.int .u32 f1) := cell_of_row w2 _ 1 _ _ _ HK2.out
      repeat still_step
      refine wpStill_nil ?_
      go_wp2_with (first
        | (go_at_call 27; refine (HP.out).mono ?_; rintro e w3 ⟨rfl, h3⟩; have H3 := Lib.hid h3; clear h3))
      obtain ⟨L3, hm3, hg3, hx3, hf3⟩ := H3.out
      have hxx : Ext (foot mb L) w w3 := (HXk.out.trans (HX2.out) (fun _ _ s => s.elim)).trans hx3 (fun j hj s => by
        rcases HFk.out j s with h | h
        · exact h
        · omega)
      have hmm : MemAt w3 pb mb L3 := ⟨hx3.get HM2.out.1 HM2.out.pb, hm3⟩
      have hget : ∀ a, 0 ≤ a → mget L3 a = stored (mget L) (xs.take (k + 1)) a := by
        intro a ha
        have h1 := HR.out
        unfold rd_T30 at h1
        rw [Int.toNat_natCast] at h1
        rw [take_succ_get xs k _ hlt, h1, stored_snoc, hg3 a ha, HGk.out a ha]
      have hff : ∀ j, foot mb L3 j → foot mb L j ∨ w.heap.size ≤ j := by
        intro j hj
        rcases hf3 j hj with h | h
        · exact HFk.out j h
        · have h4 := HS2.out; have := HXk.out.size; exact .inr (by omega)
      have HF := Lib.hid (⟨L3, hmm, hget, hxx, hff⟩ : ∃ L3, MemAt w3 pb mb L3 ∧ (∀ a, 0 ≤ a → mget L3 a = stored (mget L) (xs.take (k + 1)) a) ∧ Ext (foot mb L) w w3 ∧ (∀ j, foot mb L3 j → foot mb L j ∨ w.heap.size ≤ j))
      go_roundw
      case rel => exact ⟨k + 1, by omega, by go_num, HF.out⟩
      case measure => simp [intOf]; omega
    · obtain rfl : k = xs.length := by omega
      rw [List.take_length] at hgk
      have HMk := Lib.hid hMk; have HGk := Lib.hid hgk; have HXk := Lib.hid hxk; have HFk := Lib.hid hfk
      clear hMk hgk hxk hfk
      go_wp2
      try rw [Exit.noGoto_ret]
      go_ret
      exact ⟨rfl, Lk, HMk.out, HGk.out, HXk.out, HFk.out⟩
end Go.Proofs.Ytgccjmjengfhbaa
end
section
set_option maxRecDepth 100000
namespace Go.Proofs.Ytgccjmjengfhbaa
open Go.RowKit Go.Proofs.YtgccjmjengfhbaaW.PrintWords
open Go.Proofs.Ytgccjmjengfhbaa.PMemoryStores (S30 k30 at_T30 rd_T30)


/-- slices.All over cells. -/
theorem all_in (a : Option Addr) (len cap : Nat) (w : World) :
    Calls Try.prog 36 #[.slice a len cap] w fun e w' => e = .returned (.func (.func 47) #[] #[.pointer (some ⟨w.heap.size, 0, none⟩)]) ∧ w' = w.alloc (.cells #[.slice a len cap] 22 (0, 0)) := by
  go_enter Try.func36, Try.ntmps36
  go_wp2
  go_ret
  exact ⟨rfl, rfl⟩
def cellArgs (x : Nat × S30) : Array Value := #[.int .i64 (x.1 : Int), .agg #[.int .u32 x.2.f0, .int .u32 x.2.f1]]

def sliceFp {α : Type} (Bs : Nat) (A : Option Addr) (xs : List α) (k : Nat) : Prop := k = Bs ∨ (xs ≠ [] ∧ ∃ ad, A = some ad ∧ k = ad.block)
theorem C_same {α : Type} {d : Kd α} (hflat : ∀ (w w' : World) x cs, d.K w x cs → d.K w' x cs) {w w' : World} {A : Option Addr} {n : Nat} {xs : List α} (h : d.C w A n xs) (hb : ∀ ad, xs ≠ [] → A = some ad → w'.heap[ad.block]? = w.heap[ad.block]?) : d.C w' A n xs := by
  refine ⟨h.1, h.2.1, fun hp => ?_⟩
  obtain ⟨ad, e, hc⟩ := h.2.2 hp
  refine ⟨ad, e, fun j p hj => ?_⟩
  obtain ⟨c, h1, h2, h3⟩ := hc j p hj
  refine ⟨c, h1, hflat _ _ _ _ h2, fun i u hu => ?_⟩
  have := h3 i u hu
  have hbk : (ad.add (j * d.sz + i)).block = ad.block := by unfold Addr.add; split <;> rfl
  rw [World.cell?_of_block (w := w) (by rw [hbk]; exact hb ad (by have := h.1; intro e0; subst e0; simp at this; omega) e)]
  exact this
theorem C_block {α : Type} {d : Kd α} {w : World} {A : Option Addr} {n : Nat} {xs : List α} (h : d.C w A n xs) (hz : 0 < d.sz) {ad : Addr} (hne : xs ≠ []) (e : A = some ad) : ∃ cs t fr, w.heap[ad.block]? = some (.cells cs t fr) := by
  have hp : 0 < n := by have := h.1; cases xs with | nil => exact absurd rfl hne | cons _ _ => simp at this; omega
  obtain ⟨ad', e', hc⟩ := h.2.2 hp
  rw [e] at e'; cases e'
  obtain ⟨x, hx⟩ := List.exists_mem_of_ne_nil xs hne
  obtain ⟨j, hj⟩ := List.getElem?_of_mem hx
  obtain ⟨c, h1, _, h3⟩ := hc j x hj
  obtain ⟨u, hu⟩ : ∃ u, c[0]? = some u := ⟨c[0]'(by omega), by simp⟩
  have h4 := h3 0 u hu
  have hbk : (ad.add (j * d.sz + 0)).block = ad.block := by unfold Addr.add; split <;> rfl
  unfold World.cell? at h4
  rw [hbk] at h4
  cases hh : w.heap[ad.block]? with
  | none => rw [hh] at h4; simp at h4
  | some o => rw [hh] at h4; cases o <;> simp only [reduceCtorEq] at h4; exact ⟨_, _, _, rfl⟩

set_option maxHeartbeats 2000000 in
theorem all_iter (n Bs : Nat) (A : Option Addr) (cap : Nat) (xs : List S30) (w : World) (hBs : w.heap[Bs]? = some (.cells #[.slice A xs.length cap] 22 (0, 0))) (hC : k30.C w A xs.length xs) :
    Iter FW n Try.prog 47 #[.pointer (some ⟨Bs, 0, none⟩)] cellArgs (en xs) (sliceFp Bs A xs) w := by
  intro l J Jx W hF hsz hJ hJx hY h0
  have hlen := hC.2.1
  have hlt0 : ∀ j, sliceFp Bs A xs j → j < w.heap.size := by
    rintro j (rfl | ⟨hne, ad, e, rfl⟩)
    · exact (Array.getElem?_eq_some_iff.1 hBs).1
    · obtain ⟨_, _, _, h⟩ := C_block hC (by decide) hne e; exact (Array.getElem?_eq_some_iff.1 h).1
  have hcb := cell_of_row W Bs 0 _ _ _ ((hF Bs (.inl rfl)).trans hBs)
  simp only [List.getElem?_toArray, List.getElem?_cons_zero] at hcb
  have HY := Lib.hid hY; have HJ := Lib.hid hJ; have HF := Lib.hid hF; have HC := Lib.hid hC; have HL := Lib.hid hlt0
  clear hY hJ hJx hC hBs hF hlt0
  refine callsIn_of_wp Try.func47 rfl trivial ?_ rfl
  simp only [Try.ntmps47, List.size_toArray, List.length_cons, List.length_nil, Nat.reduceAdd, Nat.reduceSub, Array.replicate_succ, Array.replicate_zero, List.push_toArray, List.append_toArray, List.nil_append, List.cons_append]
  gi_wp2
  gi_loopw [7] (fun i wr => ∃ k : Nat, k ≤ xs.length ∧ i = .int .i64 k ∧ J ((en xs).take k) wr ∧ (∀ j, sliceFp Bs A xs j → wr.heap[j]? = w.heap[j]?) ∧ W.heap.size ≤ wr.heap.size) (fun i _ => xs.length - (intOf i).toNat)
  case atStart => exact ⟨0, Nat.zero_le _, rfl, by simpa using h0, HF.out, Nat.le_refl _⟩
  case round =>
    obtain ⟨k, hk, rfl, hJs, hfx, hsx⟩ := hrel
    by_cases hlt : k < xs.length
    · have hCk := C_same k30_flat HC.out (w' := wr) (fun ad hne e => hfx _ (.inr ⟨hne, ad, e, rfl⟩))
      obtain ⟨ad, e, c0, c1⟩ := at_T30 hCk (k : Int) (by omega) (by omega)
      have hr : rd_T30 xs (k : Int) = xs[k] := by
        unfold rd_T30; rw [Int.toNat_natCast, List.getD_eq_getElem?_getD, List.getElem?_eq_getElem hlt]; rfl
      rw [hr, Int.toNat_natCast] at c0 c1
      subst e
      have hsp := split_at (en xs) k (by rw [en_length]; exact hlt)
      have htl := take_last (en xs) k (by rw [en_length]; exact hlt)
      rw [en_get] at hsp htl
      have hx2 : Ext NoB wr (wr.alloc (.cells #[.int .u32 xs[k].f0, .int .u32 xs[k].f1] 30 (0, 0))) := (Ext.refl NoB wr).alloc _
      have hJ2 := HJ.out _ _ _ hJs (KeepData.of_ext hx2)
      have hf2 : ∀ j, sliceFp Bs (some ad) xs j → (wr.alloc (.cells #[.int .u32 xs[k].f0, .int .u32 xs[k].f1] 30 (0, 0))).heap[j]? = w.heap[j]? := fun j hj =>
        (hx2.block j (by have := HL.out j hj; omega) (fun s => s)).trans (hfx j hj)
      obtain ⟨fn, tmps, assign, body, hy, hR⟩ := HY.out _ _ _ ⟨_, hsp⟩ hJ2 hf2 (by simp; omega)
      simp only [cellArgs] at hy
      have HR := Lib.hid hR; have HT := Lib.hid htl; have HS := Lib.hid hsp; have HX := Lib.hid hfx; have HF2 := Lib.hid hf2
      clear hR hsp htl hr hCk hx2 hJs hfx hf2 hJ2
      generalize xs[k] = c at c0 c1 hy HR HT HF2 HS
      obtain ⟨f0, f1⟩ := c
      dsimp only at c0 c1 hy HR HF2
      gi_wp2
      refine ⟨fun h => (by cases h), ?_⟩
      refine HR.out.mono ?_
      rintro e W3 ⟨(⟨rfl, hJ3⟩ | ⟨rfl, hJx3⟩), hk3⟩
      · have H3 := Lib.hid hJ3; have HK3 := Lib.hid hk3
        clear hJ3 hk3
        gi_wp2
        go_roundw
        case rel =>
          refine ⟨k + 1, by omega, by simp, by rw [HT.out]; exact H3.out, fun j hj => (HK3.out.foot j hj).trans (HF2.out j hj), ?_⟩
          have := HK3.out.size; simp at this; omega
        case measure => simp [intOf]; omega
      · have H3 := Lib.hid hJx3
        clear hJx3 hk3
        gi_wp2
        refine bodyPost_ret (results_none rfl _ _ _) rfl ?_
        exact ⟨⟨_, rfl⟩, .inr ⟨_, _, ⟨_, HS.out⟩, H3.out⟩⟩
    · obtain rfl : k = xs.length := by omega
      have hJ3 : J (en xs) wr := by rw [← List.take_length (l := en xs), en_length]; exact hJs
      have H3 := Lib.hid hJ3
      clear hJ3 hJs hfx
      gi_wp2
      go_end0
      exact ⟨⟨_, rfl⟩, .inl ⟨_, rfl, H3.out⟩⟩
end Go.Proofs.Ytgccjmjengfhbaa
end
section
set_option maxRecDepth 100000
namespace Go.Proofs.Ytgccjmjengfhbaa
open Go.RowKit Go.Shelf Go.Proofs.YtgccjmjengfhbaaW.PrintWords

abbrev eU32 : Int → Value := fun n => .int .u32 n
theorem keys_call (mb : Nat) (w : World) :
    Calls Try.prog 51 #[.map (some mb)] w fun e w' => e = .returned (.func (.func 58) #[] #[.pointer (some ⟨w.heap.size, 0, none⟩)]) ∧ w' = w.alloc (.cells #[.map (some mb)] 52 (0, 0)) := by
  go_enter Try.func51, Try.ntmps51
  go_wp2
  go_ret
  exact ⟨rfl, rfl⟩

def keyFp (Bs mb k : Nat) : Prop := k = Bs ∨ k = mb
set_option maxHeartbeats 2000000 in
theorem keys_iter (n Bs mb : Nat) (l : List (Int × Value)) (w : World) (hBs : w.heap[Bs]? = some (.cells #[.map (some mb)] 52 (0, 0))) (hM : MapAt eU32 w mb l) :
    IterS FW n Try.prog 58 #[.pointer (some ⟨Bs, 0, none⟩)] (fun x : Int => #[.int .u32 x]) (fun xs => xs.Perm (l.map (·.1))) (fun pre x => pre.length < l.length) (keyFp Bs mb) w := by
  intro lp J Jx W hF hsz hJ hJx hY h0
  obtain ⟨es, clock, hm, hk⟩ := hM
  have hlt0 : ∀ j, keyFp Bs mb j → j < w.heap.size := by
    rintro j (rfl | rfl)
    · exact (Array.getElem?_eq_some_iff.1 hBs).1
    · exact (Array.getElem?_eq_some_iff.1 hm).1
  have hmW := (hF mb (.inr rfl)).trans hm
  have hcb := cell_of_row W Bs 0 _ _ _ ((hF Bs (.inl rfl)).trans hBs)
  simp only [List.getElem?_toArray, List.getElem?_cons_zero] at hcb
  have HY := Lib.hid hY; have HJ := Lib.hid hJ; have HF := Lib.hid hF; have HL := Lib.hid hlt0; have HM := Lib.hid hm; have HMW := Lib.hid hmW; have HK := Lib.hid hk; have H0 := Lib.hid h0; have HZ := Lib.hid hsz
  clear hY hJ hJx hBs hF hlt0 hm hmW hk h0
  refine callsIn_of_wp Try.func58 rfl trivial ?_ rfl
  simp only [Try.ntmps58, List.size_toArray, List.length_cons, List.length_nil, Nat.reduceAdd, Nat.reduceSub, Array.replicate_succ, Array.replicate_zero, List.push_toArray, List.append_toArray, List.nil_append, List.cons_append]
  gi_wp2_with ((with_reducible refine atI (N := 5) rfl ?_); refine stepI_range (fun _ => trivial) rfl rfl rfl Try.underlying52 HMW.out ?_; intro r w1 hr hw1; have HR := Lib.hid hr; have HW := Lib.hid hw1; clear hr hw1)
  have hc1 : Came eU32 es clock mb r l [] w1 := by rw [HW.out, HR.out]; exact Came.start W
  have hJ1 : J [] w1 := by rw [HW.out]; exact HJ.out _ _ _ H0.out ((KeepData.refl _ _).alloc _)
  have hf1 : ∀ j, keyFp Bs mb j → w1.heap[j]? = w.heap[j]? := fun j hj => by
    rw [HW.out, ← HF.out j hj]; exact Below.heap_alloc _ _ _ (by have := HL.out j hj; have := HZ.out; omega)
  have hs1 : W.heap.size ≤ w1.heap.size := by rw [HW.out]; simp
  have hr1 : W.heap.size ≤ r := by rw [HR.out]; exact Nat.le_refl _
  have HC1 := Lib.hid hc1; have HJ1 := Lib.hid hJ1; have HF1 := Lib.hid hf1; have HS1 := Lib.hid hs1; have HR1 := Lib.hid hr1
  clear hc1 hJ1 hf1 hs1 hr1
  gi_loopg [] (l.length) (fun (g : Nat) wr => ∃ done : List (Int × Value), g + done.length = l.length ∧ Came eU32 es clock mb r l done wr ∧ J (done.map (·.1)) wr ∧ (∀ j, keyFp Bs mb j → wr.heap[j]? = w.heap[j]?) ∧ W.heap.size ≤ wr.heap.size)
  case atStart => exact ⟨[], by simp, HC1.out, HJ1.out, HF1.out, HS1.out⟩
  case round =>
    obtain ⟨done, hgl, hcm, hJd, hfd, hsd⟩ := hrel
    have hmd := (hfd mb (.inr rfl)).trans HM.out
    rcases hcm.next (P := Try.prog) (fun a b h => by injection h) hmd HK.out with ⟨hp, hnx⟩ | ⟨p, w2, hpl, hpn, hlt, hnx, hen, hc2, hw2⟩
    · have HNX := Lib.hid hnx; have HP := Lib.hid hp; have HD := Lib.hid hJd
      clear hnx hp hJd hcm hfd hmd hgl
      gi_wp2_with ((with_reducible refine atI (N := 6) rfl ?_); refine stepI_next (fun _ => trivial) rfl rfl rfl HNX.out ?_)
      go_end0
      exact ⟨⟨_, rfl⟩, .inl ⟨_, HP.out.map (·.1), HD.out⟩⟩
    · obtain ⟨k0, v0⟩ := p
      obtain ⟨itv, itc, hit, hrest⟩ := hcm.it
      have hkd : KeepData W.heap.size wr w2 := by
        obtain ⟨o, rfl | rfl⟩ := hw2
        · exact (KeepData.refl _ _).putObj _ HR1.out hit rfl
        · exact ((KeepData.refl _ _).drew).putObj _ HR1.out (show wr.drew.heap[r]? = _ from hit) rfl
      have hJ2 := HJ.out _ _ _ hJd hkd
      have hne : ∀ j, keyFp Bs mb j → j ≠ r := by intro j hj e; have := HL.out j hj; have := HR1.out; have := HZ.out; omega
      have hf2 : ∀ j, keyFp Bs mb j → w2.heap[j]? = w.heap[j]? := by
        intro j hj
        rw [← hfd j hj]
        obtain ⟨o, rfl | rfl⟩ := hw2
        · exact World.putObj_heap_other (hne j hj)
        · exact World.putObj_heap_other (hne j hj)
      have hs2 : W.heap.size ≤ w2.heap.size := Nat.le_trans hsd hkd.size
      obtain ⟨fn, tmps, assign, body, hy, hR⟩ := HY.out (done.map (·.1)) k0 w2 (by simpa using hlt) hJ2 hf2 hs2
      have HNX := Lib.hid hnx; have HEN := Lib.hid hen; have HC2 := Lib.hid hc2; have HF2 := Lib.hid hf2; have HS2 := Lib.hid hs2; have HRD := Lib.hid hR; have HLT := Lib.hid hlt; have HGL := Lib.hid hgl
      clear hnx hen hc2 hf2 hs2 hR hw2 hit hrest hkd hJ2 hne hJd hcm hfd hmd hlt hgl hpl hpn
      gi_wp2_with (first
        | ((with_reducible refine atI (N := 6) rfl ?_); refine stepI_next (fun _ => trivial) rfl rfl rfl HNX.out ?_)
        | ((with_reducible refine atI (N := 8) rfl ?_); refine stepI_entry (fun _ => trivial) rfl rfl rfl HEN.out ?_))
      refine ⟨fun h => (by cases h), ?_⟩
      refine HRD.out.mono ?_
      rintro e W3 ⟨(⟨rfl, hJ3⟩ | ⟨rfl, hJx3⟩), hk3⟩
      · have H3 := Lib.hid hJ3; have HK3 := Lib.hid hk3
        clear hJ3 hk3
        gi_wp2
        go_roundg (gk - 1)
        case measure => have := HLT.out; have := HGL.out; omega
        case rel =>
          refine ⟨done ++ [(k0, v0)], ?_, ?_, by simpa using H3.out, fun j hj => (HK3.out.foot j hj).trans (HF2.out j hj), Nat.le_trans HS2.out HK3.out.size⟩
          · have := HLT.out; have := HGL.out; simp; omega
          · obtain ⟨⟨vis, c0, h1, h2⟩, h3⟩ := HC2.out
            exact ⟨⟨vis, c0, HK3.out.book _ _ h1 rfl HR1.out, h2⟩, h3⟩
      · have H3 := Lib.hid hJx3
        clear hJx3 hk3
        gi_wp2
        refine bodyPost_ret (results_none rfl _ _ _) rfl ?_
        exact ⟨⟨_, rfl⟩, .inr ⟨_, _, by simpa using HLT.out, H3.out⟩⟩

/-- slices.AppendSeq(nil, maps.Keys(m)). -/
theorem infoU32 : (Try.prog.info? 28).map (fun i => (i.zero, i.size, i.bytes)) = some (some (.int .u32 0), 1, 4) := by kernel_rfl
set_option maxHeartbeats 2000000 in
theorem appendSeq_any (Bs mb : Nat) (l : List (Int × Value)) (w : World) (hlen : l.length ≤ 4194304) (hBs : w.heap[Bs]? = some (.cells #[.map (some mb)] 52 (0, 0))) (hM : MapAt eU32 w mb l) :
    Calls Try.prog 57 #[.slice none 0 0, .func (.func 58) #[] #[.pointer (some ⟨Bs, 0, none⟩)]] w fun e w' =>
      ∃ (v : Value) (ks : List Int), e = .returned v ∧ ks.Perm (l.map (·.1)) ∧ w'.ownsRow w.heap.size 28 1 v ks.length (ks.map eU32) ∧ Below w.heap.size w w' := by
  refine (callsIn_wide (n := 3)).1 ?_
  refine callsIn_of_wp_marks Try.func57 rfl trivial ?_ rfl
  simp only [Try.ntmps57, List.size_toArray, List.length_cons, List.length_nil, Nat.reduceAdd, Nat.reduceSub, Array.replicate_succ, Array.replicate_zero, List.push_toArray, List.append_toArray, List.nil_append, List.cons_append]
  have hx1 : Ext NoB w (w.alloc (.cells #[.slice none 0 0] 55 (0, 0))) := (Ext.refl _ _).alloc _
  have hb1 := heap_alloc_new w (.cells #[.slice none 0 0] 55 (0, 0))
  have hit := (keys_iter 2 Bs mb l w hBs hM).later (w' := w.alloc (.cells #[.slice none 0 0] 55 (0, 0))) (fun k hk => hx1.block k (by
    rcases hk with rfl | rfl
    · exact (Array.getElem?_eq_some_iff.1 hBs).1
    · exact hM.lt) (fun s => s)) hx1.size
  have hFp : ∀ k, keyFp Bs mb k → ∃ o, (w.alloc (.cells #[.slice none 0 0] 55 (0, 0))).heap[k]? = some o ∧ isBook o = false := by
    rintro k (rfl | rfl)
    · exact ⟨_, hx1.get hBs (fun s => s), rfl⟩
    · obtain ⟨es, c, h, _⟩ := hM; exact ⟨_, hx1.get h (fun s => s), rfl⟩
  have hFlt : ∀ k, keyFp Bs mb k → k < w.heap.size := by
    rintro k (rfl | rfl)
    · exact (Array.getElem?_eq_some_iff.1 hBs).1
    · exact hM.lt
  clear hBs hM
  gi_wp2
  generalize hw1 : w.alloc (.cells #[.slice none 0 0] 55 (0, 0)) = w1 at hx1 hb1 hit hFp
  have hsz1 : w1.heap.size = w.heap.size + 1 := by rw [← hw1]; simp
  refine wp_rf (F := FW) (n := 3) rfl (by decide) (gf := 58) (lb := #[.pointer (some ⟨Bs, 0, none⟩)]) rfl trivial (enters_of Try.func58 (by kernel_rfl) rfl) hit hFp (fun _ => rfl)
    (fun pre W => ∃ v, W.heap[w.heap.size]? = some (.cells #[v] 55 (0, 0)) ∧ W.ownsRow (w.heap.size + 1) 28 1 v pre.length (pre.map eU32) ∧ Ext NoB w W) (fun _ _ _ => False)
    (fun s A B h hk => by obtain ⟨v, h1, h2, h3⟩ := h; exact ⟨v, hk.cells h1, own_keep h2 hk, hk.ext h3 (by omega)⟩) (fun _ _ _ _ h _ => h)
    ⟨_, hb1, World.ownsRow_nil _ _ _ _, hx1⟩
    (fun x => { tmps := #[.slice none 0 0, .func (.func 58) #[] #[.pointer (some ⟨Bs, 0, none⟩)], .pointer (some ⟨w.heap.size, 0, none⟩), undef, .slice none 0 0, .int .u32 x, .func (.func 58) #[] #[.pointer (some ⟨Bs, 0, none⟩)], .int .u32 x, undef, undef, undef, undef, undef], defers := [] }) ?assign ?body ?done ?stop
  case assign =>
    intro l x W K hK
    gi_wp2
    exact hK
  case body =>
    rintro lp pre x W hok hl hlr ⟨v, h1, h2, h3⟩ hfp hsz
    have hlt := (Array.getElem?_eq_some_iff.1 h1).1
    have hc1 := cell_of_row W w.heap.size 0 _ _ _ h1
    simp only [List.getElem?_toArray, List.getElem?_cons_zero] at hc1
    obtain ⟨A0, c0, rfl⟩ := own_slice h2
    have hx2 : Ext NoB W (W.alloc (.cells #[.int .u32 x] 28 (0, 0))) := (Ext.refl _ _).alloc _
    have hn2 := heap_alloc_new W (.cells #[.int .u32 x] 28 (0, 0))
    have hown2 := own_ext h2 hx2 (fun _ _ s => s)
    have hbx2 := hx2.get h1 (fun s => s)
    have HX2 := Lib.hid hx2; have HN2 := Lib.hid hn2; have HO2 := Lib.hid hown2; have HB2 := Lib.hid hbx2; have H2 := Lib.hid h2; have H3 := Lib.hid h3; have HFP := Lib.hid hfp
    clear hx2 hn2 hown2 hbx2 h2 h3 h1 hfp hlr
    have hok' : pre.length + 1 ≤ 4194304 := by omega
    gi_wp2_with (first
      | (gi_at_builtin; refine stepAI (w.heap.size + 1) (fun _ => trivial) rfl rfl Try.underlying55 infoU32 rfl (by decide) (by decide) rfl rfl HN2.out rfl (by simp [Value.oneCell']) HO2.out (by simp; omega) (by omega) ?_
         intro v1 w3 ho3 hg3 hat3 _
         obtain ⟨A1, c1, rfl⟩ := own_slice ho3
         have hne : w.heap.size ≠ W.heap.size := by omega
         have hob : some w.heap.size ≠ (Value.slice A0 pre.length c0).ownBlock := fun e => by have := own_base HO2.out _ e.symm; omega
         have hbx3 := blk_grown HB2.out hg3 hob
         have hc3 := cell_of_row w3 w.heap.size 0 _ _ _ hbx3
         simp only [List.getElem?_toArray, List.getElem?_cons_zero] at hc3
         have hf3 := frozenPage hbx3 0
         have HO3 := Lib.hid ho3; have HG3 := Lib.hid hg3; have HB3 := Lib.hid hbx3; have HAT3 := Lib.hid hat3
         clear ho3 hg3 hbx3 hat3 hob))
    have hS : ∀ k, (Value.slice A0 pre.length c0).ownBlock = some k → w.heap.size + 1 ≤ k := fun k hk => own_base HO2.out k hk
    have hE : Ext (fun k => k = w.heap.size ∨ (Value.slice A0 pre.length c0).ownBlock = some k) W (w3.setCell ⟨w.heap.size, 0, none⟩ (.slice A1 (pre.length + 1) c1)) :=
      ((HX2.out.mono (fun _ _ s => s.elim)).grown HG3.out (fun k hk => .inl (.inr hk))).setCell _ _ (.inl (.inl rfl))
    refine ⟨YKeep.of_ext hE (fun k hk => ⟨by have := hFlt k hk; omega, ?_⟩) (fun k o ho s => .inl ?_), .slice A1 (pre.length + 1) c1, ?_, ?_, ?_⟩
    · rintro (e | e)
      · have := hFlt k hk; omega
      · have := hFlt k hk; have := hS k e; omega
    · rcases s with rfl | e
      · have := HB2.out; rw [Below.heap_alloc _ _ _ hlt] at this; rw [this] at ho; cases ho; rfl
      · obtain ⟨cells, hc⟩ := own_typed H2.out k e; rw [hc] at ho; cases ho; rfl
    · have := blk_set HB3.out 0 (.slice A1 (pre.length + 1) c1); simpa using this
    · have h4 := own_setCell HO3.out (p := ⟨w.heap.size, 0, none⟩) (fun e => by
        rcases HAT3.out with h | h
        · rw [h] at e; have := hS _ e.symm; simp at this; omega
        · rw [h] at e; have := Option.some.inj e; simp at this; omega) (.slice A1 (pre.length + 1) c1)
      simpa using h4
    · exact H3.out.trans hE (fun k hk s => by
        rcases s with rfl | e
        · omega
        · have := hS k e; omega)
  case done =>
    rintro D ys W hD hperm ⟨v, h1, h2, h3⟩ hK
    have hc1 := cell_of_row W w.heap.size 0 _ _ _ h1
    simp only [List.getElem?_toArray, List.getElem?_cons_zero] at hc1
    obtain ⟨A0, c0, rfl⟩ := own_slice h2
    have H2 := Lib.hid h2; have H3 := Lib.hid h3; have HK := Lib.hid hK; have HP := Lib.hid hperm
    clear h1 h2 h3 hK hperm
    gi_wp2
    refine marksPost rfl HK.out (results_tmp rfl _ _ _) ?_
    refine ⟨_, ys, rfl, HP.out, ?_, ?_⟩
    · exact own_weaken (own_keep H2.out ((KeepData.refl 0 W).putObj _ (Nat.zero_le _) HK.out rfl)) (by omega)
    · exact (KeepData.ext H3.out ((KeepData.refl w1.heap.size W).putObj _ hD HK.out rfl) (by omega)).below
  case stop => exact fun _ _ _ _ _ _ _ h _ => h.elim
end Go.Proofs.Ytgccjmjengfhbaa
end
section
set_option maxRecDepth 100000
namespace Go.Proofs.Ytgccjmjengfhbaa
open Go.RowKit Go.Shelf Go.Proofs.YtgccjmjengfhbaaW.PrintWords
open Go.Proofs.Ytgccjmjengfhbaa.PMemoryStores (S30 k30 at_T30 rd_T30)

theorem MemRep.len {w : World} {mb : Nat} {L : List Pg} (h : MemRep w mb L) : L.length ≤ 1048576 := by
  have h1 : (L.map (·.num)).length ≤ ((List.range 1048576).map Int.ofNat).length := length_le_of_sub _ _ h.keys (by
    intro a ha
    obtain ⟨p, hp, rfl⟩ := List.mem_map.1 ha
    obtain ⟨⟨h0, h1⟩, _⟩ := h.at_.ok p hp
    exact List.mem_map.2 ⟨p.num.toNat, List.mem_range.2 (by omega), by simp; omega⟩)
  simpa using h1

/-- slices.Collect(maps.Keys(m)). -/
theorem collect_any (Bs mb : Nat) (l : List (Int × Value)) (w : World) (hlen : l.length ≤ 4194304) (hBs : w.heap[Bs]? = some (.cells #[.map (some mb)] 52 (0, 0))) (hM : MapAt eU32 w mb l) :
    Calls Try.prog 50 #[.func (.func 58) #[] #[.pointer (some ⟨Bs, 0, none⟩)]] w fun e w' =>
      ∃ (v : Value) (ks : List Int), e = .returned v ∧ ks.Perm (l.map (·.1)) ∧ w'.ownsRow w.heap.size 28 1 v ks.length (ks.map eU32) ∧ Below w.heap.size w w' := by
  have H := Lib.hid (appendSeq_any Bs mb l w hlen hBs hM)
  clear hBs hM
  go_enter Try.func50, Try.ntmps50
  go_wp2_with (go_at_call 57; refine H.out.mono ?_; rintro e w' ⟨v, ks, rfl, h1, h2, h3⟩; have H1 := Lib.hid h1; have H2 := Lib.hid h2; have H3 := Lib.hid h3; clear h1 h2 h3)
  go_ret
  exact ⟨_, _, rfl, H1.out, H2.out, H3.out⟩

/-- What 'rising' is asked to give. -/
def RisingAt (w : World) (mb : Nat) (l : List (Int × Value)) : Prop :=
  Calls Try.prog 40 #[.map (some mb)] w fun e w' =>
      ∃ (v : Value) (ks : List Int), e = .returned v ∧ ks.Perm (l.map (·.1)) ∧ ks.Pairwise (· < ·) ∧ w'.ownsRow w.heap.size 28 1 v ks.length (ks.map eU32) ∧ Below w.heap.size w w'

def encC (c : S30) : List Value := [.int .u32 c.f0, .int .u32 c.f1]
/-- The cells of page n, up to place m. -/
def pageCells (g : Int → Int) (lo n : Int) (m : Nat) : List S30 := (List.range m).filterMap fun (i : Nat) => if g (n * 4096 + (i : Int)) ≠ 0 ∧ lo ≤ n * 4096 + (i : Int) then some ⟨n * 4096 + (i : Int), g (n * 4096 + (i : Int))⟩ else none
def allCells (g : Int → Int) (lo : Int) (ks : List Int) : List S30 := ks.flatMap fun n => pageCells g lo n 4096
theorem pageCells_succ (g : Int → Int) (lo n : Int) (m : Nat) : pageCells g lo n (m + 1) = pageCells g lo n m ++ (if g (n * 4096 + m) ≠ 0 ∧ lo ≤ n * 4096 + m then [⟨n * 4096 + m, g (n * 4096 + m)⟩] else []) := by
  unfold pageCells
  rw [List.range_succ, List.filterMap_append]
  congr 1
  by_cases h : g (n * 4096 + m) ≠ 0 ∧ lo ≤ n * 4096 + m
  · rw [if_pos h, List.filterMap_cons, if_pos h]; rfl
  · rw [if_neg h, List.filterMap_cons, if_neg h]; rfl
theorem pageCells_len (g : Int → Int) (lo n : Int) (m : Nat) : (pageCells g lo n m).length ≤ m := by
  unfold pageCells; exact Nat.le_trans (List.length_filterMap_le _ _) (by simp)
theorem allCells_len (g : Int → Int) (lo : Int) (ks : List Int) : (allCells g lo ks).length ≤ ks.length * 4096 := by
  unfold allCells
  induction ks with
  | nil => simp
  | cons n ks ih => rw [List.flatMap_cons, List.length_append, List.length_cons]; have := pageCells_len g lo n 4096; omega
theorem allCells_snoc (g : Int → Int) (lo : Int) (ks : List Int) (n : Int) : allCells g lo (ks ++ [n]) = allCells g lo ks ++ pageCells g lo n 4096 := by simp [allCells]

theorem infoCell : (Try.prog.info? 30).map (fun i => (i.zero, i.size, i.bytes)) = some (some (.agg #[.int .u32 0, .int .u32 0]), 2, 8) := by kernel_rfl
theorem flat_snoc (xs : List S30) (c : S30) : ((xs ++ [c]).map encC).flatten = (xs.map encC).flatten ++ encC c := by simp

/-- A row of cells of one's own. -/
def OwnC (w : World) (base : Nat) (v : Value) (xs : List S30) : Prop := w.ownsRow base 30 2 v xs.length (xs.map encC).flatten

theorem alloc2 (w : World) (o1 o2 : Obj) : ((w.alloc o1).alloc o2).heap[w.heap.size + 1]? = some o2 := by
  have := (MapKept.heap_alloc (w.alloc o1) o2).1; rwa [World.size_alloc] at this

set_option maxHeartbeats 4000000 in
theorem cells_any (pb mb : Nat) (L : List Pg) (lo : Int) (w : World) (hM : MemAt w pb mb L) (hlo : 0 ≤ lo) (hlo2 : lo < 4294967296) (hR : RisingAt w mb (L.map pgPtr)) :
    Calls Try.prog 33 #[.pointer (some ⟨pb, 0, none⟩), .int .u32 lo] w fun e w' =>
      ∃ (v : Value) (ks : List Int), e = .returned v ∧ ks.Perm (L.map (·.num)) ∧ ks.Pairwise (· < ·) ∧ OwnC w' w.heap.size v (allCells (mget L) lo ks) ∧ Below w.heap.size w w' := by
  have hc := hM.cell
  have HM := Lib.hid hM
  have HR := Lib.hid hR
  clear hM hR
  go_enter Try.func33, Try.ntmps33
  go_wp2_with (first
    | (go_at_call 26; refine (none_some _ _ _ hc).mono ?_; rintro e w' ⟨rfl, rfl⟩)
    | (go_at_call 40; refine (HR.out).mono ?_; rintro e w1 ⟨v1, ks, rfl, h1, h2, h3, h4⟩; obtain ⟨A1, c1, rfl⟩ := own_slice h3; have H1 := Lib.hid h1; have H2 := Lib.hid h2; have H3 := Lib.hid h3; have H4 := Lib.hid h4; clear h1 h2 h3 h4))
  have hks : ks.length ≤ 1048576 := by
    have h1 := H1.out.length_eq; have h2 := HM.out.2.len; simp at h1; omega
  have hcr := (H4.out.cell (p := ⟨pb, 0, none⟩) (Array.getElem?_eq_some_iff.1 HM.out.1).1).trans hc
  go_loopw [4, 18] (fun v4 v18 wr => ∃ k : Nat, k ≤ ks.length ∧ v18 = .int .i64 k ∧ OwnC wr w.heap.size v4 (allCells (mget L) lo (ks.take k)) ∧ wr.ownsRow w.heap.size 28 1 (.slice A1 ks.length c1) ks.length (ks.map eU32) ∧ Below w.heap.size w wr) (fun _ v18 _ => ks.length - (intOf v18).toNat)
  case atStart => exact ⟨0, Nat.zero_le _, rfl, World.ownsRow_nil _ _ _ _, H3.out, H4.out⟩
  case round =>
    obtain ⟨k, hk, rfl, ho, hs, hb⟩ := hrel
    by_cases hlt : k < ks.length
    · obtain ⟨g1, cap1, hA1, hg1, hg1'⟩ := hs.form (by omega)
      injection hA1 with hA1 _ hc1
      subst hA1
      subst hc1
      have hkk : ks[k] ∈ L.map (·.num) := by
        have := H1.out.mem_iff.1 (List.getElem_mem hlt)
        rw [List.map_map] at this; exact this
      obtain ⟨p, hp, hpn⟩ := List.mem_map.1 hkk
      have hcell := hs.cells (g := g1) rfl k (.int .u32 ks[k]) (by simp [eU32, hlt])
      rw [add0] at hcell
      obtain ⟨⟨hp0, hp1⟩, hpv⟩ := HM.out.2.at_.ok p hp
      have hfind := find_of_mem HM.out.2.keys hp hpn
      have hag := aget_pgs L ks[k]
      rw [hfind] at hag
      have hMr : MemAt wr pb mb L := HM.out.ext (Ext.of_below (S := NoB) hb) (fun _ _ s => s) (fun s => s)
      have hl := lookPage hMr.2.map ks[k]
      rw [hag] at hl
      have hckr := hMr.cell
      have htk : allCells (mget L) lo (ks.take (k + 1)) = allCells (mget L) lo (ks.take k) ++ pageCells (mget L) lo ks[k] 4096 := by rw [take_last ks k hlt, allCells_snoc]
      have hmg : ∀ i : Nat, i < 4096 → mget L (ks[k] * 4096 + i) = p.c i := by
        intro i hi
        unfold mget
        have e1 : (ks[k] * 4096 + (i : Int)) / 4096 = ks[k] := by omega
        have e2 : ((ks[k] * 4096 + (i : Int)) % 4096).toNat = i := by omega
        rw [e1, e2, hfind]
      rw [hpn] at hp0 hp1
      have HL := Lib.hid hl; have HT := Lib.hid htk; have HG := Lib.hid hmg; have HO := Lib.hid ho; have HS := Lib.hid hs; have HB := Lib.hid hb
      have HP := Lib.hid hp; have HV := Lib.hid hpv
      clear hl htk hmg ho hs hb hag hMr hfind hkk hpn hp hpv
      generalize ks[k] = n at hcell hp0 hp1 HL HT HG
      go_wp2_with (first
        | ((with_reducible refine atT (N := 27) rfl ?_); refine step_lookup rfl rfl rfl rfl HL.out ?_))
      obtain ⟨wo, rfl⟩ : ∃ wo : World, wo = wr := ⟨_, rfl⟩
      go_loopw [4, 28] (fun v4 v28 w2 => ∃ i : Nat, i ≤ 4096 ∧ v28 = .int .i64 i ∧ OwnC w2 w.heap.size v4 (allCells (mget L) lo (ks.take k) ++ pageCells (mget L) lo n i) ∧ w2.ownsRow w.heap.size 28 1 (.slice (some ⟨g1, 0, none⟩) ks.length c1) ks.length (ks.map eU32) ∧ Below w.heap.size w w2) (fun _ v28 _ => 4096 - (intOf v28).toNat)
      case atStart => exact ⟨0, by omega, rfl, by simpa [pageCells] using HO.out, HS.out, HB.out⟩
      case round =>
        obtain ⟨i, hi, rfl, ho2, hs2, hb2⟩ := hrel
        by_cases hi4 : i < 4096
        · have hx := HG.out i hi4
          have hpc := cellPage (hb2.block _ (HM.out.2.at_.lt p HP.out) ▸ HM.out.2.at_.pages p HP.out) (show i < PS from hi4)
          obtain ⟨hv0, hv1⟩ := HV.out i hi4
          have hps := pageCells_succ (mget L) lo n i
          rw [hx] at hps
          have hln := allCells_len (mget L) lo (ks.take k)
          have hln2 := pageCells_len (mget L) lo n i
          rw [List.length_take] at hln
          have hi0 : (0 : Int) ≤ i := by omega
          have hi1 : (i : Int) < 4096 := by omega
          have HX := Lib.hid hx; have HPS := Lib.hid hps; have HO2 := Lib.hid ho2; have HS2 := Lib.hid hs2; have HB2 := Lib.hid hb2; have HLN := Lib.hid hln; have HLN2 := Lib.hid hln2
          clear hx hps ho2 hs2 hb2 hln hln2
          generalize p.c i = x at hpc hv0 hv1 HX HPS
          go_wp2
          go_quiet (fail)
          have hx3 : Ext NoB wr (wr.drewN nq) := (Ext.refl _ _).drewN nq
          generalize wr.drewN nq = w3 at hx3 ⊢
          have HX3 := Lib.hid hx3
          clear hx3
          have hxa : ∀ o, Ext NoB wr (w3.alloc o) := fun o => HX3.out.alloc o
          have HXA := Lib.hid hxa
          clear hxa
          by_cases hx0 : x = 0
          · subst hx0
            go_wp2
            go_roundw
            case rel =>
              refine ⟨i + 1, by omega, by go_num, ?_, own_ext HS2.out (HXA.out _) (fun _ _ s => s), HB2.out.trans ((HXA.out _).below_of HB2.out.size (fun _ _ s => s))⟩
              rw [HPS.out, if_neg (by simp), List.append_nil]
              exact own_ext HO2.out (HXA.out _) (fun _ _ s => s)
            case measure => simp [intOf]; omega
          · have hxb : (x == 0) = false := by simpa using hx0
            have hxn : (x != 0) = true := by simpa using hx0
            have HX0 := Lib.hid hx0
            clear hx0
            by_cases hlo3 : lo ≤ n * 4096 + (i : Int)
            · have hw3 := HX3.out.size
              have hxb2 : ∀ o1 o2, Ext NoB wr ((w3.alloc o1).alloc o2) := fun o1 o2 => (HXA.out o1).alloc o2
              have HXB := Lib.hid hxb2
              clear hxb2
              obtain ⟨XS, hXS⟩ : ∃ XS, XS = allCells (mget L) lo (ks.take k) ++ pageCells (mget L) lo n i := ⟨_, rfl⟩
              have ho4 := HO2.out
              clear HO2
              rw [← hXS] at ho4
              obtain ⟨A4, c4, rfl⟩ := own_slice ho4
              have HO4 := Lib.hid ho4
              have hxl : XS.length ≤ ks.length * 4096 := by have := HLN.out; have := HLN2.out; rw [hXS, List.length_append]; omega
              have HXS := Lib.hid hXS
              clear ho4 hXS
              go_wp2_with (first
                | (at_builtin; refine stepA (v := .slice A4 XS.length c4) (g := w3.heap.size + 1) (ys := [.int .u32 (n * 4096 + (i : Int)), .int .u32 x]) w.heap.size rfl rfl Try.underlying22 infoCell rfl (by decide) (by decide) rfl rfl (alloc2 _ _ _) rfl (by simp [Value.oneCell']) (own_ext HO4.out (HXB.out _ _) (fun _ _ s => s)) (by have := HB2.out.size; simp; omega) (by omega) ?_
                   intro v5 w5 ho5 hg5 hat5 _
                   obtain ⟨A5, c5, rfl⟩ := own_slice ho5
                   have HO5 := Lib.hid ho5
                   have HG5 := Lib.hid hg5
                   have HA5 := Lib.hid hat5
                   clear ho5 hg5 hat5))
              go_roundw
              case rel =>
                have hX5 : Ext (fun j => (Value.slice A4 XS.length c4).ownBlock = some j) wr w5 :=
                  ((HXB.out _ _).mono (fun _ _ s => s.elim)).grown HG5.out (fun j e => .inl e)
                have hbase4 : ∀ j, (Value.slice A4 XS.length c4).ownBlock = some j → w.heap.size ≤ j := fun j e => own_base HO4.out _ e
                have htne : ∀ j, (Value.slice (some ⟨g1, 0, none⟩) ks.length c1).ownBlock = some j → ¬ (Value.slice A4 XS.length c4).ownBlock = some j := fun j e1 e2 => by
                  obtain ⟨cs1, h1⟩ := own_typed HS2.out _ e1
                  obtain ⟨cs2, h2⟩ := own_typed HO4.out _ e2
                  rw [h1] at h2; injection h2 with h2; injection h2 with _ h2; cases h2
                refine ⟨i + 1, by omega, by go_num, ?_, own_ext HS2.out hX5 htne, HB2.out.trans (hX5.below_of HB2.out.size (fun j hj e => by have := hbase4 j e; omega))⟩
                rw [HPS.out, if_pos ⟨HX0.out, hlo3⟩, ← List.append_assoc, ← HXS.out]
                unfold OwnC
                rw [flat_snoc, List.length_append]
                exact HO5.out
              case measure => simp [intOf]; omega
            · go_wp2
              go_roundw
              case rel =>
                refine ⟨i + 1, by omega, by go_num, ?_, own_ext HS2.out (HXA.out _) (fun _ _ s => s), HB2.out.trans ((HXA.out _).below_of HB2.out.size (fun _ _ s => s))⟩
                rw [HPS.out, if_neg (fun h => hlo3 h.2), List.append_nil]
                exact own_ext HO2.out (HXA.out _) (fun _ _ s => s)
              case measure => simp [intOf]; omega
        · obtain rfl : i = 4096 := by omega
          rw [← HT.out] at ho2
          have HO2 := Lib.hid ho2; have HS2 := Lib.hid hs2; have HB2 := Lib.hid hb2
          clear ho2 hs2 hb2
          go_wp2
          go_roundw
          case rel => exact ⟨k + 1, by omega, by go_num, HO2.out, HS2.out, HB2.out⟩
          case measure => simp [intOf]; omega
    · obtain rfl : k = ks.length := by omega
      rw [List.take_length] at ho
      obtain ⟨A4, c4, rfl⟩ := own_slice ho
      have HO := Lib.hid ho; have HB := Lib.hid hb
      clear ho hb hs
      go_wp2
      go_ret
      exact ⟨_, ks, rfl, by have := H1.out; rwa [List.map_map] at this, H2.out, HO.out, HB.out⟩
end Go.Proofs.Ytgccjmjengfhbaa
end
section
/-! slices.SortFunc laid at this program (the text that the shelf's laying command hands to Lean, printed by wip/laytwin.py). -/
set_option maxRecDepth 100000
namespace Go.Proofs.Ytgccjmjengfhbaa
open Go.Shelf Go.Proofs
def sortU32_ren : Go.Shelf.Ren := ⟨fun | 6 => 56 | 15 => 63 | 14 => 62 | 28 => 74 | 29 => 75 | 20 => 66 | 21 => 67 | 22 => 68 | 23 => 69 | 24 => 70 | 25 => 71 | 26 => 72 | 27 => 73 | 46 => 77 | 47 => 78 | 48 => 79 | 49 => 80 | 50 => 81 | 57 => 82 | n => n, fun | 22 => 55 | 24 => 28 | 25 => 92 | 3 => 3 | 39 => 94 | 0 => 0 | 53 => 28 | 55 => 33 | 4 => 4 | 46 => 114 | 45 => 113 | 50 => 118 | 5 => 5 | 9 => 9 | 66 => 123 | 70 => 126 | 76 => 128 | 77 => 129 | n => n, fun | n => n⟩
theorem sortU32 : Go.Proofs.SlLaysF.n6 Try.prog sortU32_ren where
  mixed := by kernel_rfl
  f6 := ⟨ "slices.SortFunc[[]uint32,uint32]", by decide, Try.func56.trans (congrArg some (by kernel_rfl))⟩
  f14 := ⟨ "slices.pdqsortCmpFunc[uint32]", by decide, Try.func62.trans (congrArg some (by kernel_rfl))⟩
  f15 := Try.func63.trans (congrArg some (by kernel_rfl))
  f20 := ⟨ "slices.insertionSortCmpFunc[uint32]", by decide, Try.func66.trans (congrArg some (by kernel_rfl))⟩
  f21 := ⟨ "slices.heapSortCmpFunc[uint32]", by decide, Try.func67.trans (congrArg some (by kernel_rfl))⟩
  f22 := ⟨ "slices.breakPatternsCmpFunc[uint32]", by decide, Try.func68.trans (congrArg some (by kernel_rfl))⟩
  f23 := ⟨ "slices.choosePivotCmpFunc[uint32]", by decide, Try.func69.trans (congrArg some (by kernel_rfl))⟩
  f24 := ⟨ "slices.reverseRangeCmpFunc[uint32]", by decide, Try.func70.trans (congrArg some (by kernel_rfl))⟩
  f25 := ⟨ "slices.partialInsertionSortCmpFunc[uint32]", by decide, Try.func71.trans (congrArg some (by kernel_rfl))⟩
  f26 := ⟨ "slices.partitionEqualCmpFunc[uint32]", by decide, Try.func72.trans (congrArg some (by kernel_rfl))⟩
  f27 := ⟨ "slices.partitionCmpFunc[uint32]", by decide, Try.func73.trans (congrArg some (by kernel_rfl))⟩
  f28 := Try.func74.trans (congrArg some (by kernel_rfl))
  f29 := Try.func75.trans (congrArg some (by kernel_rfl))
  f46 := ⟨ "slices.siftDownCmpFunc[uint32]", by decide, Try.func77.trans (congrArg some (by kernel_rfl))⟩
  f47 := Try.func78.trans (congrArg some (by kernel_rfl))
  f48 := Try.func79.trans (congrArg some (by kernel_rfl))
  f49 := ⟨ "slices.medianAdjacentCmpFunc[uint32]", by decide, Try.func80.trans (congrArg some (by kernel_rfl))⟩
  f50 := ⟨ "slices.medianCmpFunc[uint32]", by decide, Try.func81.trans (congrArg some (by kernel_rfl))⟩
  f57 := ⟨ "slices.order2CmpFunc[uint32]", by decide, Try.func82.trans (congrArg some (by kernel_rfl))⟩
  t0 := Try.underlying0
  a0 := Try.isAgg0
  z0 := Try.sizeOf0
  v0 := Try.zeroValue0
  t3 := Try.underlying3
  a3 := Try.isAgg3
  z3 := Try.sizeOf3
  v3 := Try.zeroValue3
  t4 := Try.underlying4
  a4 := Try.isAgg4
  z4 := Try.sizeOf4
  v4 := Try.zeroValue4
  t5 := Try.underlying5
  a5 := Try.isAgg5
  z5 := Try.sizeOf5
  v5 := Try.zeroValue5
  t9 := Try.underlying9
  a9 := Try.isAgg9
  z9 := Try.sizeOf9
  v9 := Try.zeroValue9
  t22 := Try.underlying55
  a22 := Try.isAgg55
  z22 := Try.sizeOf55
  v22 := Try.zeroValue55
  a24 := Try.isAgg28
  z24 := Try.sizeOf28
  t25 := Try.underlying92
  a25 := Try.isAgg92
  z25 := Try.sizeOf92
  v25 := Try.zeroValue92
  t39 := Try.underlying94
  a39 := Try.isAgg94
  z39 := Try.sizeOf94
  v39 := Try.zeroValue94
  t45 := Try.underlying113
  a45 := Try.isAgg113
  z45 := Try.sizeOf113
  v45 := Try.zeroValue113
  t46 := Try.underlying114
  a46 := Try.isAgg114
  z46 := Try.sizeOf114
  v46 := Try.zeroValue114
  t50 := Try.underlying118
  a50 := Try.isAgg118
  z50 := Try.sizeOf118
  v50 := Try.zeroValue118
  t53 := Try.underlying28
  a53 := Try.isAgg28
  z53 := Try.sizeOf28
  v53 := Try.zeroValue28
  t55 := Try.underlying33
  a55 := Try.isAgg33
  z55 := Try.sizeOf33
  v55 := Try.zeroValue33
  t66 := Try.underlying123
  a66 := Try.isAgg123
  z66 := Try.sizeOf123
  v66 := Try.zeroValue123
  t70 := Try.underlying126
  a70 := Try.isAgg126
  z70 := Try.sizeOf126
  v70 := Try.zeroValue126
  t76 := Try.underlying128
  a76 := Try.isAgg128
  z76 := Try.sizeOf128
  v76 := Try.zeroValue128
  t77 := Try.underlying129
  a77 := Try.isAgg129
  z77 := Try.sizeOf129
  v77 := Try.zeroValue129
end Go.Proofs.Ytgccjmjengfhbaa
end
section
set_option maxRecDepth 100000
namespace Go.Proofs.Ytgccjmjengfhbaa
open Go.RowKit Go.Shelf Go.Sort Go.Proofs Go.Proofs.YtgccjmjengfhbaaW.PrintWords

def cfU (x y : Int) : Int := if x < y then -1 else 1
theorem ltU (x y : Int) : ltOf cfU x y = decide (x < y) := by unfold ltOf cfU; by_cases h : x < y <;> simp [h]
theorem swoU : SWO (ltOf cfU) where
  irrefl x := by rw [ltU]; simp
  trans x y z h1 h2 := by rw [ltU] at *; simp at *; omega
  ntrans x y z h1 h2 := by rw [ltU] at *; simp at *; omega

theorem less_any (x y : Int) (w : World) : Calls Try.prog 52 #[eU32 x, eU32 y] w fun e w' => e = .returned (.int .i64 (cfU x y)) ∧ w' = w := by
  unfold eU32 cfU
  go_enter Try.func52, Try.ntmps52
  by_cases h : x < y
  · go_wp2
    go_ret
    exact ⟨by simp [h], rfl⟩
  · go_wp2
    go_ret
    exact ⟨by simp [h], rfl⟩
theorem sorted_any (base : Nat) (v : Value) (ks : List Int) (w : World) (HO : w.ownsRow base 28 1 v ks.length (ks.map eU32)) (hlen : ks.length ≤ 4194304) :
    Calls Try.prog 49 #[v, .func (.func 52) #[] #[]] w fun e w' => e = .returned v ∧ ∃ ks' : List Int, ks'.Perm ks ∧ ks'.Pairwise (· ≤ ·) ∧ w'.ownsRow base 28 1 v ks'.length (ks'.map eU32) ∧ Ext (fun k => v.ownBlock = some k) w w' := by
  have H := sortFunc_own eU32 (sortU32) (fun _ => rfl) cfU swoU 52 base 28 v ks w (enters_of Try.func52 (by kernel_rfl) rfl) less_any HO (by omega)
  change Calls Try.prog 56 _ _ _ at H
  obtain ⟨A, c, rfl⟩ := own_slice HO
  clear HO
  have HH := Lib.hid H
  clear H
  go_enter Try.func49, Try.ntmps49
  go_wp2_with (go_at_call 56; refine HH.out.mono ?_; rintro e w' ⟨rfl, ks', h1, h2, h3, h4⟩; have H1 := Lib.hid h1; have H2 := Lib.hid h2; have H3 := Lib.hid h3; have H4 := Lib.hid h4; clear h1 h2 h3 h4)
  go_ret
  refine ⟨rfl, ks', H1.out, ?_, H3.out, H4.out⟩
  rw [List.pairwise_iff_getElem]
  intro i j hi hj hij
  have := H2.out i j (Nat.zero_le _) hij hj
  rw [ltU] at this
  simp [hi, hj] at this
  omega
theorem own_weak {w : World} {base base' : Nat} {e : TypeId} {size : Nat} {v : Value} {n : Nat} {xs : List Value} (h : w.ownsRow base e size v n xs) (hb : base' ≤ base) : w.ownsRow base' e size v n xs := by
  rcases h with ⟨h1, h2 | ⟨g, cap, cur, h3, h4, h5⟩⟩
  · exact ⟨h1, .inl h2⟩
  · exact ⟨h1, .inr ⟨g, cap, cur, h3, Nat.le_trans hb h4, h5⟩⟩
theorem strict_of_le {ks : List Int} (h5 : ks.Pairwise (· ≤ ·)) (hn : ks.Nodup) : ks.Pairwise (· < ·) := by
  induction ks with
  | nil => exact List.Pairwise.nil
  | cons a ks ih =>
    rw [List.pairwise_cons] at h5 ⊢
    rw [List.nodup_cons] at hn
    exact ⟨fun b hb => by have := h5.1 b hb; have : a ≠ b := fun e => hn.1 (e ▸ hb); omega, ih h5.2 hn.2⟩
theorem rising_any (mb : Nat) (l : List (Int × Value)) (w : World) (hlen : l.length ≤ 4194304) (hM : MapAt eU32 w mb l) : RisingAt w mb l := by
  have hnd := hM.nodup
  have hc := fun o => collect_any w.heap.size mb l (w.alloc o) hlen
  have hM2 := fun o => hM.ext ((Ext.refl NoB w).alloc o) (fun s => s)
  have HC := Lib.hid hc
  have HM := Lib.hid hM2
  have HND := Lib.hid hnd
  clear hM hc hM2 hnd
  unfold RisingAt
  go_enter Try.func40, Try.ntmps40
  go_wp2_with (first
    | (go_at_call 51; refine (keys_call mb w).mono ?_; rintro e w' ⟨rfl, rfl⟩)
    | (go_at_call 50; refine (HC.out _ (MapKept.heap_alloc w _).1 (HM.out _)).mono ?_; rintro e w2 ⟨v, ks, rfl, h1, h2, h3⟩; have H1 := Lib.hid h1; have H2 := Lib.hid h2; have H3 := Lib.hid h3; clear h1 h2 h3)
    | (go_at_call 49; refine (sorted_any (w.heap.size + 1) v ks w2 (by simpa using H2.out) (by rw [H1.out.length_eq]; simpa using hlen)).mono ?_; rintro e w3 ⟨rfl, ks', h4, h5, h6, h7⟩; have H4 := Lib.hid h4; have H5 := Lib.hid h5; have H6 := Lib.hid h6; have H7 := Lib.hid h7; clear h4 h5 h6 h7))
  go_ret
  have hp := H4.out.trans H1.out
  refine ⟨_, ks', rfl, hp, ?_, own_weak H6.out (by omega), ?_⟩
  · exact strict_of_le H5.out (hp.nodup_iff.2 HND.out)
  · have hb1 : Below w.heap.size w w2 := by
      have h3 := H3.out
      exact ((Ext.refl NoB w).alloc _ |>.trans' (Ext.of_below h3)).below
    exact hb1.trans (H7.out.below_of hb1.size (fun k hk e => by have := own_base H2.out _ e; simp at this; omega))
theorem rise_any {w : World} {pb mb : Nat} {L : List Pg} (h : MemAt w pb mb L) : RisingAt w mb (L.map pgPtr) :=
  rising_any mb _ w (by have := h.2.len; simp; omega) h.2.map

/-- The memory's pages. -/
theorem pages_any (pb mb : Nat) (L : List Pg) (w : World) (hM : MemAt w pb mb L) :
    Calls Try.prog 24 #[.pointer (some ⟨pb, 0, none⟩)] w fun e w' =>
      ∃ (v : Value) (ks : List Int), e = .returned v ∧ ks.Perm (L.map (·.num)) ∧ ks.Pairwise (· < ·) ∧ w'.ownsRow w.heap.size 28 1 v ks.length (ks.map eU32) ∧ Below w.heap.size w w' := by
  have hc := hM.cell
  have HR := Lib.hid (rise_any hM)
  clear hM
  go_enter Try.func24, Try.ntmps24
  go_wp2_with (first
    | (go_at_call 26; refine (none_some _ _ _ hc).mono ?_; rintro e w' ⟨rfl, rfl⟩)
    | (go_at_call 40; refine (HR.out).mono ?_; rintro e w1 ⟨v1, ks, rfl, h1, h2, h3, h4⟩; obtain ⟨A1, c1, rfl⟩ := own_slice h3; have H1 := Lib.hid h1; have H2 := Lib.hid h2; have H3 := Lib.hid h3; have H4 := Lib.hid h4; clear h1 h2 h3 h4))
  go_ret
  exact ⟨_, ks, rfl, by have := H1.out; rwa [List.map_map] at this, H2.out, H3.out, H4.out⟩
/-- How many are not 0. -/
theorem len_any (pb mb : Nat) (L : List Pg) (w : World) (hM : MemAt w pb mb L) :
    Calls Try.prog 14 #[.pointer (some ⟨pb, 0, none⟩)] w fun e w' =>
      ∃ ks : List Int, e = .returned (.int .i64 ((allCells (mget L) 0 ks).length : Nat)) ∧ ks.Perm (L.map (·.num)) ∧ ks.Pairwise (· < ·) ∧ Below w.heap.size w w' := by
  have HC := Lib.hid (cells_any pb mb L 0 w hM (by omega) (by omega) (rise_any hM))
  clear hM
  go_enter Try.func14, Try.ntmps14
  go_wp2_with (go_at_call 33; refine (HC.out).mono ?_; rintro e w1 ⟨v1, ks, rfl, h1, h2, h3, h4⟩; obtain ⟨A1, c1, rfl⟩ := own_slice h3; have H1 := Lib.hid h1; have H2 := Lib.hid h2; have H3 := Lib.hid h3; have H4 := Lib.hid h4; clear h1 h2 h3 h4)
  go_ret
  exact ⟨ks, rfl, H1.out, H2.out, H4.out⟩
end Go.Proofs.Ytgccjmjengfhbaa
end
section
set_option maxRecDepth 100000
namespace Go.Proofs.Ytgccjmjengfhbaa
open Go.RowKit Go.Shelf Go.Proofs Go.Proofs.YtgccjmjengfhbaaW.PrintWords
open Go.Proofs.Ytgccjmjengfhbaa.PMemoryStores (S30 k30 k30_mk at_T30 rd_T30)

theorem wpIn_scope {n : Nat} {P : Program} {a : Act} {w : World} {Q : Exit → Act → World → Prop} {c : Code} (h : c.wpIn Fence.wide n P (Exit.noGoto Q) a w) : (Code.scope c).wpIn Fence.wide n P Q a w :=
  wpIn_wide.2 (wp_scope_straight (wpIn_wide.1 h))

theorem marksEnd {F : Fence} {n : Nat} {P : Program} {fn : Func} {R : Ending → World → Prop} {a : Act} {w : World} {D : Nat} {v : Value} (hd : a.defers = [{ target := .collected D, args := #[] }])
    (hK : w.heap[D]? = some (.deferred (some []))) (hr : (results fn a.tmps).run P (w.putObj D (.deferred none)) = .ok v (w.putObj D (.deferred none))) (hR : R (.returned v) (w.putObj D (.deferred none))) :
    bodyPostM F n P fn R .normal a w := marksPost (F := F) (n := n) hd hK hr hR
theorem k30_K (w : World) (x : S30) : k30.K w x (encC x) := k30_mk w x
theorem own_K {w : World} {base : Nat} {v : Value} {xs : List S30} (h : OwnC w base v xs) : ∃ A c, v = .slice A xs.length c ∧ k30.C w A xs.length xs :=
  own_C (d := k30) (enc := encC) (fun _ => rfl) k30_K h rfl

/-- From: the cells are fixed at the call. -/
theorem from_call (pb mb : Nat) (L : List Pg) (lo : Int) (w : World) (hM : MemAt w pb mb L) (hlo : 0 ≤ lo) (hlo2 : lo < 4294967296) :
    Calls Try.prog 16 #[.pointer (some ⟨pb, 0, none⟩), .int .u32 lo] w fun e w' =>
      ∃ (Bs : Nat) (A : Option Addr) (c : Nat) (ks : List Int), e = .returned (.func (.func 35) #[] #[.pointer (some ⟨Bs, 0, none⟩)]) ∧ ks.Perm (L.map (·.num)) ∧ ks.Pairwise (· < ·) ∧
        w'.heap[Bs]? = some (.cells #[.slice A (allCells (mget L) lo ks).length c] 22 (0, 0)) ∧ k30.C w' A (allCells (mget L) lo ks).length (allCells (mget L) lo ks) ∧ w.heap.size ≤ Bs ∧ (∀ ad, A = some ad → w.heap.size ≤ ad.block) ∧ Below w.heap.size w w' := by
  have HC := Lib.hid (cells_any pb mb L lo w hM hlo hlo2 (rise_any hM))
  clear hM
  go_enter Try.func16, Try.ntmps16
  go_wp2_with (go_at_call 33; refine (HC.out).mono ?_; rintro e w1 ⟨v1, ks, rfl, h1, h2, h3, h4⟩; obtain ⟨A1, c1, rfl⟩ := own_slice h3; have H1 := Lib.hid h1; have H2 := Lib.hid h2; have H3 := Lib.hid h3; have H4 := Lib.hid h4; clear h1 h2 h3 h4)
  go_ret
  obtain ⟨A2, c2, hv, hK⟩ := own_K H3.out
  injection hv with e1 _ e2
  subst e1; subst e2
  refine ⟨_, _, _, ks, rfl, H1.out, H2.out, (MapKept.heap_alloc w1 _).1, ?_, H4.out.size, fun ad e => ?_, ?_⟩
  · refine C_ext k30_flat hK ((Ext.refl NoB w1).alloc _) (fun _ _ s => s)
  · subst e; exact own_base H3.out _ rfl
  · exact (Ext.of_below (S := NoB) H4.out |>.alloc _).below

def pairArgs (c : S30) : Array Value := #[.int .u32 c.f0, .int .u32 c.f1]

set_option maxHeartbeats 2000000 in
theorem from_iter (n Bs : Nat) (hn : 3 ≤ n) (A : Option Addr) (cap : Nat) (xs : List S30) (w : World) (hBs : w.heap[Bs]? = some (.cells #[.slice A xs.length cap] 22 (0, 0))) (hC : k30.C w A xs.length xs) :
    IterD FW n Try.prog 35 #[.pointer (some ⟨Bs, 0, none⟩)] pairArgs (fun ys => ys = xs) (fun pre x => ∃ post, xs = pre ++ x :: post) (sliceFp Bs A xs) 2 w := by
  intro l J Jx W hF hsz hJ hJx hY hl h0
  have hlt0 : ∀ j, sliceFp Bs A xs j → j < w.heap.size := by
    rintro j (rfl | ⟨hne, ad, e, rfl⟩)
    · exact (Array.getElem?_eq_some_iff.1 hBs).1
    · obtain ⟨_, _, _, h⟩ := C_block hC (by decide) hne e; exact (Array.getElem?_eq_some_iff.1 h).1
  have hll : l < W.heap.size := by obtain ⟨r, h⟩ := hl; exact (Array.getElem?_eq_some_iff.1 h).1
  have hcb := cell_of_row W Bs 0 _ _ _ ((hF Bs (.inl rfl)).trans hBs)
  simp only [List.getElem?_toArray, List.getElem?_cons_zero] at hcb
  have HY := Lib.hid hY; have HJ := Lib.hid hJ; have HJX := Lib.hid hJx; have HF := Lib.hid hF; have HC := Lib.hid hC; have HL := Lib.hid hlt0; have HB := Lib.hid hBs
  clear hY hJ hJx hC hBs hF hlt0 hl
  refine callsIn_of_wp_marks Try.func35 rfl trivial ?_ rfl
  simp only [Try.ntmps35, List.size_toArray, List.length_cons, List.length_nil, Nat.reduceAdd, Nat.reduceSub, Array.replicate_succ, Array.replicate_zero, List.push_toArray, List.append_toArray, List.nil_append, List.cons_append]
  gi_wp2
  have hx1 : Ext NoB W (W.alloc (.cells #[.func (.yield l) #[] #[]] 69 (0, 0))) := (Ext.refl _ _).alloc _
  have hb1 := heap_alloc_new W (.cells #[.func (.yield l) #[] #[]] 69 (0, 0))
  have hcb1 : (W.alloc (.cells #[.func (.yield l) #[] #[]] 69 (0, 0))).cell? ⟨Bs, 0, none⟩ = some (.slice A xs.length cap) :=
    (World.cell?_of_block (hx1.block Bs (by have := HL.out Bs (.inl rfl); omega) (fun s => s))).trans hcb
  generalize hW1 : W.alloc (.cells #[.func (.yield l) #[] #[]] 69 (0, 0)) = W1 at hx1 hb1 hcb1
  have hs1 : W1.heap.size = W.heap.size + 1 := by rw [← hW1]; simp
  refine wpIn_scope ?_
  gi_wp2
  refine wpIn_label ?_
  gi_wp2_with (fail)
  refine ⟨trivial, fun _ => by omega, (callsIn_wide.2 (all_in A xs.length cap W1)).mono ?_⟩
  rintro e W2 ⟨rfl, rfl⟩
  gi_wp2
  have hx2 : Ext NoB W1 (W1.alloc (.cells #[.slice A xs.length cap] 22 (0, 0))) := (Ext.refl _ _).alloc _
  have hb2 := heap_alloc_new W1 (.cells #[.slice A xs.length cap] 22 (0, 0))
  generalize hW2 : W1.alloc (.cells #[.slice A xs.length cap] 22 (0, 0)) = W2 at hx2 hb2
  have hs2 : W2.heap.size = W.heap.size + 2 := by rw [← hW2]; simp; omega
  rw [hs1] at hb2
  have hxw : Ext NoB W W2 := hx1.trans' hx2
  have hby := hx2.get hb1 (fun s => s)
  have hC2 : k30.C W2 A xs.length xs := C_same k30_flat HC.out (fun ad hne e => (hxw.block _ (by have := HL.out ad.block (.inr ⟨hne, ad, e, rfl⟩); omega) (fun s => s)).trans (HF.out _ (.inr ⟨hne, ad, e, rfl⟩)))
  have hit := (all_iter (n - 1) (W.heap.size + 1) A cap xs W2 hb2 hC2).toD
  have hF2 : ∀ k, sliceFp Bs A xs k → W2.heap[k]? = w.heap[k]? := fun k hk => (hxw.block k (by have := HL.out k hk; omega) (fun s => s)).trans (HF.out k hk)
  have hFp : ∀ k, sliceFp (W.heap.size + 1) A xs k → ∃ o, W2.heap[k]? = some o ∧ isBook o = false := by
    rintro k (rfl | ⟨hne, ad, e, rfl⟩)
    · exact ⟨_, hb2, rfl⟩
    · obtain ⟨_, _, _, h⟩ := C_block hC2 (by decide) hne e; exact ⟨_, h, rfl⟩
  have hJ2 : J [] W2 := HJ.out _ _ _ h0 (KeepData.of_ext hxw)
  clear hW1 hW2
  refine wp_rfD (F := FW) (n := n) rfl (by omega) (gf := 47) (lb := #[.pointer (some ⟨W.heap.size + 1, 0, none⟩)]) rfl trivial (enters_of Try.func47 (by kernel_rfl) rfl) hit hFp (fun _ => rfl)
    (fun pre Wx => J (pre.map (·.2)) Wx ∧ Wx.heap[W.heap.size]? = some (.cells #[.func (.yield l) #[] #[]] 69 (0, 0)) ∧ (∀ k, sliceFp Bs A xs k → Wx.heap[k]? = w.heap[k]?)) (fun c pre Wx => c = .exit 0 ∧ Jx (pre.map (·.2)) Wx)
    ?hI ?hIx ⟨hJ2, hby, hF2⟩
    (fun x a' Wx => ∃ b, a' = { tmps := #[.func (.yield l) #[] #[], .pointer (some ⟨Bs, 0, none⟩), .pointer (some ⟨W.heap.size, 0, none⟩), undef, .pointer (some ⟨b, 0, none⟩), .slice A xs.length cap, .func (.func 47) #[] #[.pointer (some ⟨W.heap.size + 1, 0, none⟩)], .int .i64 (x.1 : Int), .agg #[.int .u32 x.2.f0, .int .u32 x.2.f1], undef, undef, undef, undef, undef, undef, undef], defers := [] } ∧ Wx.heap[b]? = some (.cells #[.int .u32 x.2.f0, .int .u32 x.2.f1] 30 (0, 0)))
    (fun x s A B h hk => by obtain ⟨b, h1, h2⟩ := h; exact ⟨b, h1, hk.cells h2⟩) ?assign ?body ?done ?stop
  case hI =>
    rintro s Wa Wb ⟨h1, h2, h3⟩ hk
    refine ⟨HJ.out _ _ _ h1 (hk.mono (by omega)), hk.cells h2, fun k hk' => ?_⟩
    rw [← h3 k hk']
    have hlt := HL.out k hk'
    have := h3 k hk'
    rw [Array.getElem?_eq_getElem hlt] at this
    rw [this]
    exact hk.same k _ this (.inl (by omega))
  case hIx => rintro c s Wa Wb ⟨h1, h2⟩ hk; exact ⟨h1, HJX.out _ _ _ h2 (hk.mono (by omega))⟩
  case assign =>
    rintro l2 pre ⟨i, f0, f1⟩ Wa K hok ⟨hj, hy, hf⟩ hfp hsz2 hK
    have hx3 : Ext NoB Wa (Wa.alloc (.cells #[.int .u32 f0, .int .u32 f1] 30 (0, 0))) := (Ext.refl _ _).alloc _
    have hn3 := heap_alloc_new Wa (.cells #[.int .u32 f0, .int .u32 f1] 30 (0, 0))
    have HK := Lib.hid hK; have HJ3 := Lib.hid hj; have HY3 := Lib.hid hy; have HF3 := Lib.hid hf
    clear hK hj hy hf hfp
    simp only [cellArgs]
    gi_wp2
    refine HK.out _ _ ?_ ?_ ?_
    · exact YKeep.of_ext hx3 (fun k hk => ⟨by
        rcases hk with (rfl | ⟨hne, ad, e, rfl⟩) | ⟨h1, h2⟩
        · omega
        · have := HL.out ad.block (.inr ⟨hne, ad, e, rfl⟩); omega
        · omega, fun s => s⟩) (fun k o _ s => s.elim)
    · exact ⟨HJ.out _ _ _ HJ3.out (KeepData.of_ext hx3), hx3.get HY3.out (fun s => s), fun k hk => (hx3.block k (by have := HL.out k hk; omega) (fun s => s)).trans (HF3.out k hk)⟩
    · exact ⟨_, rfl, hn3⟩
  case body =>
    rintro l2 pre ⟨i, f0, f1⟩ a' Wa ⟨post, hok⟩ hl2 hlr ⟨hj, hy, hf⟩ ⟨b, rfl, hb⟩ hfp hsz2
    have hcy := cell_of_row Wa W.heap.size 0 _ _ _ hy
    simp only [List.getElem?_toArray, List.getElem?_cons_zero] at hcy
    have hc0 := cell_of_row Wa b 0 _ _ _ hb
    have hc1 := cell_of_row Wa b 1 _ _ _ hb
    simp only [List.getElem?_toArray, List.getElem?_cons_zero, List.getElem?_cons_succ] at hc0 hc1
    obtain ⟨fn, tmps, assign, body, hyy, hR⟩ := HY.out (pre.map (·.2)) ⟨f0, f1⟩ Wa ⟨post.map (·.2), by rw [← en_snd xs, hok]; simp⟩ hj hf (by omega)
    simp only [pairArgs] at hyy
    have HR := Lib.hid hR; have HFA := Lib.hid hf; have HYA := Lib.hid hy
    clear hR hj hy hf hfp hlr hb
    dsimp only
    gi_wp2
    refine ⟨fun h => (by cases h), (RoundIn.wide HR.out).mono ?_⟩
    have hkk : ∀ W3, YKeep W.heap.size (Priv (sliceFp Bs A xs) W.heap.size 2) Wa W3 → YKeep W2.heap.size (Priv (sliceFp (W.heap.size + 1) A xs) (W2.heap.size + 2) 0) Wa W3 := fun W3 hk => by
      refine ⟨hk.size, fun k h => hk.foot k ?_, fun k o ho hb hB => hk.book k o ho hb (by omega)⟩
      rcases h with (rfl | ⟨hne, ad, e, rfl⟩) | ⟨h1, h2⟩
      · exact .inr ⟨by omega, by omega⟩
      · exact .inl (.inr ⟨hne, ad, e, rfl⟩)
      · omega
    rintro e W3 ⟨(⟨rfl, hJ3⟩ | ⟨rfl, hJx3⟩), hk3⟩
    · have H3 := Lib.hid hJ3; have HK3 := Lib.hid hk3
      clear hJ3 hk3
      gi_wp2
      refine ⟨hkk _ HK3.out, by simpa using H3.out, ?_, fun k hk => (HK3.out.foot k (.inl hk)).trans (HFA.out k hk)⟩
      exact (HK3.out.foot _ (.inr ⟨by omega, by omega⟩)).trans HYA.out
    · have H3 := Lib.hid hJx3; have HK3 := Lib.hid hk3
      clear hJx3 hk3
      gi_wp2
      exact ⟨hkk _ HK3.out, rfl, by simpa using H3.out⟩
  case done =>
    rintro D ys Wa hD rfl ⟨hj, hy, hf⟩ hDd
    have H1 := Lib.hid hj; have HD := Lib.hid hDd
    clear hj hy hf hDd
    gi_wp2
    refine marksEnd (D := D) rfl HD.out (results_none rfl _ _ _) ?_
    refine ⟨⟨_, rfl⟩, .inl ⟨_, rfl, ?_⟩⟩
    have := H1.out
    rw [en_snd] at this
    exact HJ.out _ _ _ this ((KeepData.refl _ _).putObj _ (by omega) HD.out rfl)
  case stop =>
    rintro D c pre ⟨i, x⟩ Wa ⟨post, hok⟩ hD ⟨rfl, hj⟩ hDd
    have H1 := Lib.hid hj; have HD := Lib.hid hDd; have HO := Lib.hid hok
    clear hj hDd hok
    gi_wp2
    refine marksEnd (D := D) rfl HD.out (results_none rfl _ _ _) ?_
    refine ⟨⟨_, rfl⟩, .inr ⟨pre.map (·.2), x, ⟨post.map (·.2), by rw [← en_snd xs, HO.out]; simp⟩, ?_⟩⟩
    have := H1.out
    rw [List.map_append] at this
    exact HJX.out _ _ _ this ((KeepData.refl _ _).putObj _ (by omega) HD.out rfl)
end Go.Proofs.Ytgccjmjengfhbaa
end
