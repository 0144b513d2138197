/- Part of the proofs over 'linesman/memory': lemmas and walks. Written by merge.py from the templates of the repo. -/
import Derived.WalkKit
import Derived.WalkSpells
import Derived.Maps.RangeRun
import Derived.RangeFuncNested
import Derived.RangeFuncBound
import Derived.RangeFuncCalls
import Derived.RangeFuncLeaves
import Derived.Deep.Draws
import Derived.Deep.QuietTactic
import Derived.BigQuiet
import Derived.Maps.OwnOps
import Derived.Maps.OwnSet
import Derived.Maps.RangeWalk
import Derived.Maps.OwnIn
import Derived.Maps.AppendAt
import Derived.Lib.Hide
import Derived.OwnWalkIn
import Derived.TacticsInMore
import Derived.LoopNIn
import Derived.LoopIn
import Derived.Deep.LoopGhost
import Derived.Sort.LoopGhostIn
import Derived.Deep.RegionLaw
import Derived.Laws.Rows
import Derived.ScopeJumps
import Derived.StillTailTactics
import Derived.Shelf.Abstract
import Derived.Test.YtgccjmjengfhbaaWWords
import Derived.Sort.OwnSorted
import Derived.Shelf.SlSortCmp.Whole1
import Derived.Shelf.SlSortCmp.NoneTotal
import Derived.Laws.BitsAllLaws
import Derived.ProofKit
import Derived.OpenShut
import Derived.ChangeSame
set_option linter.unusedVariables false
set_option linter.unusedSimpArgs false
section
namespace Go.Proofs.Ytgccjmjengfhbaa
open Go.RowKit

/-! ### What a step may turn: the blocks of S, and new ones -/
structure Ext (S : Nat → Prop) (w w' : World) : Prop where
  os : w'.os = w.os
  tape : w'.tape = w.tape
  output : w'.output = w.output
  size : w.heap.size ≤ w'.heap.size
  block : ∀ k, k < w.heap.size → ¬ S k → w'.heap[k]? = w.heap[k]?

def NoB : Nat → Prop := fun _ => False

theorem Ext.refl (S : Nat → Prop) (w : World) : Ext S w w := ⟨rfl, rfl, rfl, Nat.le_refl _, fun _ _ _ => rfl⟩
theorem Ext.mono {S S' : Nat → Prop} {w w' : World} (h : Ext S w w') (hs : ∀ k, k < w.heap.size → S k → S' k) : Ext S' w w' :=
  ⟨h.os, h.tape, h.output, h.size, fun k hk hn => h.block k hk (fun s => hn (hs k hk s))⟩
theorem Ext.trans {S S' : Nat → Prop} {w w1 w2 : World} (h : Ext S w w1) (g : Ext S' w1 w2) (hs : ∀ k, k < w.heap.size → S' k → S k) : Ext S w w2 :=
  ⟨g.os.trans h.os, g.tape.trans h.tape, g.output.trans h.output, Nat.le_trans h.size g.size, fun k hk hn => (g.block k (Nat.lt_of_lt_of_le hk h.size) (fun s => hn (hs k hk s))).trans (h.block k hk hn)⟩
theorem Ext.trans' {S : Nat → Prop} {w w1 w2 : World} (h : Ext S w w1) (g : Ext S w1 w2) : Ext S w w2 := h.trans g (fun _ _ s => s)
theorem Ext.below {w w' : World} (h : Ext NoB w w') : Below w.heap.size w w' := ⟨h.os, h.tape, h.output, h.size, fun k hk => h.block k hk (fun s => s)⟩
theorem Ext.of_below {S : Nat → Prop} {w w' : World} (h : Below w.heap.size w w') : Ext S w w' := ⟨h.os, h.tape, h.output, h.size, fun k hk _ => h.block k hk⟩
theorem Ext.below_of {S : Nat → Prop} {B : Nat} {w w' : World} (h : Ext S w w') (hB : B ≤ w.heap.size) (hs : ∀ k, k < B → ¬ S k) : Below B w w' := ⟨h.os, h.tape, h.output, h.size, fun k hk => h.block k (Nat.lt_of_lt_of_le hk hB) (hs k hk)⟩
theorem Ext.get {S : Nat → Prop} {w w' : World} (h : Ext S w w') {k : Nat} {o : Obj} (hk : w.heap[k]? = some o) (hn : ¬ S k) : w'.heap[k]? = some o :=
  (h.block k (Array.getElem?_eq_some_iff.1 hk).1 hn).trans hk
theorem Ext.alloc {S : Nat → Prop} {w w1 : World} (h : Ext S w w1) (o : Obj) : Ext S w (w1.alloc o) :=
  h.trans (S' := NoB) ⟨rfl, rfl, rfl, by simp, fun k hk _ => Below.heap_alloc _ _ _ hk⟩ (fun _ _ s => s.elim)
theorem Ext.setCell {S : Nat → Prop} {w w1 : World} (h : Ext S w w1) (p : Addr) (u : Value) (hp : S p.block ∨ w.heap.size ≤ p.block) : Ext S w (w1.setCell p u) :=
  h.trans (S' := fun k => k = p.block) ⟨rfl, rfl, rfl, by simp [World.setCell], fun k hk hn => Below.heap_setCell _ _ _ _ hn⟩ (fun k hk s => by subst s; rcases hp with hp | hp; exact hp; omega)
theorem Ext.putObj {S : Nat → Prop} {w w1 : World} (h : Ext S w w1) (r : Nat) (o : Obj) (hp : S r ∨ w.heap.size ≤ r) : Ext S w (w1.putObj r o) :=
  h.trans (S' := fun k => k = r) ⟨rfl, rfl, rfl, by simp, fun k hk hn => World.putObj_heap_other hn⟩ (fun k hk s => by subst s; rcases hp with hp | hp; exact hp; omega)
theorem Ext.drew {S : Nat → Prop} {w w1 : World} (h : Ext S w w1) : Ext S w w1.drew := ⟨h.os, h.tape, h.output, h.size, h.block⟩
theorem Ext.drewN {S : Nat → Prop} {w w1 : World} (h : Ext S w w1) (n : Nat) : Ext S w (w1.drewN n) := ⟨h.os, h.tape, h.output, h.size, h.block⟩
theorem Ext.grown {S : Nat → Prop} {w w1 w2 : World} (h : Ext S w w1) {row : Option Nat} (hg : w1.grownBy w2 row) (hr : ∀ k, row = some k → S k ∨ w.heap.size ≤ k) : Ext S w w2 :=
  h.trans (S' := fun k => row = some k) ⟨hg.os, hg.tape, hg.output, hg.size, fun k hk hn => hg.block k hk (fun e => hn e.symm)⟩ (fun k hk s => by rcases hr k s with hp | hp; exact hp; omega)
theorem Ext.sub {w w1 w2 : World} {S : Nat → Prop} (h : Ext S w w1) (g : Below w1.heap.size w1 w2) : Ext S w w2 := h.trans (Ext.of_below (S := NoB) g) (fun _ _ s => s.elim)

/-! ### Lists of pairs by keys -/
section assoc
variable {κ ν : Type} [DecidableEq κ]
def aget (l : List (κ × ν)) (a : κ) : Option ν := (l.find? (fun p => p.1 = a)).map (·.2)
def aset (l : List (κ × ν)) (a : κ) (v : ν) : List (κ × ν) := if a ∈ l.map (·.1) then l.map (fun p => if p.1 = a then (a, v) else p) else l ++ [(a, v)]
def adel (l : List (κ × ν)) (a : κ) : List (κ × ν) := l.filter (fun p => p.1 ≠ a)
def anodup (l : List (κ × ν)) : Prop := (l.map (·.1)).Nodup

theorem aget_nil (a : κ) : aget ([] : List (κ × ν)) a = none := rfl
theorem aget_cons (p : κ × ν) (l : List (κ × ν)) (a : κ) : aget (p :: l) a = if p.1 = a then some p.2 else aget l a := by
  unfold aget; rw [List.find?_cons]; by_cases h : p.1 = a <;> simp [h]
theorem aget_none {l : List (κ × ν)} {a : κ} : aget l a = none ↔ a ∉ l.map (·.1) := by
  induction l with
  | nil => simp [aget_nil]
  | cons p l ih =>
    rw [aget_cons]
    by_cases h : p.1 = a
    · simp [h]
    · have h' : ¬ a = p.1 := fun e => h e.symm
      rw [if_neg h, ih]; simp [h']
theorem aget_mem {l : List (κ × ν)} {a : κ} {v : ν} (h : aget l a = some v) : (a, v) ∈ l := by
  induction l with
  | nil => simp [aget_nil] at h
  | cons p l ih =>
    rw [aget_cons] at h
    by_cases e : p.1 = a
    · rw [if_pos e] at h; cases h; obtain ⟨p1, p2⟩ := p; simp at e; subst e; simp
    · rw [if_neg e] at h; exact List.mem_cons_of_mem _ (ih h)
theorem aget_of_mem {l : List (κ × ν)} (hn : anodup l) {a : κ} {v : ν} (h : (a, v) ∈ l) : aget l a = some v := by
  induction l with
  | nil => simp at h
  | cons p l ih =>
    rw [aget_cons]
    unfold anodup at hn
    simp only [List.map_cons, List.nodup_cons] at hn
    rcases List.mem_cons.1 h with rfl | h
    · simp
    · have : ¬ p.1 = a := fun e => hn.1 (by rw [e]; exact List.mem_map.2 ⟨_, h, rfl⟩)
      rw [if_neg this]; exact ih hn.2 h
theorem aget_append (l l' : List (κ × ν)) (a : κ) : aget (l ++ l') a = (aget l a).or (aget l' a) := by
  induction l with
  | nil => simp [aget_nil]
  | cons p l ih => simp only [List.cons_append, aget_cons]; by_cases h : p.1 = a <;> simp [h, ih]
theorem aget_map_ne (l : List (κ × ν)) (a b : κ) (v : ν) : aget (l.map (fun p => if p.1 = a then (a, v) else p)) b = if b = a then (if a ∈ l.map (·.1) then some v else none) else aget l b := by
  induction l with
  | nil => simp [aget_nil]
  | cons p l ih =>
    rw [List.map_cons, aget_cons, ih, aget_cons]
    by_cases h : p.1 = a
    · rw [if_pos h]
      by_cases hb : b = a
      · subst hb; simp [h]
      · have : ¬ a = b := fun e => hb e.symm
        have h2 : ¬ p.1 = b := fun e => hb (e.symm.trans h)
        simp [hb, this, h2]
    · rw [if_neg h]
      have h' : ¬ a = p.1 := fun e => h e.symm
      by_cases hb : b = a
      · subst hb; simp only [if_true, List.map_cons, List.mem_cons, h', false_or]; rw [if_neg h]
      · by_cases h2 : p.1 = b
        · subst h2; simp [h]
        · simp [h2, hb]
theorem aget_aset (l : List (κ × ν)) (a b : κ) (v : ν) : aget (aset l a v) b = if b = a then some v else aget l b := by
  unfold aset
  by_cases h : a ∈ l.map (·.1)
  · rw [if_pos h, aget_map_ne, if_pos h]
  · rw [if_neg h, aget_append, aget_cons, aget_nil]
    by_cases hb : b = a
    · subst hb; rw [aget_none.2 h]; simp
    · have : ¬ a = b := fun e => hb e.symm
      simp [this, hb]
theorem anodup_aset {l : List (κ × ν)} (h : anodup l) (a : κ) (v : ν) : anodup (aset l a v) := by
  unfold aset anodup
  by_cases hm : a ∈ l.map (·.1)
  · rw [if_pos hm]
    have : (l.map (fun p => if p.1 = a then (a, v) else p)).map (·.1) = l.map (·.1) := by
      rw [List.map_map]; apply List.map_congr_left; intro p hp; by_cases e : p.1 = a <;> simp [e]
    rw [this]; exact h
  · rw [if_neg hm, List.map_append]
    refine List.nodup_append.2 ⟨h, by simp, ?_⟩
    intro x hx y hy e
    simp at hy
    subst hy; subst e
    exact hm hx
theorem aget_adel (l : List (κ × ν)) (a b : κ) : aget (adel l a) b = if b = a then none else aget l b := by
  unfold adel
  induction l with
  | nil => simp [aget_nil]
  | cons p l ih =>
    rw [List.filter_cons]
    by_cases h : p.1 = a
    · have : decide (p.1 ≠ a) = false := by simp [h]
      rw [this, aget_cons]; simp only [Bool.false_eq_true, if_false]; rw [ih]
      by_cases hb : b = a
      · simp [hb]
      · have : ¬ p.1 = b := fun e => hb (e.symm.trans h)
        simp [hb, this]
    · have : decide (p.1 ≠ a) = true := by simp [h]
      rw [this]; simp only [if_true]; rw [aget_cons, aget_cons, ih]
      by_cases hb : b = a
      · subst hb; simp [h]
      · simp [hb]
theorem anodup_adel {l : List (κ × ν)} (h : anodup l) (a : κ) : anodup (adel l a) := by
  unfold anodup adel
  exact h.sublist (List.Sublist.map _ List.filter_sublist)
theorem adel_absent {l : List (κ × ν)} {a : κ} (h : a ∉ l.map (·.1)) : adel l a = l := by
  unfold adel
  rw [List.filter_eq_self]
  intro p hp
  simp
  rintro rfl
  exact h (List.mem_map.2 ⟨p, hp, rfl⟩)
theorem aset_keys (l : List (κ × ν)) (a : κ) (v : ν) : (aset l a v).map (·.1) = if a ∈ l.map (·.1) then l.map (·.1) else l.map (·.1) ++ [a] := by
  unfold aset
  by_cases hm : a ∈ l.map (·.1)
  · rw [if_pos hm, if_pos hm, List.map_map]; apply List.map_congr_left; intro p hp; by_cases e : p.1 = a <;> simp [e]
  · rw [if_neg hm, if_neg hm, List.map_append]; rfl
theorem aset_mem {l : List (κ × ν)} {a : κ} {v : ν} {p : κ × ν} (h : p ∈ aset l a v) : p = (a, v) ∨ (p ∈ l ∧ p.1 ≠ a) := by
  unfold aset at h
  by_cases hm : a ∈ l.map (·.1)
  · rw [if_pos hm] at h
    obtain ⟨q, hq, e⟩ := List.mem_map.1 h
    by_cases hqa : q.1 = a
    · rw [if_pos hqa] at e; exact .inl e.symm
    · rw [if_neg hqa] at e; subst e; exact .inr ⟨hq, hqa⟩
  · rw [if_neg hm] at h
    rcases List.mem_append.1 h with h | h
    · exact .inr ⟨h, fun e => hm (by rw [← e]; exact List.mem_map.2 ⟨p, h, rfl⟩)⟩
    · simp at h; exact .inl h
end assoc

/-! ### A map in the heap -/
section maps
variable {κ : Type}

/-- The index and the value of the first pair with a key. -/
def aidx [DecidableEq κ] (l : List (κ × Value)) (a : κ) : Option (Nat × Value) := (l.findIdx? (fun p => p.1 = a)).map fun i => (i, (l.getD i (a, undef)).2)

structure MapEs (enc : κ → Value) (es : Array MapEntry) (clock : Nat) (l : List (κ × Value)) : Prop where
  keys : es.toList.map (fun e => (e.key, e.val)) = l.map (fun p => (enc p.1, p.2))
  born : (es.toList.map (·.born)).Pairwise (· < ·)
  old : ∀ e ∈ es.toList, e.born < clock
  nodup : anodup l

def MapAt (enc : κ → Value) (w : World) (r : Nat) (l : List (κ × Value)) : Prop := ∃ es clock, w.heap[r]? = some (.map es clock) ∧ MapEs enc es clock l

theorem MapAt.lt {enc : κ → Value} {w : World} {r : Nat} {l : List (κ × Value)} (h : MapAt enc w r l) : r < w.heap.size := by
  obtain ⟨es, c, h, _⟩ := h; exact (Array.getElem?_eq_some_iff.1 h).1
theorem MapAt.ext {enc : κ → Value} {w w' : World} {r : Nat} {l : List (κ × Value)} {S : Nat → Prop} (h : MapAt enc w r l) (hx : Ext S w w') (hn : ¬ S r) : MapAt enc w' r l := by
  obtain ⟨es, c, h, k⟩ := h; exact ⟨es, c, hx.get h hn, k⟩
theorem MapAt.of_block {enc : κ → Value} {w w' : World} {r : Nat} {l : List (κ × Value)} (h : MapAt enc w r l) (hb : w'.heap[r]? = w.heap[r]?) : MapAt enc w' r l := by
  obtain ⟨es, c, h, k⟩ := h; exact ⟨es, c, hb.trans h, k⟩
theorem MapAt.nodup {enc : κ → Value} {w : World} {r : Nat} {l : List (κ × Value)} (h : MapAt enc w r l) : anodup l := by
  obtain ⟨es, c, _, k⟩ := h; exact k.nodup
theorem MapAt.new (enc : κ → Value) (w : World) : MapAt enc (w.alloc (.map #[] 0)) w.heap.size [] :=
  ⟨#[], 0, heap_alloc_new w _, ⟨rfl, by simp, by simp, List.nodup_nil⟩⟩

/-- What the walk wants of a kind of key. -/
structure Keys [DecidableEq κ] (P : Program) (kt : TypeId) (enc : κ → Value) : Prop where
  check : ∀ (e : Bool) (a : κ) (w : World), (Instr.checkKey e 10000 kt (enc a)).run P w = .ok () w
  find : ∀ (a : κ) (es : List MapEntry) (l : List (κ × Value)) (w : World), es.map (fun e => (e.key, e.val)) = l.map (fun p => (enc p.1, p.2)) → (Instr.findKey kt (enc a) es).run P w = .ok (aidx l a) w
  same : ∀ a, Instr.sameBits 10000 (enc a) (enc a) = true

theorem aidx_none [DecidableEq κ] {l : List (κ × Value)} {a : κ} (h : aget l a = none) : aidx l a = none := by
  have : l.findIdx? (fun p => decide (p.1 = a)) = none := by
    rw [List.findIdx?_eq_none_iff]
    intro p hp
    have := aget_none.1 h
    simp
    rintro rfl
    exact this (List.mem_map.2 ⟨p, hp, rfl⟩)
  unfold aidx; rw [this]; rfl
theorem aidx_some [DecidableEq κ] {l : List (κ × Value)} {a : κ} {v : Value} (h : aget l a = some v) : ∃ i, aidx l a = some (i, v) ∧ l[i]? = some (a, v) ∧ ∀ j p, j < i → l[j]? = some p → p.1 ≠ a := by
  unfold aidx
  induction l with
  | nil => simp [aget_nil] at h
  | cons p l ih =>
    rw [aget_cons] at h
    rw [List.findIdx?_cons]
    by_cases e : p.1 = a
    · rw [if_pos e] at h; cases h
      refine ⟨0, by simp [e], ?_, fun j p hj => by omega⟩
      obtain ⟨p1, p2⟩ := p; simp at e; subst e; rfl
    · rw [if_neg e] at h
      obtain ⟨i, h1, h2, h3⟩ := ih h
      have he : decide (p.1 = a) = false := by simp [e]
      rw [he]
      obtain ⟨i', hi', e'⟩ := Option.map_eq_some_iff.1 h1
      simp at e'
      obtain ⟨rfl, e2⟩ := e'
      refine ⟨i' + 1, ?_, by simpa using h2, ?_⟩
      · simp [hi']; simpa using e2
      · intro j q hj hq
        cases j with
        | zero => simp at hq; subst hq; exact e
        | succ j => exact h3 j q (by omega) (by simpa using hq)

theorem run_lookup_map [DecidableEq κ] {P : Program} {t kt et : TypeId} {enc : κ → Value} (K : Keys P kt enc) (ht : P.underlying t = some (.map kt et)) {z : Value} (hz : ∀ w, (zeroValue et).run P w = .ok z w)
    {w : World} {r : Nat} {l : List (κ × Value)} (h : MapAt enc w r l) (a : κ) :
    (Instr.lookup t (.map (some r)) (enc a) false).run P w = .ok ((aget l a).getD z) w := by
  obtain ⟨es, c, hr, hk⟩ := h
  simp only [Instr.lookup, Sem.run_bind, run_underlying ht, Result.andThen, getObj, Sem.run, hr, Sem.run_pure, K.check, K.find a _ _ _ hk.keys]
  cases hg : aget l a with
  | none => rw [aidx_none hg]; simp [hz]
  | some v => obtain ⟨i, h1, _⟩ := aidx_some hg; rw [h1]; simp
theorem run_lookup_map_ok [DecidableEq κ] {P : Program} {t kt et : TypeId} {enc : κ → Value} (K : Keys P kt enc) (ht : P.underlying t = some (.map kt et)) {z : Value} (hz : ∀ w, (zeroValue et).run P w = .ok z w)
    {w : World} {r : Nat} {l : List (κ × Value)} (h : MapAt enc w r l) (a : κ) :
    (Instr.lookup t (.map (some r)) (enc a) true).run P w = .ok (.tuple #[(aget l a).getD z, .bool (aget l a).isSome]) w := by
  obtain ⟨es, c, hr, hk⟩ := h
  simp only [Instr.lookup, Sem.run_bind, run_underlying ht, Result.andThen, getObj, Sem.run, hr, Sem.run_pure, K.check, K.find a _ _ _ hk.keys]
  cases hg : aget l a with
  | none => rw [aidx_none hg]; simp [hz]
  | some v => obtain ⟨i, h1, _⟩ := aidx_some hg; rw [h1]; simp
theorem run_lookup_nil [DecidableEq κ] {P : Program} {t kt et : TypeId} {enc : κ → Value} (K : Keys P kt enc) (ht : P.underlying t = some (.map kt et)) {z : Value} (hz : ∀ w, (zeroValue et).run P w = .ok z w) (w : World) (a : κ) :
    (Instr.lookup t (.map none) (enc a) false).run P w = .ok z w := by
  simp only [Instr.lookup, Sem.run_bind, run_underlying ht, Result.andThen, Sem.run, Sem.run_pure, K.check, K.find a [] ([] : List (κ × Value)) _ rfl]
  rw [aidx_none (by rfl)]; simp [hz]

theorem run_setObj_map {P : Program} {w : World} {r : Nat} {es : Array MapEntry} {c : Nat} (hr : w.heap[r]? = some (.map es c)) (o : Obj) : (setObj r o).run P w = .ok () (w.putObj r o) := by
  simp [setObj, Sem.run, hr, World.putObj]

theorem mapEs_get {enc : κ → Value} {es : Array MapEntry} {c : Nat} {l : List (κ × Value)} (hk : MapEs enc es c l) {i : Nat} {p : κ × Value} (hi : l[i]? = some p) : ∃ e, es[i]? = some e ∧ e.key = enc p.1 ∧ e.val = p.2 := by
  have h1 : (es.toList.map (fun e => (e.key, e.val)))[i]? = (l.map (fun p => (enc p.1, p.2)))[i]? := by rw [hk.keys]
  simp only [List.getElem?_map, hi, Option.map_some, Array.getElem?_toList] at h1
  obtain ⟨e, he, hee⟩ := Option.map_eq_some_iff.1 h1
  simp at hee
  exact ⟨e, he, hee.1, hee.2⟩

theorem run_mapUpdate_map [DecidableEq κ] {P : Program} {t kt et : TypeId} {enc : κ → Value} (K : Keys P kt enc) (ht : P.underlying t = some (.map kt et))
    {w : World} {r : Nat} {l : List (κ × Value)} (h : MapAt enc w r l) (a : κ) (v : Value) :
    ∃ es c, (Instr.mapUpdate t (.map (some r)) (enc a) v).run P w = .ok () (w.putObj r (.map es c)) ∧ MapEs enc es c (aset l a v) := by
  obtain ⟨es, c, hr, hk⟩ := h
  simp only [Instr.mapUpdate, Sem.run_bind, run_underlying ht, Result.andThen, getObj, Sem.run, hr, Sem.run_pure, K.check, K.find a _ _ _ hk.keys]
  cases hg : aget l a with
  | none =>
    rw [aidx_none hg]
    refine ⟨_, _, run_setObj_map hr _, ?_⟩
    have hn := aget_none.1 hg
    refine ⟨?_, ?_, ?_, anodup_aset hk.nodup _ _⟩
    · unfold aset; rw [if_neg hn]; simp [hk.keys]
    · simp only [Array.toList_push, List.map_append, List.map_cons, List.map_nil]
      refine List.pairwise_append.2 ⟨hk.born, by simp, ?_⟩
      intro x hx y hy
      obtain ⟨e, he, rfl⟩ := List.mem_map.1 hx
      simp at hy; subst hy
      exact hk.old e he
    · intro e he
      simp only [Array.toList_push, List.mem_append, List.mem_singleton] at he
      rcases he with he | rfl
      · have := hk.old e he; omega
      · simp
  | some v0 =>
    obtain ⟨i, h1, h2, h3⟩ := aidx_some hg
    obtain ⟨e, he, hek, hev⟩ := mapEs_get hk h2
    rw [h1]
    have hsame : (Instr.keyThatStays (((es[i]?).map (·.key)).getD (enc a)) (enc a)).run P w = .ok (enc a) w := by
      rw [he]; simp only [Option.map_some, Option.getD_some, hek, Instr.keyThatStays, K.same, if_true]; rfl
    simp only [Sem.run_bind, hsame, Result.andThen]
    have hin : a ∈ l.map (·.1) := by
      have : ¬ aget l a = none := by rw [hg]; simp
      exact Classical.not_not.1 (fun hx => this (aget_none.2 hx))
    refine ⟨_, _, run_setObj_map hr _, ?_⟩
    refine ⟨?_, ?_, ?_, anodup_aset hk.nodup _ _⟩
    · unfold aset; rw [if_pos hin]
      apply List.ext_getElem?
      intro j
      simp only [List.getElem?_map, Array.getElem?_toList, Array.getElem?_modify]
      have hj : (es.toList.map (fun e => (e.key, e.val)))[j]? = (l.map (fun p => (enc p.1, p.2)))[j]? := by rw [hk.keys]
      simp only [List.getElem?_map, Array.getElem?_toList] at hj
      by_cases hij : i = j
      · subst hij
        rw [if_pos rfl, he, h2]; simp
      · rw [if_neg hij]
        cases hlj : l[j]? with
        | none => rw [hlj] at hj; simpa using hj
        | some q =>
          rw [hlj] at hj
          have : ¬ q.1 = a := by
            intro e
            have hnd := hk.nodup
            unfold anodup at hnd
            have g1 : (l.map (·.1))[i]? = some a := by simp [h2]
            have g2 : (l.map (·.1))[j]? = some a := by simp [hlj, e]
            exact hij ((List.getElem?_inj (by have := (List.getElem?_eq_some_iff.1 g1).1; exact this) hnd).1 (g1.trans g2.symm))
          simp only [Option.map_some] at hj ⊢
          rw [if_neg this]; exact hj
    · have : ((es.modify i fun e => { key := enc a, val := v, born := e.born }).toList.map (·.born)) = es.toList.map (·.born) := by
        apply List.ext_getElem?
        intro j
        simp only [List.getElem?_map, Array.getElem?_toList, Array.getElem?_modify]
        by_cases hij : i = j
        · subst hij; rw [if_pos rfl, he]; simp
        · rw [if_neg hij]
      rw [this]; exact hk.born
    · intro x hx
      obtain ⟨j, hj⟩ := List.getElem?_of_mem hx
      simp only [Array.getElem?_toList, Array.getElem?_modify] at hj
      by_cases hij : i = j
      · subst hij; rw [if_pos rfl, he] at hj; simp at hj; subst hj
        exact hk.old e (by have := Array.mem_of_getElem? he; simpa using this)
      · rw [if_neg hij] at hj
        exact hk.old x (by have := Array.mem_of_getElem? hj; simpa using this)

theorem MapAt.put {enc : κ → Value} {w : World} {r : Nat} {l l' : List (κ × Value)} (h : MapAt enc w r l) {es : Array MapEntry} {c : Nat} (hk : MapEs enc es c l') : MapAt enc (w.putObj r (.map es c)) r l' :=
  ⟨es, c, World.putObj_heap_same h.lt, hk⟩

theorem map_eraseIdx' {α β : Type} (f : α → β) : ∀ (l : List α) (i : Nat), (l.map f).eraseIdx i = (l.eraseIdx i).map f
  | [], _ => rfl
  | _ :: _, 0 => rfl
  | x :: l, i + 1 => by simp [map_eraseIdx' f l i]

theorem run_delete_map [DecidableEq κ] {P : Program} {t kt et ty : TypeId} {enc : κ → Value} (K : Keys P kt enc) (ht : P.underlying t = some (.map kt et)) {w : World} {r : Nat} {l : List (κ × Value)} (h : MapAt enc w r l) (a : κ) :
    ∃ es c, (Builtin.delete_ #[t, kt] ty #[.map (some r), enc a]).run P w = .ok (.tuple #[]) (w.putObj r (.map es c)) ∧ MapEs enc es c (adel l a) := by
  obtain ⟨es, c, hr, hk⟩ := h
  have hb : ∀ X : World → World, True := fun _ => trivial
  simp only [Builtin.delete_]
  simp only [List.getElem?_toArray, List.getElem?_cons_zero, List.getElem?_cons_succ, Sem.run_bind, run_underlying ht, Result.andThen, getObj, Sem.run, hr, Sem.run_pure, K.check, K.find a _ _ _ hk.keys]
  cases hg : aget l a with
  | none =>
    rw [aidx_none hg]
    refine ⟨es, c, by simp [run_setObj_map hr], ?_⟩
    rw [adel_absent (aget_none.1 hg)]; exact hk
  | some v0 =>
    obtain ⟨i, h1, h2, h3⟩ := aidx_some hg
    obtain ⟨e, he, hek, hev⟩ := mapEs_get hk h2
    rw [h1]
    refine ⟨_, c, by simp only [Sem.run_bind, run_setObj_map hr, Result.andThen]; rfl, ?_⟩
    have hi : i < es.size := (Array.getElem?_eq_some_iff.1 he).1
    have hil : i < l.length := (List.getElem?_eq_some_iff.1 h2).1
    have hel : (es.eraseIdxIfInBounds i).toList = es.toList.eraseIdx i := by simp [Array.eraseIdxIfInBounds, hi]
    have hdel : adel l a = l.eraseIdx i := by
      unfold adel
      have hnd := hk.nodup
      unfold anodup at hnd
      have hsplit : l = l.take i ++ (a, v0) :: l.drop (i + 1) := by
        have := List.take_append_drop i l
        rw [List.drop_eq_getElem_cons hil] at this
        have hgi : l[i] = (a, v0) := (List.getElem?_eq_some_iff.1 h2).2
        rw [hgi] at this; exact this.symm
      rw [List.eraseIdx_eq_take_drop_succ]
      conv => lhs; rw [hsplit]
      rw [List.filter_append, List.filter_cons]
      simp only [ne_eq, not_true_eq_false, decide_false, Bool.false_eq_true, if_false]
      rw [hsplit, List.map_append, List.map_cons] at hnd
      have n1 := List.nodup_append.1 hnd
      have n2 := List.nodup_cons.1 n1.2.1
      congr 1
      · rw [List.filter_eq_self]; intro p hp; simp; intro e; exact n1.2.2 p.1 (List.mem_map.2 ⟨p, hp, rfl⟩) a (by simp) e
      · rw [List.filter_eq_self]; intro p hp; simp; rintro e; exact n2.1 (by rw [← e]; exact List.mem_map.2 ⟨p, hp, rfl⟩)
    refine ⟨?_, ?_, ?_, anodup_adel hk.nodup _⟩
    · rw [hel, hdel, ← map_eraseIdx', ← map_eraseIdx', hk.keys]
    · rw [hel, ← map_eraseIdx']; exact hk.born.sublist (List.eraseIdx_sublist _ _)
    · intro x hx; rw [hel] at hx; exact hk.old x ((List.eraseIdx_sublist _ _).subset hx)

theorem run_len_map {P : Program} {t kt et ty : TypeId} {enc : κ → Value} (ht : P.underlying t = some (.map kt et)) {w : World} {r : Nat} {l : List (κ × Value)} (h : MapAt enc w r l) :
    (Builtin.len_ #[t] ty #[.map (some r)]).run P w = .ok (.int .i64 l.length) w := by
  obtain ⟨es, c, hr, hk⟩ := h
  have : es.size = l.length := by have := congrArg List.length hk.keys; simpa using this
  simp only [Builtin.len_, List.getElem?_toArray, List.getElem?_cons_zero, Sem.run_bind, run_underlying ht, Result.andThen, getObj, Sem.run, hr]
  rw [← this]; rfl
end maps

/-! ### Kinds of keys -/
theorem run_checkKey_int {P : Program} {kt : TypeId} {k : IntKind} (hu : P.underlying kt = some (.int k)) (e : Bool) (n : Nat) (v : Value) (w : World) : (Instr.checkKey e (n + 1) kt v).run P w = .ok () w := by
  simp only [Instr.checkKey, Sem.run_bind, run_underlying hu, Result.andThen]; rfl
theorem run_checkKey_ten {P : Program} {kt : TypeId} {k : IntKind} (hu : P.underlying kt = some (.int k)) (e : Bool) (v : Value) (w : World) : (Instr.checkKey e 10000 kt v).run P w = .ok () w := run_checkKey_int hu e 9999 v w
theorem keys_int {P : Program} {kt : TypeId} {k : IntKind} (hu : P.underlying kt = some (.int k)) : Keys P kt (fun a : Int => .int k a) where
  check := fun e a w => run_checkKey_ten hu e _ w
  find := fun a es l w h => by
    have : ∀ (es : List MapEntry) (l : List (Int × Value)) (i : Nat), es.map (fun e => (e.key, e.val)) = l.map (fun p => (Value.int k p.1, p.2)) →
        Instr.findNow (.int k) (.int k a) es i = some ((l.findIdx? (fun p => p.1 = a)).map fun j => (i + j, (l.getD j (a, undef)).2)) := by
      intro es
      induction es with
      | nil => intro l i h; have : l = [] := by cases l <;> simp at h ⊢
               subst this; rfl
      | cons e es ih =>
        intro l i h
        cases l with
        | nil => simp at h
        | cons p l =>
          simp only [List.map_cons, List.cons.injEq, Prod.mk.injEq] at h
          obtain ⟨⟨h1, h2⟩, h3⟩ := h
          rw [List.findIdx?_cons]
          simp only [Instr.findNow, Instr.sameNow, h1, if_true]
          by_cases e' : a = p.1
          · subst e'; simp [h2]
          · have e2 : (a == p.1) = false := by simpa using e'
            have e3 : decide (p.1 = a) = false := by simpa using fun x => e' x.symm
            rw [e2, e3]
            simp only [Bool.false_eq_true, if_false]
            rw [ih l (i + 1) h3, Option.map_map]
            congr 2
            funext j
            simp; omega
    have := this es l 0 h
    simp only [Instr.findKey, Sem.run_bind, run_underlying hu, Result.andThen, this]
    unfold aidx
    simp
  same := fun a => by unfold Instr.sameBits; simp
end Go.Proofs.Ytgccjmjengfhbaa
end
section
namespace Go.Proofs.Ytgccjmjengfhbaa
open Go.RowKit

/-! ### A range over a function, by lists -/
def isBook : Obj → Bool
  | .cells .. => false
  | .map .. => false
  | _ => true

/-- Old blocks, and whatever is cells or a map, lie as they lay. -/
structure KeepData (B : Nat) (w w' : World) : Prop where
  os : w'.os = w.os
  tape : w'.tape = w.tape
  output : w'.output = w.output
  size : w.heap.size ≤ w'.heap.size
  same : ∀ k o, w.heap[k]? = some o → (k < B ∨ isBook o = false) → w'.heap[k]? = some o

theorem KeepData.refl (B : Nat) (w : World) : KeepData B w w := ⟨rfl, rfl, rfl, Nat.le_refl _, fun _ _ h _ => h⟩
theorem KeepData.trans {B : Nat} {w w1 w2 : World} (h : KeepData B w w1) (g : KeepData B w1 w2) : KeepData B w w2 :=
  ⟨g.os.trans h.os, g.tape.trans h.tape, g.output.trans h.output, Nat.le_trans h.size g.size, fun k o hk hb => g.same k o (h.same k o hk hb) hb⟩
theorem KeepData.mono {B B' : Nat} {w w' : World} (h : KeepData B w w') (hB : B' ≤ B) : KeepData B' w w' :=
  ⟨h.os, h.tape, h.output, h.size, fun k o hk hb => h.same k o hk (hb.imp (fun x => Nat.lt_of_lt_of_le x hB) id)⟩
theorem KeepData.of_ext {B : Nat} {w w' : World} (h : Ext NoB w w') : KeepData B w w' :=
  ⟨h.os, h.tape, h.output, h.size, fun k o hk _ => h.get hk (fun s => s)⟩
theorem KeepData.of_below {B : Nat} {w w' : World} (h : Below w.heap.size w w') : KeepData B w w' := KeepData.of_ext (Ext.of_below h)
theorem KeepData.alloc {B : Nat} {w w1 : World} (h : KeepData B w w1) (o : Obj) : KeepData B w (w1.alloc o) := h.trans (KeepData.of_ext ((Ext.refl NoB _).alloc o))
theorem KeepData.drew {B : Nat} {w w1 : World} (h : KeepData B w w1) : KeepData B w w1.drew := ⟨h.os, h.tape, h.output, h.size, h.same⟩
theorem KeepData.putObj {B : Nat} {w w1 : World} (h : KeepData B w w1) {l : Nat} {o : Obj} (o' : Obj) (hB : B ≤ l) (hl : w1.heap[l]? = some o) (hb : isBook o = true) : KeepData B w (w1.putObj l o') :=
  h.trans ⟨rfl, rfl, rfl, by simp, fun k q hk hq => by
    have hne : k ≠ l := by
      rintro rfl
      rcases hq with hq | hq
      · omega
      · rw [hl] at hk; cases hk; rw [hb] at hq; cases hq
    rw [World.putObj_heap_other hne]; exact hk⟩
theorem KeepData.ext {B : Nat} {S : Nat → Prop} {w0 w w' : World} (h : Ext S w0 w) (g : KeepData B w w') (hB : w0.heap.size ≤ B) : Ext S w0 w' :=
  ⟨g.os.trans h.os, g.tape.trans h.tape, g.output.trans h.output, Nat.le_trans h.size g.size, fun k hk hn => by
    have h1 := h.block k hk hn
    have hlt : k < w.heap.size := Nat.lt_of_lt_of_le hk h.size
    have h2 := g.same k (w.heap[k]) (Array.getElem?_eq_getElem hlt) (.inl (Nat.lt_of_lt_of_le hk hB))
    rw [h2, ← h1, Array.getElem?_eq_getElem hlt]⟩
theorem KeepData.cells {B : Nat} {w w' : World} (h : KeepData B w w') {k : Nat} {cs : Array Value} {t : TypeId} {fr : Nat × Nat} (hk : w.heap[k]? = some (.cells cs t fr)) : w'.heap[k]? = some (.cells cs t fr) := h.same _ _ hk (.inr rfl)
theorem KeepData.map {B : Nat} {w w' : World} (h : KeepData B w w') {k : Nat} {es : Array MapEntry} {c : Nat} (hk : w.heap[k]? = some (.map es c)) : w'.heap[k]? = some (.map es c) := h.same _ _ hk (.inr rfl)
theorem KeepData.mapAt {κ : Type} {enc : κ → Value} {B : Nat} {w w' : World} (h : KeepData B w w') {r : Nat} {l : List (κ × Value)} (hm : MapAt enc w r l) : MapAt enc w' r l := by
  obtain ⟨es, c, h1, h2⟩ := hm; exact ⟨es, c, h.map h1, h2⟩
theorem KeepData.cell {B : Nat} {w w' : World} (h : KeepData B w w') {a : Addr} {v : Value} (hc : w.cell? a = some v) : w'.cell? a = some v := by
  unfold World.cell? at hc ⊢
  cases hk : w.heap[a.block]? with
  | none => rw [hk] at hc; simp at hc
  | some o =>
    rw [hk] at hc
    cases o <;> simp only [reduceCtorEq] at hc
    rw [h.cells hk]; exact hc

/-- What a round may turn: nothing of Fp; of what books are kept from B on, nothing. -/
structure YKeep (B : Nat) (Fp : Nat → Prop) (w w' : World) : Prop where
  size : w.heap.size ≤ w'.heap.size
  foot : ∀ k, Fp k → w'.heap[k]? = w.heap[k]?
  book : ∀ k o, w.heap[k]? = some o → isBook o = true → B ≤ k → w'.heap[k]? = some o

theorem YKeep.refl (B : Nat) (Fp : Nat → Prop) (w : World) : YKeep B Fp w w := ⟨Nat.le_refl _, fun _ _ => rfl, fun _ _ h _ _ => h⟩
theorem YKeep.trans {B : Nat} {Fp : Nat → Prop} {w w1 w2 : World} (h : YKeep B Fp w w1) (g : YKeep B Fp w1 w2) : YKeep B Fp w w2 :=
  ⟨Nat.le_trans h.size g.size, fun k hk => (g.foot k hk).trans (h.foot k hk), fun k o hk hb hB => g.book k o (h.book k o hk hb hB) hb hB⟩
theorem YKeep.of_ext {B : Nat} {Fp S : Nat → Prop} {w w' : World} (h : Ext S w w') (hF : ∀ k, Fp k → k < w.heap.size ∧ ¬ S k) (hS : ∀ k o, w.heap[k]? = some o → S k → isBook o = false ∨ k < B) : YKeep B Fp w w' :=
  ⟨h.size, fun k hk => h.block k (hF k hk).1 (hF k hk).2, fun k o hk hb hB => h.get hk (fun s => by rcases hS k o hk s with h1 | h1; rw [hb] at h1; cases h1; omega)⟩

def Stable {α : Type} (B : Nat) (J : α → World → Prop) : Prop := ∀ s W W', J s W → KeepData B W W' → J s W'
theorem Stable.mono {α : Type} {B B' : Nat} {J : α → World → Prop} (h : Stable B J) (hB : B ≤ B') : Stable B' J := fun s W W' hj hk => h s W W' hj (hk.mono hB)

def IterS {α : Type} (F : Fence) (n : Nat) (P : Program) (g : Nat) (lb : Array Value) (encs : α → Array Value) (S : List α → Prop) (Ok : List α → α → Prop) (Fp : Nat → Prop) (w : World) : Prop :=
  ∀ (l : Nat) (J Jx : List α → World → Prop) (W : World), (∀ k, Fp k → W.heap[k]? = w.heap[k]?) → w.heap.size ≤ W.heap.size → Stable W.heap.size J → Stable W.heap.size Jx →
    (∀ pre x W1, Ok pre x → J pre W1 → (∀ k, Fp k → W1.heap[k]? = w.heap[k]?) → W.heap.size ≤ W1.heap.size → YieldAt F (n - 1) P l (encs x) W1 fun e W' =>
      ((e = .returned (.bool true) ∧ J (pre ++ [x]) W') ∨ (e = .returned (.bool false) ∧ Jx (pre ++ [x]) W')) ∧ YKeep W.heap.size Fp W1 W') →
    J [] W →
    CallsIn F n P g (#[.func (.yield l) #[] #[]] ++ lb) W fun e W' => (∃ v, e = .returned v) ∧ ((∃ xs, S xs ∧ J xs W') ∨ ∃ pre x, Ok pre x ∧ Jx (pre ++ [x]) W')

theorem IterS.later {α : Type} {F : Fence} {n : Nat} {P : Program} {g : Nat} {lb : Array Value} {encs : α → Array Value} {S : List α → Prop} {Ok : List α → α → Prop} {Fp : Nat → Prop} {w w' : World} (h : IterS F n P g lb encs S Ok Fp w)
    (hF : ∀ k, Fp k → w'.heap[k]? = w.heap[k]?) (hs : w.heap.size ≤ w'.heap.size) : IterS F n P g lb encs S Ok Fp w' :=
  fun l J Jx W hW hsz hJ hJx hY h0 => h l J Jx W (fun k hk => (hW k hk).trans (hF k hk)) (Nat.le_trans hs hsz) hJ hJx (fun pre x W1 e hj hf hz => hY pre x W1 e hj (fun k hk => (hf k hk).trans (hF k hk).symm) hz) h0

/-- An iterator that gives just one list. -/
abbrev Iter {α : Type} (F : Fence) (n : Nat) (P : Program) (g : Nat) (lb : Array Value) (encs : α → Array Value) (xs : List α) (Fp : Nat → Prop) (w : World) : Prop :=
  IterS F n P g lb encs (fun ys => ys = xs) (fun pre x => ∃ post, xs = pre ++ x :: post) Fp w

/-- How a round's body may be left. -/
def rPost {α : Type} (B : Nat) (Fp : Nat → Prop) (I : List α → World → Prop) (Ix : Code → List α → World → Prop) (xs : List α) (W : World) : Exit → Act → World → Prop
  | .normal, _, W' => YKeep B Fp W W' ∧ I xs W'
  | .ret, _, W' => YKeep B Fp W W' ∧ Ix .ret xs W'
  | .exit id, _, W' => YKeep B Fp W W' ∧ Ix (.exit id) xs W'
  | .goto t, _, W' => YKeep B Fp W W' ∧ Ix (.goto t) xs W'
  | .panic _, _, _ => False
  | .outgrown, _, _ => False

variable {F : Fence} {n : Nat} {P : Program}

/-- The general form: the assignment to the loop's variables may lay blocks ('Ax' says what it leaves). -/
theorem wp_rfX {α : Type} {g : Operand} {ps : Array Tmp} {assign body : Code} {Q : Exit → Act → World → Prop} {a : Act} {w : World}
    (hro : F.round = none) (h1 : 1 ≤ n) {gf : Nat} {lb : Array Value} (hg : a.eval g = .func (.func gf) #[] lb) (hFg : F.fn gf) (eg : ∀ args w, (callFunc gf args).run P w = .ok (.enter gf args) w)
    {encs : α → Array Value} {S : List α → Prop} {Ok : List α → α → Prop} {Fp : Nat → Prop} (hit : IterS F (n - 1) P gf lb encs S Ok Fp w) (hFp : ∀ k, Fp k → ∃ o, w.heap[k]? = some o ∧ isBook o = false) (hps : ∀ x, (encs x).size = ps.size)
    (I : List α → World → Prop) (Ix : Code → List α → World → Prop) (hI : Stable w.heap.size I) (hIx : ∀ c, Stable w.heap.size (Ix c)) (h0 : I [] w) (Ax : α → Act → World → Prop) (hAx : ∀ x, Stable w.heap.size (Ax x))
    (hassign : ∀ (l : Nat) (pre : List α) (x : α) (W : World) (K : Act → World → Prop), Ok pre x → I pre W → (∀ k, Fp k → W.heap[k]? = w.heap[k]?) → w.heap.size + 2 ≤ W.heap.size → (∀ a' W', YKeep w.heap.size Fp W W' → I pre W' → Ax x a' W' → K a' W') →
      assign.wpIn (F.inRound l) (n - 1 - 1) P (Exit.then K (fun _ _ _ => False)) { tmps := (ps.zip (encs x)).foldl (fun t (p, v) => t.setIfInBounds p v) a.tmps, defers := [] } W)
    (hbody : ∀ (l : Nat) (pre : List α) (x : α) (a' : Act) (W : World), Ok pre x → w.heap.size ≤ l → (∃ r, W.heap[l]? = some (.loop r)) → I pre W → Ax x a' W → (∀ k, Fp k → W.heap[k]? = w.heap[k]?) → w.heap.size + 2 ≤ W.heap.size →
      body.wpIn (F.inRound l) (n - 1 - 1) P (rPost w.heap.size Fp I Ix (pre ++ [x]) W) a' W)
    (hdone : ∀ (D : Nat) (xs : List α) (W : World), w.heap.size ≤ D → S xs → I xs W → W.heap[D]? = some (.deferred (some [])) → Q .normal { a with defers := { target := .collected D, args := #[] } :: a.defers } W)
    (hstop : ∀ (D : Nat) (c : Code) (pre : List α) (x : α) (W : World), Ok pre x → w.heap.size ≤ D → Ix c (pre ++ [x]) W → W.heap[D]? = some (.deferred (some [])) → c.wpIn F n P Q { a with defers := { target := .collected D, args := #[] } :: a.defers } W) :
    (Code.rangeFunc g ps assign body).wpIn F n P Q a w := by
  refine wpIn_rangeFunc ?_
  intro fn hfn
  rw [hro]
  obtain ⟨rec, hrec⟩ : ∃ rec : LoopState → Option Code → Loop, rec = fun st pe => { state := st, pending := pe, fn, tmps := a.tmps, params := ps, assign, body, defers := w.heap.size } := ⟨_, rfl⟩
  obtain ⟨W1, hW1⟩ : ∃ W1, (w.alloc (.deferred (some []))).alloc (.loop (rec .ready none)) = W1 := ⟨_, rfl⟩
  have hL1 : W1.heap[w.heap.size + 1]? = some (.loop (rec .ready none)) := by
    rw [← hW1]; have := World.alloc_heap_new (w.alloc (.deferred (some []))) (.loop (rec .ready none)); rwa [World.size_alloc] at this
  have hK1 : W1.heap[w.heap.size]? = some (.deferred (some [])) := by
    rw [← hW1]; exact (Below.heap_alloc _ _ _ (by simp)).trans (World.alloc_heap_new w _)
  have hkd1 : KeepData w.heap.size w W1 := by rw [← hW1]; exact ((KeepData.refl _ w).alloc _).alloc _
  have hI1 : I [] W1 := hI _ _ _ h0 hkd1
  have hsz1 : W1.heap.size = w.heap.size + 2 := by rw [← hW1]; simp
  have hfp1 : ∀ k, Fp k → W1.heap[k]? = w.heap[k]? := fun k hk => by obtain ⟨o, ho, hb⟩ := hFp k hk; rw [ho]; exact hkd1.same _ _ ho (.inr hb)
  refine ⟨w.heap.size + 1, [{ target := .collected w.heap.size, args := #[] }], W1, { target := .fn (.func gf) lb, args := #[.func (.yield (w.heap.size + 1)) #[] #[]] }, W1, gf,
    #[.func (.yield (w.heap.size + 1)) #[] #[]] ++ lb, W1, ?_, ?_, ?_, ?_, fun _ => h1, ?_⟩
  · rw [← hW1, hrec]; exact run_enterLoop_outer _ _ _ _ _
  · simp only [resolve, hg]
    simp [go_sem]
  · intro f' hf'; simp [Target.leads] at hf'; subst hf'; exact hFg
  · simp [invoke, go_sem, eg]
  · refine (hit (w.heap.size + 1)
      (fun pre W => I pre W ∧ W.heap[w.heap.size + 1]? = some (.loop (rec .ready none)) ∧ W.heap[w.heap.size]? = some (.deferred (some [])))
      (fun pre W => ∃ c, Ix c pre W ∧ W.heap[w.heap.size + 1]? = some (.loop (rec .done (some c))) ∧ W.heap[w.heap.size]? = some (.deferred (some [])))
      W1 hfp1 (by omega)
      (fun s A B hs hk => ⟨hI s A B hs.1 (hk.mono (by omega)), hk.same _ _ hs.2.1 (.inl (by omega)), hk.same _ _ hs.2.2 (.inl (by omega))⟩)
      (fun s A B hs hk => by
        obtain ⟨c, hc, hl, hd⟩ := hs
        exact ⟨c, hIx c s A B hc (hk.mono (by omega)), hk.same _ _ hl (.inl (by omega)), hk.same _ _ hd (.inl (by omega))⟩)
      ?_ ⟨hI1, hL1, hK1⟩).mono ?_
    · rintro pre x W hxs ⟨hi, hl, hk⟩ hfp hsz
      have hlt : w.heap.size + 1 < W.heap.size := (Array.getElem?_eq_some_iff.1 hl).1
      have hy := run_yield (P := P) (args := encs x) hl (by rw [hrec]; exact hps x)
      rw [hrec] at hy
      refine ⟨fn, _, assign, body, hy, roundIn_of_wpIn hfn (hassign _ pre x W _ hxs hi hfp (by omega) ?_)⟩
      clear hy
      intro a' Wa hka hia hax
      have hla := hka.book _ _ hl rfl (by omega)
      have hda := hka.book _ _ hk rfl (Nat.le_refl _)
      have hlta : w.heap.size + 1 < Wa.heap.size := (Array.getElem?_eq_some_iff.1 hla).1
      refine ⟨_, run_beginRound hla (by rw [hrec]), ?_⟩
      have hkd2 : KeepData w.heap.size Wa (Wa.putObj (w.heap.size + 1) (.loop { rec .ready none with state := .busy })) := (KeepData.refl _ _).putObj _ (by omega) hla rfl
      have hl2 : (Wa.putObj (w.heap.size + 1) (.loop { rec .ready none with state := .busy })).heap[w.heap.size + 1]? = some (.loop { rec .ready none with state := .busy }) := World.putObj_heap_same hlta
      have hk2 : (Wa.putObj (w.heap.size + 1) (.loop { rec .ready none with state := .busy })).heap[w.heap.size]? = some (.deferred (some [])) := (World.putObj_heap_other (by omega)).trans hda
      have hfp2 : ∀ k, Fp k → (Wa.putObj (w.heap.size + 1) (.loop { rec .ready none with state := .busy })).heap[k]? = W.heap[k]? := fun k hk' => by
        obtain ⟨o, ho, hb⟩ := hFp k hk'
        have : Wa.heap[k]? = W.heap[k]? := hka.foot k hk'
        rw [← this]
        exact World.putObj_heap_other (by rintro rfl; rw [this, hfp _ hk', ho] at hla; cases hla; cases hb)
      refine wpIn_mono (hbody _ pre x a' _ hxs (by omega) ⟨_, hl2⟩ (hI _ _ _ hia hkd2) (hAx x _ _ _ hax hkd2) (fun k hk' => (hfp2 k hk').trans (hfp k hk')) (by simp; omega)) ?_
      have fin : ∀ (jump : Option Code) (W3 : World), YKeep w.heap.size Fp (Wa.putObj (w.heap.size + 1) (.loop { rec .ready none with state := .busy })) W3 →
          (Instr.endRound (w.heap.size + 1) jump).run P W3 = .ok (.bool jump.isNone) (W3.putObj (w.heap.size + 1) (.loop (rec (if jump.isNone then .ready else .done) jump))) ∧
          (W3.putObj (w.heap.size + 1) (.loop (rec (if jump.isNone then .ready else .done) jump))).heap[w.heap.size + 1]? = some (.loop (rec (if jump.isNone then .ready else .done) jump)) ∧
          (W3.putObj (w.heap.size + 1) (.loop (rec (if jump.isNone then .ready else .done) jump))).heap[w.heap.size]? = some (.deferred (some [])) ∧
          KeepData w.heap.size W3 (W3.putObj (w.heap.size + 1) (.loop (rec (if jump.isNone then .ready else .done) jump))) ∧
          YKeep W1.heap.size Fp W (W3.putObj (w.heap.size + 1) (.loop (rec (if jump.isNone then .ready else .done) jump))) := fun jump W3 hk3 => by
        have hl3 := hk3.book _ _ hl2 rfl (by omega)
        have he := run_endRound (P := P) jump hl3
        rw [hrec] at he ⊢
        rw [hrec] at hl3
        refine ⟨he, World.putObj_heap_same (Array.getElem?_eq_some_iff.1 hl3).1, (World.putObj_heap_other (by omega)).trans (hk3.book _ _ hk2 rfl (Nat.le_refl _)), (KeepData.refl _ _).putObj _ (by omega) hl3 rfl, ?_⟩
        refine ⟨?_, ?_, ?_⟩
        · have := hka.size; have := hk3.size; simp at this ⊢; omega
        · intro k hk'
          have e1 := hk3.foot k hk'
          have e2 := hfp2 k hk'
          obtain ⟨o, ho, hb⟩ := hFp k hk'
          have hne : k ≠ w.heap.size + 1 := by rintro rfl; rw [hfp _ hk', ho] at hl; cases hl; cases hb
          rw [World.putObj_heap_other hne, e1, e2]
        · intro k o hko hb hB
          have hne : k ≠ w.heap.size + 1 := by omega
          rw [World.putObj_heap_other hne]
          refine hk3.book k o ?_ hb (by omega)
          rw [World.putObj_heap_other hne]
          exact hka.book k o hko hb (by omega)
      rintro e a3 W3 hp
      cases e with
      | normal =>
        obtain ⟨hk3, hi3⟩ := hp
        obtain ⟨hr, hl4, hk4, hkd4, hyk4⟩ := fin none W3 hk3
        exact ⟨_, _, hr, .inl ⟨rfl, hI _ _ _ hi3 hkd4, hl4, hk4⟩, hyk4⟩
      | ret =>
        obtain ⟨hk3, hi3⟩ := hp
        obtain ⟨hr, hl4, hk4, hkd4, hyk4⟩ := fin (some .ret) W3 hk3
        exact ⟨_, _, hr, .inr ⟨rfl, .ret, hIx _ _ _ _ hi3 hkd4, hl4, hk4⟩, hyk4⟩
      | exit id =>
        obtain ⟨hk3, hi3⟩ := hp
        obtain ⟨hr, hl4, hk4, hkd4, hyk4⟩ := fin (some (.exit id)) W3 hk3
        exact ⟨_, _, hr, .inr ⟨rfl, .exit id, hIx _ _ _ _ hi3 hkd4, hl4, hk4⟩, hyk4⟩
      | goto t =>
        obtain ⟨hk3, hi3⟩ := hp
        obtain ⟨hr, hl4, hk4, hkd4, hyk4⟩ := fin (some (.goto t)) W3 hk3
        exact ⟨_, _, hr, .inr ⟨rfl, .goto t, hIx _ _ _ _ hi3 hkd4, hl4, hk4⟩, hyk4⟩
      | panic ch => exact hp.elim
      | outgrown => exact hp.elim
    · rintro e W2 ⟨⟨v, rfl⟩, (⟨xs, hS, hi, hl, hk⟩ | ⟨pre, x, hxs, c, hi, hl, hk⟩)⟩
      · exact ⟨none, _, by have := run_endLoop (P := P) hl (by rw [hrec]; simp); rw [hrec] at this; exact this,
          hdone _ _ _ (Nat.le_refl _) hS (hI _ _ _ hi ((KeepData.refl _ _).putObj _ (by omega) hl rfl)) ((World.putObj_heap_other (by omega)).trans hk)⟩
      · exact ⟨some c, _, by have := run_endLoop (P := P) hl (by rw [hrec]; simp); rw [hrec] at this; exact this,
          hstop _ c pre x _ hxs (Nat.le_refl _) (hIx c _ _ _ hi ((KeepData.refl _ _).putObj _ (by omega) hl rfl)) ((World.putObj_heap_other (by omega)).trans hk)⟩

/-- The plain form: the assignment leaves the world alone. -/
theorem wp_rf {α : Type} {g : Operand} {ps : Array Tmp} {assign body : Code} {Q : Exit → Act → World → Prop} {a : Act} {w : World}
    (hro : F.round = none) (h1 : 1 ≤ n) {gf : Nat} {lb : Array Value} (hg : a.eval g = .func (.func gf) #[] lb) (hFg : F.fn gf) (eg : ∀ args w, (callFunc gf args).run P w = .ok (.enter gf args) w)
    {encs : α → Array Value} {S : List α → Prop} {Ok : List α → α → Prop} {Fp : Nat → Prop} (hit : IterS F (n - 1) P gf lb encs S Ok Fp w) (hFp : ∀ k, Fp k → ∃ o, w.heap[k]? = some o ∧ isBook o = false) (hps : ∀ x, (encs x).size = ps.size)
    (I : List α → World → Prop) (Ix : Code → List α → World → Prop) (hI : Stable w.heap.size I) (hIx : ∀ c, Stable w.heap.size (Ix c)) (h0 : I [] w) (a₁ : α → Act)
    (hassign : ∀ (l : Nat) (x : α) (W : World) (K : Act → World → Prop), K (a₁ x) W →
      assign.wpIn (F.inRound l) (n - 1 - 1) P (Exit.then K (fun _ _ _ => False)) { tmps := (ps.zip (encs x)).foldl (fun t (p, v) => t.setIfInBounds p v) a.tmps, defers := [] } W)
    (hbody : ∀ (l : Nat) (pre : List α) (x : α) (W : World), Ok pre x → w.heap.size ≤ l → (∃ r, W.heap[l]? = some (.loop r)) → I pre W → (∀ k, Fp k → W.heap[k]? = w.heap[k]?) → w.heap.size + 2 ≤ W.heap.size →
      body.wpIn (F.inRound l) (n - 1 - 1) P (rPost w.heap.size Fp I Ix (pre ++ [x]) W) (a₁ x) W)
    (hdone : ∀ (D : Nat) (xs : List α) (W : World), w.heap.size ≤ D → S xs → I xs W → W.heap[D]? = some (.deferred (some [])) → Q .normal { a with defers := { target := .collected D, args := #[] } :: a.defers } W)
    (hstop : ∀ (D : Nat) (c : Code) (pre : List α) (x : α) (W : World), Ok pre x → w.heap.size ≤ D → Ix c (pre ++ [x]) W → W.heap[D]? = some (.deferred (some [])) → c.wpIn F n P Q { a with defers := { target := .collected D, args := #[] } :: a.defers } W) :
    (Code.rangeFunc g ps assign body).wpIn F n P Q a w :=
  wp_rfX hro h1 hg hFg eg hit hFp hps I Ix hI hIx h0 (fun x a' _ => a' = a₁ x) (fun x s W W' h _ => h)
    (fun l pre x W K _ hi _ _ hK => hassign l x W K (hK _ _ (YKeep.refl _ _ _) hi rfl))
    (fun l pre x a' W e hl hr hi ha hf hs => by subst ha; exact hbody l pre x W e hl hr hi hf hs) hdone hstop

/-- The end of a function that held one range over a function: one result. -/
theorem marksPost {fn : Func} {R : Ending → World → Prop} {a : Act} {w : World} {D : Nat} {v : Value} (hd : a.defers = [{ target := .collected D, args := #[] }])
    (hK : w.heap[D]? = some (.deferred (some []))) (hr : (results fn a.tmps).run P (w.putObj D (.deferred none)) = .ok v (w.putObj D (.deferred none))) (hR : R (.returned v) (w.putObj D (.deferred none))) :
    bodyPostM F n P fn R .ret a w := by
  show LeavesInM F n P fn a.tmps R a.defers .returning w
  rw [hd]
  exact ⟨by simp, .inl ⟨_, _, rfl, run_takeDeferred hK, ⟨_, hr, hR⟩⟩⟩
theorem marksPost_none {fn : Func} {R : Ending → World → Prop} {a : Act} {w : World} {v : Value} (hd : a.defers = [])
    (hr : (results fn a.tmps).run P w = .ok v w) (hR : R (.returned v) w) : bodyPostM F n P fn R .ret a w := by
  show LeavesInM F n P fn a.tmps R a.defers .returning w
  rw [hd]
  exact ⟨_, hr, hR⟩
end Go.Proofs.Ytgccjmjengfhbaa
end
section
/-! An iterator that lays blocks of its own ahead of its first round, and needs them later. -/
namespace Go.Proofs.Ytgccjmjengfhbaa
open Go.RowKit

/-- The footprint, and d blocks from B on. -/
def Priv (Fp : Nat → Prop) (B d : Nat) (k : Nat) : Prop := Fp k ∨ (B ≤ k ∧ k < B + d)
/-- 'IterS' with d blocks of its own. -/
def IterD {α : Type} (F : Fence) (n : Nat) (P : Program) (g : Nat) (lb : Array Value) (encs : α → Array Value) (S : List α → Prop) (Ok : List α → α → Prop) (Fp : Nat → Prop) (d : Nat) (w : World) : Prop :=
  ∀ (l : Nat) (J Jx : List α → World → Prop) (W : World), (∀ k, Fp k → W.heap[k]? = w.heap[k]?) → w.heap.size ≤ W.heap.size → Stable W.heap.size J → Stable W.heap.size Jx →
    (∀ pre x W1, Ok pre x → J pre W1 → (∀ k, Fp k → W1.heap[k]? = w.heap[k]?) → W.heap.size + d ≤ W1.heap.size → YieldAt F (n - 1) P l (encs x) W1 fun e W' =>
      ((e = .returned (.bool true) ∧ J (pre ++ [x]) W') ∨ (e = .returned (.bool false) ∧ Jx (pre ++ [x]) W')) ∧ YKeep W.heap.size (Priv Fp W.heap.size d) W1 W') →
    (∃ r, W.heap[l]? = some (.loop r)) → J [] W →
    CallsIn F n P g (#[.func (.yield l) #[] #[]] ++ lb) W fun e W' => (∃ v, e = .returned v) ∧ ((∃ xs, S xs ∧ J xs W') ∨ ∃ pre x, Ok pre x ∧ Jx (pre ++ [x]) W')
theorem IterD.later {α : Type} {F : Fence} {n : Nat} {P : Program} {g : Nat} {lb : Array Value} {encs : α → Array Value} {S : List α → Prop} {Ok : List α → α → Prop} {Fp : Nat → Prop} {d : Nat} {w w' : World} (h : IterD F n P g lb encs S Ok Fp d w)
    (hF : ∀ k, Fp k → w'.heap[k]? = w.heap[k]?) (hs : w.heap.size ≤ w'.heap.size) : IterD F n P g lb encs S Ok Fp d w' :=
  fun l J Jx W hW hsz hJ hJx hY hl h0 => h l J Jx W (fun k hk => (hW k hk).trans (hF k hk)) (Nat.le_trans hs hsz) hJ hJx (fun pre x W1 e hj hf hz => hY pre x W1 e hj (fun k hk => (hf k hk).trans (hF k hk).symm) hz) hl h0
theorem IterS.toD {α : Type} {F : Fence} {n : Nat} {P : Program} {g : Nat} {lb : Array Value} {encs : α → Array Value} {S : List α → Prop} {Ok : List α → α → Prop} {Fp : Nat → Prop} {w : World} (h : IterS F n P g lb encs S Ok Fp w) : IterD F n P g lb encs S Ok Fp 0 w :=
  fun l J Jx W hW hsz hJ hJx hY _ h0 => h l J Jx W hW hsz hJ hJx (fun pre x W1 e hj hf hz => by
    obtain ⟨fn, tm, asg, bd, h1, h2⟩ := hY pre x W1 e hj hf hz
    exact ⟨fn, tm, asg, bd, h1, h2.mono fun e W' ⟨h3, h4⟩ => ⟨h3, h4.size, fun k hk => h4.foot k (.inl hk), h4.book⟩⟩) h0
variable {F : Fence} {n : Nat} {P : Program}
theorem RoundIn.wide {n m : Nat} {P : Program} {l l' : Nat} {f : FuncId} {tmps : Array Value} {assign body : Code} {w : World} {R : Ending → World → Prop}
    (h : RoundIn Fence.wide n P l f tmps assign body w R) : RoundIn (Fence.wide.inRound l') m P l f tmps assign body w R :=
  ⟨trivial, fun c cs _ => h.2 c cs (room_wide _)⟩

/-- The general form: the assignment to the loop's variables may lay blocks ('Ax' says what it leaves). -/
theorem wp_rfD {α : Type} {g : Operand} {ps : Array Tmp} {assign body : Code} {Q : Exit → Act → World → Prop} {a : Act} {w : World}
    (hro : F.round = none) (h1 : 1 ≤ n) {gf : Nat} {lb : Array Value} (hg : a.eval g = .func (.func gf) #[] lb) (hFg : F.fn gf) (eg : ∀ args w, (callFunc gf args).run P w = .ok (.enter gf args) w)
    {encs : α → Array Value} {S : List α → Prop} {Ok : List α → α → Prop} {Fp : Nat → Prop} {d : Nat} (hit : IterD F (n - 1) P gf lb encs S Ok Fp d w) (hFp : ∀ k, Fp k → ∃ o, w.heap[k]? = some o ∧ isBook o = false) (hps : ∀ x, (encs x).size = ps.size)
    (I : List α → World → Prop) (Ix : Code → List α → World → Prop) (hI : Stable w.heap.size I) (hIx : ∀ c, Stable w.heap.size (Ix c)) (h0 : I [] w) (Ax : α → Act → World → Prop) (hAx : ∀ x, Stable w.heap.size (Ax x))
    (hassign : ∀ (l : Nat) (pre : List α) (x : α) (W : World) (K : Act → World → Prop), Ok pre x → I pre W → (∀ k, Fp k → W.heap[k]? = w.heap[k]?) → w.heap.size + 2 + d ≤ W.heap.size → (∀ a' W', YKeep w.heap.size (Priv Fp (w.heap.size + 2) d) W W' → I pre W' → Ax x a' W' → K a' W') →
      assign.wpIn (F.inRound l) (n - 1 - 1) P (Exit.then K (fun _ _ _ => False)) { tmps := (ps.zip (encs x)).foldl (fun t (p, v) => t.setIfInBounds p v) a.tmps, defers := [] } W)
    (hbody : ∀ (l : Nat) (pre : List α) (x : α) (a' : Act) (W : World), Ok pre x → w.heap.size ≤ l → (∃ r, W.heap[l]? = some (.loop r)) → I pre W → Ax x a' W → (∀ k, Fp k → W.heap[k]? = w.heap[k]?) → w.heap.size + 2 + d ≤ W.heap.size →
      body.wpIn (F.inRound l) (n - 1 - 1) P (rPost w.heap.size (Priv Fp (w.heap.size + 2) d) I Ix (pre ++ [x]) W) a' W)
    (hdone : ∀ (D : Nat) (xs : List α) (W : World), w.heap.size ≤ D → S xs → I xs W → W.heap[D]? = some (.deferred (some [])) → Q .normal { a with defers := { target := .collected D, args := #[] } :: a.defers } W)
    (hstop : ∀ (D : Nat) (c : Code) (pre : List α) (x : α) (W : World), Ok pre x → w.heap.size ≤ D → Ix c (pre ++ [x]) W → W.heap[D]? = some (.deferred (some [])) → c.wpIn F n P Q { a with defers := { target := .collected D, args := #[] } :: a.defers } W) :
    (Code.rangeFunc g ps assign body).wpIn F n P Q a w := by
  refine wpIn_rangeFunc ?_
  intro fn hfn
  rw [hro]
  obtain ⟨rec, hrec⟩ : ∃ rec : LoopState → Option Code → Loop, rec = fun st pe => { state := st, pending := pe, fn, tmps := a.tmps, params := ps, assign, body, defers := w.heap.size } := ⟨_, rfl⟩
  obtain ⟨W1, hW1⟩ : ∃ W1, (w.alloc (.deferred (some []))).alloc (.loop (rec .ready none)) = W1 := ⟨_, rfl⟩
  have hL1 : W1.heap[w.heap.size + 1]? = some (.loop (rec .ready none)) := by
    rw [← hW1]; have := World.alloc_heap_new (w.alloc (.deferred (some []))) (.loop (rec .ready none)); rwa [World.size_alloc] at this
  have hK1 : W1.heap[w.heap.size]? = some (.deferred (some [])) := by
    rw [← hW1]; exact (Below.heap_alloc _ _ _ (by simp)).trans (World.alloc_heap_new w _)
  have hkd1 : KeepData w.heap.size w W1 := by rw [← hW1]; exact ((KeepData.refl _ w).alloc _).alloc _
  have hI1 : I [] W1 := hI _ _ _ h0 hkd1
  have hsz1 : W1.heap.size = w.heap.size + 2 := by rw [← hW1]; simp
  have hfp1 : ∀ k, Fp k → W1.heap[k]? = w.heap[k]? := fun k hk => by obtain ⟨o, ho, hb⟩ := hFp k hk; rw [ho]; exact hkd1.same _ _ ho (.inr hb)
  refine ⟨w.heap.size + 1, [{ target := .collected w.heap.size, args := #[] }], W1, { target := .fn (.func gf) lb, args := #[.func (.yield (w.heap.size + 1)) #[] #[]] }, W1, gf,
    #[.func (.yield (w.heap.size + 1)) #[] #[]] ++ lb, W1, ?_, ?_, ?_, ?_, fun _ => h1, ?_⟩
  · rw [← hW1, hrec]; exact run_enterLoop_outer _ _ _ _ _
  · simp only [resolve, hg]
    simp [go_sem]
  · intro f' hf'; simp [Target.leads] at hf'; subst hf'; exact hFg
  · simp [invoke, go_sem, eg]
  · refine (hit (w.heap.size + 1)
      (fun pre W => I pre W ∧ W.heap[w.heap.size + 1]? = some (.loop (rec .ready none)) ∧ W.heap[w.heap.size]? = some (.deferred (some [])))
      (fun pre W => ∃ c, Ix c pre W ∧ W.heap[w.heap.size + 1]? = some (.loop (rec .done (some c))) ∧ W.heap[w.heap.size]? = some (.deferred (some [])))
      W1 hfp1 (by omega)
      (fun s A B hs hk => ⟨hI s A B hs.1 (hk.mono (by omega)), hk.same _ _ hs.2.1 (.inl (by omega)), hk.same _ _ hs.2.2 (.inl (by omega))⟩)
      (fun s A B hs hk => by
        obtain ⟨c, hc, hl, hd⟩ := hs
        exact ⟨c, hIx c s A B hc (hk.mono (by omega)), hk.same _ _ hl (.inl (by omega)), hk.same _ _ hd (.inl (by omega))⟩)
      ?_ ⟨_, hL1⟩ ⟨hI1, hL1, hK1⟩).mono ?_
    · rintro pre x W hxs ⟨hi, hl, hk⟩ hfp hsz
      have hne0 : ∀ k, Priv Fp (w.heap.size + 2) d k → k ≠ w.heap.size + 1 := by
        rintro k (hk' | ⟨h1, h2⟩) e
        · obtain ⟨o, ho, hb⟩ := hFp k hk'
          subst e
          rw [hfp _ hk', ho] at hl; cases hl; cases hb
        · omega
      have hlt : w.heap.size + 1 < W.heap.size := (Array.getElem?_eq_some_iff.1 hl).1
      have hy := run_yield (P := P) (args := encs x) hl (by rw [hrec]; exact hps x)
      rw [hrec] at hy
      refine ⟨fn, _, assign, body, hy, roundIn_of_wpIn hfn (hassign _ pre x W _ hxs hi hfp (by omega) ?_)⟩
      clear hy
      intro a' Wa hka hia hax
      have hla := hka.book _ _ hl rfl (by omega)
      have hda := hka.book _ _ hk rfl (Nat.le_refl _)
      have hlta : w.heap.size + 1 < Wa.heap.size := (Array.getElem?_eq_some_iff.1 hla).1
      refine ⟨_, run_beginRound hla (by rw [hrec]), ?_⟩
      have hkd2 : KeepData w.heap.size Wa (Wa.putObj (w.heap.size + 1) (.loop { rec .ready none with state := .busy })) := (KeepData.refl _ _).putObj _ (by omega) hla rfl
      have hl2 : (Wa.putObj (w.heap.size + 1) (.loop { rec .ready none with state := .busy })).heap[w.heap.size + 1]? = some (.loop { rec .ready none with state := .busy }) := World.putObj_heap_same hlta
      have hk2 : (Wa.putObj (w.heap.size + 1) (.loop { rec .ready none with state := .busy })).heap[w.heap.size]? = some (.deferred (some [])) := (World.putObj_heap_other (by omega)).trans hda
      have hfp2 : ∀ k, Priv Fp (w.heap.size + 2) d k → (Wa.putObj (w.heap.size + 1) (.loop { rec .ready none with state := .busy })).heap[k]? = W.heap[k]? := fun k hk' => by
        have : Wa.heap[k]? = W.heap[k]? := hka.foot k hk'
        rw [← this]
        exact World.putObj_heap_other (hne0 k hk')
      refine wpIn_mono (hbody _ pre x a' _ hxs (by omega) ⟨_, hl2⟩ (hI _ _ _ hia hkd2) (hAx x _ _ _ hax hkd2) (fun k hk' => (hfp2 k (.inl hk')).trans (hfp k hk')) (by have := hka.size; simp; omega)) ?_
      have fin : ∀ (jump : Option Code) (W3 : World), YKeep w.heap.size (Priv Fp (w.heap.size + 2) d) (Wa.putObj (w.heap.size + 1) (.loop { rec .ready none with state := .busy })) W3 →
          (Instr.endRound (w.heap.size + 1) jump).run P W3 = .ok (.bool jump.isNone) (W3.putObj (w.heap.size + 1) (.loop (rec (if jump.isNone then .ready else .done) jump))) ∧
          (W3.putObj (w.heap.size + 1) (.loop (rec (if jump.isNone then .ready else .done) jump))).heap[w.heap.size + 1]? = some (.loop (rec (if jump.isNone then .ready else .done) jump)) ∧
          (W3.putObj (w.heap.size + 1) (.loop (rec (if jump.isNone then .ready else .done) jump))).heap[w.heap.size]? = some (.deferred (some [])) ∧
          KeepData w.heap.size W3 (W3.putObj (w.heap.size + 1) (.loop (rec (if jump.isNone then .ready else .done) jump))) ∧
          YKeep W1.heap.size (Priv Fp W1.heap.size d) W (W3.putObj (w.heap.size + 1) (.loop (rec (if jump.isNone then .ready else .done) jump))) := fun jump W3 hk3 => by
        have hl3 := hk3.book _ _ hl2 rfl (by omega)
        have he := run_endRound (P := P) jump hl3
        rw [hrec] at he ⊢
        rw [hrec] at hl3
        refine ⟨he, World.putObj_heap_same (Array.getElem?_eq_some_iff.1 hl3).1, (World.putObj_heap_other (by omega)).trans (hk3.book _ _ hk2 rfl (Nat.le_refl _)), (KeepData.refl _ _).putObj _ (by omega) hl3 rfl, ?_⟩
        refine ⟨?_, ?_, ?_⟩
        · have := hka.size; have := hk3.size; simp at this ⊢; omega
        · intro k hk'
          rw [hsz1] at hk'
          have e1 := hk3.foot k hk'
          have e2 := hfp2 k hk'
          have hne := hne0 k hk'
          rw [World.putObj_heap_other hne, e1, e2]
        · intro k o hko hb hB
          have hne : k ≠ w.heap.size + 1 := by omega
          rw [World.putObj_heap_other hne]
          refine hk3.book k o ?_ hb (by omega)
          rw [World.putObj_heap_other hne]
          exact hka.book k o hko hb (by omega)
      rintro e a3 W3 hp
      cases e with
      | normal =>
        obtain ⟨hk3, hi3⟩ := hp
        obtain ⟨hr, hl4, hk4, hkd4, hyk4⟩ := fin none W3 hk3
        exact ⟨_, _, hr, .inl ⟨rfl, hI _ _ _ hi3 hkd4, hl4, hk4⟩, hyk4⟩
      | ret =>
        obtain ⟨hk3, hi3⟩ := hp
        obtain ⟨hr, hl4, hk4, hkd4, hyk4⟩ := fin (some .ret) W3 hk3
        exact ⟨_, _, hr, .inr ⟨rfl, .ret, hIx _ _ _ _ hi3 hkd4, hl4, hk4⟩, hyk4⟩
      | exit id =>
        obtain ⟨hk3, hi3⟩ := hp
        obtain ⟨hr, hl4, hk4, hkd4, hyk4⟩ := fin (some (.exit id)) W3 hk3
        exact ⟨_, _, hr, .inr ⟨rfl, .exit id, hIx _ _ _ _ hi3 hkd4, hl4, hk4⟩, hyk4⟩
      | goto t =>
        obtain ⟨hk3, hi3⟩ := hp
        obtain ⟨hr, hl4, hk4, hkd4, hyk4⟩ := fin (some (.goto t)) W3 hk3
        exact ⟨_, _, hr, .inr ⟨rfl, .goto t, hIx _ _ _ _ hi3 hkd4, hl4, hk4⟩, hyk4⟩
      | panic ch => exact hp.elim
      | outgrown => exact hp.elim
    · rintro e W2 ⟨⟨v, rfl⟩, (⟨xs, hS, hi, hl, hk⟩ | ⟨pre, x, hxs, c, hi, hl, hk⟩)⟩
      · exact ⟨none, _, by have := run_endLoop (P := P) hl (by rw [hrec]; simp); rw [hrec] at this; exact this,
          hdone _ _ _ (Nat.le_refl _) hS (hI _ _ _ hi ((KeepData.refl _ _).putObj _ (by omega) hl rfl)) ((World.putObj_heap_other (by omega)).trans hk)⟩
      · exact ⟨some c, _, by have := run_endLoop (P := P) hl (by rw [hrec]; simp); rw [hrec] at this; exact this,
          hstop _ c pre x _ hxs (Nat.le_refl _) (hIx c _ _ _ hi ((KeepData.refl _ _).putObj _ (by omega) hl rfl)) ((World.putObj_heap_other (by omega)).trans hk)⟩

end Go.Proofs.Ytgccjmjengfhbaa
end
section
namespace Go.Proofs.Ytgccjmjengfhbaa
open Go.RowKit

/-- A place where the walk stands still (to look at the goal). -/
structure Stop (p : Prop) : Prop where mk :: (out : p)
theorem stop_of {p : Prop} (h : Stop p) : p := h.out
/-! ### One operation at a time -/
section
variable {P : Program} {ops : Array Oper} {rest : List Oper} {o : Oper} {a : Act} {Q : Exit → Act → World → Prop} {W : World}

/-- Picks the operation by the slot that it writes. -/
theorem atT {N : Tmp} (_h : o.dst = some N) (h : wpList P ops Q (o :: rest) a W) : wpList P ops Q (o :: rest) a W := h

theorem atStore {N : Tmp} {t : TypeId} {v : Operand} (_h : o.op = .store t (.tmp N) v) (h : wpList P ops Q (o :: rest) a W) : wpList P ops Q (o :: rest) a W := h
theorem step_val {w1 : World} {v : Value} (hgd : o.guard = none) (hrun : (execOp a.eval o).run P W = .ok (.value v) w1) (h : wpList P ops Q rest (a.put o.dst v) w1) : wpList P ops Q (o :: rest) a W := by
  refine wpList_plain hgd fun K hK => ?_
  unfold Oper.wp; rw [hrun]; exact hK _ _ h
theorem step_unit {w1 : World} (hgd : o.guard = none) (hrun : (execOp a.eval o).run P W = .ok .skip w1) (h : wpList P ops Q rest (a.put o.dst undef) w1) : wpList P ops Q (o :: rest) a W := by
  refine wpList_plain hgd fun K hK => ?_
  unfold Oper.wp; rw [hrun]; exact hK _ _ h

theorem step_load {t : TypeId} {x : Operand} {ad : Addr} {v : Value} (hgd : o.guard = none) (ho : o.op = .load t x) (hx : a.eval x = .pointer (some ad)) (hl : (loadVar t ad).run P W = .ok v W) (h : wpList P ops Q rest (a.put o.dst v) W) : wpList P ops Q (o :: rest) a W :=
  step_val hgd (by simp only [execOp, ho, hx, Instr.loadAt, Instr.sureAddr, Sem.run_bind, Sem.run_pure, Result.andThen_ok, hl]) h
theorem step_build {t : TypeId} {ps : Array (Nat × Operand)} {qs : Array (Nat × Value)} {v : Value} (hgd : o.guard = none) (ho : o.op = .build t ps) (hp : (ps.map fun (i, x) => (i, a.eval x)) = qs) (hl : (Instr.build t qs).run P W = .ok v W) (h : wpList P ops Q rest (a.put o.dst v) W) : wpList P ops Q (o :: rest) a W :=
  step_val hgd (by simp only [execOp, ho, hp, Sem.run_bind, Sem.run_pure, Result.andThen_ok, hl]) h
theorem step_bin {op : BinOp} {t t' : TypeId} {x y : Operand} {u v r : Value} (hgd : o.guard = none) (ho : o.op = .binOp op t x y t') (hx : a.eval x = u) (hy : a.eval y = v) (hg : (eqGuard op t x y u v).run P W = .ok () W) (hl : (binOp op t u v).run P W = .ok r W) (h : wpList P ops Q rest (a.put o.dst r) W) : wpList P ops Q (o :: rest) a W :=
  step_val hgd (by simp only [execOp, ho, hx, hy, Sem.run_bind, Sem.run_pure, Result.andThen_ok, hg, hl]) h
theorem step_lookup {t : TypeId} {m k : Operand} {ok : Bool} {u v r : Value} (hgd : o.guard = none) (ho : o.op = .lookup t m k ok) (hm : a.eval m = u) (hk : a.eval k = v) (hl : (Instr.lookup t u v ok).run P W = .ok r W) (h : wpList P ops Q rest (a.put o.dst r) W) : wpList P ops Q (o :: rest) a W :=
  step_val hgd (by simp only [execOp, ho, hm, hk, Sem.run_bind, Sem.run_pure, Result.andThen_ok, hl]) h
theorem step_val_g {w1 : World} {v : Value} (hgd : Region.wanted o (yielded ops a.tmps) = true) (hrun : (execOp a.eval o).run P W = .ok (.value v) w1) (h : wpList P ops Q rest (a.put o.dst v) w1) : wpList P ops Q (o :: rest) a W := by
  refine wpList_step fun K hK => ?_
  rw [if_pos hgd]
  unfold Oper.wp; rw [hrun]; exact hK _ _ h
theorem step_lookup_g {t : TypeId} {m k : Operand} {ok : Bool} {u v r : Value} (hgd : Region.wanted o (yielded ops a.tmps) = true) (ho : o.op = .lookup t m k ok) (hm : a.eval m = u) (hk : a.eval k = v) (hl : (Instr.lookup t u v ok).run P W = .ok r W) (h : wpList P ops Q rest (a.put o.dst r) W) : wpList P ops Q (o :: rest) a W :=
  step_val_g hgd (by simp only [execOp, ho, hm, hk, Sem.run_bind, Sem.run_pure, Result.andThen_ok, hl]) h
theorem step_box {t : TypeId} {x : Operand} {v : Value} (hgd : o.guard = none) (ho : o.op = .box t x) (hx : a.eval x = v)
    (h : ∀ g w', g = W.heap.size → w' = W.alloc (.cells v.cells t (0, 0)) → wpList P ops Q rest (a.put o.dst (.pointer (some ⟨g, 0, none⟩))) w') : wpList P ops Q (o :: rest) a W :=
  step_val hgd (w1 := W.alloc (.cells v.cells t (0, 0))) (by simp only [execOp, ho, hx, Instr.box, newVar, newRow, newObj, Sem.run_bind, Sem.run_pure, Result.andThen_ok, Sem.run]; rfl) (h _ _ rfl rfl)

theorem add0 (g n : Nat) : (⟨g, 0, none⟩ : Addr).add n = ⟨g, n, none⟩ := by unfold Addr.add; split <;> simp_all
theorem run_indexArr {t e : TypeId} {n : Nat} (ht : P.underlying t = some (.array n e)) (hs : ∀ w, (sizeOf e).run P w = .ok 1 w) {g : Nat} {k : IntKind} {i : Int} (h0 : 0 ≤ i) (h1 : i < n) (hn : 1 < n) (w : World) :
    (Instr.indexAt t (.pointer (some ⟨g, 0, none⟩)) (.int k i)).run P w = .ok (.pointer (some ⟨g, i.toNat, none⟩)) w := by
  have hn' : ¬ n ≤ 1 := by omega
  have hd : decide (n ≤ 1) = false := by simp [hn']
  simp only [Instr.indexAt, asIntOf, Sem.run_bind, Sem.run_pure, Result.andThen_ok, run_underlying ht, Instr.sureAddr, hd, Bool.false_and, hs]
  rw [if_pos ⟨h0, h1⟩]
  simp only [Sem.run_bind, hs, Result.andThen_ok, Sem.run_pure, Nat.mul_one, add0]
theorem step_indexArr {t e : TypeId} {n : Nat} {x ix : Operand} {g : Nat} {k : IntKind} {i : Int} (hgd : o.guard = none) (ho : o.op = .indexAddr t x ix) (hx : a.eval x = .pointer (some ⟨g, 0, none⟩)) (hi : a.eval ix = .int k i)
    (ht : P.underlying t = some (.array n e)) (hs : ∀ w, (sizeOf e).run P w = .ok 1 w) (h0 : 0 ≤ i) (h1 : i < n) (hn : 1 < n) (h : wpList P ops Q rest (a.put o.dst (.pointer (some ⟨g, i.toNat, none⟩))) W) : wpList P ops Q (o :: rest) a W :=
  step_val hgd (by simp only [execOp, ho, hx, hi, Sem.run_bind, Sem.run_pure, Result.andThen_ok, run_indexArr ht hs h0 h1 hn]) h
theorem step_store1 {t : TypeId} {x v : Operand} {ad : Addr} {u old : Value} (hgd : o.guard = none) (ho : o.op = .store t x v) (hx : a.eval x = .pointer (some ad)) (hv : a.eval v = u) (hs : (sizeOf t).run P W = .ok 1 W) (h1 : u.cells = #[u]) (ho1 : u.oneCell' = true)
    (hc : W.cell? ad = some old) (hf : W.frozen? ad = false) (hsp : ad.spot = none) (h : wpList P ops Q rest (a.put o.dst undef) (W.setCell ad u)) : wpList P ops Q (o :: rest) a W := by
  refine step_unit hgd (w1 := W.setCell ad u) ?_ h
  have hst : (storeVar t ad u).run P W = .ok () (W.setCell ad u) := by
    have : ad.add 0 = ad := by unfold Addr.add; simp
    simp only [storeVar, Sem.run_bind, hs, h1, Result.andThen_ok]
    cases u <;> simp_all [storeCells, Sem.run, Value.oneCell', store]
  simp only [execOp, ho, hx, hv, Instr.storeAt, Instr.sureAddr, Sem.run_bind, Sem.run_pure, Result.andThen_ok, hst]

theorem wpl_mapUpdate {κ : Type} [DecidableEq κ] {enc : κ → Value} {t kt et : TypeId} (hgd : o.guard = none) (m k v : Operand) (ho : o.op = .mapUpdate t m k v) (K : Keys P kt enc) (ht : P.underlying t = some (.map kt et))
    {r : Nat} {key : κ} {val : Value} {l : List (κ × Value)} (hm : a.eval m = .map (some r)) (hk : a.eval k = enc key) (hv : a.eval v = val) (hM : MapAt enc W r l)
    (h : ∀ w', MapAt enc w' r (aset l key val) → Ext (fun k => k = r) W w' → w'.heap.size = W.heap.size → wpList P ops Q rest (a.put o.dst undef) w') : wpList P ops Q (o :: rest) a W := by
  obtain ⟨es, c, hrun, hes⟩ := run_mapUpdate_map K ht hM key val
  refine step_unit hgd (w1 := W.putObj r (.map es c)) ?_ (h _ (hM.put hes) ((Ext.refl _ _).putObj _ _ (.inl rfl)) (by simp))
  simp only [execOp, ho, hm, hk, hv, Sem.run_bind, hrun, Result.andThen, Sem.run_pure]

theorem wpl_delete {κ : Type} [DecidableEq κ] {enc : κ → Value} {t kt et : TypeId} (hgd : o.guard = none) (m k : Operand) (ho : o.op = .call { callee := .builtin .delete, args := #[m, k], argTypes := #[t, kt] }) (K : Keys P kt enc) (ht : P.underlying t = some (.map kt et))
    {r : Nat} {key : κ} {l : List (κ × Value)} (hm : a.eval m = .map (some r)) (hk : a.eval k = enc key) (hM : MapAt enc W r l)
    (h : ∀ w', MapAt enc w' r (adel l key) → Ext (fun k => k = r) W w' → w'.heap.size = W.heap.size → wpList P ops Q rest (a.put o.dst (.tuple #[])) w') : wpList P ops Q (o :: rest) a W := by
  obtain ⟨es, c, hrun, hes⟩ := run_delete_map (ty := o.type) K ht hM key
  refine step_val hgd (w1 := W.putObj r (.map es c)) (v := .tuple #[]) ?_ (h _ (hM.put hes) ((Ext.refl _ _).putObj _ _ (.inl rfl)) (by simp))
  simp only [execOp, ho]
  simp only [resolve, Array.map, List.map_toArray, List.map_cons, List.map_nil, hm, hk]
  simp [invoke, hm, hk, builtin, hrun, Result.andThen]
end

/-! ### Pages: arrays of numbers -/
@[irreducible] def pgCells (n : Nat) (k : IntKind) (c : Nat → Int) : Array Value := Array.ofFn (n := n) fun i => .int k (c i.val)
theorem pgCells_size (n : Nat) (k : IntKind) (c : Nat → Int) : (pgCells n k c).size = n := by simp [pgCells]
theorem pgCells_get {n : Nat} {k : IntKind} {c : Nat → Int} {i : Nat} (h : i < n) : (pgCells n k c)[i]? = some (.int k (c i)) := by simp [pgCells, h]
theorem pgCells_zero (n : Nat) (k : IntKind) : Array.replicate n (.int k 0) = pgCells n k (fun _ => 0) := by
  apply Array.ext
  · simp [pgCells]
  · intro i h1 h2; simp [pgCells]
theorem pgCells_set {n : Nat} {k : IntKind} {c : Nat → Int} (i : Nat) (x : Int) : (pgCells n k c).setIfInBounds i (.int k x) = pgCells n k (fun j => if j = i then x else c j) := by
  apply Array.ext
  · simp [pgCells]
  · intro j h1 h2
    rw [Array.getElem_setIfInBounds (by simpa using h1)]
    by_cases e : i = j
    · subst e; simp [pgCells]
    · have : ¬ j = i := fun x => e x.symm
      simp [pgCells, e, this]
theorem pgCells_congr {n : Nat} {k : IntKind} {c d : Nat → Int} (h : ∀ i, i < n → c i = d i) : pgCells n k c = pgCells n k d := by
  apply Array.ext
  · simp [pgCells]
  · intro i h1 h2; simp [pgCells]; exact h i (by simpa [pgCells] using h1)

theorem run_part_page {P : Program} {e : TypeId} {k : IntKind} (he : P.underlying e = some (.int k)) {n : Nat} {c : Nat → Int} {i : Nat} (h : i < n) (w : World) : (part e (pgCells n k c) i).run P w = .ok (.int k (c i)) w := by
  simp [part, isAgg, run_underlying he, Result.andThen, pgCells_get h]

def pgEq (n : Nat) (c c' : Nat → Int) : Bool := decide (∀ i, i < n → c i = c' i)
theorem pgEq_iff {n : Nat} {c c' : Nat → Int} : pgEq n c c' = true ↔ ∀ i, i < n → c i = c' i := by simp [pgEq]
theorem run_eq_page {P : Program} {t e : TypeId} {k : IntKind} {n : Nat} (ht : P.underlying t = some (.array n e)) (he : P.underlying e = some (.int k)) (hs : ∀ w, (sizeOf e).run P w = .ok 1 w) (d : Nat) (c c' : Nat → Int) (w : World) :
    (Op.equalIn (d + 2) t (.agg (pgCells n k c)) (.agg (pgCells n k c'))).run P w = .ok (decide (∀ i, i < n → c i = c' i)) w := by
  simp only [Op.equalIn.eq_def (d + 2), Sem.run_bind, run_underlying ht, Result.andThen_ok, hs, Std.Legacy.Range.forIn_eq_forIn_range', Std.Legacy.Range.size, Nat.sub_zero, Nat.add_sub_cancel, Nat.div_one, Nat.mul_one]
  have key : ∀ (m j : Nat), j + m = n → (∀ i, i < j → c i = c' i) →
      ((forIn (List.range' j m 1) (none, ()) fun i (__s : Option Bool × Unit) => do
            let __do_lift ← part e (pgCells n k c) i
            let __do_lift_1 ← part e (pgCells n k c') i
            let __do_lift ← Op.equalIn (d + 1) e __do_lift __do_lift_1
            if (!__do_lift) = true then pure (ForInStep.done (some false, ())) else pure (ForInStep.yield (none, ()))) : Sem (Option Bool × Unit)).run P w = .ok (if (∀ i, i < n → c i = c' i) then none else some false, ()) w := by
    intro m
    induction m with
    | zero =>
      intro j hj hall
      have : j = n := by omega
      subst this
      rw [List.range'_zero, List.forIn_nil, if_pos hall]; rfl
    | succ m ih =>
      intro j hj hall
      rw [List.range'_succ, List.forIn_cons]
      have hjn : j < n := by omega
      simp only [Sem.run_bind, run_part_page he hjn, Result.andThen_ok, run_equalIn_int w d e k k _ _ he]
      by_cases hcc : c j = c' j
      · simp only [hcc, beq_self_eq_true, Bool.not_true, Bool.false_eq_true, if_false, Sem.run_pure, Result.andThen_ok]
        exact ih (j + 1) (by omega) (fun i hi => by rcases Nat.lt_succ_iff_lt_or_eq.1 hi with h | h; exact hall i h; subst h; exact hcc)
      · have hb : (c j == c' j) = false := by simpa using hcc
        have : ¬ ∀ i, i < n → c i = c' i := fun hx => hcc (hx j hjn)
        simp [hb, this, Result.andThen]
  have := key n 0 (by omega) (fun i hi => by omega)
  rw [this]
  by_cases hx : ∀ i, i < n → c i = c' i
  · rw [if_pos hx, decide_eq_true hx]; rfl
  · rw [if_neg hx, decide_eq_false hx]; rfl

theorem run_eqGuard_page {P : Program} {t : TypeId} (hq : P.eqGuardType P.depth t = false) (op : BinOp) (x y : Operand) (cs ds : Array Value) (w : World) : (eqGuard op t x y (.agg cs) (.agg ds)).run P w = .ok () w := run_eqGuard_agg w op t x y cs ds hq

theorem run_eql_page {P : Program} {t e : TypeId} {k : IntKind} {n : Nat} (ht : P.underlying t = some (.array n e)) (he : P.underlying e = some (.int k)) (hs : ∀ w, (sizeOf e).run P w = .ok 1 w) (c c' : Nat → Int) (w : World) :
    (binOp .eql t (.agg (pgCells n k c)) (.agg (pgCells n k c'))).run P w = .ok (.bool (pgEq n c c')) w := by
  unfold pgEq
  simp only [binOp, Op.equal, Op.maxDepth, Sem.run_bind, run_eq_page ht he hs 9998 c c' w, Result.andThen_ok, Sem.run_pure]
end Go.Proofs.Ytgccjmjengfhbaa
end
section
namespace Go.Proofs.Ytgccjmjengfhbaa
open Go.RowKit

/-- A scope out of which the run jumps forward to one label, or not at all. -/
theorem wp_scope_fwd {P : Program} {a : Act} {w : World} {Q : Exit → Act → World → Prop} {c rest : Code} (l : Nat) (J : Act → World → Prop) (hf : findLabel c l = some rest)
    (first : c.wp P (Exit.jump l J Q) a w) (pass : ∀ a w, J a w → rest.wp P (Exit.noGoto Q) a w) : (Code.scope c).wp P Q a w :=
  wp_scope_jumps l J (fun _ _ => 0) hf first fun a w h => wp_mono (pass a w h) (fun e a w q => by cases e <;> first | exact q | exact q.elim)
@[go_sem] theorem jump_normal {l : Nat} {J : Act → World → Prop} {Q : Exit → Act → World → Prop} {a : Act} {w : World} : Exit.jump l J Q .normal a w = Q .normal a w := rfl
@[go_sem] theorem jump_ret {l : Nat} {J : Act → World → Prop} {Q : Exit → Act → World → Prop} {a : Act} {w : World} : Exit.jump l J Q .ret a w = Q .ret a w := rfl
@[go_sem] theorem jump_exit {l i : Nat} {J : Act → World → Prop} {Q : Exit → Act → World → Prop} {a : Act} {w : World} : Exit.jump l J Q (.exit i) a w = Q (.exit i) a w := rfl
@[go_sem] theorem jump_goto {l : Nat} {J : Act → World → Prop} {Q : Exit → Act → World → Prop} {a : Act} {w : World} : Exit.jump l J Q (.goto l) a w = J a w := by simp [Exit.jump]
end Go.Proofs.Ytgccjmjengfhbaa
end
section
namespace Go.Proofs.Ytgccjmjengfhbaa
open Go.RowKit

attribute [go_sem] Oper.semAt_some

theorem bodyPost_norm {P : Program} {fn : Func} {R : Ending → World → Prop} {a : Act} {w : World} {v : Value}
    (hr : (results fn a.tmps).run P w = .ok v w) (hd : a.defers = []) (hR : R (.returned v) w) : bodyPost P fn R .normal a w := ⟨hd, v, hr, hR⟩

/-- A list by its numbers. -/
theorem split_at {α : Type} (xs : List α) (k : Nat) (h : k < xs.length) : xs = xs.take k ++ xs[k] :: xs.drop (k + 1) := by
  rw [← List.drop_eq_getElem_cons h, List.take_append_drop]
theorem take_last {α : Type} (xs : List α) (k : Nat) (h : k < xs.length) : xs.take (k + 1) = xs.take k ++ [xs[k]] := List.take_succ_eq_append_getElem h

/-- Enumerated. -/
def en {α : Type} (xs : List α) : List (Nat × α) := xs.zipIdx.map fun p => (p.2, p.1)
theorem en_length {α : Type} (xs : List α) : (en xs).length = xs.length := by simp [en]
theorem en_get {α : Type} (xs : List α) (k : Nat) (h : k < (en xs).length) : (en xs)[k] = (k, xs[k]'(by rwa [en_length] at h)) := by simp [en]
theorem en_map {α β : Type} (f : α → β) (xs : List α) : (en xs).map (fun p => f p.2) = xs.map f := by
  apply List.ext_getElem
  · simp [en]
  · intro i h1 h2; simp [en]
theorem en_snd {α : Type} (xs : List α) : (en xs).map (·.2) = xs := by
  have := en_map id xs; simpa using this
end Go.Proofs.Ytgccjmjengfhbaa
end
section
namespace Go.Proofs.Ytgccjmjengfhbaa
open Go.RowKit

abbrev FW := Fence.wide

/-! ### One operation at a time, in a fence that lets all in -/
section
variable {F : Fence} {n : Nat} {P : Program} {ops : Array Oper} {rest : List Oper} {o : Oper} {a : Act} {Q : Exit → Act → World → Prop} {W : World}
theorem atI {N : Tmp} (_h : o.dst = some N) (h : wpListIn F n P ops Q (o :: rest) a W) : wpListIn F n P ops Q (o :: rest) a W := h
theorem atStoreI {N : Tmp} {t : TypeId} {v : Operand} (_h : o.op = .store t (.tmp N) v) (h : wpListIn F n P ops Q (o :: rest) a W) : wpListIn F n P ops Q (o :: rest) a W := h
theorem stepI_val {w1 : World} {v : Value} (hF : ∀ f, F.fn f) (hnd : ∀ c, o.op ≠ .defer c) (hgd : o.guard = none) (hrun : (execOp a.eval o).run P W = .ok (.value v) w1) (h : wpListIn F n P ops Q rest (a.put o.dst v) w1) : wpListIn F n P ops Q (o :: rest) a W := by
  refine wpListIn_plain hgd fun K hK => ?_
  unfold Oper.wpIn
  refine ⟨fun f _ => hF f, ?_⟩
  rw [Oper.semAt_plain F _ _ (fun c e => hnd c e), hrun]; exact hK _ _ h
theorem stepI_unit {w1 : World} (hF : ∀ f, F.fn f) (hnd : ∀ c, o.op ≠ .defer c) (hgd : o.guard = none) (hrun : (execOp a.eval o).run P W = .ok .skip w1) (h : wpListIn F n P ops Q rest (a.put o.dst undef) w1) : wpListIn F n P ops Q (o :: rest) a W := by
  refine wpListIn_plain hgd fun K hK => ?_
  unfold Oper.wpIn
  refine ⟨fun f _ => hF f, ?_⟩
  rw [Oper.semAt_plain F _ _ (fun c e => hnd c e), hrun]; exact hK _ _ h
theorem stepI_next {it : Operand} {r : Nat} {v : Value} {w1 : World} (hF : ∀ f, F.fn f) (hgd : o.guard = none) (ho : o.op = .next it false) (hx : a.eval it = .pointer (some ⟨r, 0, none⟩))
    (hl : ∀ ty, (Instr.next (.pointer (some ⟨r, 0, none⟩)) false ty).run P W = .ok v w1) (h : wpListIn F n P ops Q rest (a.put o.dst v) w1) : wpListIn F n P ops Q (o :: rest) a W :=
  stepI_val hF (by rw [ho]; intro c e; cases e) hgd (by simp only [execOp, ho, hx, Sem.run_bind, hl, Result.andThen_ok, Sem.run_pure]) h
theorem stepI_entry {it : Operand} {v it' : Value} (hF : ∀ f, F.fn f) (hgd : o.guard = none) (ho : o.op = .entry it) (hx : a.eval it = it')
    (hl : (Instr.entry it').run P W = .ok v W) (h : wpListIn F n P ops Q rest (a.put o.dst v) W) : wpListIn F n P ops Q (o :: rest) a W :=
  stepI_val hF (by rw [ho]; intro c e; cases e) hgd (by simp only [execOp, ho, hx, Sem.run_bind, hl, Result.andThen_ok, Sem.run_pure]) h
theorem stepI_range {t kt et : TypeId} {x : Operand} {mb : Nat} {es : Array MapEntry} {c : Nat} (hF : ∀ f, F.fn f) (hgd : o.guard = none) (ho : o.op = .range t x) (hx : a.eval x = .map (some mb)) (ht : P.underlying t = some (.map kt et))
    (hm : W.heap[mb]? = some (.map es c)) (h : ∀ g w', g = W.heap.size → w' = W.alloc (.mapIter (some mb) c #[] c) → wpListIn F n P ops Q rest (a.put o.dst (.pointer (some ⟨g, 0, none⟩))) w') : wpListIn F n P ops Q (o :: rest) a W :=
  stepI_val hF (by rw [ho]; intro c e; cases e) hgd (w1 := W.alloc (.mapIter (some mb) c #[] c)) (by
    simp only [execOp, ho, hx, Instr.range, Sem.run_bind, run_underlying ht, Result.andThen_ok, getObj, Sem.run, hm, Sem.run_pure, newObj]; rfl) (h _ _ rfl rfl)
end
section
variable {P : Program} {ops : Array Oper} {rest : List Oper} {o : Oper} {a : Act} {Q : Exit → Act → World → Prop} {W : World}
theorem step_next {it : Operand} {r : Nat} {v : Value} {w1 : World} (hgd : o.guard = none) (ho : o.op = .next it false) (hx : a.eval it = .pointer (some ⟨r, 0, none⟩))
    (hl : ∀ ty, (Instr.next (.pointer (some ⟨r, 0, none⟩)) false ty).run P W = .ok v w1) (h : wpList P ops Q rest (a.put o.dst v) w1) : wpList P ops Q (o :: rest) a W :=
  step_val hgd (by simp only [execOp, ho, hx, Sem.run_bind, hl, Result.andThen_ok, Sem.run_pure]) h
theorem step_entry {it : Operand} {v it' : Value} (hgd : o.guard = none) (ho : o.op = .entry it) (hx : a.eval it = it')
    (hl : (Instr.entry it').run P W = .ok v W) (h : wpList P ops Q rest (a.put o.dst v) W) : wpList P ops Q (o :: rest) a W :=
  step_val hgd (by simp only [execOp, ho, hx, Sem.run_bind, hl, Result.andThen_ok, Sem.run_pure]) h
theorem step_range {t kt et : TypeId} {x : Operand} {mb : Nat} {es : Array MapEntry} {c : Nat} (hgd : o.guard = none) (ho : o.op = .range t x) (hx : a.eval x = .map (some mb)) (ht : P.underlying t = some (.map kt et))
    (hm : W.heap[mb]? = some (.map es c)) (h : ∀ g w', g = W.heap.size → w' = W.alloc (.mapIter (some mb) c #[] c) → wpList P ops Q rest (a.put o.dst (.pointer (some ⟨g, 0, none⟩))) w') : wpList P ops Q (o :: rest) a W :=
  step_val hgd (w1 := W.alloc (.mapIter (some mb) c #[] c)) (by
    simp only [execOp, ho, hx, Instr.range, Sem.run_bind, run_underlying ht, Result.andThen_ok, getObj, Sem.run, hm, Sem.run_pure, newObj]; rfl) (h _ _ rfl rfl)
end

/-! ### A walk over a map that nothing is laid into or struck from: what has come -/
section
variable {κ : Type}
/-- Of the map's pairs l those in 'done' have come, in that order; the iterator lies in block r. -/
structure Came (enc : κ → Value) (es : Array MapEntry) (clock : Nat) (mb r : Nat) (l done : List (κ × Value)) (w : World) : Prop where
  it : ∃ (vis : List MapEntry) (c0 : Nat), w.heap[r]? = some (.mapIter (some mb) clock (vis.map (·.born)).toArray c0) ∧ clock ≤ c0 ∧ (∀ e ∈ vis, e ∈ es.toList) ∧ (vis.map (·.born)).Nodup ∧ vis.map (fun e => (e.key, e.val)) = done.map (fun p => (enc p.1, p.2))
  sub : ∀ p ∈ done, p ∈ l

theorem Came.start {enc : κ → Value} {es : Array MapEntry} {clock mb : Nat} {l : List (κ × Value)} (w : World) : Came enc es clock mb w.heap.size l [] (w.alloc (.mapIter (some mb) clock #[] clock)) :=
  ⟨⟨[], clock, heap_alloc_new w _, Nat.le_refl _, by simp, by simp, rfl⟩, by simp⟩
theorem Came.keep {enc : κ → Value} {es : Array MapEntry} {clock mb r : Nat} {l done : List (κ × Value)} {w w' : World} (h : Came enc es clock mb r l done w) (hb : w'.heap[r]? = w.heap[r]?) : Came enc es clock mb r l done w' := by
  obtain ⟨⟨vis, c0, h1, h2⟩, h3⟩ := h
  exact ⟨⟨vis, c0, hb.trans h1, h2⟩, h3⟩

theorem nodup_born {enc : κ → Value} {es : Array MapEntry} {clock : Nat} {l : List (κ × Value)} (hk : MapEs enc es clock l) : (es.toList.map (·.born)).Nodup := hk.born.imp (fun h e => by omega)
theorem born_inj {enc : κ → Value} {es : Array MapEntry} {clock : Nat} {l : List (κ × Value)} (hk : MapEs enc es clock l) {e e' : MapEntry} (h : e ∈ es.toList) (h' : e' ∈ es.toList) (hb : e.born = e'.born) : e = e' := by
  obtain ⟨i, hi⟩ := List.getElem?_of_mem h
  obtain ⟨j, hj⟩ := List.getElem?_of_mem h'
  have g1 : (es.toList.map (·.born))[i]? = some e.born := by simp only [List.getElem?_map, hi]; rfl
  have g2 : (es.toList.map (·.born))[j]? = some e'.born := by simp only [List.getElem?_map, hj]; rfl
  have hlt : i < (es.toList.map (·.born)).length := (List.getElem?_eq_some_iff.1 g1).1
  have := (List.getElem?_inj hlt (nodup_born hk)).1 (g1.trans (by rw [hb, g2]))
  subst this; rw [hi] at hj; exact Option.some.inj hj

theorem length_le_of_sub {α : Type} [DecidableEq α] : ∀ (l1 l2 : List α), l1.Nodup → (∀ a ∈ l1, a ∈ l2) → l1.length ≤ l2.length
  | [], _, _, _ => Nat.zero_le _
  | a :: l1, l2, hn, hs => by
    rw [List.nodup_cons] at hn
    have ha := hs a (by simp)
    have := length_le_of_sub l1 (l2.erase a) hn.2 (fun b hb => (List.mem_erase_of_ne (by rintro rfl; exact hn.1 hb)).2 (hs b (by simp [hb])))
    rw [List.length_erase_of_mem ha] at this
    have := List.length_pos_of_mem ha
    simp; omega
/-- One step of the walk. -/
theorem Came.next [DecidableEq κ] {P : Program} {enc : κ → Value} (hinj : ∀ a b, enc a = enc b → a = b) {es : Array MapEntry} {clock mb r : Nat} {l done : List (κ × Value)} {w : World} (h : Came enc es clock mb r l done w) (hm : w.heap[mb]? = some (.map es clock)) (hk : MapEs enc es clock l) :
    (done.Perm l ∧ ∀ ty, (Instr.next (.pointer (some ⟨r, 0, none⟩)) false ty).run P w = .ok (.tuple #[.bool false]) w) ∨
    ∃ p w1, p ∈ l ∧ p ∉ done ∧ done.length < l.length ∧ (∀ ty, (Instr.next (.pointer (some ⟨r, 0, none⟩)) false ty).run P w = .ok (.tuple #[.bool true, enc p.1, p.2]) w1) ∧
      (Instr.entry (.pointer (some ⟨r, 0, none⟩))).run P w1 = .ok (.tuple #[enc p.1, p.2]) w1 ∧ Came enc es clock mb r l (done ++ [p]) w1 ∧ (∃ o, w1 = w.putObj r o ∨ w1 = w.drew.putObj r o) := by
  obtain ⟨⟨vis, c0, hr, hcc, hsub, hnd, hkv⟩, hdl⟩ := h
  have hold : ∀ x ∈ es.toList, x.born < clock := hk.old
  have hlen : vis.length = done.length := by have := congrArg List.length hkv; simpa using this
  have hel : es.toList.length = l.length := by have := congrArg List.length hk.keys; simpa using this
  have key : ∀ ty ty', ((Instr.next (.pointer (some ⟨r, 0, none⟩)) false ty).run P w) = ((Instr.next (.pointer (some ⟨r, 0, none⟩)) false ty').run P w) := fun _ _ => rfl
  rcases run_next_at (P := P) w 0 r mb clock c0 (vis.map (·.born)).toArray es clock hr hm hold hcc with ⟨h0, hrun⟩ | ⟨e, he, w1, hw1, hrun⟩
  · refine .inl ⟨?_, fun ty => (key ty 0).trans hrun⟩
    have hall : ∀ e ∈ es.toList, e.born ∈ vis.map (·.born) := by
      intro e he
      unfold leftOf at h0
      have h1 : (Array.filter (fun e => !(vis.map (·.born)).toArray.contains e.born) es) = #[] := Array.eq_empty_of_size_eq_zero h0
      have := Array.filter_eq_empty_iff.1 h1 e (by simpa using he)
      simpa using this
    have hev : ∀ e ∈ es.toList, e ∈ vis := by
      intro e he
      obtain ⟨e', he', hb⟩ := List.mem_map.1 (hall e he)
      rw [← born_inj hk (hsub e' he') he hb]; exact he'
    have hp1 : vis.Perm es.toList := by
      have n1 : vis.Nodup := List.Pairwise.of_map _ (fun a b h e => h (by rw [e])) hnd
      have n2 : es.toList.Nodup := List.Pairwise.of_map _ (fun a b h e => h (by rw [e])) (nodup_born hk)
      exact (List.perm_ext_iff_of_nodup n1 n2).2 (fun e => ⟨hsub e, hev e⟩)
    have hp2 := hp1.map (fun e => (e.key, e.val))
    rw [hkv, hk.keys] at hp2
    have hinj' : ∀ p q : κ × Value, (enc p.1, p.2) = (enc q.1, q.2) → p = q := by
      rintro ⟨a, b⟩ ⟨c, d⟩ h; simp at h; obtain ⟨h1, h2⟩ := h; rw [hinj _ _ h1, h2]
    have n3 : l.Nodup := List.Pairwise.of_map _ (fun a b h e => h (by rw [e])) hk.nodup
    have n4 : (l.map (fun p : κ × Value => (enc p.1, p.2))).Nodup := List.pairwise_map.2 (n3.imp (fun h e => h (hinj' _ _ e)))
    have n5 : done.Nodup := List.Pairwise.of_map _ (fun a b h e => h (by rw [e])) (hp2.nodup_iff.2 n4)
    refine (List.perm_ext_iff_of_nodup n5 n3).2 (fun p => ⟨hdl p, fun hp => ?_⟩)
    have : (enc p.1, p.2) ∈ done.map (fun p : κ × Value => (enc p.1, p.2)) := hp2.mem_iff.2 (List.mem_map.2 ⟨p, hp, rfl⟩)
    obtain ⟨q, hq, e⟩ := List.mem_map.1 this
    rw [← hinj' q p e]; exact hq
  · have hel' : e ∈ es.toList ∧ e.born ∉ vis.map (·.born) := by
      unfold leftOf at he; simp at he; simpa using he
    obtain ⟨i, hi⟩ := List.getElem?_of_mem hel'.1
    have hk1 : (es.toList.map (fun e => (e.key, e.val)))[i]? = some (e.key, e.val) := by simp only [List.getElem?_map, hi]; rfl
    rw [hk.keys] at hk1
    simp only [List.getElem?_map] at hk1
    obtain ⟨p, hp, hpe⟩ := Option.map_eq_some_iff.1 hk1
    simp only [Prod.mk.injEq] at hpe
    have hpl : p ∈ l := List.mem_of_getElem? hp
    have hnew : p ∉ done := by
      intro hpd
      obtain ⟨j, hj⟩ := List.getElem?_of_mem hpd
      have g1 : (vis.map (fun e => (e.key, e.val)))[j]? = some (enc p.1, p.2) := by rw [hkv]; simp only [List.getElem?_map, hj]; rfl
      simp only [List.getElem?_map] at g1
      obtain ⟨e', he', hee⟩ := Option.map_eq_some_iff.1 g1
      simp only [Prod.mk.injEq] at hee
      have he'm := hsub e' (List.mem_of_getElem? he')
      obtain ⟨i', hi'⟩ := List.getElem?_of_mem he'm
      have g2 : (es.toList.map (fun e => (e.key, e.val)))[i']? = some (e'.key, e'.val) := by simp only [List.getElem?_map, hi']; rfl
      rw [hk.keys] at g2
      simp only [List.getElem?_map] at g2
      obtain ⟨q, hq, hqe⟩ := Option.map_eq_some_iff.1 g2
      simp only [Prod.mk.injEq] at hqe
      have hqp : q.1 = p.1 := hinj _ _ (hqe.1.trans hee.1)
      have hnd' := hk.nodup
      unfold anodup at hnd'
      have k1 : (l.map (·.1))[i]? = some p.1 := by simp [hp]
      have k2 : (l.map (·.1))[i']? = some p.1 := by simp [hq, hqp]
      have := (List.getElem?_inj (List.getElem?_eq_some_iff.1 k1).1 hnd').1 (k1.trans k2.symm)
      subst this
      rw [hi] at hi'; cases hi'
      exact hel'.2 (List.mem_map.2 ⟨e, List.mem_of_getElem? he', rfl⟩)
    have hlt : done.length < l.length := by
      rw [← hlen, ← hel]
      have hsp : (vis.map (·.born)).length < (es.toList.map (·.born)).length := by
        have h1 : (e.born :: vis.map (·.born)).Nodup := List.nodup_cons.2 ⟨hel'.2, hnd⟩
        have h2 : ∀ b ∈ e.born :: vis.map (·.born), b ∈ es.toList.map (·.born) := by
          intro b hb
          rcases List.mem_cons.1 hb with rfl | hb
          · exact List.mem_map.2 ⟨e, hel'.1, rfl⟩
          · obtain ⟨e', he', rfl⟩ := List.mem_map.1 hb; exact List.mem_map.2 ⟨e', hsub e' he', rfl⟩
        have := length_le_of_sub _ _ h1 h2
        rw [List.length_cons] at this; omega
      simpa using hsp
    have hw1r : w1.heap[r]? = w.heap[r]? := by rcases hw1 with rfl | rfl <;> rfl
    have hw1m : w1.heap[mb]? = some (.map es clock) := by rcases hw1 with rfl | rfl <;> exact hm
    have hrm : r ≠ mb := by rintro rfl; rw [hr] at hm; cases hm
    have hlr : r < w1.heap.size := (Array.getElem?_eq_some_iff.1 (hw1r.trans hr)).1
    have hput : (w1.putObj r (.mapIter (some mb) clock ((vis.map (·.born)).toArray.push e.born) clock)).heap[r]? = some (.mapIter (some mb) clock ((vis.map (·.born)).toArray.push e.born) clock) := World.putObj_heap_same hlr
    refine .inr ⟨p, w1.putObj r (.mapIter (some mb) clock ((vis.map (·.born)).toArray.push e.born) clock), hpl, hnew, hlt, fun ty => ?_, ?_, ⟨⟨vis ++ [e], clock, ?_, Nat.le_refl _, ?_, ?_, ?_⟩, ?_⟩, ⟨.mapIter (some mb) clock ((vis.map (·.born)).toArray.push e.born) clock, ?_⟩⟩
    · rw [key ty 0, hrun, hpe.1, hpe.2]; rfl
    · have := run_entry_at (P := P) (w1.putObj r (.mapIter (some mb) clock ((vis.map (·.born)).toArray.push e.born) clock)) r mb clock (vis.map (·.born)).toArray es clock e hput ((World.putObj_heap_other hrm.symm).trans hw1m) hel'.1 (nodup_born hk)
      rw [this, hpe.1, hpe.2]
    · rw [hput]; simp
    · intro e' he'; rcases List.mem_append.1 he' with h | h
      · exact hsub e' h
      · simp at h; subst h; exact hel'.1
    · rw [List.map_append]; refine List.nodup_append.2 ⟨hnd, by simp, ?_⟩
      intro a ha b hb e0; simp at hb; subst hb; subst e0; exact hel'.2 ha
    · rw [List.map_append, List.map_append, hkv]; simp [hpe.1, hpe.2]
    · intro q hq; rcases List.mem_append.1 hq with h | h
      · exact hdl q h
      · simp at h; subst h; exact hpl
    · rcases hw1 with rfl | rfl
      · exact .inl rfl
      · exact .inr rfl
end
end Go.Proofs.Ytgccjmjengfhbaa
end
section
namespace Go.Proofs.Ytgccjmjengfhbaa
open Go.RowKit Go.Proofs.YtgccjmjengfhbaaW.PrintWords

/-! ### append(v, x): x has just been laid in a block of its own -/
theorem exec_append {P : Program} {o : Oper} {a : Act} {W w' : World} {s x : Operand} {t : TypeId} {v u r : Value} (ho : o.op = .call { callee := .builtin .append, args := #[s, x], argTypes := #[t, t] })
    (hs : a.eval s = v) (hx : a.eval x = u) (h : (Builtin.append_ #[t, t] o.type #[v, u]).run P W = .ok r w') : (execOp a.eval o).run P W = .ok (.value r) w' := by
  simp only [execOp, ho, resolve, Array.map, List.map_toArray, List.map_cons, List.map_nil, hs, hx]
  simp [invoke, hs, hx, builtin, h, Result.andThen]

theorem append_one {P : Program} {W : World} {base : Nat} {t ty e : TypeId} {z : Value} {size bytes : Nat} (ht : P.underlying t = some (.slice e)) (hinfo : (P.info? e).map (fun i => (i.zero, i.size, i.bytes)) = some (some z, size, bytes)) (hz : z.cells.size = size) (hs0 : 0 < size) (hb0 : 0 < bytes)
    {v : Value} {n : Nat} {xs ys : List Value} {g : Nat} (hg : W.heap[g]? = some (.cells ys.toArray e (0, 0))) (hys : ys.length = size) (h1 : ∀ u ∈ ys, u.oneCell' = true)
    (HO : W.ownsRow base e size v n xs) (hbase : base ≤ W.heap.size) (hl : (n + 1) * bytes ≤ 140737488355328) :
    ∃ v1 w1, (Builtin.append_ #[t, t] ty #[v, .slice (some ⟨g, 0, none⟩) 1 1]).run P W = .ok v1 w1 ∧ w1.ownsRow base e size v1 (n + 1) (xs ++ ys) ∧ W.grownBy w1 v.ownBlock ∧ (v1.ownBlock = v.ownBlock ∨ v1.ownBlock = some W.heap.size) ∧ (v1 = .slice none 0 0 → False) := by
  obtain ⟨i0, hi, hzz⟩ := Option.map_eq_some_iff.1 hinfo
  simp only [Prod.mk.injEq] at hzz
  obtain ⟨hz0, hz1, hz2⟩ := hzz
  have hlen : n + 1 ≤ 140737488355328 := Nat.le_trans (Nat.le_mul_of_pos_right _ hb0) hl
  obtain ⟨v', w', hr, ho, hgr, hnil, hat⟩ := run_append_own_at (P := P) W base t ty e i0 z size bytes ht hi hz0 hz1 hz2 hz hs0 v n xs HO ⟨g, 0, none⟩ 1 1 ys (by rw [hys]; simp)
    (by simpa using World.news_of_block (cs := ys.toArray) (t := e) (fr := (0, 0)) hg) h1 (by simp only [maxLen]; omega) hl hbase
  exact ⟨v', w', hr, ho, hgr, hat, fun e => by have := hnil.1 e; omega⟩

theorem stepA {P : Program} {ops : Array Oper} {rest : List Oper} {o : Oper} {a : Act} {Q : Exit → Act → World → Prop} {W : World} (base : Nat) {s x : Operand} {t e : TypeId} {z : Value} {size bytes : Nat} (hgd : o.guard = none)
    (ho : o.op = .call { callee := .builtin .append, args := #[s, x], argTypes := #[t, t] }) (ht : P.underlying t = some (.slice e)) (hinfo : (P.info? e).map (fun i => (i.zero, i.size, i.bytes)) = some (some z, size, bytes)) (hz : z.cells.size = size) (hs0 : 0 < size) (hb0 : 0 < bytes)
    {v : Value} {n : Nat} {xs ys : List Value} {g : Nat} (hs : a.eval s = v) (hx : a.eval x = .slice (some ⟨g, 0, none⟩) 1 1) (hg : W.heap[g]? = some (.cells ys.toArray e (0, 0))) (hys : ys.length = size) (h1 : ∀ u ∈ ys, u.oneCell' = true)
    (HO : W.ownsRow base e size v n xs) (hbase : base ≤ W.heap.size) (hl : (n + 1) * bytes ≤ 140737488355328)
    (h : ∀ v1 w1, w1.ownsRow base e size v1 (n + 1) (xs ++ ys) → W.grownBy w1 v.ownBlock → (v1.ownBlock = v.ownBlock ∨ v1.ownBlock = some W.heap.size) → (v1 = .slice none 0 0 → False) → wpList P ops Q rest (a.put o.dst v1) w1) : wpList P ops Q (o :: rest) a W := by
  obtain ⟨v1, w1, hr, h2, h3, h4, h5⟩ := append_one (ty := o.type) ht hinfo hz hs0 hb0 hg hys h1 HO hbase hl
  exact step_val hgd (exec_append ho hs hx hr) (h v1 w1 h2 h3 h4 h5)
theorem stepAI {F : Fence} {nF : Nat} {P : Program} {ops : Array Oper} {rest : List Oper} {o : Oper} {a : Act} {Q : Exit → Act → World → Prop} {W : World} (base : Nat) {s x : Operand} {t e : TypeId} {z : Value} {size bytes : Nat} (hF : ∀ f, F.fn f) (hgd : o.guard = none)
    (ho : o.op = .call { callee := .builtin .append, args := #[s, x], argTypes := #[t, t] }) (ht : P.underlying t = some (.slice e)) (hinfo : (P.info? e).map (fun i => (i.zero, i.size, i.bytes)) = some (some z, size, bytes)) (hz : z.cells.size = size) (hs0 : 0 < size) (hb0 : 0 < bytes)
    {v : Value} {n : Nat} {xs ys : List Value} {g : Nat} (hs : a.eval s = v) (hx : a.eval x = .slice (some ⟨g, 0, none⟩) 1 1) (hg : W.heap[g]? = some (.cells ys.toArray e (0, 0))) (hys : ys.length = size) (h1 : ∀ u ∈ ys, u.oneCell' = true)
    (HO : W.ownsRow base e size v n xs) (hbase : base ≤ W.heap.size) (hl : (n + 1) * bytes ≤ 140737488355328)
    (h : ∀ v1 w1, w1.ownsRow base e size v1 (n + 1) (xs ++ ys) → W.grownBy w1 v.ownBlock → (v1.ownBlock = v.ownBlock ∨ v1.ownBlock = some W.heap.size) → (v1 = .slice none 0 0 → False) → wpListIn F nF P ops Q rest (a.put o.dst v1) w1) : wpListIn F nF P ops Q (o :: rest) a W := by
  obtain ⟨v1, w1, hr, h2, h3, h4, h5⟩ := append_one (ty := o.type) ht hinfo hz hs0 hb0 hg hys h1 HO hbase hl
  exact stepI_val hF (by rw [ho]; intro c e; cases e) hgd (exec_append ho hs hx hr) (h v1 w1 h2 h3 h4 h5)

/-- An owned row while other blocks turn. -/
theorem own_ext {w w' : World} {base : Nat} {e : TypeId} {size n : Nat} {v : Value} {xs : List Value} {S : Nat → Prop} (h : w.ownsRow base e size v n xs) (hx : Ext S w w') (hn : ∀ k, v.ownBlock = some k → ¬ S k) : w'.ownsRow base e size v n xs :=
  own_move h (fun k hk => hx.block k (own_lt h k hk) (hn k hk))
theorem own_keep {w w' : World} {base : Nat} {e : TypeId} {size n : Nat} {v : Value} {xs : List Value} {B : Nat} (h : w.ownsRow base e size v n xs) (hx : KeepData B w w') : w'.ownsRow base e size v n xs :=
  own_move h (fun k hk => by obtain ⟨cells, hc⟩ := own_typed h k hk; rw [hc]; exact hx.cells hc)
/-- What it reads as. -/
theorem own_C {α : Type} {d : Kd α} {enc : α → List Value} (hlen : ∀ x, (enc x).length = d.sz) (hK : ∀ (w : World) x, d.K w x (enc x)) {w : World} {base n : Nat} {e : TypeId} {v : Value} {l : List α} (h : w.ownsRow base e d.sz v n (l.map enc).flatten) (hn : l.length = n) :
    ∃ A c, v = .slice A n c ∧ d.C w A n l := by
  refine own_reads_row h ⟨?_, fun j p hj => ?_⟩ hn
  · clear h hn
    induction l with
    | nil => simp
    | cons x l ih => simp only [List.map_cons, List.flatten_cons, List.length_append, hlen, ih, List.length_cons]; rw [Nat.add_mul]; omega
  · have : ((l.map enc).flatten.drop (j * d.sz)).take d.sz = enc p := by
      clear h hn
      induction l generalizing j with
      | nil => simp at hj
      | cons x l ih =>
        simp only [List.map_cons, List.flatten_cons]
        cases j with
        | zero => simp at hj; subst hj; rw [Nat.zero_mul, List.drop_zero, ← hlen x, List.take_left]
        | succ j =>
          have e1 : (j + 1) * d.sz = (enc x).length + j * d.sz := by rw [hlen, Nat.add_mul]; omega
          rw [e1, List.drop_append, List.drop_eq_nil_of_le (by omega), List.nil_append, Nat.add_sub_cancel_left]
          exact ih j (by simpa using hj)
    rw [this]; exact hK w p
end Go.Proofs.Ytgccjmjengfhbaa
end
section
/-! A row of one's own, sorted by slices.SortFunc (elements of one cell). -/
namespace Go.Proofs.Ytgccjmjengfhbaa
open Go.RowKit Go.Sort Go.Proofs
section
variable {α : Type} [Inhabited α] (enc : α → Value)
theorem holds_row {w : World} {g : Nat} {cur : Array Value} {e : TypeId} {ss : List α} (hb : w.heap[g]? = some (.cells cur e (0, 0))) (ht : cur.toList.take ss.length = ss.map enc) : Holds enc w g 0 ss.toArray := by
  intro j hj
  have hj' : j < ss.length := by simpa using hj
  refine ⟨?_, by simp [World.frozen?, hb]⟩
  have h1 : (cur.toList.take ss.length)[j]? = (ss.map enc)[j]? := by rw [ht]
  rw [List.getElem?_take_of_lt hj'] at h1
  simp only [World.cell?, hb, Nat.zero_add]
  simp only [Option.isSome_none, Bool.false_eq_true, if_false]
  rw [← Array.getElem?_toList, h1]
  simp [hj']
theorem heap_row {w : World} {g n : Nat} {os : Array Obj} {cur : Array Value} {e : TypeId} {fr : Nat × Nat} (d : Array α) (hb : w.heap[g]? = some (.cells cur e fr)) :
    (sortWorld enc w g 0 n d os).heap[g]? = some (.cells (putCells enc 0 d cur) e fr) := by
  have hg : g < w.heap.size := (Array.getElem?_eq_some_iff.1 hb).1
  unfold sortWorld
  rw [heap_grow_old _ _ (by simpa using hg)]
  simp [putRow, mapBlock, Sort.ahead, Array.getElem?_modify, hb, onCells]
theorem ext_row {w : World} {g n : Nat} {os : Array Obj} (d : Array α) : Ext (fun k => k = g) w (sortWorld enc w g 0 n d os) := by
  unfold sortWorld
  refine ⟨rfl, rfl, rfl, by simp, fun k hk hne => ?_⟩
  rw [heap_grow_old _ _ (by simpa using hk)]
  have : g ≠ k := fun e => hne e.symm
  simp [putRow, mapBlock, Sort.ahead, Array.getElem?_modify, this]
theorem take_row (cur : Array Value) (ts : List α) (h : ts.length ≤ cur.size) : (putCells enc 0 ts.toArray cur).toList.take ts.length = ts.map enc := by
  apply List.ext_getElem?
  intro j
  by_cases hj : j < ts.length
  · rw [List.getElem?_take_of_lt hj, Array.getElem?_toList]
    simp [putCells, hj, show j < cur.size by omega]
  · rw [List.getElem?_take_eq_none (by omega), List.getElem?_eq_none (by simp; omega)]
theorem own_sorted {w : World} {base g cap n m : Nat} {e : TypeId} {os : Array Obj} {cur : Array Value} {ts : List α} (hl : ts.length = m) (hbase : base ≤ g) (hb : w.heap[g]? = some (.cells cur e (0, 0)))
    (h1 : m ≤ cap) (h2 : cap ≤ maxLen) (h3 : cur.size = cap * 1) :
    (sortWorld enc w g 0 n ts.toArray os).ownsRow base e 1 (.slice (some ⟨g, 0, none⟩) m cap) m (ts.map enc) :=
  ⟨by simp [hl], .inr ⟨g, cap, _, rfl, hbase, heap_row enc _ hb, h1, h2, by simp [putCells, h3], by rw [Nat.mul_one, ← hl]; exact take_row enc cur ts (by omega)⟩⟩

/-- slices.SortFunc on a row of one's own. -/
theorem sortFunc_own {P : Program} {ρ : Go.Shelf.Ren} (L : SlLaysF.n6 P ρ) (h1 : OneCell enc) (cf : α → α → Int) (hO : SWO (ltOf cf)) (g : Nat) (base : Nat) (e : TypeId) (v : Value) (ks : List α) (w : World)
    (eg : ∀ args w, (callFunc g args).run P w = .ok (.enter g args) w) (hcmp : ∀ x y W, Calls P g #[enc x, enc y] W fun e w' => e = .returned (.int .i64 (cf x y)) ∧ w' = W)
    (HO : w.ownsRow base e 1 v ks.length (ks.map enc)) (hlen : ks.length < 4611686018427387904) :
    Calls P (ρ.f 6) #[v, .func (.func g) #[] #[]] w fun e1 w' => e1 = .returned (.tuple #[]) ∧ ∃ ks' : List α, ks'.Perm ks ∧ SortedIn (ltOf cf) 0 ks'.length ks'.toArray ∧ w'.ownsRow base e 1 v ks'.length (ks'.map enc) ∧ Ext (fun k => v.ownBlock = some k) w w' := by
  rcases HO.2 with ⟨rfl, h0⟩ | ⟨b, cap, cur, rfl, hb, hc, hn, hcap, hsz, ht⟩
  · refine (AnyF.slices_SortFunc_none { L with } none 0 _ w).mono ?_
    rintro e1 w' ⟨rfl, rfl⟩
    obtain rfl : ks = [] := by simpa using h0
    exact ⟨rfl, [], List.Perm.refl _, fun i j _ _ hj => by simp at hj, HO, Ext.refl _ _⟩
  · rw [Nat.mul_one] at ht
    have hH := holds_row enc hc ht
    have hk : b < w.heap.size := (Array.getElem?_eq_some_iff.1 hc).1
    have hC : CmpReads P g #[] enc cf b 0 ks.toArray.size w := fun m os dk _ x y => (hcmp x y _).mono fun _ _ ⟨he, hw⟩ => ⟨he, 0, hw⟩
    have H := Any.slices_SortFunc L enc h1 cf hO g #[] b 0 cap ks.toArray w eg hC.lays hH hk (by simpa using hlen)
    rw [show ks.toArray.size = ks.length by simp] at H
    refine H.mono ?_
    rintro e1 w' ⟨rfl, d', n, os, hp, hs, rfl⟩
    have hp3 := hp.2.2
    have hps := hp.1
    simp at hps
    have hpp : d'.toList.Perm ks := by
      have e1 : d'.extract 0 ks.length = d' := by rw [← hps]; simp
      have e2 : ks.toArray.extract 0 ks.length = ks.toArray := by simp
      rw [e1, e2] at hp3; simpa using hp3
    refine ⟨rfl, d'.toList, hpp, by simpa [hps] using hs, ?_, ext_row enc d' |>.mono (fun k _ h => by subst h; rfl)⟩
    have hl := hpp.length_eq
    rw [hl]
    simpa using own_sorted enc (ts := d'.toList) (n := n) (os := os) hl hb hc hn hcap hsz
end
end Go.Proofs.Ytgccjmjengfhbaa
end
section
/-! The CRC-64 of the program's digest: eight rounds a byte; its table. -/
namespace Go.Proofs.Ytgccjmjengfhbaa

def turn : Nat := 14514072000185962306
theorem turn_lt : turn < 2 ^ 64 := by decide
def rnd (s : Nat) : Nat := if s % 2 = 1 then s / 2 ^^^ turn else s / 2
def rnds : Nat → Nat → Nat
  | 0, s => s
  | k + 1, s => rnd (rnds k s)
theorem rnd_lt {s : Nat} (h : s < 2 ^ 64) : rnd s < 2 ^ 64 := by
  unfold rnd
  split
  · exact Nat.xor_lt_two_pow (by omega) turn_lt
  · omega
theorem rnds_lt (k : Nat) {s : Nat} (h : s < 2 ^ 64) : rnds k s < 2 ^ 64 := by
  induction k with
  | zero => exact h
  | succ k ih => exact rnd_lt ih
theorem rnd_xor (a b : Nat) : rnd (a ^^^ b) = rnd a ^^^ rnd b := by
  have hm : (a ^^^ b) % 2 = (a % 2 + b % 2) % 2 := by
    have := Nat.xor_mod_two_pow (a := a) (b := b) (n := 1)
    simp only [Nat.pow_one] at this
    rw [this]
    rcases Nat.mod_two_eq_zero_or_one a with h1 | h1 <;> rcases Nat.mod_two_eq_zero_or_one b with h2 | h2 <;> rw [h1, h2] <;> rfl
  have hd : (a ^^^ b) / 2 = a / 2 ^^^ b / 2 := by
    have := Nat.xor_div_two_pow (a := a) (b := b) (n := 1)
    simpa only [Nat.pow_one] using this
  unfold rnd
  rw [hm, hd]
  rcases Nat.mod_two_eq_zero_or_one a with h1 | h1 <;> rcases Nat.mod_two_eq_zero_or_one b with h2 | h2 <;> rw [h1, h2] <;> simp
  · rw [Nat.xor_assoc]
  · rw [Nat.xor_assoc, Nat.xor_assoc]; congr 1; exact Nat.xor_comm _ _
  · rw [show a / 2 ^^^ turn ^^^ (b / 2 ^^^ turn) = (a / 2 ^^^ b / 2) ^^^ (turn ^^^ turn) by
      rw [Nat.xor_assoc, Nat.xor_assoc]; congr 1; rw [← Nat.xor_assoc, Nat.xor_comm turn (b / 2), Nat.xor_assoc]]
    simp
theorem rnds_xor (k a b : Nat) : rnds k (a ^^^ b) = rnds k a ^^^ rnds k b := by
  induction k with
  | zero => rfl
  | succ k ih => show rnd _ = rnd _ ^^^ rnd _; rw [ih, rnd_xor]
theorem rnd_two (z : Nat) : rnd (2 * z) = z := by unfold rnd; rw [if_neg (by omega)]; omega
theorem rnds_256 (z : Nat) : rnds 8 (256 * z) = z := by
  show rnd (rnd (rnd (rnd (rnd (rnd (rnd (rnd (256 * z)))))))) = z
  rw [show 256 * z = 2 * (2 * (2 * (2 * (2 * (2 * (2 * (2 * z))))))) by omega]
  simp only [rnd_two]
theorem split_256 (x : Nat) : x = x % 256 ^^^ 256 * (x / 256) := by
  have h : 256 * (x / 256) ^^^ x % 256 = 256 * (x / 256) + x % 256 := by
    have := Nat.two_pow_add_eq_or_of_lt (i := 8) (b := x % 256) (by omega) (x / 256)
    rw [show (2 : Nat) ^ 8 = 256 from rfl] at this
    rw [this]
    apply Nat.eq_of_testBit_eq
    intro j
    rw [Nat.testBit_xor, Nat.testBit_or]
    rw [show (256 : Nat) = 2 ^ 8 from rfl, Nat.testBit_two_pow_mul, Nat.testBit_mod_two_pow]
    by_cases hj : j < 8
    · simp [hj, show ¬ 8 ≤ j by omega]
    · simp [hj]
  rw [Nat.xor_comm, h]; omega
/-- The table's step is eight rounds. -/
theorem step_eq (s c : Nat) (hc : c < 256) : rnds 8 ((s % 256) ^^^ c) ^^^ s / 256 = rnds 8 (s ^^^ c) := by
  have hx : (s ^^^ c) % 256 = s % 256 ^^^ c := by
    have := Nat.xor_mod_two_pow (a := s) (b := c) (n := 8)
    rw [show (2 : Nat) ^ 8 = 256 from rfl] at this
    rw [this, Nat.mod_eq_of_lt hc]
  have hd : (s ^^^ c) / 256 = s / 256 := by
    have := Nat.xor_div_two_pow (a := s) (b := c) (n := 8)
    rw [show (2 : Nat) ^ 8 = 256 from rfl] at this
    rw [this, Nat.div_eq_of_lt hc]; simp
  conv => rhs; rw [split_256 (s ^^^ c), rnds_xor, rnds_256, hx, hd]
def crcS (s : Nat) (bs : List Nat) : Nat := bs.foldl (fun s b => rnds 8 (s ^^^ b)) s
theorem crcS_snoc (s : Nat) (bs : List Nat) (b : Nat) : crcS s (bs ++ [b]) = rnds 8 (crcS s bs ^^^ b) := by simp [crcS]
theorem crcS_append (s : Nat) (xs bs : List Nat) : crcS s (xs ++ bs) = crcS (crcS s xs) bs := by simp [crcS]
theorem crcS_lt {s : Nat} (h : s < 2 ^ 64) (bs : List Nat) (hb : ∀ b ∈ bs, b < 256) : crcS s bs < 2 ^ 64 := by
  unfold crcS
  induction bs generalizing s with
  | nil => exact h
  | cons b bs ih =>
    rw [List.foldl_cons]
    exact ih (rnds_lt 8 (Nat.xor_lt_two_pow h (by have := hb b (by simp); omega))) (fun x hx => hb x (by simp [hx]))
def full : Nat := 18446744073709551615
def crc (bs : List Nat) : Nat := full ^^^ crcS full bs
end Go.Proofs.Ytgccjmjengfhbaa
end
section
namespace Go.Proofs.Ytgccjmjengfhbaa
open Go.ChangeShapes Go.WideShapes Go.ChangeAt Go.RowKit
/-- The post of a call that lets all that was there lie as it lay (no 'again'). -/
theorem post_below {H : Type} {enc : TypeId × Value → H} {P : Program} {f : Func} {s : ChangeSpec} {apart fresh handsOn : Bool} {W W' : World} {args : Array Value} {v : Value} {ds gs : List (DataW H)} {before pa pv : List MemPlace}
    (hW : DataW.Whole enc P f.params.toList s.vars apart W args.toList ds gs before)
    (hres : ∀ (b : Nat) (sp : Nat → Bool) (hd : Bool), DataW.TrodAll enc P W' b sp hd f.resultTypes.toList (v.resultList f.resultTypes.size) (s.fn H (ds ++ gs)).results [])
    (hargs : ∀ sp : Nat → Bool, (∀ p ∈ before, sp p.block = true) → DataW.TrodAll enc P W' 0 sp true f.params.toList args.toList (s.fn H (ds ++ gs)).args pa)
    (hvars : ∀ sp : Nat → Bool, (∀ p ∈ before, sp p.block = true) → DataW.TrodVars enc P W' sp s.vars (s.fn H (ds ++ gs)).vars pv)
    (hps : before = pa ++ pv) (hk : W.keptBut W' (· ∈ before)) :
    s.post enc P f apart fresh handsOn false W args v W' := by
  have hold : ∀ p ∈ before, (fun b => decide (b < W.heap.size)) p.block = true := fun p hp => by simpa using hW.lt p hp
  refine ⟨ds, gs, before, [], pa, pv, hW, hres _ _ _, hargs _ hold, hvars _ hold, World.keptBut_mono (fun p hp => ⟨hp, ?_⟩) hk, fun h => by cases h⟩
  rw [hps, List.mem_append] at hp
  exact Or.inr hp
end Go.Proofs.Ytgccjmjengfhbaa
end
