/- Part of the proofs over 'linesman/memory': lemmas and walks. Written by merge.py from the templates of the repo. -/
import Derived.Test.YtgccjmjengfhbaaMemoryD
set_option linter.unusedVariables false
set_option linter.unusedSimpArgs false
section
namespace Go.Proofs.Ytgccjmjengfhbaa
open Go.RowKit
variable {F : Fence} {n : Nat} {P : Program}
/-- wp_rfD's plain form: the assignment leaves the world alone. -/
theorem wp_rfDp {α : Type} {g : Operand} {ps : Array Tmp} {assign body : Code} {Q : Exit → Act → World → Prop} {a : Act} {w : World}
    (hro : F.round = none) (h1 : 1 ≤ n) {gf : Nat} {lb : Array Value} (hg : a.eval g = .func (.func gf) #[] lb) (hFg : F.fn gf) (eg : ∀ args w, (callFunc gf args).run P w = .ok (.enter gf args) w)
    {encs : α → Array Value} {S : List α → Prop} {Ok : List α → α → Prop} {Fp : Nat → Prop} {d : Nat} (hit : IterD F (n - 1) P gf lb encs S Ok Fp d w) (hFp : ∀ k, Fp k → ∃ o, w.heap[k]? = some o ∧ isBook o = false) (hps : ∀ x, (encs x).size = ps.size)
    (I : List α → World → Prop) (Ix : Code → List α → World → Prop) (hI : Stable w.heap.size I) (hIx : ∀ c, Stable w.heap.size (Ix c)) (h0 : I [] w) (asg : α → Act)
    (hassign : ∀ (l : Nat) (pre : List α) (x : α) (W : World) (K : Act → World → Prop), Ok pre x → K (asg x) W →
      assign.wpIn (F.inRound l) (n - 1 - 1) P (Exit.then K (fun _ _ _ => False)) { tmps := (ps.zip (encs x)).foldl (fun t (p, v) => t.setIfInBounds p v) a.tmps, defers := [] } W)
    (hbody : ∀ (l : Nat) (pre : List α) (x : α) (W : World), Ok pre x → w.heap.size ≤ l → (∃ r, W.heap[l]? = some (.loop r)) → I pre W → (∀ k, Fp k → W.heap[k]? = w.heap[k]?) → w.heap.size + 2 + d ≤ W.heap.size →
      body.wpIn (F.inRound l) (n - 1 - 1) P (rPost w.heap.size (Priv Fp (w.heap.size + 2) d) I Ix (pre ++ [x]) W) (asg x) W)
    (hdone : ∀ (D : Nat) (xs : List α) (W : World), w.heap.size ≤ D → S xs → I xs W → W.heap[D]? = some (.deferred (some [])) → Q .normal { a with defers := { target := .collected D, args := #[] } :: a.defers } W)
    (hstop : ∀ (D : Nat) (c : Code) (pre : List α) (x : α) (W : World), Ok pre x → w.heap.size ≤ D → Ix c (pre ++ [x]) W → W.heap[D]? = some (.deferred (some [])) → c.wpIn F n P Q { a with defers := { target := .collected D, args := #[] } :: a.defers } W) :
    (Code.rangeFunc g ps assign body).wpIn F n P Q a w :=
  wp_rfD hro h1 hg hFg eg hit hFp hps I Ix hI hIx h0 (fun x a' _ => a' = asg x) (fun x s W W' h _ => h)
    (fun l pre x W K e hi _ _ hK => hassign l pre x W K e (hK _ _ (YKeep.refl _ _ _) hi rfl))
    (fun l pre x a' W e hl hr hi ha hf hs => by subst ha; exact hbody l pre x W e hl hr hi hf hs) hdone hstop

/-- wp_rfDp within a block: all that leaves the range early leaves to that block's end; both ways go on from 'Fin'. -/
theorem wp_rfDq {α : Type} {id : Nat} {g : Operand} {ps : Array Tmp} {assign body : Code} {Q : Exit → Act → World → Prop} {a : Act} {w : World}
    (hro : F.round = none) (h1 : 1 ≤ n) {gf : Nat} {lb : Array Value} (hg : a.eval g = .func (.func gf) #[] lb) (hFg : F.fn gf) (eg : ∀ args w, (callFunc gf args).run P w = .ok (.enter gf args) w)
    {encs : α → Array Value} {S : List α → Prop} {Ok : List α → α → Prop} {Fp : Nat → Prop} {d : Nat} (hit : IterD F (n - 1) P gf lb encs S Ok Fp d w) (hFp : ∀ k, Fp k → ∃ o, w.heap[k]? = some o ∧ isBook o = false) (hps : ∀ x, (encs x).size = ps.size)
    (I Ix : List α → World → Prop) (Fin : World → Prop) (hI : Stable w.heap.size I) (hIx : Stable w.heap.size Ix) (h0 : I [] w) (hF1 : ∀ xs W, S xs → I xs W → Fin W) (hF2 : ∀ pre x W, Ok pre x → Ix (pre ++ [x]) W → Fin W) (asg : α → Act)
    (hassign : ∀ (l : Nat) (pre : List α) (x : α) (W : World) (K : Act → World → Prop), Ok pre x → K (asg x) W →
      assign.wpIn (F.inRound l) (n - 1 - 1) P (Exit.then K (fun _ _ _ => False)) { tmps := (ps.zip (encs x)).foldl (fun t (p, v) => t.setIfInBounds p v) a.tmps, defers := [] } W)
    (hbody : ∀ (l : Nat) (pre : List α) (x : α) (W : World), Ok pre x → w.heap.size ≤ l → (∃ r, W.heap[l]? = some (.loop r)) → I pre W → (∀ k, Fp k → W.heap[k]? = w.heap[k]?) → w.heap.size + 2 + d ≤ W.heap.size →
      body.wpIn (F.inRound l) (n - 1 - 1) P (rPost w.heap.size (Priv Fp (w.heap.size + 2) d) I (fun c s W => c = .exit id ∧ Ix s W) (pre ++ [x]) W) (asg x) W)
    (hfin : ∀ (D : Nat) (W : World), w.heap.size ≤ D → Fin W → W.heap[D]? = some (.deferred (some [])) → Q .normal { a with defers := { target := .collected D, args := #[] } :: a.defers } W) :
    (Code.rangeFunc g ps assign body).wpIn F n P (Exit.inBlock id Q) a w :=
  wp_rfDp hro h1 hg hFg eg hit hFp hps I (fun c s W => c = .exit id ∧ Ix s W) hI (fun c s A B h hk => ⟨h.1, hIx s A B h.2 hk⟩) h0 asg hassign hbody
    (fun D xs W hD hS hi hd => hfin D W hD (hF1 xs W hS hi) hd)
    (fun D c pre x W hok hD ⟨hc, hi⟩ hd => by
      subst hc
      refine wpIn_exit ?_
      show Exit.inBlock id Q (.exit id) _ _
      unfold Exit.inBlock
      simp only [if_true]
      exact hfin D W hD (hF2 pre x W hok hi) hd)
end Go.Proofs.Ytgccjmjengfhbaa
end
section
namespace Go.Proofs.Ytgccjmjengfhbaa
open Go.RowKit
/-- The end of a function that held two ranges over functions: one result. -/
theorem marksPost2 {F : Fence} {n : Nat} {P : Program} {fn : Func} {R : Ending → World → Prop} {a : Act} {w : World} {D1 D2 : Nat} {v : Value} (hd : a.defers = [{ target := .collected D2, args := #[] }, { target := .collected D1, args := #[] }]) (hne : D1 ≠ D2)
    (hK2 : w.heap[D2]? = some (.deferred (some []))) (hK1 : w.heap[D1]? = some (.deferred (some [])))
    (hr : (results fn a.tmps).run P ((w.putObj D2 (.deferred none)).putObj D1 (.deferred none)) = .ok v ((w.putObj D2 (.deferred none)).putObj D1 (.deferred none))) (hR : R (.returned v) ((w.putObj D2 (.deferred none)).putObj D1 (.deferred none))) :
    bodyPostM F n P fn R .ret a w := by
  show LeavesInM F n P fn a.tmps R a.defers .returning w
  rw [hd]
  have hK1' : (w.putObj D2 (.deferred none)).heap[D1]? = some (.deferred (some [])) := (World.putObj_heap_other hne).trans hK1
  exact ⟨by simp, .inl ⟨_, _, rfl, run_takeDeferred hK2, ⟨by simp, .inl ⟨_, _, rfl, run_takeDeferred hK1', ⟨_, hr, hR⟩⟩⟩⟩⟩
end Go.Proofs.Ytgccjmjengfhbaa
end
