/- Part of the proofs over 'linesman/memory': lemmas and walks. Written by merge.py from the templates of the repo. -/
import Derived.Test.YtgccjmjengfhbaaMemoryA
import Derived.Test.YtgccjmjengfhbaaKitA
import Derived.Deep.RegionWith
import Derived.Deep.DrawnRows
set_option linter.unusedVariables false
set_option linter.unusedSimpArgs false
section
set_option maxRecDepth 100000
namespace Go.Proofs.Ytgccjmjengfhbaa
open Go.RowKit Go.Shelf Go.Proofs Go.Proofs.YtgccjmjengfhbaaW.PrintWords

/-- A slice of bytes. -/
def BytesAt (w : World) (A : Option Addr) (bs : List Nat) : Prop := ∀ j (h : j < bs.length), ∃ g, A = some ⟨g, 0, none⟩ ∧ w.cell? ⟨g, j, none⟩ = some (.int .u8 ((bs[j] : Nat) : Int))

theorem step_any (s c : Nat) (tb : Nat) (w : World) (hs : s < 2 ^ 64) (hc : c < 256) (hT : ∀ i, i < 256 → w.cell? ⟨tb, i, none⟩ = some (.int .u64 ((rnds 8 i : Nat) : Int))) :
    Calls Try.prog 55 #[.pointer (some ⟨tb, 0, none⟩), .int .u64 (s : Int), .int .u8 (c : Int)] w fun e w' => e = .returned (.int .u64 ((rnds 8 (s ^^^ c) : Nat) : Int)) ∧ w' = w := by
  have hx : bits .xor .u8 ((s : Int) % 256) (c : Int) = ((s % 256 ^^^ c : Nat) : Int) := u8_xor_nat (s % 256) c (by omega) hc
  have hlt : s % 256 ^^^ c < 256 := Nat.xor_lt_two_pow (n := 8) (by omega) hc
  have hcell := hT _ hlt
  clear hT
  have hy : bits .xor .u64 ((rnds 8 (s % 256 ^^^ c) : Nat) : Int) ((s : Int) / 256) = ((rnds 8 (s % 256 ^^^ c) ^^^ s / 256 : Nat) : Int) := u64_xor_nat (rnds 8 (s % 256 ^^^ c)) (s / 256) (rnds_lt 8 (by omega)) (by omega)
  rw [step_eq s c hc] at hy
  have hlt2 : rnds 8 (s % 256 ^^^ c) < 18446744073709551616 := rnds_lt 8 (by omega)
  generalize rnds 8 (s ^^^ c) = r at hy ⊢
  generalize rnds 8 (s % 256 ^^^ c) = y at hcell hy hlt2
  generalize s % 256 ^^^ c = i at hx hlt hcell
  go_enter Try.func55, Try.ntmps55
  go_wp2
  go_ret
  exact ⟨by rw [← hy]; rfl, rfl⟩
set_option maxHeartbeats 1000000 in
theorem of_any (A : Option Addr) (cap : Nat) (bs : List Nat) (w : World) (hB : BytesAt w A bs) (hok : ∀ b ∈ bs, b < 256) (hlen : bs.length ≤ 1073741824) :
    Calls Try.prog 25 #[.slice A bs.length cap] w fun e w' => e = .returned (.int .u64 ((crc bs : Nat) : Int)) ∧ w' = w := by
  go_enter Try.func25, Try.ntmps25
  go_wp2
  go_loopw [3, 4] (fun s i wr => ∃ k : Nat, k ≤ bs.length ∧ s = .int .u64 ((crcS full (bs.take k) : Nat) : Int) ∧ i = .int .i64 k ∧ wr = w) (fun _ i _ => bs.length - (intOf i).toNat)
  case atStart => exact ⟨0, by omega, by simp [crcS, full], rfl, rfl⟩
  case round =>
    obtain ⟨k, hk, rfl, rfl, rfl⟩ := hrel
    by_cases hlt : k < bs.length
    · obtain ⟨g, rfl, hc⟩ := hB k hlt
      have hb := hok _ (List.getElem_mem hlt)
      have htk : crcS full (bs.take (k + 1)) = rnds 8 (crcS full (bs.take k) ^^^ bs[k]) := by rw [take_last bs k hlt, crcS_snoc]
      have hs := crcS_lt (s := full) (by decide) (bs.take k) (fun b hb => hok b (List.mem_of_mem_take hb))
      have hx := u64_xor_nat (crcS full (bs.take k)) bs[k] hs (by omega)
      have hxl : crcS full (bs.take k) ^^^ bs[k] < 2 ^ 64 := Nat.xor_lt_two_pow hs (by omega)
      have HT := Lib.hid htk
      clear htk
      generalize crcS full (bs.take k) ^^^ bs[k] = x at HT hx hxl
      generalize crcS full (bs.take k) = s at hs hx ⊢
      generalize bs[k] = b at hb hc hx HT
      go_wp2
      go_loopw [3, 5] (fun s i w2 => ∃ j : Nat, j ≤ 8 ∧ s = .int .u64 ((rnds j x : Nat) : Int) ∧ i = .int .i64 j ∧ w2 = wr) (fun _ i _ => 8 - (intOf i).toNat)
      case atStart => exact ⟨0, by omega, by simp [rnds, hx], rfl, rfl⟩
      case round =>
        obtain ⟨j, hj, rfl, rfl, rfl⟩ := hrel
        by_cases hj8 : j < 8
        · have hl := rnds_lt j hxl
          have hr : rnds (j + 1) x = rnd (rnds j x) := rfl
          have HR := Lib.hid hr
          clear hr
          generalize rnds j x = y at hl HR ⊢
          by_cases hy2 : y % 2 = 1
          · have hz : bits .xor .u64 ((y : Int) / 2) 14514072000185962306 = ((rnd y : Nat) : Int) := by
              unfold rnd; rw [if_pos hy2]; exact u64_xor_nat (y / 2) turn (by omega) turn_lt
            go_wp2
            go_roundw
            case rel => exact ⟨j + 1, by omega, by rw [HR.out, ← hz], by go_num, trivial⟩
            case measure => simp [intOf]; omega
          · have hz : ((rnd y : Nat) : Int) = (y : Int) / 2 := by unfold rnd; rw [if_neg hy2]; rfl
            go_wp2
            go_roundw
            case rel => exact ⟨j + 1, by omega, by rw [HR.out, hz], by go_num, trivial⟩
            case measure => simp [intOf]; omega
        · obtain rfl : j = 8 := by omega
          go_wp2
          go_roundw
          case rel => exact ⟨k + 1, by omega, by rw [HT.out], by go_num, trivial⟩
          case measure => simp [intOf]; omega
    · obtain rfl : k = bs.length := by omega
      rw [List.take_length]
      have hl := crcS_lt (s := full) (by decide) bs hok
      have hz : bits .xor .u64 IntKind.u64.max ((crcS full bs : Nat) : Int) = ((crc bs : Nat) : Int) := by
        rw [show IntKind.u64.max = ((full : Nat) : Int) by decide]; exact u64_xor_nat full (crcS full bs) (by decide) hl
      generalize crcS full bs = s at hl hz ⊢
      go_wp2
      go_ret
      exact ⟨by rw [← hz]; rfl, rfl⟩
end Go.Proofs.Ytgccjmjengfhbaa
end
section
set_option maxRecDepth 100000
namespace Go.Proofs.Ytgccjmjengfhbaa
open Go.RowKit Go.Shelf Go.Proofs Go.Proofs.YtgccjmjengfhbaaW.PrintWords

theorem blk_put {w : World} {b : Nat} {cs : Array Value} {t : TypeId} {fr : Nat × Nat} (h : w.heap[b]? = some (.cells cs t fr)) (i : Nat) (x : Value) :
    (w.setCell ⟨b, i, none⟩ x).heap[b]? = some (.cells (cs.setIfInBounds i x) t fr) := by
  simp [World.setCell, Array.getElem?_modify, h]
/-- The table's first k entries. -/
def TabAt (cs : Array Value) (k : Nat) : Prop := ∀ i, i < k → cs[i]? = some (.int .u64 ((rnds 8 i : Nat) : Int))
def U64s (cs : Array Value) : Prop := ∀ i, i < 256 → ∃ x : Int, cs[i]? = some (.int .u64 x)

set_option maxHeartbeats 1000000 in
theorem fill_any (db : Nat) (cs : Array Value) (w : World) (hb : w.heap[db]? = some (.cells cs 81 (0, 0))) (hsz : cs.size = 259) (hU : U64s cs) :
    Calls Try.prog 43 #[.pointer (some ⟨db, 0, none⟩)] w fun e w' => e = .returned (.tuple #[]) ∧ ∃ cs', w'.heap[db]? = some (.cells cs' 81 (0, 0)) ∧ cs'.size = 259 ∧ TabAt cs' 256 ∧ (∀ i, 256 ≤ i → cs'[i]? = cs[i]?) ∧ Ext (fun k => k = db) w w' := by
  go_enter Try.func43, Try.ntmps43
  go_wp2
  go_loopw [5] (fun i wr => ∃ k : Nat, k ≤ 256 ∧ i = .int .i64 k ∧ ∃ cs', wr.heap[db]? = some (.cells cs' 81 (0, 0)) ∧ cs'.size = 259 ∧ U64s cs' ∧ TabAt cs' k ∧ (∀ i, 256 ≤ i → cs'[i]? = cs[i]?) ∧ Ext (fun k => k = db) w wr) (fun i _ => 256 - (intOf i).toNat)
  case atStart => exact ⟨0, by omega, rfl, cs, hb, hsz, hU, fun i h => by omega, fun _ _ => rfl, Ext.refl _ _⟩
  case round =>
    obtain ⟨k, hk, rfl, cs', h1, h2, h3, h4, h5, h6⟩ := hrel
    have H1 := Lib.hid h1; have H2 := Lib.hid h2; have H3 := Lib.hid h3; have H4 := Lib.hid h4; have H5 := Lib.hid h5; have H6 := Lib.hid h6
    clear h1 h2 h3 h4 h5 h6
    by_cases hk2 : k < 256
    · obtain ⟨x0, hx0⟩ := H3.out k hk2
      have hcell := (cell_of_row wr db k _ _ _ H1.out).trans hx0
      have hfr := frozenPage H1.out k
      clear hx0
      obtain ⟨wo, rfl⟩ : ∃ wo : World, wo = wr := ⟨_, rfl⟩
      go_wp2
      go_loopw [3, 10] (fun s i w2 => ∃ j : Nat, j ≤ 8 ∧ s = .int .u64 ((rnds j k : Nat) : Int) ∧ i = .int .i64 j ∧ w2 = wo) (fun _ i _ => 8 - (intOf i).toNat)
      case atStart => exact ⟨0, by omega, rfl, rfl, rfl⟩
      case round =>
        obtain ⟨j, hj, rfl, rfl, rfl⟩ := hrel
        by_cases hj8 : j < 8
        · have hl := rnds_lt j (s := k) (by omega)
          have hr : rnds (j + 1) k = rnd (rnds j k) := rfl
          have HR := Lib.hid hr
          clear hr
          generalize rnds j k = y at hl HR ⊢
          have hand : bits .and .u64 (y : Int) 1 = ((y % 2 : Nat) : Int) := by
            rw [show (1 : Int) = ((1 : Nat) : Int) from rfl, u64_and_nat y 1 hl (by decide), Nat.and_one_is_mod]
          rcases Nat.mod_two_eq_zero_or_one y with hy2 | hy2
          · rw [hy2] at hand
            have hz : ((rnd y : Nat) : Int) = (y : Int) / 2 := by unfold rnd; rw [if_neg (by omega)]; rfl
            go_wp2
            go_roundw
            case rel => exact ⟨j + 1, by omega, by rw [HR.out, hz], by go_num, trivial⟩
            case measure => simp [intOf]; omega
          · rw [hy2] at hand
            have hz : bits .xor .u64 ((y : Int) / 2) 14514072000185962306 = ((rnd y : Nat) : Int) := by
              unfold rnd; rw [if_pos hy2]; exact u64_xor_nat (y / 2) turn (by omega) turn_lt
            go_wp2
            go_roundw
            case rel => exact ⟨j + 1, by omega, by rw [HR.out, ← hz], by go_num, trivial⟩
            case measure => simp [intOf]; omega
        · obtain rfl : j = 8 := by omega
          go_wp2
          go_roundw
          case rel =>
            have hlt : k < cs'.size := by have := H2.out; omega
            refine ⟨k + 1, by omega, by go_num, _, blk_put H1.out k _, by simp [H2.out], ?_, ?_, ?_, H6.out.setCell _ _ (.inl rfl)⟩
            · intro i hi
              rw [Array.getElem?_setIfInBounds]
              split
              · exact ⟨_, rfl⟩
              · exact H3.out i hi
            · intro i hi
              rw [Array.getElem?_setIfInBounds]
              split
              · rename_i e; subst e; rfl
              · exact H4.out i (by omega)
            · intro i hi
              rw [Array.getElem?_setIfInBounds, if_neg (by omega)]
              exact H5.out i hi
          case measure => simp [intOf]; omega
    · obtain rfl : k = 256 := by omega
      go_wp2
      go_end0
      exact ⟨rfl, cs', H1.out, H2.out, H4.out, H5.out, H6.out⟩
/-- A digest under way: its sum is s; so many bytes were written. -/
def DigAt (w : World) (db : Nat) (s : Nat) (many : Int) : Prop := ∃ cs, w.heap[db]? = some (.cells cs 81 (0, 0)) ∧ cs.size = 259 ∧ TabAt cs 256 ∧ cs[256]? = some (.int .u64 (s : Int)) ∧ cs[257]? = some (.int .i64 many) ∧ cs[258]? = some (.bool true)
theorem DigAt.ext {w w' : World} {db s : Nat} {m : Int} {S : Nat → Prop} (h : DigAt w db s m) (hx : Ext S w w') (hn : ¬ S db) : DigAt w' db s m := by
  obtain ⟨cs, h1, h2⟩ := h; exact ⟨cs, hx.get h1 hn, h2⟩
theorem DigAt.lt {w : World} {db s : Nat} {m : Int} (h : DigAt w db s m) : db < w.heap.size := by
  obtain ⟨cs, h1, _⟩ := h; exact (Array.getElem?_eq_some_iff.1 h1).1
theorem dnone_any (db s : Nat) (m : Int) (w : World) (h : DigAt w db s m) : Calls Try.prog 44 #[.pointer (some ⟨db, 0, none⟩)] w fun e w' => e = .returned (.bool false) ∧ w = w' := by
  obtain ⟨cs, h1, h2, _, _, _, h3⟩ := h
  have hc := (cell_of_row w db 258 _ _ _ h1).trans h3
  clear h1 h2 h3
  go_enter Try.func44, Try.ntmps44
  go_wp2
  go_ret
  exact ⟨rfl, rfl⟩
theorem sum_any (db s : Nat) (hs : s < 2 ^ 64) (m : Int) (w : World) (h : DigAt w db s m) : Calls Try.prog 34 #[.pointer (some ⟨db, 0, none⟩)] w fun e w' => e = .returned (.int .u64 ((full ^^^ s : Nat) : Int)) ∧ w = w' := by
  have hn := Lib.hid (dnone_any db s m w h)
  obtain ⟨cs, h1, h2, _, h3, _, _⟩ := h
  have hc := (cell_of_row w db 256 _ _ _ h1).trans h3
  have hz : bits .xor .u64 IntKind.u64.max (s : Int) = ((full ^^^ s : Nat) : Int) := by
    rw [show IntKind.u64.max = ((full : Nat) : Int) by decide]; exact u64_xor_nat full s (by decide) hs
  clear h1 h2 h3
  go_enter Try.func34, Try.ntmps34
  go_wp2_with (go_at_call 44; refine hn.out.mono ?_; rintro e w' ⟨rfl, rfl⟩)
  go_ret
  exact ⟨by rw [← hz]; rfl, rfl⟩
def cs0 : Array Value := Array.replicate 256 (.int .u64 0) ++ #[.int .u64 18446744073709551615, .int .i64 0, .bool true]
theorem cs0_size : cs0.size = 259 := by decide
theorem cs0_get (i : Nat) (h : i < 256) : cs0[i]? = some (.int .u64 0) := by
  unfold cs0
  rw [Array.getElem?_append_left (by simpa using h)]
  simp [h]
theorem cs0_256 : cs0[256]? = some (.int .u64 18446744073709551615) ∧ cs0[257]? = some (.int .i64 0) ∧ cs0[258]? = some (.bool true) := by
  unfold cs0; exact ⟨rfl, rfl, rfl⟩
theorem build0 (w : World) : (Instr.build 81 #[(1, .int .u64 18446744073709551615), (3, .bool true)]).run Try.prog w = .ok (.agg cs0) w := by
  kernel_rfl
attribute [irreducible] cs0
theorem dnew_any (w : World) : Calls Try.prog 31 #[] w fun e w' => ∃ db, e = .returned (.pointer (some ⟨db, 0, none⟩)) ∧ DigAt w' db full 0 ∧ w.heap.size ≤ db ∧ Below w.heap.size w w' := by
  have hb := Lib.hid (build0 w)
  go_enter Try.func31, Try.ntmps31
  go_wp2_with (first
    | ((with_reducible refine atT (N := 2) rfl ?_); refine step_build rfl rfl (by simp only [List.map_toArray, List.map_cons, List.map_nil]; rfl) hb.out ?_))
  refine (fill_any w.heap.size cs0 _ (MapKept.heap_alloc w _).1 cs0_size (fun i h => ⟨0, cs0_get i h⟩)).mono ?_
  rintro e w' ⟨rfl, cs', h1, h2, h3, h4, h5⟩
  have H1 := Lib.hid h1; have H2 := Lib.hid h2; have H3 := Lib.hid h3; have H4 := Lib.hid h4; have H5 := Lib.hid h5
  clear h1 h2 h3 h4 h5
  go_wp2
  go_ret
  refine ⟨_, rfl, ⟨cs', H1.out, H2.out, H3.out, ?_, ?_, ?_⟩, Nat.le_refl _, ?_⟩
  · rw [H4.out _ (by omega)]; exact cs0_256.1
  · rw [H4.out _ (by omega)]; exact cs0_256.2.1
  · rw [H4.out _ (by omega)]; exact cs0_256.2.2
  · exact (((Ext.refl NoB w).alloc _).trans H5.out (fun k hk e => by subst e; omega)).below
end Go.Proofs.Ytgccjmjengfhbaa
end
section
set_option maxRecDepth 100000
namespace Go.Proofs.Ytgccjmjengfhbaa
open Go.RowKit Go.Shelf Go.Proofs Go.Proofs.YtgccjmjengfhbaaW.PrintWords

/-- slices.Values over bytes. -/
theorem values_in (a : Option Addr) (len cap : Nat) (w : World) :
    Calls Try.prog 61 #[.slice a len cap] w fun e w' => e = .returned (.func (.func 65) #[] #[.pointer (some ⟨w.heap.size, 0, none⟩)]) ∧ w' = w.alloc (.cells #[.slice a len cap] 59 (0, 0)) := by
  go_enter Try.func61, Try.ntmps61
  go_wp2
  go_ret
  exact ⟨rfl, rfl⟩
def byteArgs (b : Nat) : Array Value := #[.int .u8 (b : Int)]
theorem BytesAt.keep {w w' : World} {A : Option Addr} {bs : List Nat} (h : BytesAt w A bs) (hb : ∀ ad, bs ≠ [] → A = some ad → w'.heap[ad.block]? = w.heap[ad.block]?) : BytesAt w' A bs := by
  intro j hj
  obtain ⟨g, e, hc⟩ := h j hj
  have hk := hb ⟨g, 0, none⟩ (by intro e0; subst e0; simp at hj) e
  exact ⟨g, e, by unfold World.cell? at hc ⊢; rw [show w'.heap[g]? = w.heap[g]? from hk]; exact hc⟩
theorem BytesAt.lt {w : World} {A : Option Addr} {bs : List Nat} (h : BytesAt w A bs) {ad : Addr} (hne : bs ≠ []) (e : A = some ad) : ∃ cs t fr, w.heap[ad.block]? = some (.cells cs t fr) := by
  obtain ⟨g, e', hc⟩ := h 0 (List.length_pos_iff.2 hne)
  rw [e] at e'; cases e'
  unfold World.cell? at hc
  cases hh : w.heap[g]? with
  | none => rw [hh] at hc; simp at hc
  | some o => rw [hh] at hc; cases o <;> simp only [reduceCtorEq] at hc; exact ⟨_, _, _, rfl⟩

set_option maxHeartbeats 2000000 in
theorem values_iter (n Bs : Nat) (A : Option Addr) (cap : Nat) (bs : List Nat) (w : World) (hBs : w.heap[Bs]? = some (.cells #[.slice A bs.length cap] 59 (0, 0))) (hC : BytesAt w A bs) (hok : ∀ b ∈ bs, b < 256) (hlen : bs.length ≤ 1073741824) :
    Iter FW n Try.prog 65 #[.pointer (some ⟨Bs, 0, none⟩)] byteArgs bs (sliceFp Bs A bs) w := by
  intro l J Jx W hF hsz hJ hJx hY h0
  have hlt0 : ∀ j, sliceFp Bs A bs j → j < w.heap.size := by
    rintro j (rfl | ⟨hne, ad, e, rfl⟩)
    · exact (Array.getElem?_eq_some_iff.1 hBs).1
    · obtain ⟨_, _, _, h⟩ := hC.lt hne e; exact (Array.getElem?_eq_some_iff.1 h).1
  have hcb := cell_of_row W Bs 0 _ _ _ ((hF Bs (.inl rfl)).trans hBs)
  simp only [List.getElem?_toArray, List.getElem?_cons_zero] at hcb
  have HY := Lib.hid hY; have HJ := Lib.hid hJ; have HF := Lib.hid hF; have HC := Lib.hid hC; have HL := Lib.hid hlt0; have HOK := Lib.hid hok
  clear hY hJ hJx hC hBs hF hlt0 hok
  refine callsIn_of_wp Try.func65 rfl trivial ?_ rfl
  simp only [Try.ntmps65, List.size_toArray, List.length_cons, List.length_nil, Nat.reduceAdd, Nat.reduceSub, Array.replicate_succ, Array.replicate_zero, List.push_toArray, List.append_toArray, List.nil_append, List.cons_append]
  gi_wp2
  gi_loopw [7] (fun i wr => ∃ k : Nat, k ≤ bs.length ∧ i = .int .i64 k ∧ J (bs.take k) wr ∧ (∀ j, sliceFp Bs A bs j → wr.heap[j]? = w.heap[j]?) ∧ W.heap.size ≤ wr.heap.size) (fun i _ => bs.length - (intOf i).toNat)
  case atStart => exact ⟨0, Nat.zero_le _, rfl, by simpa using h0, HF.out, Nat.le_refl _⟩
  case round =>
    obtain ⟨k, hk, rfl, hJs, hfx, hsx⟩ := hrel
    by_cases hlt : k < bs.length
    · have hCk := HC.out.keep (w' := wr) (fun ad hne e => hfx _ (.inr ⟨hne, ad, e, rfl⟩))
      obtain ⟨g, rfl, c0⟩ := hCk k hlt
      have hsp := split_at bs k hlt
      have htl := take_last bs k hlt
      have hb8 := HOK.out _ (List.getElem_mem hlt)
      obtain ⟨fn, tmps, assign, body, hy, hR⟩ := HY.out _ _ _ ⟨_, hsp⟩ hJs hfx (by omega)
      simp only [byteArgs] at hy
      have HR := Lib.hid hR; have HT := Lib.hid htl; have HS := Lib.hid hsp; have HX := Lib.hid hfx
      clear hR hsp htl hCk hJs hfx
      generalize bs[k] = b at c0 hy HR HT HS hb8
      gi_wp2
      refine ⟨fun h => (by cases h), ?_⟩
      refine HR.out.mono ?_
      rintro e W3 ⟨(⟨rfl, hJ3⟩ | ⟨rfl, hJx3⟩), hk3⟩
      · have H3 := Lib.hid hJ3; have HK3 := Lib.hid hk3
        clear hJ3 hk3
        gi_wp2
        go_roundw
        case rel =>
          refine ⟨k + 1, by omega, by go_num, by rw [HT.out]; exact H3.out, fun j hj => (HK3.out.foot j hj).trans (HX.out j hj), ?_⟩
          have := HK3.out.size; omega
        case measure => simp [intOf]; omega
      · have H3 := Lib.hid hJx3
        clear hJx3 hk3
        gi_wp2
        refine bodyPost_ret (results_none rfl _ _ _) rfl ?_
        exact ⟨⟨_, rfl⟩, .inr ⟨_, _, ⟨_, HS.out⟩, H3.out⟩⟩
    · obtain rfl : k = bs.length := by omega
      have hJ3 : J bs wr := by rw [List.take_length] at hJs; exact hJs
      have H3 := Lib.hid hJ3
      clear hJ3 hJs hfx
      gi_wp2
      go_end0
      exact ⟨⟨_, rfl⟩, .inl ⟨_, rfl, H3.out⟩⟩
end Go.Proofs.Ytgccjmjengfhbaa
end
section
set_option maxRecDepth 100000
namespace Go.Proofs.Ytgccjmjengfhbaa
open Go.RowKit Go.Shelf Go.Proofs Go.Proofs.YtgccjmjengfhbaaW.PrintWords


theorem callsIn_round {l n : Nat} {P : Program} {f : FuncId} {args : Array Value} {w : World} {R : Ending → World → Prop} (h : Calls P f args w R) : CallsIn (Fence.wide.inRound l) n P f args w R :=
  (callsIn_wide (n := n)).2 h
/-- folded: the sum over the bytes; the step reads the table at db. -/
theorem folded_any (A : Option Addr) (cap : Nat) (bs : List Nat) (s : Nat) (db : Nat) (m : Int) (w : World) (hs : s < 2 ^ 64) (hC : BytesAt w A bs) (hok : ∀ b ∈ bs, b < 256) (hlen : bs.length ≤ 1073741824) (hD : DigAt w db s m) :
    Calls Try.prog 54 #[.int .u64 (s : Int), .slice A bs.length cap, .func (.func 55) #[.pointer (some ⟨db, 0, none⟩)] #[]] w fun e w' => e = .returned (.int .u64 ((crcS s bs : Nat) : Int)) ∧ Below w.heap.size w w' := by
  refine (callsIn_wide (n := 3)).1 ?_
  refine callsIn_of_wp_marks Try.func54 rfl trivial ?_ rfl
  simp only [Try.ntmps54, List.size_toArray, List.length_cons, List.length_nil, Nat.reduceAdd, Nat.reduceSub, Array.replicate_succ, Array.replicate_zero, List.push_toArray, List.append_toArray, List.nil_append, List.cons_append]
  have HC := Lib.hid hC; have HD := Lib.hid hD; have HOK := Lib.hid hok
  clear hC hD hok
  gi_wp2_with (fail)
  have hx1 : Ext NoB w (w.alloc (.cells #[.int .u64 (s : Int)] 33 (0, 0))) := (Ext.refl _ _).alloc _
  have hb0 := heap_alloc_new w (.cells #[.int .u64 (s : Int)] 33 (0, 0))
  generalize hw1 : w.alloc (.cells #[.int .u64 (s : Int)] 33 (0, 0)) = w1 at hx1 hb0 ⊢
  have hs1 : w1.heap.size = w.heap.size + 1 := by rw [← hw1]; simp
  have hx2 : Ext NoB w1 (w1.alloc (.cells #[.func (.func 55) #[.pointer (some ⟨db, 0, none⟩)] #[]] 97 (0, 0))) := (Ext.refl _ _).alloc _
  have hb1 := heap_alloc_new w1 (.cells #[.func (.func 55) #[.pointer (some ⟨db, 0, none⟩)] #[]] 97 (0, 0))
  generalize hw2 : w1.alloc (.cells #[.func (.func 55) #[.pointer (some ⟨db, 0, none⟩)] #[]] 97 (0, 0)) = w2 at hx2 hb1 ⊢
  have hs2 : w2.heap.size = w.heap.size + 2 := by rw [← hw2]; simp; omega
  clear hw1 hw2
  refine ⟨trivial, (callsIn_wide.2 (values_in A bs.length cap w2)).mono ?_⟩
  rintro e W ⟨rfl, rfl⟩
  have hx3 : Ext NoB w2 (w2.alloc (.cells #[.slice A bs.length cap] 59 (0, 0))) := (Ext.refl _ _).alloc _
  have hb2 := heap_alloc_new w2 (.cells #[.slice A bs.length cap] 59 (0, 0))
  gi_wp2
  generalize hw3 : w2.alloc (.cells #[.slice A bs.length cap] 59 (0, 0)) = w3 at hx3 hb2 ⊢
  have hs3 : w3.heap.size = w.heap.size + 3 := by rw [← hw3]; simp; omega
  rw [hs1] at hb1
  rw [hs2] at hb2
  clear hw3
  have hxw : Ext NoB w w3 := (hx1.trans' (hx2.trans' hx3))
  have hB0 := hx3.get (hx2.get hb0 (fun s => s)) (fun s => s)
  have hB1 := hx3.get hb1 (fun s => s)
  have hC3 : BytesAt w3 A bs := HC.out.keep (fun ad hne e => hxw.block _ (by obtain ⟨_, _, _, h⟩ := HC.out.lt hne e; exact (Array.getElem?_eq_some_iff.1 h).1) (fun s => s))
  have hit := values_iter 2 (w.heap.size + 2) A cap bs w3 hb2 hC3 HOK.out hlen
  have hFp : ∀ k, sliceFp (w.heap.size + 2) A bs k → (∃ o, w3.heap[k]? = some o ∧ isBook o = false) ∧ k ≠ w.heap.size ∧ k < w3.heap.size := by
    rintro k (rfl | ⟨hne, ad, e, rfl⟩)
    · exact ⟨⟨_, hb2, rfl⟩, by omega, by omega⟩
    · obtain ⟨_, _, _, h⟩ := HC.out.lt hne e
      have hlt := (Array.getElem?_eq_some_iff.1 h).1
      exact ⟨⟨_, hxw.get h (fun s => s), rfl⟩, by omega, by omega⟩
  refine wp_rf (F := FW) (n := 3) rfl (by decide) (gf := 65) (lb := #[.pointer (some ⟨w.heap.size + 2, 0, none⟩)]) rfl trivial (enters_of Try.func65 (by kernel_rfl) rfl) hit (fun k hk => (hFp k hk).1) (fun _ => rfl)
    (fun pre W => W.heap[w.heap.size]? = some (.cells #[.int .u64 ((crcS s pre : Nat) : Int)] 33 (0, 0)) ∧ W.heap[w.heap.size + 1]? = some (.cells #[.func (.func 55) #[.pointer (some ⟨db, 0, none⟩)] #[]] 97 (0, 0)) ∧ Ext NoB w W) (fun _ _ _ => False)
    (fun s A B h hk => by obtain ⟨h1, h2, h3⟩ := h; exact ⟨hk.cells h1, hk.cells h2, hk.ext h3 (by omega)⟩) (fun _ _ _ _ h _ => h)
    ⟨hB0, hB1, hxw⟩
    (fun b => { tmps := #[.int .u64 (s : Int), .slice A bs.length cap, .func (.func 55) #[.pointer (some ⟨db, 0, none⟩)] #[], .pointer (some ⟨w.heap.size, 0, none⟩), undef, .pointer (some ⟨w.heap.size + 1, 0, none⟩), .int .u64 0, .int .u8 (b : Int), .slice A bs.length cap, .func (.func 65) #[] #[.pointer (some ⟨w.heap.size + 2, 0, none⟩)], .int .u8 (b : Int), undef, undef, undef, undef, undef], defers := [] }) ?assign ?body ?done ?stop
  case assign =>
    intro l b Wa K hK
    simp only [byteArgs]
    gi_wp2
    exact hK
  case body =>
    rintro lp pre b Wa ⟨post, hok⟩ hl hlr ⟨h1, h2, h3⟩ hfp hsz
    have hc1 := cell_of_row Wa w.heap.size 0 _ _ _ h1
    have hc2 := cell_of_row Wa (w.heap.size + 1) 0 _ _ _ h2
    simp only [List.getElem?_toArray, List.getElem?_cons_zero] at hc1 hc2
    have hb8 := HOK.out b (by rw [hok]; simp)
    have hlt := crcS_lt hs pre (fun x hx => HOK.out x (by rw [hok]; simp [hx]))
    have hD := HD.out.ext h3 (fun s => s)
    obtain ⟨cs, hd1, hd2, hd3, _⟩ := hD
    have hst := step_any (crcS s pre) b db Wa hlt hb8 (fun i hi => (cell_of_row Wa db i _ _ _ hd1).trans (hd3 i hi))
    rw [← crcS_snoc] at hst
    obtain ⟨r, hr⟩ : ∃ r, r = crcS s (pre ++ [b]) := ⟨_, rfl⟩
    rw [← hr] at hst
    have HRR := Lib.hid hr
    clear hr
    have hfr := frozenPage h1 0
    have HST := Lib.hid hst; have H1 := Lib.hid h1; have H2 := Lib.hid h2; have H3 := Lib.hid h3
    clear hst h1 h2 h3 hd1 hd2 hd3 hlr hfp hok
    gi_wp2_with (fail)
    refine ⟨trivial, (callsIn_round HST.out).mono ?_⟩
    rintro e W' ⟨rfl, rfl⟩
    gi_wp2
    have hE : Ext (fun k => k = w.heap.size) W' (W'.setCell ⟨w.heap.size, 0, none⟩ (.int .u64 (r : Int))) := (Ext.refl _ _).setCell _ _ (.inl rfl)
    refine ⟨YKeep.of_ext hE (fun k hk => ⟨by have := (hFp k hk).2.2; omega, (hFp k hk).2.1⟩) (fun k o ho e => .inl (by subst e; rw [H1.out] at ho; cases ho; rfl)), ?_, ?_, H3.out.trans hE (fun k hk e => by omega)⟩
    · have := blk_set H1.out 0 (.int .u64 (r : Int)); rw [← HRR.out]; simpa using this
    · exact hE.get H2.out (by omega)
  case done =>
    rintro D ys Wa hD rfl ⟨h1, h2, h3⟩ hK
    have hc1 := cell_of_row Wa w.heap.size 0 _ _ _ h1
    simp only [List.getElem?_toArray, List.getElem?_cons_zero] at hc1
    have H3 := Lib.hid h3; have HK := Lib.hid hK
    clear h1 h2 h3 hK
    gi_wp2
    refine marksPost rfl HK.out (results_tmp rfl _ _ _) ?_
    exact ⟨rfl, (KeepData.ext H3.out ((KeepData.refl w3.heap.size Wa).putObj _ hD HK.out rfl) (by omega)).below⟩
  case stop => exact fun _ _ _ _ _ _ _ h _ => h.elim
end Go.Proofs.Ytgccjmjengfhbaa
end
section
set_option maxRecDepth 100000
namespace Go.Proofs.Ytgccjmjengfhbaa
open Go.RowKit Go.Shelf Go.Proofs Go.Proofs.YtgccjmjengfhbaaW.PrintWords

theorem widths_any (w : World) : Calls Try.prog 59 #[] w fun e w' => e = .returned (.agg #[.int .i64 1, .int .i64 2, .int .i64 4, .int .i64 8]) ∧ Below w.heap.size w w' := by
  go_enter Try.func59, Try.ntmps59
  go_wp2
  refine bodyPost_ret (results_cell_row rfl _ _ _ _ #[.int .i64 1, .int .i64 2, .int .i64 4, .int .i64 8] (0, 0) _ rfl (MapKept.heap_alloc w _).1 Try.underlying101 rfl (by kernel_rfl)) rfl ?_
  exact ⟨rfl, ((Ext.refl NoB w).alloc _).below⟩
theorem index_any (b : Nat) (w : World) (hb : w.heap[b]? = some (.cells #[.int .i64 1, .int .i64 2, .int .i64 4, .int .i64 8] 101 (0, 0))) :
    Calls Try.prog 76 #[.slice (some ⟨b, 0, none⟩) 4 4, .int .i64 4] w fun e w' => e = .returned (.int .i64 2) ∧ w' = w := by
  have h0 := cell_of_row w b 0 _ _ _ hb
  have h1 := cell_of_row w b 1 _ _ _ hb
  have h2 := cell_of_row w b 2 _ _ _ hb
  simp only [List.getElem?_toArray, List.getElem?_cons_zero, List.getElem?_cons_succ] at h0 h1 h2
  clear hb
  go_enter Try.func76, Try.ntmps76
  go_wp2
  go_loopw [8] (fun i wr => ∃ k : Nat, k ≤ 2 ∧ i = .int .i64 k ∧ wr = w) (fun i _ => 3 - (intOf i).toNat)
  case atStart => exact ⟨0, by omega, rfl, rfl⟩
  case round =>
    obtain ⟨k, hk, rfl, rfl⟩ := hrel
    have hk3 : k = 0 ∨ k = 1 ∨ k = 2 := by omega
    rcases hk3 with rfl | rfl | rfl
    · go_wp2
      go_roundw
      case rel => exact ⟨1, by omega, rfl, trivial⟩
      case measure => simp [intOf]
    · go_wp2
      go_roundw
      case rel => exact ⟨2, by omega, rfl, trivial⟩
      case measure => simp [intOf]
    · go_wp2
      go_ret
      exact ⟨rfl, rfl⟩
theorem contains_any (b : Nat) (w : World) (hb : w.heap[b]? = some (.cells #[.int .i64 1, .int .i64 2, .int .i64 4, .int .i64 8] 101 (0, 0))) :
    Calls Try.prog 64 #[.slice (some ⟨b, 0, none⟩) 4 4, .int .i64 4] w fun e w' => e = .returned (.bool true) ∧ w' = w := by
  have H := Lib.hid (index_any b w hb)
  clear hb
  go_enter Try.func64, Try.ntmps64
  go_wp2_with (go_at_call 76; refine H.out.mono ?_; rintro e w' ⟨rfl, rfl⟩)
  go_ret
  exact ⟨rfl, rfl⟩
theorem among_any (b : Nat) (w : World) (hb : w.heap[b]? = some (.cells #[.int .i64 1, .int .i64 2, .int .i64 4, .int .i64 8] 101 (0, 0))) :
    Calls Try.prog 60 #[.int .i64 4, .slice (some ⟨b, 0, none⟩) 4 4] w fun e w' => e = .returned (.bool true) ∧ w' = w := by
  have H := Lib.hid (contains_any b w hb)
  clear hb
  go_enter Try.func60, Try.ntmps60
  go_wp2_with (go_at_call 64; refine H.out.mono ?_; rintro e w' ⟨rfl, rfl⟩)
  go_ret
  exact ⟨rfl, rfl⟩
theorem right_any (w : World) : Calls Try.prog 53 #[.int .i64 4] w fun e w' => e = .returned (.bool true) ∧ Below w.heap.size w w' := by
  go_enter Try.func53, Try.ntmps53
  go_wp2_with (first
    | (go_at_call 59; refine (widths_any w).mono ?_; rintro e w1 ⟨rfl, hb1⟩; have H1 := Lib.hid hb1; clear hb1)
    | (go_at_call 60; refine (among_any w1.heap.size _ (MapKept.heap_alloc w1 _).1).mono ?_; rintro e w' ⟨rfl, rfl⟩))
  go_ret
  exact ⟨rfl, ((Ext.of_below (S := NoB) H1.out).alloc _).below⟩
theorem rright_any (w : World) : Calls Try.prog 48 #[.int .i64 4] w fun e w' => e = .returned (.bool true) ∧ w' = w := by
  go_enter Try.func48, Try.ntmps48
  go_wp2
  go_ret
  exact ⟨rfl, rfl⟩

def fix4 (n : Nat) : List Nat := [n % 256, n / 256 % 256, n / 65536 % 256, n / 16777216]
theorem fix4_lt (n : Nat) (hn : n < 4294967296) : ∀ b ∈ fix4 n, b < 256 := by intro b hb; simp [fix4] at hb; omega
def encB (b : Nat) : Value := .int .u8 (b : Int)
theorem infoU8 : (Try.prog.info? 5).map (fun i => (i.zero, i.size, i.bytes)) = some (some (.int .u8 0), 1, 1) := by kernel_rfl

set_option maxHeartbeats 2000000 in
theorem fixed_any (n : Nat) (w : World) (hn : n < 4294967296) :
    Calls Try.prog 45 #[.int .u64 (n : Int), .int .i64 4] w fun e w' => ∃ v, e = .returned (.tuple #[v, .int .i64 0]) ∧ w'.ownsRow w.heap.size 5 1 v 4 ((fix4 n).map encB) ∧ Below w.heap.size w w' := by
  go_enter Try.func45, Try.ntmps45
  have hn0 : (n : Int) / 4294967296 = 0 := by omega
  go_wp2
  refine wp_scope_straight ?_
  go_wp2_with (first
    | (go_at_call 53; refine (right_any w).mono ?_; rintro e w1 ⟨rfl, hb1⟩; have H1 := Lib.hid hb1; clear hb1))
  have hst : w1.ownsRow w.heap.size 5 1 (.slice none 0 0) 0 [] := World.ownsRow_nil _ _ _ _
  go_loopw [4, 20] (fun v i wr => ∃ k : Nat, k ≤ 4 ∧ i = .int .i64 k ∧ wr.ownsRow w.heap.size 5 1 v k (((fix4 n).take k).map encB) ∧ Below w.heap.size w wr) (fun _ i _ => 4 - (intOf i).toNat)
  case atStart => exact ⟨0, by omega, rfl, hst, H1.out⟩
  case round =>
    obtain ⟨k, hk, rfl, ho, hb⟩ := hrel
    have hk4 : k = 0 ∨ k = 1 ∨ k = 2 ∨ k = 3 ∨ k = 4 := by omega
    rcases hk4 with rfl | rfl | rfl | rfl | rfl
    · have ho' := Lib.hid (own_ext ho ((Ext.refl NoB wr).alloc (.cells #[.int .u8 ((n : Int) % 256)] 5 (0, 0))) (fun _ _ s => s))
      have HB := Lib.hid hb
      obtain ⟨A4, c4, rfl⟩ := own_slice ho
      clear ho hb
      go_wp2_with (first
        | (at_builtin; refine stepA (v := .slice A4 0 c4) (g := wr.heap.size) (ys := [.int .u8 ((n : Int) % 256)]) w.heap.size rfl rfl Try.underlying59 infoU8 rfl (by decide) (by decide) rfl rfl (MapKept.heap_alloc wr _).1 rfl (by simp [Value.oneCell']) ho'.out (by have := HB.out.size; simp; omega) (by omega) ?_
           intro v5 w5 ho5 hg5 hat5 _
           obtain ⟨A5, c5, rfl⟩ := own_slice ho5
           have HO5 := Lib.hid ho5
           have HG5 := Lib.hid hg5
           clear ho5 hg5 hat5))
      go_roundw
      case rel =>
        refine ⟨1, by omega, rfl, HO5.out, ?_⟩
        have hX5 : Ext (fun j => (Value.slice A4 0 c4).ownBlock = some j) wr w5 := (((Ext.refl NoB wr).alloc _).mono (fun _ _ s => s.elim)).grown HG5.out (fun j e => .inl e)
        exact HB.out.trans (hX5.below_of HB.out.size (fun j hj e => by have := own_base ho'.out _ e; omega))
      case measure => simp [intOf]
    · have ho' := Lib.hid (own_ext ho ((Ext.refl NoB wr).alloc (.cells #[.int .u8 ((n : Int) / 256 % 256)] 5 (0, 0))) (fun _ _ s => s))
      have HB := Lib.hid hb
      obtain ⟨A4, c4, rfl⟩ := own_slice ho
      clear ho hb
      go_wp2_with (first
        | (at_builtin; refine stepA (v := .slice A4 1 c4) (g := wr.heap.size) (ys := [.int .u8 ((n : Int) / 256 % 256)]) w.heap.size rfl rfl Try.underlying59 infoU8 rfl (by decide) (by decide) rfl rfl (MapKept.heap_alloc wr _).1 rfl (by simp [Value.oneCell']) ho'.out (by have := HB.out.size; simp; omega) (by omega) ?_
           intro v5 w5 ho5 hg5 hat5 _
           obtain ⟨A5, c5, rfl⟩ := own_slice ho5
           have HO5 := Lib.hid ho5
           have HG5 := Lib.hid hg5
           clear ho5 hg5 hat5))
      go_roundw
      case rel =>
        refine ⟨2, by omega, rfl, HO5.out, ?_⟩
        have hX5 : Ext (fun j => (Value.slice A4 1 c4).ownBlock = some j) wr w5 := (((Ext.refl NoB wr).alloc _).mono (fun _ _ s => s.elim)).grown HG5.out (fun j e => .inl e)
        exact HB.out.trans (hX5.below_of HB.out.size (fun j hj e => by have := own_base ho'.out _ e; omega))
      case measure => simp [intOf]
    · have ho' := Lib.hid (own_ext ho ((Ext.refl NoB wr).alloc (.cells #[.int .u8 ((n : Int) / 65536 % 256)] 5 (0, 0))) (fun _ _ s => s))
      have HB := Lib.hid hb
      obtain ⟨A4, c4, rfl⟩ := own_slice ho
      clear ho hb
      go_wp2_with (first
        | (at_builtin; refine stepA (v := .slice A4 2 c4) (g := wr.heap.size) (ys := [.int .u8 ((n : Int) / 65536 % 256)]) w.heap.size rfl rfl Try.underlying59 infoU8 rfl (by decide) (by decide) rfl rfl (MapKept.heap_alloc wr _).1 rfl (by simp [Value.oneCell']) ho'.out (by have := HB.out.size; simp; omega) (by omega) ?_
           intro v5 w5 ho5 hg5 hat5 _
           obtain ⟨A5, c5, rfl⟩ := own_slice ho5
           have HO5 := Lib.hid ho5
           have HG5 := Lib.hid hg5
           clear ho5 hg5 hat5))
      go_roundw
      case rel =>
        refine ⟨3, by omega, rfl, HO5.out, ?_⟩
        have hX5 : Ext (fun j => (Value.slice A4 2 c4).ownBlock = some j) wr w5 := (((Ext.refl NoB wr).alloc _).mono (fun _ _ s => s.elim)).grown HG5.out (fun j e => .inl e)
        exact HB.out.trans (hX5.below_of HB.out.size (fun j hj e => by have := own_base ho'.out _ e; omega))
      case measure => simp [intOf]
    · have ho' := Lib.hid (own_ext ho ((Ext.refl NoB wr).alloc (.cells #[.int .u8 ((n : Int) / 16777216)] 5 (0, 0))) (fun _ _ s => s))
      have HB := Lib.hid hb
      obtain ⟨A4, c4, rfl⟩ := own_slice ho
      clear ho hb
      go_wp2_with (first
        | (at_builtin; refine stepA (v := .slice A4 3 c4) (g := wr.heap.size) (ys := [.int .u8 ((n : Int) / 16777216)]) w.heap.size rfl rfl Try.underlying59 infoU8 rfl (by decide) (by decide) rfl rfl (MapKept.heap_alloc wr _).1 rfl (by simp [Value.oneCell']) ho'.out (by have := HB.out.size; simp; omega) (by omega) ?_
           intro v5 w5 ho5 hg5 hat5 _
           obtain ⟨A5, c5, rfl⟩ := own_slice ho5
           have HO5 := Lib.hid ho5
           have HG5 := Lib.hid hg5
           clear ho5 hg5 hat5))
      go_roundw
      case rel =>
        refine ⟨4, by omega, rfl, HO5.out, ?_⟩
        have hX5 : Ext (fun j => (Value.slice A4 3 c4).ownBlock = some j) wr w5 := (((Ext.refl NoB wr).alloc _).mono (fun _ _ s => s.elim)).grown HG5.out (fun j e => .inl e)
        exact HB.out.trans (hX5.below_of HB.out.size (fun j hj e => by have := own_base ho'.out _ e; omega))
      case measure => simp [intOf]
    · obtain ⟨A4, c4, rfl⟩ := own_slice ho
      have HO := Lib.hid ho; have HB := Lib.hid hb
      clear ho hb
      go_wp2
      try rw [Exit.noGoto_ret]
      go_ret2
      exact ⟨_, rfl, HO.out, HB.out⟩
end Go.Proofs.Ytgccjmjengfhbaa
end
section
set_option maxRecDepth 100000
namespace Go.Proofs.Ytgccjmjengfhbaa
open Go.RowKit Go.Shelf Go.Proofs Go.Proofs.YtgccjmjengfhbaaW.PrintWords

attribute [local go_sem ↓] Go.wp_at_zero Go.wp_at_succ
theorem DigAt.cells {w : World} {db s : Nat} {m : Int} (h : DigAt w db s m) : w.cell? ⟨db, 256, none⟩ = some (.int .u64 (s : Int)) ∧ w.cell? ⟨db, 257, none⟩ = some (.int .i64 m) ∧ w.frozen? ⟨db, 256, none⟩ = false ∧ w.frozen? ⟨db, 257, none⟩ = false := by
  obtain ⟨cs, h1, _, _, h4, h5, _⟩ := h
  exact ⟨(cell_of_row w db 256 _ _ _ h1).trans h4, (cell_of_row w db 257 _ _ _ h1).trans h5, frozenPage h1 256, frozenPage h1 257⟩

theorem Ext.from_drew {S : Nat → Prop} {w w' : World} (h : Ext S w.drew w') : Ext S w w' := ⟨h.os, h.tape, h.output, h.size, h.block⟩
theorem set2_ext {wr w1 : World} {db : Nat} {a b : Addr} {u v : Value} (hb : Below wr.drew.heap.size wr.drew w1) (ha : a.block = db) (hb' : b.block = db) : Ext (fun k => k = db) wr ((w1.setCell a u).setCell b v) :=
  Ext.from_drew (Ext.setCell (Ext.setCell (Ext.of_below (w := wr.drew) hb) a u (.inl ha)) b v (.inl hb'))
theorem dig_set {w : World} {db s s' : Nat} {m m' : Int} (h : DigAt w db s m) : DigAt ((w.setCell ⟨db, 256, none⟩ (.int .u64 (s' : Int))).setCell ⟨db, 257, none⟩ (.int .i64 m')) db s' m' := by
  obtain ⟨cs, h1, h2, h3, h4, h5, h6⟩ := h
  refine ⟨_, blk_put (blk_put h1 256 _) 257 _, by simp [h2], fun i hi => ?_, ?_, ?_, ?_⟩
  · rw [Array.getElem?_setIfInBounds, if_neg (by omega), Array.getElem?_setIfInBounds, if_neg (by omega)]; exact h3 i hi
  · rw [Array.getElem?_setIfInBounds, if_neg (by omega), Array.getElem?_setIfInBounds, if_pos rfl, if_pos (by omega)]
  · rw [Array.getElem?_setIfInBounds, if_pos rfl, if_pos (by simp; omega)]
  · rw [Array.getElem?_setIfInBounds, if_neg (by omega), Array.getElem?_setIfInBounds, if_neg (by omega)]; exact h6
theorem dig_set' {w : World} {db s s' : Nat} {m m' : Int} (h : DigAt w db s m) : DigAt ((w.setCell ⟨db, 257, none⟩ (.int .i64 m')).setCell ⟨db, 256, none⟩ (.int .u64 (s' : Int))) db s' m' := by
  obtain ⟨cs, h1, h2, h3, h4, h5, h6⟩ := h
  refine ⟨_, blk_put (blk_put h1 257 _) 256 _, by simp [h2], fun i hi => ?_, ?_, ?_, ?_⟩
  · rw [Array.getElem?_setIfInBounds, if_neg (by omega), Array.getElem?_setIfInBounds, if_neg (by omega)]; exact h3 i hi
  · rw [Array.getElem?_setIfInBounds, if_pos rfl, if_pos (by simp; omega)]
  · rw [Array.getElem?_setIfInBounds, if_neg (by omega), Array.getElem?_setIfInBounds, if_pos rfl, if_pos (by omega)]
  · rw [Array.getElem?_setIfInBounds, if_neg (by omega), Array.getElem?_setIfInBounds, if_neg (by omega)]; exact h6
set_option maxHeartbeats 4000000 in
theorem write_any (A : Option Addr) (cap : Nat) (bs : List Nat) (s g : Nat) (db : Nat) (m : Int) (w : World) (hs : s < 2 ^ 64) (hC : BytesAt w A bs) (hok : ∀ b ∈ bs, b < 256) (hlen : bs.length ≤ 1073741824) (hD : DigAt w db s m)
    (hg : w.heap[g]? = some (.cells #[.slice A bs.length cap] 59 (0, 0))) :
    Calls Try.prog 46 #[.pointer (some ⟨db, 0, none⟩), .slice (some ⟨g, 0, none⟩) 1 1] w fun e w' => e = .returned (.int .i64 0) ∧ (∃ m', DigAt w' db (crcS s bs) m') ∧ Ext (fun k => k = db) w w' := by
  have hn := Lib.hid (dnone_any db s m w hD)
  have hcg := cell_of_row w g 0 _ _ _ hg
  simp only [List.getElem?_toArray, List.getElem?_cons_zero] at hcg
  have HF := Lib.hid (folded_any A cap bs s db m w.drew hs hC hok hlen hD)
  obtain ⟨h1, h2, h3, h4⟩ := hD.cells
  have HD := Lib.hid hD
  clear hD hC hok hg
  go_enter Try.func46, Try.ntmps46
  go_wp2_with (go_at_call 44; refine hn.out.mono ?_; rintro e w' ⟨rfl, rfl⟩)
  go_loopw [11] (fun i wr => (i = .int .i64 0 ∧ wr = w) ∨ (i = .int .i64 1 ∧ (∃ m', DigAt wr db (crcS s bs) m') ∧ Ext (fun k => k = db) w wr)) (fun i _ => 1 - (intOf i).toNat)
  case atStart => exact .inl ⟨rfl, rfl⟩
  case round =>
    rcases hrel with ⟨rfl, rfl⟩ | ⟨rfl, hd, hx⟩
    · go_wp2
      go_region_with (go_at_call 54; refine HF.out.mono ?_; rintro e w1 ⟨rfl, hb⟩; have HD1 := Lib.hid (DigAt.ext (w := wr.drew) (w' := w1) HD.out (Ext.of_below (S := NoB) (w := wr.drew) hb) (fun s => s)); have hq1 := HD1.out.cells.1; have hq2 := HD1.out.cells.2.1; have hq3 := HD1.out.cells.2.2.1; have hq4 := HD1.out.cells.2.2.2; have HB1 := Lib.hid hb; clear hb)
      all_goals
        go_wp2
        go_roundw
        case measure => simp [intOf]
        case rel =>
          refine .inr ⟨rfl, ⟨wrap64 (m + bs.length), ?_⟩, set2_ext HB1.out rfl rfl⟩
          first | exact dig_set (w := w1) (s' := crcS s bs) HD1.out | exact dig_set' (w := w1) (s' := crcS s bs) HD1.out
    · have H1 := Lib.hid hd; have H2 := Lib.hid hx
      clear hd hx
      go_wp2
      go_ret
      exact ⟨rfl, H1.out, H2.out⟩
end Go.Proofs.Ytgccjmjengfhbaa
end
section
set_option maxRecDepth 100000
namespace Go.Proofs.Ytgccjmjengfhbaa
open Go.RowKit Go.Shelf Go.Proofs Go.Proofs.YtgccjmjengfhbaaW.PrintWords
open Go.Proofs.Ytgccjmjengfhbaa.PMemoryStores (S30 k30 k30_mk at_T30 rd_T30)

theorem bytes_of_own {w : World} {base : Nat} {v : Value} {n : Nat} {bs : List Nat} (h : w.ownsRow base 5 1 v n (bs.map encB)) (hn : n = bs.length) :
    ∃ A c, v = .slice A bs.length c ∧ BytesAt w A bs ∧ (∀ ad, A = some ad → base ≤ ad.block) := by
  obtain ⟨A, c, rfl⟩ := own_slice h
  subst hn
  refine ⟨A, c, rfl, fun j hj => ?_, fun ad e => by subst e; exact own_base h _ rfl⟩
  obtain ⟨g1, cap1, hA1, hg1, hg1'⟩ := h.form (by omega)
  injection hA1 with hA1 _ hc1
  subst hA1
  have hcell := h.cells (g := g1) rfl j (encB bs[j]) (by simp [hj])
  rw [add0] at hcell
  exact ⟨g1, rfl, hcell⟩

set_option maxHeartbeats 2000000 in
theorem number_any (n s db : Nat) (m : Int) (w : World) (hn : n < 4294967296) (hs : s < 2 ^ 64) (hD : DigAt w db s m) :
    Calls Try.prog 32 #[.pointer (some ⟨db, 0, none⟩), .int .u64 (n : Int), .int .i64 4] w fun e w' => e = .returned (.int .i64 0) ∧ (∃ m', DigAt w' db (crcS s (fix4 n)) m') ∧ Ext (fun k => k = db) w w' := by
  have hdn := Lib.hid (dnone_any db s m w hD)
  have HF := Lib.hid (fixed_any n w hn)
  have HD := Lib.hid hD
  clear hD
  go_enter Try.func32, Try.ntmps32
  go_wp2
  refine wp_scope_straight ?_
  go_wp2_with (first
    | (go_at_call 44; refine hdn.out.mono ?_; rintro e w' ⟨rfl, rfl⟩)
    | (go_at_call 45; refine HF.out.mono ?_; rintro e w1 ⟨v, rfl, h1, h2⟩; obtain ⟨A, c, rfl, h3, h4⟩ := bytes_of_own h1 rfl; have H1 := Lib.hid h1; have H2 := Lib.hid h2; have H3 := Lib.hid h3; have H4 := Lib.hid h4; clear h1 h2 h3 h4)
    | (go_at_call 46; go_loud (refine (write_any A c (fix4 n) s w1.heap.size db m (w1.alloc (.cells #[.slice A (fix4 n).length c] 59 (0, 0))) hs (H3.out.keep (fun ad hne e => Below.heap_alloc _ _ _ (by obtain ⟨_, _, _, h⟩ := H3.out.lt hne e; exact (Array.getElem?_eq_some_iff.1 h).1))) (fix4_lt n hn) (by simp [fix4]) (HD.out.ext ((Ext.of_below (S := NoB) H2.out).alloc _) (fun s => s)) (MapKept.heap_alloc w1 _).1).mono ?_; rintro e w2 ⟨rfl, h5, h6⟩; have H5 := Lib.hid h5; have H6 := Lib.hid h6; clear h5 h6)))
  try rw [Exit.noGoto_ret]
  go_ret
  exact ⟨rfl, H5.out, ((Ext.of_below (S := fun k => k = db) H2.out).alloc _).trans' (H6.out)⟩
end Go.Proofs.Ytgccjmjengfhbaa
end
section
set_option maxRecDepth 100000
namespace Go.Proofs.Ytgccjmjengfhbaa
open Go.RowKit Go.Shelf Go.Proofs Go.Proofs.YtgccjmjengfhbaaW.PrintWords
open Go.Proofs.Ytgccjmjengfhbaa.PMemoryStores (S30 k30 k30_mk at_T30 rd_T30)

/-- A cell's bytes. -/
def cellB (c : S30) : List Nat := fix4 c.f0.toNat ++ fix4 c.f1.toNat
def cellsB (C : List S30) : List Nat := C.flatMap cellB
theorem cellsB_snoc (C : List S30) (c : S30) : cellsB (C ++ [c]) = cellsB C ++ (fix4 c.f0.toNat ++ fix4 c.f1.toNat) := by simp [cellsB, cellB]
theorem cellsB_lt (C : List S30) (hok : ∀ c ∈ C, okCell c) : ∀ b ∈ cellsB C, b < 256 := by
  intro b hb
  unfold cellsB at hb
  obtain ⟨c, hc, hb⟩ := List.mem_flatMap.1 hb
  obtain ⟨⟨h0, h1⟩, h2, h3⟩ := hok c hc
  unfold cellB at hb
  rcases List.mem_append.1 hb with hb | hb
  · exact fix4_lt _ (by omega) b hb
  · exact fix4_lt _ (by omega) b hb

set_option maxHeartbeats 4000000 in
theorem md_gen (p : Option Addr) (Pk : List S30 → Prop) (w : World) (hc : ∀ w1, Below w.heap.size w w1 → Calls Try.prog 33 #[.pointer p, .int .u32 0] w1 fun e w' => ∃ v C, e = .returned v ∧ Pk C ∧ (∀ c ∈ C, okCell c) ∧ C.length ≤ 8589934592 ∧ OwnC w' w1.heap.size v C ∧ Below w1.heap.size w1 w') :
    Calls Try.prog 13 #[.pointer p] w fun e w' => ∃ C, e = .returned (.int .u64 ((crc (cellsB C) : Nat) : Int)) ∧ Pk C ∧ (∀ c ∈ C, okCell c) ∧ Below w.heap.size w w' := by
  have HC := Lib.hid hc
  clear hc
  go_enter Try.func13, Try.ntmps13
  go_wp2_with (first
    | (go_at_call 31; refine (dnew_any w).mono ?_; rintro e w1 ⟨db, rfl, h1, h2, h3⟩; have H1 := Lib.hid h1; have H3 := Lib.hid h3; clear h1 h3)
    | (go_at_call 33; refine (HC.out _ H3.out).mono ?_; rintro e w2 ⟨v, C, rfl, h4, h5, h6, h7, h8⟩; obtain ⟨A, cap, rfl, hK⟩ := own_K h7; have H4 := Lib.hid h4; have H5 := Lib.hid h5; have H7 := Lib.hid h7; have H8 := Lib.hid h8; clear h4 h5 h7 h8 hK))
  go_loopw [13] (fun i wr => ∃ k : Nat, k ≤ C.length ∧ i = .int .i64 k ∧ (∃ m, DigAt wr db (crcS full (cellsB (C.take k))) m) ∧ OwnC wr w1.heap.size (.slice A C.length cap) C ∧ Below w.heap.size w wr) (fun i _ => C.length - (intOf i).toNat)
  case atStart => exact ⟨0, Nat.zero_le _, rfl, ⟨0, H1.out.ext (Ext.of_below (S := NoB) H8.out) (fun s => s)⟩, H7.out, ((Ext.of_below (S := NoB) H3.out).sub H8.out).below⟩
  case round =>
    obtain ⟨k, hk, rfl, ⟨m, hD⟩, hO, hB⟩ := hrel
    by_cases hlt : k < C.length
    · obtain ⟨A', c', hv, hCk⟩ := own_K hO
      injection hv with e1 _ e2
      subst e1; subst e2
      obtain ⟨ad, e, c0, c1⟩ := at_T30 hCk (k : Int) (by omega) (by omega)
      have hr : rd_T30 C (k : Int) = C[k] := by
        unfold rd_T30; rw [Int.toNat_natCast, List.getD_eq_getElem?_getD, List.getElem?_eq_getElem hlt]; rfl
      rw [hr, Int.toNat_natCast] at c0 c1
      subst e
      have htl : cellsB (C.take (k + 1)) = cellsB (C.take k) ++ (fix4 C[k].f0.toNat ++ fix4 C[k].f1.toNat) := by rw [take_last C k hlt, cellsB_snoc]
      obtain ⟨⟨a0, a1⟩, b0, b1⟩ := H5.out _ (List.getElem_mem hlt)
      have hsl := crcS_lt (s := full) (by decide) (cellsB (C.take k)) (cellsB_lt _ (fun c hc => H5.out c (List.mem_of_mem_take hc)))
      have HT := Lib.hid htl; have HD := Lib.hid hD; have HO := Lib.hid hO; have HB := Lib.hid hB
      clear htl hD hO hB hCk hr
      generalize C[k] = c at c0 c1 a0 a1 b0 b1 HT
      obtain ⟨f0, f1⟩ := c
      dsimp only at c0 c1 a0 a1 b0 b1 HT
      obtain ⟨n0, rfl⟩ := Int.eq_ofNat_of_zero_le a0
      obtain ⟨n1, rfl⟩ := Int.eq_ofNat_of_zero_le b0
      rw [Int.toNat_natCast, Int.toNat_natCast] at HT
      generalize hse : crcS full (cellsB (C.take k)) = s at hsl HD
      have HSE := Lib.hid hse
      clear hse
      have hx1 := (Ext.refl NoB wr).alloc (.cells #[.int .u32 (n0 : Int), .int .u32 (n1 : Int)] 30 (0, 0))
      have HX1 := Lib.hid hx1
      have hb1' := (MapKept.heap_alloc wr (.cells #[.int .u32 (n0 : Int), .int .u32 (n1 : Int)] 30 (0, 0))).1
      have HBX := Lib.hid hb1'
      clear hx1 hb1'
      have hn0 : n0 < 4294967296 := by omega
      have hn1 : n1 < 4294967296 := by omega
      have hq1 := HD.out.ext HX1.out (fun s => s)
      have HN := Lib.hid (number_any n0 s db m _ hn0 hsl hq1)
      have hdlt := HD.out.lt
      clear hq1
      go_wp2_with (go_at_call 32; (refine HN.out.mono ?_; rintro e w3 ⟨rfl, ⟨m3, h3a⟩, h3b⟩; have hbox3 := h3b.get HBX.out (by omega); have hcb3 := cell_of_row w3 wr.heap.size 1 _ _ _ hbox3; simp only [List.getElem?_toArray, List.getElem?_cons_zero, List.getElem?_cons_succ] at hcb3; have HN3 := Lib.hid (number_any n1 _ db m3 w3 hn1 (crcS_lt hsl _ (fix4_lt n0 hn0)) h3a); have H3A := Lib.hid h3a; have H3B := Lib.hid h3b; clear h3a h3b hbox3 HN))
      refine HN3.out.mono ?_
      rintro e w4 ⟨rfl, ⟨m4, h4a⟩, h4b⟩
      have H4A := Lib.hid h4a; have H4B := Lib.hid h4b
      clear h4a h4b
      go_wp2
      go_roundw
      case rel =>
        have hX : Ext (fun j => j = db) wr w4 := ((HX1.out.mono (fun _ _ s => s.elim)).trans' H3B.out).trans' H4B.out
        refine ⟨k + 1, by omega, by go_num, ⟨m4, ?_⟩, ?_, ?_⟩
        · rw [HT.out, crcS_append, crcS_append, HSE.out]; exact H4A.out
        · refine own_ext HO.out hX (fun j e1 e2 => ?_)
          subst e2
          obtain ⟨cs1, h1⟩ := own_typed HO.out _ e1
          obtain ⟨cs2, h2, _⟩ := HD.out
          rw [h1] at h2; cases h2
        · exact HB.out.trans (hX.below_of HB.out.size (fun j hj e => by have := h2; omega))
      case measure => simp [intOf]; omega
    · obtain rfl : k = C.length := by omega
      rw [List.take_length] at hD
      have hsl := crcS_lt (s := full) (by decide) (cellsB C) (cellsB_lt _ H5.out)
      have hS := Lib.hid (sum_any db _ hsl m wr hD)
      have HB := Lib.hid hB
      clear hD hO hB
      go_wp2_with (go_at_call 34; refine hS.out.mono ?_; rintro e w' ⟨rfl, rfl⟩)
      go_ret
      exact ⟨C, rfl, H4.out, H5.out, HB.out⟩
end Go.Proofs.Ytgccjmjengfhbaa
end
