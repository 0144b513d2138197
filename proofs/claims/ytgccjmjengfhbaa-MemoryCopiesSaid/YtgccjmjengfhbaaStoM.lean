/- Part of the proofs over 'linesman/memory': lemmas and walks. Written by merge.py from the templates of the repo. -/
import Derived.Test.YtgccjmjengfhbaaIsM
import Derived.Test.YtgccjmjengfhbaaPMemoryStoresx2
set_option linter.unusedVariables false
set_option linter.unusedSimpArgs false
section
set_option maxRecDepth 100000
namespace Go.Proofs.Ytgccjmjengfhbaa
open Go.RowKit Go.Shelf Go.Proofs Go.Proofs.YtgccjmjengfhbaaW.PrintWords
open Go.Proofs.Ytgccjmjengfhbaa.PMemoryStores (S30 k30 k30_mk at_T30 rd_T30 linesmanref01_Fixed.l0 linesmanref01_Fixed.f linesmanref01_right.f)

/-- append(v, x...): x a row that is read. -/
theorem stepB {P : Program} {ops : Array Oper} {rest : List Oper} {o : Oper} {a : Act} {Q : Exit → Act → World → Prop} {W : World} (base : Nat) {s x : Operand} {t e : TypeId} {z : Value} {size bytes : Nat} (hgd : o.guard = none)
    (ho : o.op = .call { callee := .builtin .append, args := #[s, x], argTypes := #[t, t] }) (ht : P.underlying t = some (.slice e)) (hinfo : (P.info? e).map (fun i => (i.zero, i.size, i.bytes)) = some (some z, size, bytes)) (hz : z.cells.size = size) (hs0 : 0 < size) (hb0 : 0 < bytes)
    {v : Value} {n : Nat} {xs news : List Value} {ad : Addr} {m c : Nat} (hs : a.eval s = v) (hx : a.eval x = .slice (some ad) m c) (hl' : news.length = m * size) (hnews : ∀ j u, news[j]? = some u → W.cell? (ad.add j) = some u) (h1 : ∀ u ∈ news, u.oneCell' = true)
    (HO : W.ownsRow base e size v n xs) (hbase : base ≤ W.heap.size) (hl : (n + m) * bytes ≤ 140737488355328)
    (h : ∀ v1 w1, w1.ownsRow base e size v1 (n + m) (xs ++ news) → W.grownBy w1 v.ownBlock → (v1.ownBlock = v.ownBlock ∨ v1.ownBlock = some W.heap.size) → wpList P ops Q rest (a.put o.dst v1) w1) : wpList P ops Q (o :: rest) a W := by
  obtain ⟨i0, hi, hzz⟩ := Option.map_eq_some_iff.1 hinfo
  simp only [Prod.mk.injEq] at hzz
  obtain ⟨hz0, hz1, hz2⟩ := hzz
  have hlen : n + m ≤ 140737488355328 := Nat.le_trans (Nat.le_mul_of_pos_right _ hb0) hl
  obtain ⟨v1, w1, hr, h2, h3, hnil, h4⟩ := run_append_own_at (P := P) W base t o.type e i0 z size bytes ht hi hz0 hz1 hz2 hz hs0 v n xs HO ad m c news hl' hnews h1 (by simp only [maxLen]; omega) hl hbase
  exact step_val hgd (exec_append ho hs hx hr) (h v1 w1 h2 h3 h4)

theorem fixed_f (n : Nat) (hn : n < 4294967296) : linesmanref01_Fixed.f 5 (n : Int) 4 = some ((fix4 n).map (fun b : Nat => (b : Int)), 0) := by
  have hw : ∀ m : Nat, m < 4294967296 → IntKind.u64.wrap (Int.tdiv (m : Int) 256) = ((m / 256 : Nat) : Int) := fun m hm => by
    rw [IntWalk.u64_quo _ _ (by omega)]; omega
  have hm : ∀ m : Nat, Int.tmod (m : Int) 256 % 256 = ((m % 256 : Nat) : Int) := fun m => by
    rw [Int.tmod_eq_emod_of_nonneg (by omega)]; omega
  have hr : linesmanref01_right.f 4 = some true := by decide
  unfold linesmanref01_Fixed.f
  rw [hr, Option.bind_some, if_pos rfl, if_pos (by decide), if_pos (by decide)]
  rw [show List.replicate (4 : Int).toNat (0 : Int) = [0, 0, 0, 0] from rfl]
  rw [linesmanref01_Fixed.l0, if_pos (by decide), if_pos (by decide), if_pos (by decide), hw n hn, hm]
  rw [show wrap64 (0 + 1) = 1 from IntWalk.wrap64_in _ (by decide), linesmanref01_Fixed.l0, if_pos (by decide), if_pos (by decide), if_pos (by simp), hw _ (by omega), hm]
  rw [show wrap64 (1 + 1) = 2 from IntWalk.wrap64_in _ (by decide), linesmanref01_Fixed.l0, if_pos (by decide), if_pos (by decide), if_pos (by simp), hw _ (by omega), hm]
  rw [show wrap64 (2 + 1) = 3 from IntWalk.wrap64_in _ (by decide), linesmanref01_Fixed.l0, if_pos (by decide), if_pos (by decide), if_pos (by simp), hw _ (by omega), hm]
  rw [show wrap64 (3 + 1) = 4 from IntWalk.wrap64_in _ (by decide), linesmanref01_Fixed.l0, if_neg (by decide), if_neg (by omega)]
  have e0 : (0 : Int).toNat = 0 := rfl
  have e1 : (1 : Int).toNat = 1 := rfl
  have e2 : (2 : Int).toNat = 2 := rfl
  have e3 : (3 : Int).toNat = 3 := rfl
  simp only [e0, e1, e2, e3, List.set_cons_zero, List.set_cons_succ, fix4, List.map_cons, List.map_nil]
  have q1 : n / 256 / 256 = n / 65536 := by omega
  have q2 : n / 256 / 256 / 256 % 256 = n / 16777216 := by omega
  rw [q2, q1]
theorem rfixed_any (n : Nat) (w : World) (hn : n < 4294967296) :
    Calls Try.prog 39 #[.int .u64 (n : Int), .int .i64 4] w fun e w' => ∃ g c, e = .returned (.tuple #[.slice (some ⟨g, 0, none⟩) 4 c, .int .i64 0]) ∧ w.heap.size ≤ g ∧ (∃ cells, w'.heap[g]? = some (.cells cells 5 (0, 0))) ∧
      (∀ j u, ((fix4 n).map encB)[j]? = some u → w'.cell? ((⟨g, 0, none⟩ : Addr).add j) = some u) ∧ Below w.heap.size w w' := by
  refine (PMemoryStores.linesmanref01_Fixed.calls 5 (n : Int) 4 _ 0 w (fixed_f n hn)).mono ?_
  rintro e w' ⟨v, rfl, h1, h2⟩
  obtain ⟨g, cap, rfl, hb, _, cells, hg⟩ := Kd.R_form h1 (by simp [fix4])
  obtain ⟨A, c, e1, _, hC⟩ := Kd.R_reads h1
  injection e1 with e1 _ e2
  subst e1
  refine ⟨g, cap, by simp [fix4], hb, ⟨cells, hg⟩, fun j u hj => ?_, h2⟩
  have hj4 : j < 4 := by
    rcases Nat.lt_or_ge j 4 with h | h
    · exact h
    · rw [List.getElem?_eq_none (by simpa [fix4] using h)] at hj; cases hj
  obtain ⟨ad, e3, hc⟩ := Kd.at_int hC (j : Int) (by omega) (by simp [fix4]; omega)
  cases e3
  rw [Int.toNat_natCast] at hc
  rw [hc]
  rw [List.getElem?_map] at hj
  obtain ⟨b, hb1, rfl⟩ := Option.map_eq_some_iff.1 hj
  unfold rd encB
  rw [Int.toNat_natCast, List.getD_eq_getElem?_getD, List.getElem?_map, hb1]
  rfl

end Go.Proofs.Ytgccjmjengfhbaa
end
section
set_option maxRecDepth 100000
namespace Go.Proofs.Ytgccjmjengfhbaa
open Go.RowKit Go.Shelf Go.Proofs Go.Proofs.YtgccjmjengfhbaaW.PrintWords
open Go.Proofs.Ytgccjmjengfhbaa.PMemoryStores (S30 k30 k30_mk at_T30 rd_T30)

theorem cellsB_len (R : List S30) : (cellsB R).length = 8 * R.length := by
  unfold cellsB
  induction R with
  | nil => rfl
  | cons x xs ih => rw [List.flatMap_cons, List.length_append, ih, List.length_cons]; simp [cellB, fix4]; omega
theorem cell_apart {w w4 w5 : World} {base n : Nat} {e : TypeId} {size : Nat} {v : Value} {xs : List Value} (h : w.ownsRow base e size v n xs) (hg : w4.grownBy w5 v.ownBlock) {g : Nat} (hgw : w.heap.size ≤ g) : ∀ (j : Nat) (u : Value), w4.cell? ((⟨g, 0, none⟩ : Addr).add j) = some u → w5.cell? ((⟨g, 0, none⟩ : Addr).add j) = some u := fun j u hc => by
  have hb : ((⟨g, 0, none⟩ : Addr).add j).block = g := by unfold Addr.add; split <;> rfl
  have hlt := World.block_lt_of_cell? w4 _ hc
  rw [World.cell?_of_block (w := w4) (hg.block _ hlt (fun e => by have := own_lt h _ e.symm; omega))]
  exact hc

set_option maxHeartbeats 4000000 in
theorem rdigest_any (A : Option Addr) (cv : Nat) (R : List S30) (w : World) (hC : k30.C w A R.length R) (hc : R.length ≤ cv) (hok : ∀ c ∈ R, okCell c) (hl : R.length ≤ 1000000) :
    Calls Try.prog 21 #[.agg #[.slice A R.length cv]] w fun e w' => e = .returned (.int .u64 ((crc (cellsB R) : Nat) : Int)) ∧ Below w.heap.size w w' := by
  have HC := Lib.hid hC; have HOK := Lib.hid hok
  clear hC hok
  go_enter Try.func21, Try.ntmps21
  have hxa := (Ext.refl NoB w).alloc (.cells #[.slice A R.length cv] 38 (0, 0))
  have hba := (MapKept.heap_alloc w (.cells #[.slice A R.length cv] 38 (0, 0))).1
  have hsa : (w.alloc (.cells #[.slice A R.length cv] 38 (0, 0))).heap.size = w.heap.size + 1 := by simp
  go_wp2
  generalize hwa : w.alloc (.cells #[.slice A R.length cv] 38 (0, 0)) = wa at hxa hba hsa ⊢
  have HXA := Lib.hid hxa; have HBA := Lib.hid hba
  clear hwa hxa hba
  go_loopw [3, 4] (fun v3 v4 wr => ∃ k : Nat, k ≤ R.length ∧ v4 = .int .i64 k ∧ wr.ownsRow (w.heap.size + 1) 5 1 v3 (8 * k) ((cellsB (R.take k)).map encB) ∧ Ext NoB wa wr) (fun _ v4 _ => R.length - (intOf v4).toNat)
  case atStart => exact ⟨0, Nat.zero_le _, rfl, World.ownsRow_nil _ _ _ _, Ext.refl _ _⟩
  case round =>
    obtain ⟨k, hk, rfl, hO, hE⟩ := hrel
    have hb5 := hE.get HBA.out (fun s => s)
    have hc5 := cell_of_row wr w.heap.size 0 _ _ _ hb5
    simp only [List.getElem?_toArray, List.getElem?_cons_zero] at hc5
    obtain ⟨A3, c3, rfl⟩ := own_slice hO
    by_cases hlt : k < R.length
    · have hCr := C_ext k30_flat (C_ext k30_flat HC.out HXA.out (fun _ _ s => s)) hE (fun _ _ s => s)
      obtain ⟨ad, e, c0, c1⟩ := cell_at hCr k hlt
      subst e
      obtain ⟨⟨a0, a1⟩, b0, b1⟩ := HOK.out _ (List.getElem_mem hlt)
      have htl : cellsB (R.take (k + 1)) = cellsB (R.take k) ++ (fix4 R[k].f0.toNat ++ fix4 R[k].f1.toNat) := by rw [take_last R k hlt, cellsB_snoc]
      have HT := Lib.hid htl; have HO := Lib.hid hO; have HE := Lib.hid hE
      clear htl hO hE hCr
      generalize R[k] = x at c0 c1 a0 a1 b0 b1 HT
      obtain ⟨f0, f1⟩ := x
      dsimp only at c0 c1 a0 a1 b0 b1 HT
      obtain ⟨n0, rfl⟩ := Int.eq_ofNat_of_zero_le a0
      obtain ⟨n1, rfl⟩ := Int.eq_ofNat_of_zero_le b0
      rw [Int.toNat_natCast, Int.toNat_natCast] at HT
      have hn0 : n0 < 4294967296 := by omega
      have hn1 : n1 < 4294967296 := by omega
      have hsE := HE.out.size
      go_wp2_with (first
        | (go_at_call 39; first
          | ((with_reducible refine (rfixed_any n0 wr hn0).mono ?_); rintro e w3 ⟨g3, d3, rfl, h1, h2, h3, h4⟩; have hs3 := h4.size; have HX3 := Lib.hid (Ext.of_below (S := NoB) h4); have hc53 := HX3.out.cellNo hc5; have c13 := HX3.out.cellNo c1; have H1 := Lib.hid h1; have H2 := Lib.hid h2; have H3 := Lib.hid h3; clear h1 h2 h3 h4)
          | ((with_reducible refine (rfixed_any n1 w3 hn1).mono ?_); rintro e w4 ⟨g4, d4, rfl, h1, h2, h3, h4⟩; have hs4 := h4.size; have HX4 := Lib.hid (Ext.of_below (S := NoB) h4); have K1 := Lib.hid h1; have K2 := Lib.hid h2; have K3 := Lib.hid h3; clear h1 h2 h3 h4))
        | (at_builtin; first
          | (refine stepB (v := .slice A3 (8 * k) c3) (ad := ⟨g3, 0, none⟩) (m := 4) (c := d3) (w.heap.size + 1) rfl rfl Try.underlying59 infoU8 rfl (by decide) (by decide) rfl rfl (by simp [fix4]) (fun j u hj => HX4.out.cellNo (H3.out j u hj)) (by simp [encB, fix4, Value.oneCell']) (own_ext HO.out (HX3.out.trans' HX4.out) (fun _ _ s => s)) (by omega) (by omega) ?_
             intro v5 w5 ho5 hg5 _
             have hfar := cell_apart HO.out hg5 (g := g4) (by have := K1.out; omega)
             obtain ⟨A5, c5, rfl⟩ := own_slice ho5
             have HO5 := Lib.hid ho5; have HG5 := Lib.hid hg5; have HF5 := Lib.hid hfar; have hs5 := hg5.size
             clear ho5 hg5 hfar)
          | (refine stepB (v := .slice A5 (8 * k + 4) c5) (ad := ⟨g4, 0, none⟩) (m := 4) (c := d4) (w.heap.size + 1) rfl rfl Try.underlying59 infoU8 rfl (by decide) (by decide) rfl rfl (by simp [fix4]) (fun j u hj => HF5.out j u (K3.out j u hj)) (by simp [encB, fix4, Value.oneCell']) HO5.out (by omega) (by omega) ?_
             intro v6 w6 ho6 hg6 _
             have HO6 := Lib.hid ho6; have HG6 := Lib.hid hg6
             clear ho6 hg6)))
      go_roundw
      case rel =>
        have hE6 : Ext NoB wa w6 := ((((HE.out.trans' HX3.out).trans' HX4.out).grown HG5.out (fun j e => .inr (by have := own_base HO.out _ e; omega))).grown HG6.out (fun j e => .inr (by have := own_base HO5.out _ e; omega)))
        refine ⟨k + 1, by omega, by go_num, ?_, hE6⟩
        rw [HT.out, List.map_append, List.map_append, ← List.append_assoc, show 8 * (k + 1) = 8 * k + 4 + 4 by omega]
        exact HO6.out
      case measure => simp [intOf]; omega
    · obtain rfl : k = R.length := by omega
      rw [List.take_length] at hO
      have HF : Hid (Calls Try.prog 25 #[.slice A3 (8 * R.length) c3] wr fun e w' => e = .returned (.int .u64 ((crc (cellsB R) : Nat) : Int)) ∧ w' = wr) := by
        obtain ⟨A6, c6, e6, hB6, _⟩ := bytes_of_own hO (cellsB_len R).symm
        injection e6 with e6 _ e7
        subst e6
        have hF := of_any A3 c3 (cellsB R) wr hB6 (cellsB_lt _ HOK.out) (by rw [cellsB_len]; omega)
        rw [cellsB_len] at hF
        exact Lib.hid hF
      have HE := Lib.hid hE
      clear hE hO
      go_wp2_with (go_at_call 25; (with_reducible refine HF.out.mono ?_); rintro e w2 ⟨rfl, rfl⟩)
      go_ret
      exact ⟨rfl, (HXA.out.trans' HE.out).below⟩
end Go.Proofs.Ytgccjmjengfhbaa
end
section
set_option maxRecDepth 100000
namespace Go.Proofs.Ytgccjmjengfhbaa
open Go.RowKit Go.Shelf Go.Proofs Go.Proofs.YtgccjmjengfhbaaW.PrintWords
open Go.Proofs.Ytgccjmjengfhbaa.PMemoryStores (S30 k30 k30_mk at_T30 rd_T30)
attribute [local go_sem ↓] Go.wp_at_zero Go.wp_at_succ

/-- No words are stored. -/
theorem store_nil (pb mb : Nat) (L : List Pg) (A : Option Addr) (cap : Nat) (w : World) (hM : MemAt w pb mb L) :
    Calls Try.prog 10 #[.pointer (some ⟨pb, 0, none⟩), .slice A 0 cap] w fun e w' => e = .returned (.int .i64 0) ∧ w' = w := by
  have hc := hM.cell
  clear hM
  go_enter Try.func10, Try.ntmps10
  go_wp2
  go_step3
  go_wp2_with (first
    | (go_at_call 26; refine (none_some _ _ _ hc).mono ?_; rintro e w' ⟨rfl, rfl⟩))
  go_loopw [11] (fun v11 wr => v11 = .int .i64 0 ∧ wr = w) (fun v11 _ => 0)
  case atStart => exact ⟨rfl, rfl⟩
  case round =>
    obtain ⟨rfl, rfl⟩ := hrel
    go_wp2
    try rw [Exit.noGoto_ret]
    go_ret
    exact ⟨rfl, rfl⟩
theorem storeW {w wr : World} {pa ma : Nat} {La : List Pg} {pb mb : Nat} {Lb : List Pg} (h : Mems w wr pa ma La pb mb Lb) (A : Option Addr) (cap : Nat) (xs : List S30) (hC : k30.C w A xs.length xs) (hok : ∀ c ∈ xs, okCell c) :
    Calls Try.prog 10 #[.pointer (some ⟨pa, 0, none⟩), .slice A xs.length cap] wr fun e w' => e = .returned (.int .i64 0) ∧
      ∃ La', Mems w w' pa ma La' pb mb Lb ∧ (∀ a, 0 ≤ a → mget La' a = stored (mget La) xs a) ∧ Ext (foot ma La) wr w' := by
  by_cases hne : xs = []
  · subst hne
    refine (store_nil pa ma La A cap wr h.a).mono ?_
    rintro e w' ⟨rfl, rfl⟩
    exact ⟨rfl, La, h, fun a _ => rfl, Ext.refl _ _⟩
  · refine (store_any pa ma La A cap xs wr h.a (C_below hC h.bel) (fun ad e => ?_) hok).mono ?_
    · have hlt := C_lt hC ad hne e
      exact ⟨fun hf => by have := h.fa _ hf; omega, by have := h.bel.size; omega⟩
    · rintro e w' ⟨rfl, La', h1, h2, h3, h4⟩
      exact ⟨rfl, La', h.storeA (Ext.refl NoB wr) h1 h3 h4, h2, h3⟩
end Go.Proofs.Ytgccjmjengfhbaa
end
section
set_option maxRecDepth 100000
namespace Go.Proofs.Ytgccjmjengfhbaa
open Go.RowKit Go.Shelf Go.Proofs Go.Proofs.YtgccjmjengfhbaaW.PrintWords
open Go.Proofs.Ytgccjmjengfhbaa.PMemoryStores (S30 k30 k30_mk at_T30 rd_T30)
attribute [local go_sem ↓] Go.wp_at_zero Go.wp_at_succ

theorem fits_all {w : World} {mb : Nat} {L : List Pg} (h : MemRep w mb L) {R : List S30} (hF : Fits (mget L) R) {ks : List Int} (hp : ks.Perm (L.map (·.num))) (hk : ks.Pairwise (· < ·)) : allCells (mget L) 0 ks = R := by
  rw [fits_cells h hF hp hk 0, List.filter_eq_self.2 (fun c hc => by simpa using ((hF.2 c).1 hc).1)]
theorem fits_ok {w : World} {mb : Nat} {L : List Pg} (h : MemRep w mb L) {R : List S30} (hF : Fits (mget L) R) : ∀ c ∈ R, okCell c := fun c hc => by
  obtain ⟨h1, h2, h3⟩ := (hF.2 c).1 hc
  have := h.get_ok h3
  unfold okCell
  rw [h2]
  exact ⟨⟨this.1, this.2.1⟩, this.2.2⟩

set_option maxHeartbeats 8000000 in
theorem memoryStores_any (A : Option Addr) (cap : Nat) (xs : List S30) (w : World) (hC : k30.C w A xs.length xs) (hok : ∀ c ∈ xs, okCell c) (hlen : xs.length ≤ 9223372036854775807) :
    Calls Try.prog 5 #[.slice A xs.length cap] w fun e w' => e = .returned (.bool true) ∧ Below w.heap.size w w' := by
  have HC := Lib.hid hC; have HOK := Lib.hid hok
  clear hC hok
  go_enter Try.func5, Try.ntmps5
  by_cases hl40 : 40 < xs.length
  · go_wp2_with (go_at_call 8; refine (works_any w).mono ?_; rintro e w1 ⟨rfl, hb⟩; have HB := Lib.hid hb; clear hb)
    go_ret
    exact ⟨rfl, HB.out⟩
  · go_wp2_with (go_at_call 9; refine (new_any _).mono ?_; rintro e w1 ⟨pa, ma, rfl, h1, h2, h3, h4⟩; have H1 := Lib.hid h1; have H2 := Lib.hid h2; have H34 := Lib.hid (And.intro h3 h4); clear h1 h2 h3 h4)
    have hb5 := (MapKept.heap_alloc w1 (.cells #[.slice none 0 0] 38 (0, 0))).1
    have hx1 := (Ext.refl NoB w1).alloc (.cells #[.slice none 0 0] 38 (0, 0))
    have hle : w.heap.size ≤ w1.heap.size := H2.out.size
    have hm1 : Mem1 w w1 pa ma [] := ⟨H1.out, H2.out, fun k hk => by
      rcases hk with rfl | ⟨p, hp, _⟩
      · exact H34.out.2
      · exact absurd hp List.not_mem_nil, H34.out.1⟩
    have HM1 := Lib.hid (hm1.quiet hx1)
    have HB5 := Lib.hid hb5
    clear hb5 hx1 hm1 H1 H2 H34
    generalize hw2 : w1.alloc (.cells #[.slice none 0 0] 38 (0, 0)) = w2 at HM1 HB5 ⊢
    generalize hb5 : w1.heap.size = b5 at hle HB5 ⊢
    clear hw2 hb5
    go_loopw [5] (fun v5 wr => ∃ k : Nat, k ≤ xs.length ∧ v5 = .int .i64 k ∧ ∃ (La : List Pg) (v : Value) (R : List S30), Mem1 w wr pa ma La ∧ wr.heap[b5]? = some (.cells #[v] 38 (0, 0)) ∧ OwnK wr w.heap.size v R ∧ Fits (mget La) R ∧ R.length ≤ k ∧ ∀ a, 0 ≤ a → mget La a = stored (mget []) (xs.take k) a) (fun v5 _ => xs.length - (intOf v5).toNat)
    case atStart => exact ⟨0, Nat.zero_le _, rfl, [], _, [], HM1.out, HB5.out, OwnK.nil _ _, fits_nil, Nat.zero_le _, fun a _ => rfl⟩
    case round =>
      obtain ⟨k, hk, rfl, La, v, R, hM, hr5, hO, hF, hRl, hg⟩ := hrel
      by_cases hlt : k < xs.length
      · obtain ⟨ad, e, c0, c1⟩ := cell_at (C_below HC.out hM.bel) k hlt
        subst e
        have hoki := HOK.out _ (List.getElem_mem hlt)
        have htk : stored (mget []) (xs.take (k + 1)) = fun a => if a = (xs[k]).f0 then (xs[k]).f1 else stored (mget []) (xs.take k) a := by rw [take_last xs k hlt, stored_snoc]
        have HT := Lib.hid htk
        have HR5 := Lib.hid hr5; have HO := Lib.hid hO; have HF := Lib.hid hF; have HM := Lib.hid hM; have HG := Lib.hid hg
        clear hr5 hO hF hM HM1 HB5 hg htk
        generalize hci : xs[k] = c at c0 c1 hoki HT
        have HCI := Lib.hid hci
        clear hci
        obtain ⟨f0, f1⟩ := c
        obtain ⟨⟨a0, a1⟩, b0, b1⟩ := hoki
        dsimp only at c0 c1 a0 a1 b0 b1 HT
        go_wp2
        refine wp_region_still_tail 11 (by kernel_rfl) (by kernel_rfl) ?_
        simp only [List.take_succ_cons, List.take_zero, List.drop_succ_cons, List.drop_zero]
        change wpStill _ _ wr.drew (fun a' => wpList _ _ _ _ a' wr.drew) _ _
        have hxd : Ext NoB wr wr.drew := (Ext.refl NoB wr).drew
        have c0' : wr.drew.cell? (ad.add (k * 2)) = some (.int .u32 f0) := c0
        have c1' : wr.drew.cell? ⟨(ad.add (k * 2)).block, (ad.add (k * 2)).off + 1, none⟩ = some (.int .u32 f1) := c1
        have HM4 := Lib.hid (HM.out.quiet hxd)
        have HQ5 := Lib.hid (hxd.get HR5.out (fun s => s)); have HO4 := Lib.hid (HO.out.ext hxd (fun _ _ _ _ s => s))
        clear c0 c1 hxd HM HR5 HO
        generalize wr.drew = w4 at c0' c1' HM4 HQ5 HO4 ⊢
        obtain ⟨A', c', rfl, hRc, hCr⟩ := HO4.out.reads
        have hcb := cell_of_row w4 b5 0 _ _ _ HQ5.out
        simp only [List.getElem?_toArray, List.getElem?_cons_zero] at hcb
        have HRS := Lib.hid (rstore_any A' c' R f0 f1 w4 hCr hRc (by omega))
        clear hCr hRc
        repeat still_step
        refine wpStill_nil ?_
        go_wp2_with (go_at_call 19; go_loud (refine HRS.out.mono ?_; rintro e w5 ⟨v2, rfl, h8, h9⟩; obtain ⟨A2, c2, rfl, _⟩ := h8.reads; have hs5 := (Ext.of_below (S := NoB) h9).get HQ5.out (fun s => s); have hcb5 := cell_of_row w5 b5 0 _ _ _ hs5; simp only [List.getElem?_toArray, List.getElem?_cons_zero] at hcb5; have hfr5 := frozenPage hs5 0; have H8 := Lib.hid h8; have H9 := Lib.hid h9; have HS5 := Lib.hid hs5; clear h8 h9 hs5))
        have hlt5 := (Array.getElem?_eq_some_iff.1 HQ5.out).1
        have hX9 := Ext.of_below (S := NoB) H9.out
        have hblk := blk_put HS5.out 0 (.slice A2 (ins f0 f1 R).length c2)
        have hXs : Ext (fun j => j = b5) w5 (w5.setCell ⟨b5, 0, none⟩ (.slice A2 (ins f0 f1 R).length c2)) := (Ext.refl _ _).setCell _ _ (.inl rfl)
        have hM6 := (HM4.out.quiet hX9).set HS5.out hle (.slice A2 (ins f0 f1 R).length c2)
        have hO6 : OwnK (w5.setCell ⟨b5, 0, none⟩ (.slice A2 (ins f0 f1 R).length c2)) w.heap.size (.slice A2 (ins f0 f1 R).length c2) (ins f0 f1 R) := by
          refine OwnK.ext ?_ hXs (fun j cs _ hc e => ?_)
          · exact Kd.R_lower H8.out (by have := HM4.out.bel.size; omega)
          · subst e; rw [HS5.out] at hc; cases hc
        have hblk' : (w5.setCell ⟨b5, 0, none⟩ (.slice A2 (ins f0 f1 R).length c2)).heap[b5]? = some (.cells #[.slice A2 (ins f0 f1 R).length c2] 38 (0, 0)) := by simpa using hblk
        have HM6 := Lib.hid hM6; have HO6 := Lib.hid hO6; have HB6 := Lib.hid hblk'
        clear hM6 hO6 hblk hblk' hXs hX9 hcb hcb5 hfr5 HRS HQ5 HO4 HM4 H8 H9 HS5 c0' c1'
        generalize w5.setCell ⟨b5, 0, none⟩ (.slice A2 (ins f0 f1 R).length c2) = w6 at HM6 HO6 HB6 ⊢
        obtain ⟨ad2, e2, d0, d1⟩ := cell_at (C_below HC.out HM6.out.bel) k hlt
        cases e2
        rw [HCI.out] at d0 d1
        dsimp only at d0 d1
        have hcb6 := cell_of_row w6 b5 0 _ _ _ HB6.out
        simp only [List.getElem?_toArray, List.getElem?_cons_zero] at hcb6
        have hli := len_ins f0 f1 HF.out.1
        have hl6 : (ins f0 f1 R).length ≤ 1000000 := by omega
        have HS := Lib.hid (store1 (HM6.out.quiet ((Ext.refl NoB w6).drew)) [⟨f0, f1⟩] (by intro c hc; rw [List.mem_singleton] at hc; subst hc; exact ⟨⟨a0, a1⟩, b0, b1⟩) (by simp))
        have hxd : Ext NoB w6 w6.drew := (Ext.refl NoB w6).drew
        have HXD := Lib.hid hxd
        clear hxd
        have hnw := World.new_ne w6 _ d0
        have hnw1 := World.new_ne w6 _ d1
        have hnw2 := World.new_ne w6 _ hcb6
        go_region_held3 (fun w' => w'.cell? (ad.add (k * 2)) = some (.int .u32 f0) ∧ w'.cell? ⟨(ad.add (k * 2)).block, (ad.add (k * 2)).off + 1, none⟩ = some (.int .u32 f1) ∧ w'.cell? ⟨b5, 0, none⟩ = some (.slice A2 (ins f0 f1 R).length c2)) (go_keep)
          ((first
            | (go_at_call 10; refine HS.out.mono ?_; rintro e w7 ⟨rfl, La', h5, h6, h7⟩
               obtain ⟨ad3, e3, q0, q1⟩ := cell_at (C_below HC.out h5.bel) k hlt
               cases e3
               rw [HCI.out] at q0 q1
               dsimp only at q0 q1
               have hq5 := h7.get (HXD.out.get HB6.out (fun s => s)) (fun hf => HM6.out.a.2.not_foot HB6.out (by decide) hf)
               have hcb7 := cell_of_row w7 b5 0 _ _ _ hq5
               simp only [List.getElem?_toArray, List.getElem?_cons_zero] at hcb7
               have hO7 := (HO6.out.ext HXD.out (fun _ _ _ _ s => s)).ext h7 (fun j cs _ hc hf => HM6.out.a.2.not_foot hc (by decide) hf)
               have hF7 := fits_ins HF.out a0 (fun b hb => h6 b hb)
               have HIS := Lib.hid (fun many : Int => is_any pa ma La' A2 c2 (ins f0 f1 R) f0 many w7 h5.a (Kd.R_reads' hO7).2.2 (Kd.R_reads' hO7).2.1 hF7 hl6 a0 a1)
               have H5 := Lib.hid h5; have H6 := Lib.hid h6; have H7 := Lib.hid h7; have HO7 := Lib.hid hO7; have HF7 := Lib.hid hF7; have HQ7 := Lib.hid hq5
               clear h5 h6 h7 hO7 hF7 hq5)
            | (go_at_call 17; refine (num_any 0 _).mono ?_; rintro e w' ⟨rfl, rfl⟩)
            | (go_at_call 20; (with_reducible refine (HIS.out _).mono ?_); rintro e w8 ⟨rfl, h9⟩
               have E8 := Ext.of_below (S := NoB) h9
               have r0 := E8.cellNo q0; have r1 := E8.cellNo q1; have r5 := E8.cellNo hcb7
               have HE8 := Lib.hid E8
               clear E8 h9)))
        go_wp2
        go_roundw
        case rel =>
          refine ⟨k + 1, by omega, by go_num, La', _, ins f0 f1 R, H5.out.quiet HE8.out, HE8.out.get HQ7.out (fun s => s), HO7.out.ext HE8.out (fun _ _ _ _ s => s), HF7.out, by omega, fun a h0 => ?_⟩
          rw [H6.out a h0, HT.out]
          show (if a = f0 then f1 else mget La a) = _
          rw [HG.out a h0]
        case measure => simp [intOf]; omega
      · obtain rfl : k = xs.length := by omega
        rw [List.take_length] at hg
        obtain ⟨A', c', rfl, _⟩ := hO.reads
        have hl6 : R.length ≤ 1000000 := by omega
        have HR5 := Lib.hid hr5; have HO := Lib.hid hO; have HF := Lib.hid hF; have HM := Lib.hid hM; have HG := Lib.hid hg
        clear hr5 hO hF hM HM1 HB5 hg
        go_wp2_with (go_at_call 9; refine (new_any _).mono ?_; rintro e w3 ⟨pb, mb, rfl, h1, h2, h3, h4⟩; have H1 := Lib.hid h1; have H2 := Lib.hid h2; have H34 := Lib.hid (And.intro h3 h4); clear h1 h2 h3 h4)
        have hx3 := Ext.of_below (S := NoB) H2.out
        have hxd : Ext NoB wr w3.drew := hx3.drew
        have hM3 : Mems w w3.drew pb mb [] pa ma La := by
          refine ⟨H1.out.ext ((Ext.refl NoB w3).drew) (fun _ _ s => s) (fun s => s), HM.out.a.ext hxd (fun _ _ s => s) (fun s => s), ((Ext.of_below (S := NoB) HM.out.bel).trans' hxd).below, ?_, HM.out.fa, ?_⟩
          · rintro k (rfl | ⟨p, hp, _⟩)
            · have := HM.out.bel.size; have := H34.out.2; omega
            · exact absurd hp List.not_mem_nil
          · rintro k (rfl | ⟨p, hp, _⟩) hf
            · have := HM.out.a.2.foot_lt hf; have := H34.out.2; omega
            · exact absurd hp List.not_mem_nil
        have hb3 := hxd.get HR5.out (fun s => s)
        have hcb3 := cell_of_row w3.drew b5 0 _ _ _ hb3
        simp only [List.getElem?_toArray, List.getElem?_cons_zero] at hcb3
        have hO3 := HO.out.ext hxd (fun _ _ _ _ s => s)
        have HS := Lib.hid (storeW hM3 A cap xs HC.out HOK.out)
        have HM3 := Lib.hid hM3; have HB3 := Lib.hid hb3; have HO3 := Lib.hid hO3
        clear hx3 hxd hM3 hb3 hO3 H1 H2 H34 HM HR5 HO
        have hcb3' : w3.cell? ⟨b5, 0, none⟩ = some (.slice A' R.length c') := hcb3
        go_region_held3 (fun w' => w'.cell? ⟨b5, 0, none⟩ = some (.slice A' R.length c')) (assumption)
          ((first
            | (go_at_call 10; refine HS.out.mono ?_; rintro e w4 ⟨rfl, Lb, h5, h6, h7⟩
               have hq5 := h7.get HB3.out (fun hf => HM3.out.a.2.not_foot HB3.out (by decide) hf)
               have hcb4 := cell_of_row w4 b5 0 _ _ _ hq5
               simp only [List.getElem?_toArray, List.getElem?_cons_zero] at hcb4
               have hO4 := HO3.out.ext h7 (fun j cs _ hc hf => HM3.out.a.2.not_foot hc (by decide) hf)
               have H5 := Lib.hid h5; have H6 := Lib.hid h6; have HO4 := Lib.hid hO4
               clear h5 h6 h7 hO4 hq5)
            | (go_at_call 17; refine (num_any 0 _).mono ?_; rintro e w' ⟨rfl, rfl⟩)
            | (go_at_call 12; (with_reducible refine (same_any pa ma pb mb La Lb w4 H5.out.b H5.out.a).mono ?_); rintro e w5 ⟨b, rfl, h1, h2⟩
               obtain rfl : b = true := h1.2 (fun a h0 => (HG.out a h0).trans (H6.out a h0).symm)
               have E5 := Ext.of_below (S := NoB) h2
               have hcb5 := E5.cellNo hcb4
               have HM5 := Lib.hid (H5.out.quiet E5); have HO5 := Lib.hid (HO4.out.ext E5 (fun _ _ _ _ s => s))
               clear h1 h2 E5)
            | (go_at_call 20; have hi := is_any pa ma La A' c' R 0 99 w5 HM5.out.b (Kd.R_reads' HO5.out).2.2 (Kd.R_reads' HO5.out).2.1 HF.out hl6 (by decide) (by decide); (with_reducible refine hi.mono ?_); clear hi; rintro e w6 ⟨rfl, h2⟩
               have E6 := Ext.of_below (S := NoB) h2
               have hcb6 := E6.cellNo hcb5
               have HM6 := Lib.hid (HM5.out.quiet E6); have HO6 := Lib.hid (HO5.out.ext E6 (fun _ _ _ _ s => s))
               clear h2 E6)
            | (go_at_call 13; (with_reducible refine (digest_any pa ma La w6 HM6.out.b).mono ?_); rintro e w7 ⟨ks, h1, h2, rfl, h5⟩
               have e7 := fits_all HM6.out.b.2 HF.out h1 h2
               rw [e7]
               have E7 := Ext.of_below (S := NoB) h5
               have hcb7 := E7.cellNo hcb6
               have HM7 := Lib.hid (HM6.out.quiet E7); have HO7 := Lib.hid (HO6.out.ext E7 (fun _ _ _ _ s => s))
               clear h1 h2 h5 E7 e7)
            | (go_at_call 21; have hi := rdigest_any A' c' R w7 (Kd.R_reads' HO7.out).2.2 (Kd.R_reads' HO7.out).2.1 (fits_ok HM7.out.b.2 HF.out) hl6; (with_reducible refine hi.mono ?_); clear hi; rintro e w8 ⟨rfl, h2⟩
               have E8 := Ext.of_below (S := NoB) h2
               have hcb8 := E8.cellNo hcb7
               have HM8 := Lib.hid (HM7.out.quiet E8)
               clear h2 E8)
            | (go_at_call 8; (with_reducible refine (works_any w8).mono ?_); rintro e w9 ⟨rfl, h2⟩
               have E9 := Ext.of_below (S := NoB) h2
               have hcb9 := E9.cellNo hcb8
               have HM9 := Lib.hid (HM8.out.quiet E9)
               clear h2 E9)))
        go_wp2
        go_ret
        exact ⟨rfl, HM9.out.bel⟩
end Go.Proofs.Ytgccjmjengfhbaa
end
