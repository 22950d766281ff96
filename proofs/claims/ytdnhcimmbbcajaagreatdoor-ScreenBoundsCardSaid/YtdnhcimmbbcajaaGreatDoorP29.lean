/-
  A part of a proof (Row1): lemmas on what the program's functions do. No condition but those that each lemma states.
-/
import Derived.Deep.Slices
import Derived.Carry
import Derived.OpenShut
import Derived.LaidSub
import Derived.Lib.LaidTab
import Derived.ProofKit
import Derived.Test.YtdnhcimmbbcajaaGreatDoorP25
set_option maxRecDepth 8000
set_option linter.all false
namespace Go.Eng
open Go Go.Proofs Go.ChangeShapes Go.WideShapes Go.Deep Go.RowKit

theorem cell_spot {W : World} {a : Addr} {v : Value} (h : W.cell? a = some v) : a.spot = none ∧ a.block < W.heap.size := by
  unfold World.cell? at h
  split at h
  · rename_i c t f hb
    split at h
    · cases h
    · rename_i hs
      exact ⟨by simpa using hs, (Array.getElem?_eq_some_iff.1 hb).1⟩
  · cases h

theorem wfI {k : IntKind} {n : Int} (h : (Lit.int k n).wf = true) : k.min ≤ n ∧ n ≤ k.max := by simpa [Lit.wf] using h

section
variable {H : Type} {enc : TypeId × Value → H} {W : World} {spare : Nat → Bool} {held : Bool}

theorem c37 : Tryz.prog.cellsOf 37 = 10 := by kernel_rfl
theorem c35 : Tryz.prog.cellsOf 35 = 7 := by kernel_rfl
theorem c3 : Tryz.prog.cellsOf 3 = 1 := by kernel_rfl
theorem c21 : Tryz.prog.cellsOf 21 = 1 := by kernel_rfl
theorem c5 : Tryz.prog.cellsOf 5 = 1 := by kernel_rfl
theorem c9 : Tryz.prog.cellsOf 9 = 1 := by kernel_rfl
theorem c32 : Tryz.prog.cellsOf 32 = 1 := by kernel_rfl
theorem c33 : Tryz.prog.cellsOf 33 = 1 := by kernel_rfl

/-- Numbers that an argument holds. -/
theorem ints_of {fuel : Nat} {c : Value} {x : DataW H × List MemPlace} (h : DataW.trod enc Tryz.prog W 0 (fun _ => true) held fuel 32 [c] = some x) : ∃ (ps : List Int) (pad : Option Addr) (pcap : Nat), c = .slice pad ps.length pcap ∧ RI W c ps ps.length pcap := by
  rcases open_ints Tryz.underlying32 Tryz.underlying3 c3 h with ⟨h1, _⟩ | ⟨a, len, cap, zs, h1, _, hl, hm, hz, _, hc, _⟩
  · cases h1; exact ⟨[], none, 0, rfl, RI.nil _⟩
  · cases h1
    rw [if_pos rfl] at hz
    have hlen : (zs.take len).length = len := by rw [List.length_take]; omega
    refine ⟨zs.take len, some a, cap, by rw [hlen], ?_⟩
    rw [hlen]
    refine ⟨⟨some a, rfl, fun h0 => ?_⟩, hlen, hl, by unfold maxLen at hm; omega⟩
    obtain ⟨hs, hb⟩ := cell_spot (hc 0 (by omega))
    have hs' : a.spot = none := by
      have e : a.add 0 = a := by unfold Addr.add; simp
      rw [e] at hs; exact hs
    have hb' : a.block < W.heap.size := by
      have e : a.add 0 = a := by unfold Addr.add; simp
      rw [e] at hb; exact hb
    obtain ⟨b, o, sp⟩ := a
    dsimp only at hs' hb'
    subst hs'
    refine ⟨b, o, rfl, hb', fun i hi => ?_⟩
    have := hc i (by omega)
    rw [addr_add] at this
    rw [Nat.mul_one, this]
    simp [List.getD_eq_getElem?_getD, hi]

/-- Bytes that an argument holds: only how many. -/
theorem data_of {fuel : Nat} {c : Value} {x : DataW H × List MemPlace} (h : DataW.trod enc Tryz.prog W 0 (fun _ => true) held fuel 33 [c] = some x) : ∃ (da : Option Addr) (dl dc : Nat), c = .slice da dl dc := by
  rcases open_slice Tryz.underlying33 h with ⟨h1, _⟩ | ⟨a, len, cap, m, n, D, Pl, h1, _⟩
  · cases h1; exact ⟨none, 0, 0, rfl⟩
  · cases h1; exact ⟨some a, len, cap, rfl⟩

theorem some_of {α : Type} {l : List α} {i : Nat} {y : Option α} (h : y = l[i]?) (hi : i < l.length) : ∃ z, y = some z := ⟨l[i], by rw [h, List.getElem?_eq_getElem hi]⟩

set_option maxRecDepth 100000 in
/-- An act that an argument holds. -/
theorem act_of {fuel : Nat} {cs : List Value} {x : DataW H × List MemPlace} (h : DataW.trod enc Tryz.prog W 0 (fun _ => true) held fuel 37 cs = some x) :
    ∃ a : Act1, cs = a.vals ∧ RI W a.pval a.ps a.ps.length a.pcap ∧ (-2147483648 ≤ a.rr ∧ a.rr ≤ 2147483647) ∧ (0 ≤ a.b ∧ a.b ≤ 255) := by
  obtain ⟨ys, n, _, _, hl, hyl, hf⟩ := DataW.trod_struct Tryz.underlying37 h
  rw [c37] at hl
  have hyl : ys.length = 4 := hyl
  match cs, hl with
  | [v0, v1, v2, v3, v4, v5, v6, v7, v8, v9], _ =>
    have f0 : DataW.trod enc Tryz.prog W 0 (fun _ => true) held n 3 (([v0, v1, v2, v3, v4, v5, v6, v7, v8, v9].drop 0).take (Tryz.prog.cellsOf 3)) = ys[0]? := hf 0 _ rfl
    have f1 : DataW.trod enc Tryz.prog W 0 (fun _ => true) held n 35 (([v0, v1, v2, v3, v4, v5, v6, v7, v8, v9].drop 1).take (Tryz.prog.cellsOf 35)) = ys[1]? := hf 1 _ rfl
    have f2 : DataW.trod enc Tryz.prog W 0 (fun _ => true) held n 3 (([v0, v1, v2, v3, v4, v5, v6, v7, v8, v9].drop 8).take (Tryz.prog.cellsOf 3)) = ys[2]? := hf 2 _ rfl
    have f3 : DataW.trod enc Tryz.prog W 0 (fun _ => true) held n 3 (([v0, v1, v2, v3, v4, v5, v6, v7, v8, v9].drop 9).take (Tryz.prog.cellsOf 3)) = ys[3]? := hf 3 _ rfl
    rw [c3] at f0 f2 f3
    rw [c35] at f1
    obtain ⟨z0, f0⟩ := some_of f0 (by omega)
    obtain ⟨z1, f1⟩ := some_of f1 (by omega)
    obtain ⟨z2, f2⟩ := some_of f2 (by omega)
    obtain ⟨z3, f3⟩ := some_of f3 (by omega)
    obtain ⟨op, e0, _, _⟩ := DataW.trod_int Tryz.underlying3 f0
    obtain ⟨rows, e2, _, _⟩ := DataW.trod_int Tryz.underlying3 f2
    obtain ⟨cols, e3, _, _⟩ := DataW.trod_int Tryz.underlying3 f3
    obtain ⟨us, n2, _, _, _, hul, hg⟩ := DataW.trod_struct Tryz.underlying35 f1
    have hul : us.length = 7 := hul
    have g0 : DataW.trod enc Tryz.prog W 0 (fun _ => true) held n2 3 (([v1, v2, v3, v4, v5, v6, v7].drop 0).take (Tryz.prog.cellsOf 3)) = us[0]? := hg 0 _ rfl
    have g1 : DataW.trod enc Tryz.prog W 0 (fun _ => true) held n2 21 (([v1, v2, v3, v4, v5, v6, v7].drop 1).take (Tryz.prog.cellsOf 21)) = us[1]? := hg 1 _ rfl
    have g2 : DataW.trod enc Tryz.prog W 0 (fun _ => true) held n2 5 (([v1, v2, v3, v4, v5, v6, v7].drop 2).take (Tryz.prog.cellsOf 5)) = us[2]? := hg 2 _ rfl
    have g3 : DataW.trod enc Tryz.prog W 0 (fun _ => true) held n2 5 (([v1, v2, v3, v4, v5, v6, v7].drop 3).take (Tryz.prog.cellsOf 5)) = us[3]? := hg 3 _ rfl
    have g4 : DataW.trod enc Tryz.prog W 0 (fun _ => true) held n2 9 (([v1, v2, v3, v4, v5, v6, v7].drop 4).take (Tryz.prog.cellsOf 9)) = us[4]? := hg 4 _ rfl
    have g5 : DataW.trod enc Tryz.prog W 0 (fun _ => true) held n2 32 (([v1, v2, v3, v4, v5, v6, v7].drop 5).take (Tryz.prog.cellsOf 32)) = us[5]? := hg 5 _ rfl
    have g6 : DataW.trod enc Tryz.prog W 0 (fun _ => true) held n2 33 (([v1, v2, v3, v4, v5, v6, v7].drop 6).take (Tryz.prog.cellsOf 33)) = us[6]? := hg 6 _ rfl
    rw [c3] at g0
    rw [c21] at g1
    rw [c5] at g2 g3
    rw [c9] at g4
    rw [c32] at g5
    rw [c33] at g6
    obtain ⟨w0, g0⟩ := some_of g0 (by omega)
    obtain ⟨w1, g1⟩ := some_of g1 (by omega)
    obtain ⟨w2, g2⟩ := some_of g2 (by omega)
    obtain ⟨w3, g3⟩ := some_of g3 (by omega)
    obtain ⟨w4, g4⟩ := some_of g4 (by omega)
    obtain ⟨w5, g5⟩ := some_of g5 (by omega)
    obtain ⟨w6, g6⟩ := some_of g6 (by omega)
    obtain ⟨kd, k0, _, _⟩ := DataW.trod_int Tryz.underlying3 g0
    obtain ⟨rr, k1, _, r1⟩ := DataW.trod_int Tryz.underlying21 g1
    obtain ⟨b, k2, _, r2⟩ := DataW.trod_int Tryz.underlying5 g2
    obtain ⟨pv, k3, _, _⟩ := DataW.trod_int Tryz.underlying5 g3
    obtain ⟨inter, k4, _, _⟩ := DataW.trod_string Tryz.underlying9 g4
    obtain ⟨ps, pad, pcap, k5, hR⟩ := ints_of (c := v6) g5
    obtain ⟨da, dl, dc, k6⟩ := data_of (c := v7) g6
    simp at e0 e2 e3 k0 k1 k2 k3 k4
    subst e0 e2 e3 k0 k1 k2 k3 k4 k5 k6
    have r1 := wfI r1
    have r2 := wfI r2
    exact ⟨⟨op, kd, rr, b, pv, inter, ps, pad, pcap, da, dl, dc, rows, cols⟩, rfl, hR, r1, r2⟩

set_option maxRecDepth 100000 in
/-- The acts that an argument holds. -/
theorem acts_of {r : Reach} {base : Nat} {v : Value} {d : DataW H} {p : List MemPlace} (hval : Value.okWide Tryz.prog W r base 24 v) (h : DataW.Trod enc Tryz.prog W 0 (fun _ => true) held 24 v d p) : ∃ acts, ActsV W v acts := by
  have hnot : ∀ cs, v ≠ .agg cs := by
    rintro cs rfl
    unfold Value.okWide Cell.okWide Cell.ok at hval
    rw [Tryz.underlying24] at hval
    exact hval
  have hc : v.cells.toList = [v] := by
    unfold Value.cells
    split
    · exact absurd rfl (hnot _)
    · rfl
  obtain ⟨fuel, hf⟩ := h
  rw [hc] at hf
  rcases open_slice Tryz.underlying24 hf with ⟨h1, _⟩ | ⟨a, len, cap, m, n, D, Pl, h1, _, hl, hm, hmm, _, hi⟩
  · cases h1; exact ⟨[], ⟨none, 0, rfl, Nat.le_refl _, by simp, fun h => absurd h (by simp)⟩⟩
  · cases h1
    rw [if_pos rfl] at hmm
    subst hmm
    rw [c37] at hi
    have hact : ∀ i, i < len → ∃ x : Act1, (∀ j, j < 10 → W.cell? ((a.add (i * 10)).add j) = x.vals[j]?) ∧ RI W x.pval x.ps x.ps.length x.pcap ∧ (-2147483648 ≤ x.rr ∧ x.rr ≤ 2147483647) ∧ (0 ≤ x.b ∧ x.b ≤ 255) := by
      intro i hil
      obtain ⟨cs', hcs, ht⟩ := hi i (by omega)
      obtain ⟨_, _, hat⟩ := World.cells?_some hcs
      obtain ⟨x, rfl, h2⟩ := act_of ht
      exact ⟨x, hat, h2⟩
    obtain ⟨X, hX⟩ := choose_lt hact
    refine ⟨(List.range len).map X, ⟨some a, m, by simp, by simpa using hl, by unfold maxLen at hm; omega, fun h0 => ?_⟩⟩
    have h0 : 0 < len := by simpa using h0
    obtain ⟨hs, hb⟩ := cell_spot (v := .int .i64 (X 0).op) ((hX 0 h0).1 0 (by omega))
    have e : (a.add (0 * 10)).add 0 = a := by unfold Addr.add; simp
    rw [e] at hs hb
    obtain ⟨b, o, sp⟩ := a
    dsimp only at hs hb
    subst hs
    refine ⟨b, o, rfl, fun i hil => ?_⟩
    have hil : i < len := by simpa using hil
    have hget : ((List.range len).map X).getD i default = X i := by simp [List.getD_eq_getElem?_getD, hil]
    rw [hget]
    obtain ⟨hcell, hR, h3, h4⟩ := hX i hil
    refine ⟨hb, fun j hj => ?_, hR, h3, h4⟩
    have := hcell j hj
    rw [addr_add, addr_add] at this
    exact this

set_option maxRecDepth 100000 in
/-- A shape that an argument holds. -/
theorem cfg_of {r : Reach} {base : Nat} {v : Value} (hval : Value.okWide Tryz.prog W r base 23 v) : ∃ a b c d e f : Int, v = .agg #[.int .i64 a, .int .i64 b, .int .i64 c, .int .i64 d, .int .i64 e, .int .i64 f] := by
  unfold Value.okWide at hval
  rw [Tryz.underlying23] at hval
  obtain ⟨cs, rfl, hsz, ts, hts, _, hc⟩ := hval
  have e6 : Tryz.prog.cellsOf 23 = 6 := by kernel_rfl
  have et : Tryz.prog.cellTypes Tryz.prog.depth 23 = some [3, 3, 3, 3, 3, 3] := by kernel_rfl
  rw [e6] at hsz
  obtain rfl : ts = [3, 3, 3, 3, 3, 3] := Option.some.inj (hts.symm.trans et)
  have hint : ∀ i, i < 6 → ∃ n : Int, cs[i]? = some (.int .i64 n) := by
    intro i hi
    obtain ⟨v, hv⟩ : ∃ v, cs[i]? = some v := ⟨cs[i], Array.getElem?_eq_getElem (by omega)⟩
    obtain ⟨u, hu, hk⟩ := hc i v hv
    have hu3 : u = 3 := by
      have : i % 6 = i := by omega
      simp only [List.length_cons, List.length_nil] at hu
      rw [this] at hu
      match i, hi, hu with
      | 0, _, hu => simpa using hu.symm
      | 1, _, hu => simpa using hu.symm
      | 2, _, hu => simpa using hu.symm
      | 3, _, hu => simpa using hu.symm
      | 4, _, hu => simpa using hu.symm
      | 5, _, hu => simpa using hu.symm
    subst hu3
    unfold Cell.okWide Cell.ok at hk
    rw [Tryz.underlying3] at hk
    cases v <;> first | exact hk.elim | (rename_i k n; obtain ⟨rfl, _⟩ := hk; exact ⟨n, hv⟩)
  obtain ⟨a, h0⟩ := hint 0 (by omega)
  obtain ⟨b, h1⟩ := hint 1 (by omega)
  obtain ⟨c, h2⟩ := hint 2 (by omega)
  obtain ⟨d, h3⟩ := hint 3 (by omega)
  obtain ⟨e, h4⟩ := hint 4 (by omega)
  obtain ⟨f, h5⟩ := hint 5 (by omega)
  refine ⟨a, b, c, d, e, f, congrArg Value.agg ?_⟩
  apply Array.ext_getElem?
  intro i
  by_cases hi : i < 6
  · match i, hi with
    | 0, _ => exact h0
    | 1, _ => exact h1
    | 2, _ => exact h2
    | 3, _ => exact h3
    | 4, _ => exact h4
    | 5, _ => exact h5
  · rw [Array.getElem?_eq_none (by omega), Array.getElem?_eq_none (by simp; omega)]
end
end Go.Eng
