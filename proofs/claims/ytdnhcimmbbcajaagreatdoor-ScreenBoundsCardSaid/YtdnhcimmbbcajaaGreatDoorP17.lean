/-
  A part of a proof (BackA BackB): lemmas on what the program's functions do. No condition but those that each lemma states.
-/
import Derived.RangeFuncFrom
import Derived.RangeFuncLeaves
import Derived.Shelf.Abstract
import Derived.WalkKit
import Derived.OwnWalkIn
import Derived.TacticsInMore
import Derived.LoopNIn
import Derived.LoopIn
import Derived.Test.YtdnhcimmbbcajaaGreatDoorP08
set_option maxRecDepth 8000
set_option linter.all false
namespace Go.Proofs
open Go.RowKit Go.Shelf

/-- Two blocks stay. -/
def Kz.KeepB (Bs b : Nat) (A B : World) : Prop := B.heap[Bs]? = A.heap[Bs]? ∧ B.heap[b]? = A.heap[b]?
theorem Kz.KeepB.trans {Bs b : Nat} {A B C : World} (h : Kz.KeepB Bs b A B) (k : Kz.KeepB Bs b B C) : Kz.KeepB Bs b A C := ⟨k.1.trans h.1, k.2.trans h.2⟩
theorem Kz.cell_of_heap {A B : World} {b o : Nat} (h : B.heap[b]? = A.heap[b]?) : B.cell? ⟨b, o, none⟩ = A.cell? ⟨b, o, none⟩ := by simp [World.cell?, h]

set_option maxRecDepth 100000 in
set_option maxHeartbeats 2000000 in
theorem Kz.back1_in (F : Fence) (n : Nat) (h7 : F.fn 166) (hro : F.round = none) (hn : 1 ≤ n) (l Bs b off len cap : Nat) (zs : Nat → Int) (hreach : len ≤ 1000000) (J Jx : List (Int × Int) → World → Prop)
    (hY : ∀ pre x W, J pre W → pre.length < len → YieldAt F (n - 1) Tryz.prog l #[.int .i64 x.1, .int .i64 x.2] W fun e W' =>
      (e = .returned (.bool true) ∧ J (pre ++ [x]) W' ∧ Kz.KeepB Bs b W W') ∨ (e = .returned (.bool false) ∧ Jx (pre ++ [x]) W'))
    (W : World) (hBs : W.cell? ⟨Bs, 0, none⟩ = some (.slice (some ⟨b, off, none⟩) len cap)) (hc : ∀ j, j < len → W.cell? ⟨b, off + j, none⟩ = some (.int .i64 (zs j))) (h0 : J [] W) :
    CallsIn F n Tryz.prog 166 #[.func (.yield l) #[] #[], .pointer (some ⟨Bs, 0, none⟩)] W fun e W' => (∃ v, e = .returned v) ∧ ((∃ ys, True ∧ J ys W') ∨ (∃ pre, True ∧ Jx pre W')) := by
  refine callsIn_of_wp Tryz.func166 rfl h7 ?_ hro
  simp only [Tryz.ntmps166, List.size_toArray, List.length_cons, List.length_nil, Nat.reduceAdd, Nat.reduceSub, Array.replicate_succ, Array.replicate_zero, List.push_toArray, List.append_toArray, List.nil_append, List.cons_append]
  gi_wp2
  gi_loopw [3] (fun i wr => ∃ k : Nat, k ≤ len ∧ i = .int .i64 ((k : Int) - 1) ∧ (∃ pre, pre.length + k ≤ len ∧ J pre wr) ∧ wr.cell? ⟨Bs, 0, none⟩ = some (.slice (some ⟨b, off, none⟩) len cap) ∧ (∀ j, j < len → wr.cell? ⟨b, off + j, none⟩ = some (.int .i64 (zs j))))
    (fun i _ => (intOf i + 1).toNat)
  case atStart => exact ⟨len, Nat.le_refl _, rfl, ⟨[], by simp, h0⟩, hBs, hc⟩
  case round =>
    obtain ⟨k, hk, rfl, ⟨pre, hpre, hJs⟩, hBx, hcs⟩ := hrel
    by_cases hlt : 0 < k
    · obtain ⟨k, rfl⟩ : ∃ j, k = j + 1 := ⟨k - 1, by omega⟩
      have hcx : wr.cell? ⟨b, off + k, none⟩ = some (.int .i64 (zs k)) := hcs k (by omega)
      obtain ⟨fn, tmps, assign, body, hy, hR⟩ := hY pre ((k : Int), zs k) wr hJs (by omega)
      dsimp only at hy
      have e1 : ((k + 1 : Nat) : Int) - 1 = (k : Int) := by omega
      rw [e1]
      have hcs' : Hid (∀ j, j < len → wr.cell? ⟨b, off + j, none⟩ = some (.int .i64 (zs j))) := hcs
      clear hcs
      gi_wp2
      refine hR.mono ?_
      rintro e W3 (⟨rfl, hJ3, hk3⟩ | ⟨rfl, hJx3⟩)
      · gi_wp2
        go_roundw
        case rel => exact ⟨k, by omega, rfl, ⟨_, by simp; omega, hJ3⟩, (Kz.cell_of_heap hk3.1).trans hBx, fun j hj => (Kz.cell_of_heap hk3.2).trans (hcs'.out j hj)⟩
        case measure => simp [intOf]
      · gi_wp2
        refine bodyPost_ret (results_none rfl _ _ _) rfl ?_
        exact ⟨⟨_, rfl⟩, .inr ⟨_, trivial, hJx3⟩⟩
    · obtain rfl : k = 0 := by omega
      gi_wp2
      go_end0
      exact ⟨⟨_, rfl⟩, .inl ⟨_, trivial, hJs⟩⟩


set_option maxRecDepth 100000 in
set_option maxHeartbeats 1000000 in
theorem Kz.back1_nil_in (F : Fence) (n : Nat) (h7 : F.fn 166) (hro : F.round = none) (l Bs : Nat) (J : List (Int × Int) → World → Prop) (W : World) (hBs : W.cell? ⟨Bs, 0, none⟩ = some (.slice none 0 0)) (h0 : J [] W) :
    CallsIn F n Tryz.prog 166 #[.func (.yield l) #[] #[], .pointer (some ⟨Bs, 0, none⟩)] W fun e W' => (∃ v, e = .returned v) ∧ J [] W' := by
  refine callsIn_of_wp Tryz.func166 rfl h7 ?_ hro
  simp only [Tryz.ntmps166, List.size_toArray, List.length_cons, List.length_nil, Nat.reduceAdd, Nat.reduceSub, Array.replicate_succ, Array.replicate_zero, List.push_toArray, List.append_toArray, List.nil_append, List.cons_append]
  gi_wp2
  gi_loopw [3] (fun i wr => i = .int .i64 (-1) ∧ J [] wr) (fun _ _ => 0)
  case atStart => exact ⟨rfl, h0⟩
  case round =>
    obtain ⟨rfl, hJs⟩ := hrel
    gi_wp2
    go_end0
    exact ⟨⟨_, rfl⟩, hJs⟩

set_option maxHeartbeats 1000000 in
theorem Kz.backward_in (F : Fence) (n : Nat) (h5 : F.fn 152) (hro : F.round = none) (a : Option Addr) (len cap : Nat) (w : World) :
    CallsIn F n Tryz.prog 152 #[.slice a len cap] w fun e w' => e = .returned (.func (.func 166) #[] #[.pointer (some ⟨w.heap.size, 0, none⟩)]) ∧ w' = w.alloc (.cells #[.slice a len cap] 32) := by
  refine callsIn_of_wp Tryz.func152 rfl h5 ?_ hro
  simp only [Tryz.ntmps152, List.size_toArray, List.length_cons, List.length_nil, Nat.reduceAdd, Nat.reduceSub, Array.replicate_succ, Array.replicate_zero, List.push_toArray, List.append_toArray, List.nil_append, List.cons_append]
  gi_wp2
  go_ret
  exact ⟨rfl, rfl⟩

theorem Kz.backward_stops (F : Fence) (n : Nat) (h7 : F.fn 166) (hro : F.round = none) (hn : 1 ≤ n) (Bs : Nat) (sv : Value) (ss : List Int) (cap : Nat) (hreach : ss.length ≤ 1000000) (w : World) (hBs : Bs < w.heap.size)
    (hc : w.cell? ⟨Bs, 0, none⟩ = some sv) (hI : Eng.Sl w sv 3 1 (ss.map (Value.int .i64)) ss.length cap) :
    ∃ b, b < w.heap.size ∧ (b = Bs ∨ Eng.sblk sv = some b) ∧ SeqStopsK F n Tryz.prog 166 #[.pointer (some ⟨Bs, 0, none⟩)] (fun x : Int × Int => #[Value.int .i64 x.1, Value.int .i64 x.2]) (Kz.KeepB Bs b) (fun _ => True) (fun _ => True) ss.length w := by
  rcases hI.shape with ⟨rfl, h1, h2, _⟩ | ⟨b, o, blk, rfl, hb, hat, _⟩
  · refine ⟨Bs, hBs, .inl rfl, fun l J Jx W hW _ _ hY h0 => ?_⟩
    have hc' := (hW.cell (p := ⟨Bs, 0, none⟩) hBs).trans hc
    refine (Kz.back1_nil_in F n h7 hro l Bs J W hc' h0).mono fun e W' ⟨he, hj⟩ => ⟨he, .inl ⟨_, trivial, hj⟩⟩
  · have hbw : b < w.heap.size := hb.lt
    refine ⟨b, hbw, .inr rfl, fun l J Jx W hW _ _ hY h0 => ?_⟩
    have hc' := (hW.cell (p := ⟨Bs, 0, none⟩) hBs).trans hc
    refine Kz.back1_in F n h7 hro hn l Bs b o ss.length cap (fun j => ss.getD j 0) hreach J Jx hY W hc' (fun j hj => ?_) h0
    refine (hW.cell (p := ⟨b, o + j, none⟩) hbw).trans (hb.cell ?_)
    rw [hat.get j (by simpa using hj)]
    simp [hj]

end Go.Proofs
namespace Go.Eng
open Go Go.Proofs Go.Sort Go.Maps Go.Shelf
theorem sortedR2 {w : World} {mb : Nat} {f : Int → Bool} (h : MapK w mb f) : Ret Tryz.prog 110 [.func (.func 140) #[] #[.pointer (some ⟨w.heap.size, 0, none⟩)]] (w.alloc (.cells #[.map (some mb)] 66))
    (fun r w' => ∃ (ss : List Int) (cap : Nat), Sl w' r 3 1 (ss.map (Value.int .i64)) ss.length cap ∧ ss.length ≤ 4096 ∧ (∀ x ∈ ss, 0 ≤ x ∧ x < 4096) ∧ (∀ k, sblk r = some k → w.heap.size ≤ k) ∧ Grow (w.alloc (.cells #[.map (some mb)] 66)) w') := by
  obtain ⟨D, m, hown, hkeys, hat⟩ := h
  have hs := MapK.size hown hkeys
  have hbl := hown.lt
  have hseq : SeqGives Fence.wide 2 Tryz.prog 140 #[.pointer (some ⟨w.heap.size, 0, none⟩)] encZ (fun ss => ss.Perm (intKeys D)) (Maps.size D) (w.alloc (.cells #[.map (some mb)] 66)) :=
    Kz.keys_gives Fence.wide _ trivial rfl (by omega) w.heap.size mb m D _ (by simp) (by simp) (by
      obtain ⟨es, clock, hb, Ft, hs, hD⟩ := hown
      exact ⟨es, clock, (RowKit.Below.heap_alloc _ _ mb hbl).trans hb, Ft, hs, hD⟩)
  have cS := Kz.sorted_in Fence.wide 5 trivial trivial trivial trivial rfl (by omega) (Kz.sorts _) 140 #[.pointer (some ⟨w.heap.size, 0, none⟩)] trivial (enters_of Tryz.func140 (by kernel_rfl) rfl) _ _ (by unfold maxLen; omega) (by omega) _ hseq
  refine ⟨Calls.mono (callsIn_wide.1 cS) ?_⟩
  rintro e w' ⟨v, ss, rfl, hS, hrow, hnil, hb⟩
  have hlen : (ss.mergeSort (fun x y => decide (x ≤ y))).length = ss.length := by simp
  obtain ⟨cap, hsl⟩ := Sl.of_row hrow
  obtain ⟨es, rfl, hp, hx⟩ := own_keys hown
  refine ⟨v, rfl, ss.mergeSort (fun x y => decide (x ≤ y)), cap, by rw [hlen]; exact hsl, ?_, fun x hxm => ?_, fun k hk => ?_, ⟨hb.os, hb.tape, hb.output, hb.size, fun k hk _ => hb.block k hk⟩⟩
  · rw [hlen, hS.length_eq]
    simpa [intKeys, Maps.size] using hs
  · have h1 : x ∈ ss := (List.mergeSort_perm ss _).mem_iff.1 hxm
    have h2 := hS.mem_iff.1 h1
    obtain ⟨p, hpm, rfl⟩ := List.mem_map.1 h2
    obtain ⟨y, hy⟩ := hx p hpm
    refine hkeys _ ?_
    rw [has_eq, List.any_eq_true]
    exact ⟨p, hpm, by rw [hy]; simp [Lit.sameKey, intOf]⟩
  · rcases hrow.2 with ⟨rfl, _⟩ | ⟨g, cp, cur, rfl, hbg, _⟩
    · cases hk
    · cases hk
      show w.heap.size ≤ g
      simp at hbg; omega

theorem all_fresh {w : World} {tb mb : Nat} {c0 : Int} {f : Int → Bool} (hB : Blk w tb 109 [.int .i64 c0, .map (some mb)]) (hM : MapK w mb f) : Ret Tryz.prog 66 [.pointer (some ⟨tb, 0, none⟩)] w (fun r w' => ∃ (ss : List Int) (cap : Nat), Sl w' r 3 1 (ss.map (Value.int .i64)) ss.length cap ∧ ss.length ≤ 4096 ∧ (∀ x ∈ ss, 0 ≤ x ∧ x < 4096) ∧ (∀ k, sblk r = some k → w.heap.size ≤ k) ∧ Grow w w') := by
  refine Ret.of Tryz.func66 Tryz.ntmps66 rfl rfl ?_
  refine WC.sub (e' := [(0, .pointer (some ⟨tb, 0, none⟩))]) ⟨rfl, trivial⟩ ?_
  have hG : Mod (fun k => False) w w := Mod.refl _ _
  refine WC.seq ?_
  refine WC.region ?_
  refine WL.val (OpRun.assign rfl) rfl ?_
  refine WL.nil ?_
  refine WC.seq ?_
  refine WC.region ?_
  refine WL.val (OpRun.move rfl) rfl ?_
  refine WL.val (OpRun.nilCheck rfl) rfl ?_
  refine WL.val (OpRun.fieldAddr (off := 1) rfl ⟨Tryz.runUnderlying109⟩ rfl ⟨Tryz.sizeOf66⟩ rfl rfl) rfl ?_
  refine WL.val (OpRun.load rfl ⟨Tryz.isAgg66⟩ hB rfl) rfl ?_
  refine WL.step (OpTo.call ⟨Tryz.call111⟩ rfl rfl (keysR w mb) (fun v1 w1 hp1 => ?_))
  obtain ⟨rfl, rfl⟩ := hp1
  skip
  refine WL.step (OpTo.call ⟨Tryz.call110⟩ rfl rfl (sortedR2 hM) (fun v2 w2 hp2 => ?_))
  obtain ⟨ss, cap, hsl, hl, hr, hfr, hm2⟩ := hp2
  have hgr := (grow_alloc (w := w) (.cells #[.map (some mb)] 66)).trans hm2
  refine WL.val (OpRun.assign rfl) rfl ?_
  refine WL.nil ?_
  refine WC.ret ?_
  refine fin_one rfl rfl ?_
  exact ⟨ss, cap, hsl, hl, hr, hfr, hgr⟩

end Go.Eng

namespace Go.Proofs
open Go.RowKit Go.Shelf Go.Eng

theorem Kz.frozen_setCell (W : World) (a p : Addr) (v : Value) : (W.setCell a v).frozen? p = W.frozen? p := by
  simp [go_sem]

theorem Kz.grow_of_below {w w' : World} (h : Below w.heap.size w w') : Grow w w' := ⟨h.os, h.tape, h.output, h.size, fun k hk _ => h.block k hk⟩
theorem Kz.below_of_grow {n₀ : Nat} {w w' : World} (h : Grow w w') (hn : n₀ ≤ w.heap.size) : Below n₀ w w' := ⟨h.os, h.tape, h.output, h.size, fun k hk => h.block k (by omega) (fun h => h)⟩
theorem Kz.sl_slice {w : World} {v : Value} {T sz len cap : Nat} {cs : List Value} (h : Sl w v T sz cs len cap) : ∃ ad, v = .slice ad len cap := by
  rcases h.shape with ⟨rfl, _, rfl, rfl⟩ | ⟨b, o, blk, rfl, _⟩
  · exact ⟨_, rfl⟩
  · exact ⟨_, rfl⟩
theorem Kz.keepB_set {Bs b k : Nat} {W : World} {v : Value} (h1 : Bs ≠ k) (h2 : b ≠ k) : Kz.KeepB Bs b W (W.setCell ⟨k, 0, none⟩ v) := ⟨Below.heap_setCell _ _ _ _ h1, Below.heap_setCell _ _ _ _ h2⟩

/-- What the range's rounds keep. -/
def Kz.Bk (w : World) (col : Int) (pre : List (Int × Int)) (W : World) : Prop :=
  (W.cell? ⟨w.heap.size, 0, none⟩ = some (.int .i64 col) ∧ (∃ z, W.cell? ⟨w.heap.size + 1, 0, none⟩ = some (.int .i64 z) ∧ 1 ≤ z ∧ z ≤ 4611686018427387904) ∧ W.frozen? ⟨w.heap.size + 1, 0, none⟩ = false ∧
    (∃ z, W.cell? ⟨w.heap.size + 1 + 1, 0, none⟩ = some (.int .i64 z)) ∧ W.frozen? ⟨w.heap.size + 1 + 1, 0, none⟩ = false) ∧ Below w.heap.size w W
def Kz.BkX (w : World) (c : Code) (pre : List (Int × Int)) (W : World) : Prop := (c = .ret ∧ ∃ z, W.cell? ⟨w.heap.size + 1 + 1, 0, none⟩ = some (.int .i64 z)) ∧ Below w.heap.size w W

set_option maxRecDepth 100000 in
set_option maxHeartbeats 2000000 in
theorem Kz.tabsBack_in {w : World} {tb : Nat} {T : Tabs} (h : TabsW w tb T) (col m : Int) (hmm : m ≤ 4611686018427387904) : CallsIn Fence.wide 5 Tryz.prog 135 #[.pointer (some ⟨tb, 0, none⟩), .int .i64 col, .int .i64 m] w fun e W' =>
    (∃ z, e = .returned (.int .i64 z)) ∧ Below w.heap.size w W' := by
  have h1 : 1 ≤ 5 := by omega
  have k83 : Fence.wide.fn 83 := trivial
  have k84 : Fence.wide.fn 84 := trivial
  have k66 : Fence.wide.fn 66 := trivial
  have k152 : Fence.wide.fn 152 := trivial
  refine callsIn_of_wp_marks Tryz.func135 rfl trivial ?_ rfl
  simp only [Tryz.ntmps135, List.size_toArray, List.length_cons, List.length_nil, Nat.reduceAdd, Nat.reduceSub, Array.replicate_succ, Array.replicate_zero, List.push_toArray, List.append_toArray, List.nil_append, List.cons_append]
  obtain ⟨W0, hW0⟩ : ∃ W0, ((w.alloc (.cells #[.int .i64 col] 3)).alloc (.cells #[.int .i64 m] 3)).alloc (.cells #[.int .i64 0] 3) = W0 := ⟨_, rfl⟩
  have hBW : Below w.heap.size w W0 := by rw [← hW0]; exact (((Below.refl _ w).alloc (Nat.le_refl _) _).alloc (by simp) _).alloc (by simp; omega) _
  have hs0 : W0.heap.size = w.heap.size + 3 := by rw [← hW0]; simp
  have hB0 : W0.heap[w.heap.size]? = some (.cells #[.int .i64 col] 3 (0, 0)) := by
    rw [← hW0]; exact ((Below.heap_alloc _ _ _ (by simp; omega)).trans (Below.heap_alloc _ _ _ (by simp))).trans (World.alloc_heap_new w _)
  have hB1 : W0.heap[w.heap.size + 1]? = some (.cells #[.int .i64 m] 3 (0, 0)) := by
    rw [← hW0]; refine (Below.heap_alloc _ _ _ (by simp)).trans ?_
    have := World.alloc_heap_new (w.alloc (.cells #[.int .i64 col] 3)) (.cells #[.int .i64 m] 3); rwa [World.size_alloc] at this
  have hB2 : W0.heap[w.heap.size + 1 + 1]? = some (.cells #[.int .i64 0] 3 (0, 0)) := by
    rw [← hW0]; have := World.alloc_heap_new ((w.alloc (.cells #[.int .i64 col] 3)).alloc (.cells #[.int .i64 m] 3)) (.cells #[.int .i64 0] 3); rwa [World.size_alloc, World.size_alloc] at this
  have hT0 : TabsW W0 tb T := h.grow (Kz.grow_of_below hBW)
  have cI := (callsIn_wide (n := 4)).2 (tis_ok hT0 col).out
  have cN := (callsIn_wide (n := 4)).2 (near_ok hT0 col).out
  have cA := (callsIn_wide (n := 4)).2 (all_fresh hT0.blk hT0.map).out
  obtain ⟨c4, f4⟩ := Kz.cell_of_box hB0
  obtain ⟨c5, f5⟩ := Kz.cell_of_box hB1
  obtain ⟨c6, f6⟩ := Kz.cell_of_box hB2
  gi_wp2
  refine wpIn_wide.2 (wp_scope_straight ((wpIn_wide (n := 5)).1 ?_))
  clear hW0 hB0 hB1 hB2 hT0 h
  by_cases hm : m < 1
  · gi_wp2_with (gi_at_call 84; refine cN.mono ?_; rintro e w' ⟨_, rfl, ⟨z, rfl⟩, rfl⟩)
    rw [Exit.noGoto_ret]
    refine ⟨.int .i64 z, ?_, ⟨z, rfl⟩, hBW.setCell (p := ⟨w.heap.size + 1 + 1, 0, none⟩) (by simp; omega) _⟩
    have hc5 := World.cell?_setCell_same' W0 ⟨w.heap.size + 1 + 1, 0, none⟩ (.int .i64 z) (by rw [c6]; rfl)
    simp [results, Tryz.f135, go_sem, hc5]
  · gi_wp2_with (first | (gi_at_call 83; refine cI.mono ?_; rintro e w' ⟨_, rfl, rfl, rfl⟩) | (gi_at_call 84; refine cN.mono ?_; rintro e w' ⟨_, rfl, ⟨z, rfl⟩, rfl⟩))
    · rw [Exit.noGoto_ret]
      rename_i z
      refine ⟨.int .i64 z, ?_, ⟨z, rfl⟩, hBW.setCell (p := ⟨w.heap.size + 1 + 1, 0, none⟩) (by simp; omega) _⟩
      have hc5 := World.cell?_setCell_same' W0 ⟨w.heap.size + 1 + 1, 0, none⟩ (.int .i64 z) (by rw [c6]; rfl)
      simp [results, Tryz.f135, go_sem, hc5]
    · refine wpIn_label ?_
      clear cI cN
      gi_wp2_with (first | (gi_at_call 66; refine cA.mono ?_; rintro e w' ⟨v, rfl, ss, cap, hS, hl, hr, hfr, hg⟩; obtain ⟨ad, rfl⟩ := Kz.sl_slice hS; clear cA hr) | (gi_at_call 152; refine (Kz.backward_in Fence.wide 4 trivial rfl _ _ _ _).mono ?_; rintro e w1 ⟨rfl, rfl⟩))
      obtain ⟨W1, hW1⟩ : ∃ W1, w'.alloc (.cells #[.slice ad ss.length cap] 32) = W1 := ⟨_, rfl⟩
      have hs1 : W1.heap.size = w'.heap.size + 1 := by rw [← hW1]; simp
      have hsw : W0.heap.size ≤ w'.heap.size := hg.size
      have hg1 : Below W0.heap.size W0 W1 := by rw [← hW1]; exact (Kz.below_of_grow hg (Nat.le_refl _)).alloc hsw _
      have hS1 : Sl W1 (.slice ad ss.length cap) 3 1 (ss.map (Value.int .i64)) ss.length cap := hS.grow (by rw [← hW1]; exact grow_alloc _)
      have hcB : W1.cell? ⟨w'.heap.size, 0, none⟩ = some (.slice ad ss.length cap) := by rw [← hW1]; exact (Kz.cell_of_box (World.alloc_heap_new w' _)).1
      rw [hW1]
      clear hW1 hS
      have fz : ∀ k, k < W0.heap.size → W1.frozen? ⟨k, 0, none⟩ = W0.frozen? ⟨k, 0, none⟩ := fun k hk => by simp [World.frozen?, hg1.block k hk]
      obtain ⟨b, hbl, hbs, hseq⟩ := Kz.backward_stops Fence.wide 4 trivial rfl (by omega) w'.heap.size _ ss cap (by omega) W1 (by omega) hcB hS1
      have hbge : W0.heap.size ≤ b := by
        rcases hbs with rfl | hbs
        · omega
        · exact hfr b hbs
      refine wpIn_rangeFunc_ownF rfl h1 (gf := 166) (lb := #[.pointer (some ⟨w'.heap.size, 0, none⟩)]) rfl trivial (enters_of Tryz.func166 (by kernel_rfl) rfl)
        hseq Kz.KeepB.trans (fun W l o o' hl _ _ _ => ⟨World.putObj_heap_other (by omega), World.putObj_heap_other (by omega)⟩) (Below.refl _ _) (fun _ => rfl)
        (Kz.Bk w col) (Kz.BkX w)
        (OwnFrom.and (Own.from (fun s A B row hs hg hr => ⟨cell_kept hs.1 hg hr, hs.2.1.imp fun z hz => ⟨cell_kept hz.1 hg hr, hz.2⟩, (frozen_kept hs.2.1.choose_spec.1 hg hr).trans hs.2.2.1, hs.2.2.2.1.imp fun z hz => cell_kept hz hg hr, (frozen_kept hs.2.2.2.1.choose_spec hg hr).trans hs.2.2.2.2⟩) _) (ownFrom_below (Nat.le_refl _) (by have := hBW.size; omega)))
        (fun c => OwnFrom.and (Own.from (fun s A B row hs hg hr => ⟨hs.1, hs.2.imp fun z hz => cell_kept hz hg hr⟩) _) (ownFrom_below (Nat.le_refl _) (by have := hBW.size; omega)))
        ⟨⟨(hg1.cell (p := ⟨_, 0, none⟩) (by simp; omega)).trans c4, ⟨m, (hg1.cell (p := ⟨_, 0, none⟩) (by simp; omega)).trans c5, by omega, hmm⟩, (fz _ (by omega)).trans f5, ⟨0, (hg1.cell (p := ⟨_, 0, none⟩) (by simp; omega)).trans c6⟩, (fz _ (by omega)).trans f6⟩, hBW.trans (hg1.mono (by omega))⟩
        (fun x => { tmps := #[.pointer (some ⟨tb, 0, none⟩), .int .i64 col, .int .i64 m, undef, .pointer (some ⟨w.heap.size, 0, none⟩), .pointer (some ⟨w.heap.size + 1, 0, none⟩), .pointer (some ⟨w.heap.size + 1 + 1, 0, none⟩), undef, .int .i64 x.2, .int .i64 m, .bool false, .bool false, .pointer (some ⟨tb, 0, none⟩), .int .i64 col, .bool (decide (0 ≤ col) && decide (col < (T.cols : Int))), .bool false, .bool false, undef, undef, undef, .pointer (some ⟨tb, 0, none⟩), .slice ad ss.length cap, .func (.func 166) #[] #[.pointer (some ⟨w'.heap.size, 0, none⟩)], .int .i64 x.1, .int .i64 x.2, undef, undef, undef, undef, undef, undef, undef, undef], defers := [] }) ?assign ?body ?done ?stop
      case assign =>
        intro l x W K hK
        gi_wp2_with (rw [Oper.semAt_eq _ _ _ (fun c h => by cases h)]; go_simp; try go_bits)
        exact hK
      case body =>
        rintro l pre x W ⟨⟨d4, ⟨z5, d5, hz1, hz2⟩, e5, ⟨z6, d6⟩, e6⟩, hB⟩ _
        clear c4 f4 c5 f5 c6 f6 hcB fz hg1 hg hseq hS1 hfr hbs hBW
        rename_i kq _
        clear kq
        by_cases hx : x.2 ≥ col
        · gi_wp2_with (rw [Oper.semAt_eq _ _ _ (fun c h => by cases h)]; go_simp; try go_bits)
          exact ⟨KeepsOthers.refl _, ⟨rfl, rfl⟩, ⟨d4, ⟨z5, d5, hz1, hz2⟩, e5, ⟨z6, d6⟩, e6⟩, hB⟩
        · by_cases hz : z5 = 1
          · subst hz
            gi_wp2_with (rw [Oper.semAt_eq _ _ _ (fun c h => by cases h)]; go_simp; try go_bits)
            refine ⟨(KeepsOthers.setCell _ _ _).trans (KeepsOthers.setCell _ _ _), ⟨rfl, x.2, ?_⟩, (hB.setCell (p := ⟨w.heap.size + 1, 0, none⟩) (by simp) _).setCell (p := ⟨w.heap.size + 1 + 1, 0, none⟩) (by simp; omega) _⟩
            exact World.cell?_setCell_same' _ ⟨w.heap.size + 1 + 1, 0, none⟩ _ (by rw [Kz.cell_of_heap (Below.heap_setCell _ _ _ _ (by simp)), d6]; rfl)
          · gi_wp2_with (rw [Oper.semAt_eq _ _ _ (fun c h => by cases h)]; go_simp; try go_bits)
            refine ⟨KeepsOthers.setCell _ _ _, Kz.keepB_set (by omega) (by omega), ⟨(Kz.cell_of_heap (Below.heap_setCell _ _ _ _ (by simp))).trans d4, ⟨z5 - 1, World.cell?_setCell_same' _ ⟨w.heap.size + 1, 0, none⟩ _ (by rw [d5]; rfl), by omega, by omega⟩, ?_, ⟨z6, (Kz.cell_of_heap (Below.heap_setCell _ _ _ _ (by simp))).trans d6⟩, ?_⟩, hB.setCell (p := ⟨w.heap.size + 1, 0, none⟩) (by simp) _⟩
            · rw [Kz.frozen_setCell]; exact e5
            · rw [Kz.frozen_setCell]; exact e6
      case done =>
        rintro D xs W hD _ ⟨⟨_, _, _, ⟨z6, d6⟩, e6⟩, hB⟩ hK
        clear c4 f4 c5 f5 c6 f6 hcB fz hg1 hg hseq hS1 hfr hbs hBW
        gi_wp2
        rw [Exit.noGoto_ret]
        have hK' := (KeepsOthers.setCell W ⟨w.heap.size + 1 + 1, 0, none⟩ (.int .i64 0)).same D _ hK rfl
        refine ⟨by simp, .inl ⟨_, _, rfl, run_takeDeferred hK', ?_⟩⟩
        have hc5 := cell_kept (World.cell?_setCell_same' W ⟨w.heap.size + 1 + 1, 0, none⟩ (.int .i64 0) (by rw [d6]; rfl)) (grownBy_putObj' _ D (.deferred none)) (fun r e => by cases e; exact ⟨_, hK', rfl⟩)
        refine ⟨.int .i64 0, ?_, ⟨0, rfl⟩, (hB.setCell (p := ⟨w.heap.size + 1 + 1, 0, none⟩) (by simp; omega) _).trans (belowK_b (w := w) (Nat.le_refl _) _ D _ _ (by omega) hK' rfl rfl)⟩
        simp [results, Tryz.f135, go_sem, hc5]
      case stop =>
        rintro D c pre W hD _ ⟨⟨rfl, z, hcr⟩, hB⟩ hK
        clear c4 f4 c5 f5 c6 f6 hcB fz hg1 hg hseq hS1 hfr hbs hBW
        gi_wp2
        rw [Exit.noGoto_ret]
        refine ⟨by simp, .inl ⟨_, _, rfl, run_takeDeferred hK, ?_⟩⟩
        have hc5 := cell_kept hcr (grownBy_putObj' _ D (.deferred none)) (fun r e => by cases e; exact ⟨_, hK, rfl⟩)
        refine ⟨.int .i64 z, ?_, ⟨z, rfl⟩, hB.trans (belowK_b (w := w) (Nat.le_refl _) W D _ _ (by omega) hK rfl rfl)⟩
        simp [results, Tryz.f135, go_sem, hc5]
end Go.Proofs
namespace Go.Eng
open Go Go.Proofs
theorem back_ok {w : World} {tb : Nat} {T : Tabs} (h : TabsW w tb T) (col n : Int) (hn : n ≤ 4611686018427387904) : Ret Tryz.prog 135 [.pointer (some ⟨tb, 0, none⟩), .int .i64 col, .int .i64 n] w (fun r w' => (∃ z, r = .int .i64 z) ∧ Grow w w') :=
  ⟨Calls.mono (callsIn_wide.1 (Kz.tabsBack_in h col n hn)) (by
    rintro e w' ⟨⟨z, rfl⟩, hB⟩
    exact ⟨_, rfl, ⟨z, rfl⟩, Kz.grow_of_below hB⟩)⟩
end Go.Eng
