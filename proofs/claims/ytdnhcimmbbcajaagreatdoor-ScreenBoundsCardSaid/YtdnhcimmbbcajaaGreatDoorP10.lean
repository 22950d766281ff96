/-
  A part of a proof (Utf1): lemmas on what the program's functions do. No condition but those that each lemma states.
-/
import Derived.Test.YtdnhcimmbbcajaaGreatDoorP09
set_option maxRecDepth 8000
set_option linter.all false
namespace Go.Eng
open Go Go.Proofs

def isR (r : Int) : Bool := decide (0 ≤ r ∧ r ≤ 1114111 ∧ (r < 55296 ∨ 57343 < r))
abbrev pcells (l : List (Int × Int)) : List Value := l.flatMap fun p => [.int .i32 p.1, .int .i32 p.2]
def inB (l : List (Int × Int)) (r : Int) : Bool := l.any fun p => decide (p.1 ≤ r ∧ r ≤ p.2)
def thinL : List (Int × Int) := [(0, 31), (127, 159), (768, 879), (8203, 8207), (65024, 65039)]
def wideL : List (Int × Int) := [(4352, 4447), (11904, 42191), (44032, 55203), (63744, 64255), (65072, 65135), (65280, 65376), (65504, 65510), (127744, 129791), (131072, 262141)]
def widthB (r : Int) : Nat := if isR r = false ∨ inB thinL r = true then 0 else if inB wideL r = true then 2 else 1
theorem widthB_le (r : Int) : widthB r ≤ 2 := by unfold widthB; split; omega; split <;> omega

theorem pcells_length (l : List (Int × Int)) : (pcells l).length = l.length * 2 := by
  induction l with
  | nil => rfl
  | cons p l ih => simp only [pcells, List.flatMap_cons, List.length_append, List.length_cons, List.length_nil] at ih ⊢; omega

theorem pc_at {blk : List Value} : ∀ {o : Nat} {l : List (Int × Int)}, At blk o (pcells l) → ∀ j, j < l.length → At blk (o + j * 2) [.int .i32 (l.getD j default).1, .int .i32 (l.getD j default).2]
  | o, [], _, j, hj => by simp at hj
  | o, p :: l, h, 0, _ => ⟨h.1, h.2.1, trivial⟩
  | o, p :: l, h, j + 1, hj => by
    have := pc_at (o := o + 2) (l := l) h.2.2 j (by simpa using hj)
    rw [show o + (j + 1) * 2 = o + 2 + j * 2 from by omega]
    simpa using this

theorem inB_hit {l : List (Int × Int)} {r : Int} {j : Nat} (hj : j < l.length) (h1 : (l.getD j default).1 ≤ r) (h2 : r ≤ (l.getD j default).2) : inB l r = true := by
  unfold inB
  rw [List.any_eq_true]
  exact ⟨_, getD_mem (d := default) hj, by simpa using ⟨h1, h2⟩⟩
theorem inB_miss {l : List (Int × Int)} {r : Int} (h : ∀ j, j < l.length → ¬ ((l.getD j default).1 ≤ r ∧ r ≤ (l.getD j default).2)) : inB l r = false := by
  unfold inB
  rw [List.any_eq_false]
  intro p hp
  obtain ⟨j, hj, rfl⟩ := List.getElem_of_mem hp
  have := h j hj
  rw [List.getD_eq_getElem?_getD, List.getElem?_eq_getElem hj] at this
  simpa using this

theorem tb180_0_1 {a b : Int} : TBuild Tryz.prog 180 [(0, .int .i32 a), (1, .int .i32 b)] (.agg #[.int .i32 a, .int .i32 b]) :=
  TBuild.struct (cs := [.int .i32 a, .int .i32 b]) ⟨Tryz.zeroValue180⟩ ⟨Tryz.runUnderlying180⟩ (places := #[(0, 1), (1, 1)]) (fun w => by simp [Tryz.sizeOf21]) rfl

theorem is_r_ok {w : World} (r : Int) : Ret Tryz.prog 113 [.int .i32 r] w (fun v w' => v = .bool (isR r) ∧ w = w') := by
 refine Ret.of Tryz.func113 Tryz.ntmps113 rfl rfl ?_; refine WC.sub (e' := [(0, .int .i32 r)]) ⟨rfl, trivial⟩ ?_; have hG : Mod (fun k => False) w w := Mod.refl _ _; refine wsr ?_; refine va rfl rfl ?_; refine WL.nil ?_; refine wsr ?_; refine vm rfl rfl ?_; refine WL.val (OpRun.geq rfl rfl) rfl ?_; refine WL.splitD rfl rfl (fun hq1 => ?_) (fun hq1 => ?_)
 ·refine WL.want rfl rfl ?_; refine vm rfl rfl ?_; refine WL.want rfl rfl ?_; refine WL.val (OpRun.leq rfl rfl) rfl ?_; refine WL.val (OpRun.pickT rfl rfl) rfl ?_; refine WL.splitD rfl rfl (fun hq2 => ?_) (fun hq2 => ?_)
  ·refine WL.want rfl rfl ?_; refine vm rfl rfl ?_; refine WL.want rfl rfl ?_; refine WL.val (OpRun.lss rfl rfl) rfl ?_; refine WL.want rfl rfl ?_; refine WL.splitD rfl rfl (fun hq3 => ?_) (fun hq3 => ?_)
   ·refine WL.pass rfl rfl rfl rfl ?_; refine WL.pass rfl rfl rfl rfl ?_; refine WL.want rfl rfl ?_; refine WL.val (OpRun.pickT rfl rfl) rfl ?_; refine WL.val (OpRun.pickT rfl rfl) rfl ?_; refine va rfl rfl ?_; refine WL.nil ?_; refine WC.ret ?_; refine fin_one rfl rfl ?_; refine ⟨?_, rfl⟩; refine congrArg Value.bool ?_; unfold isR
    first | exact (decide_eq_decide.2 (by omega)) | exact (decide_eq_true (by omega)).symm | exact (decide_eq_false (by omega)).symm
   ·refine WL.want rfl rfl ?_; refine vm rfl rfl ?_; refine WL.want rfl rfl ?_; refine WL.val (OpRun.gtr rfl rfl) rfl ?_; refine WL.want rfl rfl ?_; refine WL.val (OpRun.pickF rfl rfl) rfl ?_; refine WL.val (OpRun.pickT rfl rfl) rfl ?_; refine va rfl rfl ?_; refine WL.nil ?_; refine WC.ret ?_; refine fin_one rfl rfl ?_; refine ⟨?_, rfl⟩; refine congrArg Value.bool ?_; unfold isR
    first | exact (decide_eq_decide.2 (by omega)) | exact (decide_eq_true (by omega)).symm | exact (decide_eq_false (by omega)).symm
  ·refine WL.pass rfl rfl rfl rfl ?_; refine WL.pass rfl rfl rfl rfl ?_; refine WL.pass rfl rfl rfl rfl ?_; refine WL.passU rfl rfl rfl ?_; refine WL.passU rfl rfl rfl ?_; refine WL.pass rfl rfl rfl rfl ?_; refine WL.val (OpRun.pickF rfl rfl) rfl ?_; refine va rfl rfl ?_; refine WL.nil ?_; refine WC.ret ?_; refine fin_one rfl rfl ?_; refine ⟨?_, rfl⟩; refine congrArg Value.bool ?_; unfold isR
   first | exact (decide_eq_decide.2 (by omega)) | exact (decide_eq_true (by omega)).symm | exact (decide_eq_false (by omega)).symm
 ·refine WL.pass rfl rfl rfl rfl ?_; refine WL.pass rfl rfl rfl rfl ?_; refine WL.val (OpRun.pickF rfl rfl) rfl ?_; refine vm rfl rfl ?_; refine WL.pass rfl rfl rfl rfl ?_; refine WL.pass rfl rfl rfl rfl ?_; refine WL.pass rfl rfl rfl rfl ?_; refine WL.passU rfl rfl rfl ?_; refine WL.passU rfl rfl rfl ?_; refine WL.pass rfl rfl rfl rfl ?_; refine WL.val (OpRun.pickF rfl rfl) rfl ?_; refine va rfl rfl ?_; refine WL.nil ?_; refine WC.ret ?_; refine fin_one rfl rfl ?_; refine ⟨?_, rfl⟩; refine congrArg Value.bool ?_; unfold isR
  first | exact (decide_eq_decide.2 (by omega)) | exact (decide_eq_true (by omega)).symm | exact (decide_eq_false (by omega)).symm

theorem in_ok {w : World} {v : Value} {l : List (Int × Int)} {cap : Nat} (hl : Sl w v 180 2 (pcells l) l.length cap) (hn : l.length ≤ 1000) (r : Int) : Ret Tryz.prog 118 [.int .i32 r, v] w (fun v' w' => v' = .bool (inB l r) ∧ Grow w w') := by
 obtain ⟨ad, rfl⟩ := hl.slice; refine Ret.of Tryz.func118 Tryz.ntmps118 rfl rfl ?_; refine WC.sub (e' := [(0, .int .i32 r), (1, .slice ad l.length cap)]) ⟨rfl, rfl, trivial⟩ ?_; have hG : Mod (fun k => False) w w := Mod.refl _ _; refine wsr ?_; refine va rfl rfl ?_; refine WL.nil ?_; refine WC.seq ?_; refine wsr ?_; refine vm rfl rfl ?_; refine WL.val (OpRun.lenS rfl ⟨Tryz.runUnderlying161⟩) rfl ?_; refine vm rfl rfl ?_; refine WL.nil ?_; refine WC.block ?_; refine WC.loop (fun m e w' => ∃ (j : Nat), j ≤ l.length ∧ m = l.length - j ∧ Sub [(0, .int .i32 r), (7, .slice ad l.length cap), (8, .int .i64 l.length), (9, .int .i64 j)] e ∧ Sl w' (.slice ad l.length cap) 180 2 (pcells l) l.length cap ∧ (∀ i, i < j → ¬ ((l.getD i default).1 ≤ r ∧ r ≤ (l.getD i default).2)) ∧ Grow w w') (l.length) ⟨0, by omega, by omega, ⟨rfl, rfl, rfl, rfl, trivial⟩, hl, fun i hi => absurd hi (by omega), hG⟩ ?_
 rintro m e wl ⟨j, hj, rfl, hs, hl, hno, hG⟩
 refine WC.sub hs ?_; have hsz := hG.size; refine wsr ?_; refine WL.val (OpRun.lss rfl rfl) rfl ?_; refine WL.nil ?_; refine WC.seq ?_; refine WC.condD rfl (fun hq3 => ?_) (fun hq3 => ?_)
 ·refine WC.skip ?_; refine WC.seq ?_; refine WC.block ?_; refine wsr ?_; obtain ⟨b, o, blk, hv, hb, hA, hr⟩ := hl.pos (by omega)
  cases hv
  have hblt := hb.lt; refine WL.val (OpRun.indexAddr rfl rfl ⟨Tryz.runUnderlying161⟩ ⟨Tryz.sizeOf180⟩ (by omega) (by omega)) rfl ?_; refine WL.val (OpRun.loadA (vs := [_, _]) rfl ⟨Tryz.isAgg180⟩ ⟨Tryz.sizeOf180⟩ hb (pc_at hA j (by omega))) rfl ?_; refine WL.step (OpTo.alloc (vs := [_, _]) ⟨Tryz.zeroValue180⟩ rfl rfl (fun bX wX hX hmX hloX hhiX => ?_)); have hb := hb.grow hmX; have hl := hl.grow hmX; have hG := hG.grow hmX; refine WL.step (OpTo.storeA (vs := [_, _]) rfl rfl ⟨Tryz.sizeOf180⟩ rfl hX rfl (fun w5 hn5 hm5 hz5 => ?_))
  first | simp only [putList, List.set_cons_zero, List.set_cons_succ] at hn5 | dsimp only [putList, List.set] at hn5
  have hb := hb.mod hm5 (by first | exact hb.ne hX rfl | omega); have hl := hl.mod hm5 (fun k hk (hh : k = _) => by have h3 : k = b := (by cases hk; rfl); omega); have hG := hG.trans hm5 (fun _ h => h) (fun x hx hs => by (try dsimp only at hs ⊢); omega); have hX := hn5; refine WL.nil ?_; refine wsr ?_; refine vm rfl rfl ?_; refine vf 0 Tryz.runUnderlying180 Tryz.sizeOf21 rfl rfl rfl rfl rfl ?_
  first | refine WL.val (OpRun.load rfl ⟨Tryz.isAgg21⟩ hX rfl) rfl ?_ | refine WL.val (OpRun.load rfl ⟨Tryz.isAgg21⟩ hb rfl) rfl ?_
  refine WL.val (OpRun.geq rfl rfl) rfl ?_; refine WL.splitD rfl rfl (fun hq6 => ?_) (fun hq6 => ?_)
  ·refine WL.want rfl rfl ?_; refine vm rfl rfl ?_; refine WL.want rfl rfl ?_; refine vf 1 Tryz.runUnderlying180 Tryz.sizeOf21 rfl rfl rfl rfl rfl ?_; refine WL.want rfl rfl ?_
   first | refine WL.val (OpRun.load rfl ⟨Tryz.isAgg21⟩ hX rfl) rfl ?_ | refine WL.val (OpRun.load rfl ⟨Tryz.isAgg21⟩ hb rfl) rfl ?_
   refine WL.want rfl rfl ?_; refine WL.val (OpRun.leq rfl rfl) rfl ?_; refine WL.val (OpRun.pickT rfl rfl) rfl ?_; refine WL.nil ?_; refine WC.condD rfl (fun hq7 => ?_) (fun hq7 => ?_)
   ·refine wsr ?_; refine va rfl rfl ?_; refine WL.nil ?_; refine WC.ret ?_; refine fin_one rfl rfl ?_; exact ⟨congrArg Value.bool (inB_hit (j := j) (by omega) (by omega) (by omega)).symm, hG⟩
   ·refine WC.skip ?_; refine WC.region ?_; refine WL.val (OpRun.add rfl rfl (In.i64 (by omega))) rfl ?_; refine vm rfl rfl ?_; refine WL.nil ?_; refine ⟨l.length - (j + 1), by omega, j + 1, by omega, rfl, ⟨rfl, rfl, rfl, rfl, trivial⟩, hl, fun i hi => ?_, hG⟩
    by_cases e : i = j
    · subst e; omega
    · exact hno i (by omega)
  ·refine WL.pass rfl rfl rfl rfl ?_; refine WL.pass rfl rfl rfl rfl ?_; refine WL.pass rfl rfl rfl rfl ?_; refine WL.pass rfl rfl rfl rfl ?_; refine WL.val (OpRun.pickF rfl rfl) rfl ?_; refine WL.nil ?_; refine WC.condF rfl ?_; refine WC.skip ?_; refine WC.region ?_; refine WL.val (OpRun.add rfl rfl (In.i64 (by omega))) rfl ?_; refine vm rfl rfl ?_; refine WL.nil ?_; refine ⟨l.length - (j + 1), by omega, j + 1, by omega, rfl, ⟨rfl, rfl, rfl, rfl, trivial⟩, hl, fun i hi => ?_, hG⟩
   by_cases e : i = j
   · subst e; omega
   · exact hno i (by omega)
 ·refine WC.exit ?_; refine wsr ?_; refine va rfl rfl ?_; refine WL.nil ?_; refine WC.ret ?_; refine fin_one rfl rfl ?_; obtain rfl : j = l.length := by omega
  exact ⟨congrArg Value.bool (inB_miss hno).symm, hG⟩

theorem thin_ok {w : World} : Ret Tryz.prog 119 [] w (fun v w' => Sl w' v 180 2 (pcells thinL) thinL.length 5 ∧ Grow w w') := by
 refine Ret.of Tryz.func119 Tryz.ntmps119 rfl rfl ?_; refine WC.sub (e' := []) trivial ?_; have hG : Mod (fun k => False) w w := Mod.refl _ _; refine wsr ?_; refine va rfl rfl ?_; refine WL.nil ?_; refine wsr ?_; refine WL.val (OpRun.build rfl tb180_0_1) rfl ?_; refine WL.val (OpRun.build rfl tb180_0_1) rfl ?_; refine WL.val (OpRun.build rfl tb180_0_1) rfl ?_; refine WL.val (OpRun.build rfl tb180_0_1) rfl ?_; refine WL.val (OpRun.build rfl tb180_0_1) rfl ?_; refine WL.step (OpTo.buildSlice (cs := (pcells thinL)) rfl rfl rfl ⟨Tryz.runUnderlying161⟩ ⟨Tryz.sizeOf180⟩ ⟨Tryz.zeroValue180⟩ (by kernel_rfl) rfl (fun bE wE hE hmE hloE hhiE => ?_)); have hG := hG.grow hmE; refine va rfl rfl ?_; refine WL.nil ?_; refine WC.ret ?_; refine fin_one rfl rfl ?_; exact ⟨Sl.of hE (At.of fun j hj => by rw [Nat.zero_add]) (by decide) (by decide) (by decide) (by omega), hG⟩

theorem wide_ok {w : World} : Ret Tryz.prog 120 [] w (fun v w' => Sl w' v 180 2 (pcells wideL) wideL.length 9 ∧ Grow w w') := by
 refine Ret.of Tryz.func120 Tryz.ntmps120 rfl rfl ?_; refine WC.sub (e' := []) trivial ?_; have hG : Mod (fun k => False) w w := Mod.refl _ _; refine wsr ?_; refine va rfl rfl ?_; refine WL.nil ?_; refine wsr ?_; refine WL.val (OpRun.build rfl tb180_0_1) rfl ?_; refine WL.val (OpRun.build rfl tb180_0_1) rfl ?_; refine WL.val (OpRun.build rfl tb180_0_1) rfl ?_; refine WL.val (OpRun.build rfl tb180_0_1) rfl ?_; refine WL.val (OpRun.build rfl tb180_0_1) rfl ?_; refine WL.val (OpRun.build rfl tb180_0_1) rfl ?_; refine WL.val (OpRun.build rfl tb180_0_1) rfl ?_; refine WL.val (OpRun.build rfl tb180_0_1) rfl ?_; refine WL.val (OpRun.build rfl tb180_0_1) rfl ?_; refine WL.step (OpTo.buildSlice (cs := (pcells wideL)) rfl rfl rfl ⟨Tryz.runUnderlying161⟩ ⟨Tryz.sizeOf180⟩ ⟨Tryz.zeroValue180⟩ (by kernel_rfl) rfl (fun bE wE hE hmE hloE hhiE => ?_))
 have hG := hG.grow hmE; refine va rfl rfl ?_; refine WL.nil ?_; refine WC.ret ?_; refine fin_one rfl rfl ?_; exact ⟨Sl.of hE (At.of fun j hj => by rw [Nat.zero_add]) (by decide) (by decide) (by decide) (by omega), hG⟩

theorem width_ok {w : World} (r : Int) : Ret Tryz.prog 78 [.int .i32 r] w (fun v w' => v = .int .i64 (widthB r) ∧ Grow w w') := by
 refine Ret.of Tryz.func78 Tryz.ntmps78 rfl rfl ?_; refine WC.sub (e' := [(0, .int .i32 r)]) ⟨rfl, trivial⟩ ?_; have hG : Mod (fun k => False) w w := Mod.refl _ _; refine wsr ?_; refine va rfl rfl ?_; refine WL.nil ?_; refine WC.seq ?_; refine WC.block ?_; refine wsr ?_; refine vm rfl rfl ?_; refine WL.step (OpTo.call ⟨Tryz.call113⟩ rfl rfl (is_r_ok r) (fun v1 w1 hp1 => ?_)); obtain ⟨rfl, rfl⟩ := hp1; refine WL.val (OpRun.not rfl) rfl ?_; refine WL.splitB rfl rfl (fun hq2 => ?_) (fun hq2 => ?_)
 ·refine WL.pass rfl rfl rfl rfl ?_; refine WL.pass rfl rfl rfl rfl ?_; refine WL.pass rfl rfl rfl rfl ?_; refine WL.val (OpRun.pickT rfl rfl) rfl ?_; refine va rfl rfl ?_; refine WL.nil ?_; refine WC.condT rfl ?_; refine wsr ?_; refine va rfl rfl ?_; refine WL.nil ?_; refine WC.ret ?_; refine fin_one rfl rfl ?_; refine ⟨congrArg (fun x : Nat => Value.int .i64 x) ?_, hG⟩; unfold widthB
  simp_all
 ·refine WL.want rfl rfl ?_; refine vm rfl rfl ?_; refine WL.want rfl rfl ?_; refine WL.step (OpTo.call ⟨Tryz.call119⟩ rfl rfl (thin_ok) (fun v3 w3 hp3 => ?_)); obtain ⟨hth, hm3⟩ := hp3; have hG := hG.grow hm3; refine WL.want rfl rfl ?_; refine WL.step (OpTo.call ⟨Tryz.call118⟩ rfl rfl (in_ok hth (by decide) r) (fun v4 w4 hp4 => ?_)); obtain ⟨rfl, hm4⟩ := hp4; have hG := hG.grow hm4; refine WL.val (OpRun.pickF rfl rfl) rfl ?_; refine va rfl rfl ?_; refine WL.nil ?_; refine WC.cond rfl (fun hq5 => ?_) (fun hq5 => ?_)
  ·refine wsr ?_; refine va rfl rfl ?_; refine WL.nil ?_; refine WC.ret ?_; refine fin_one rfl rfl ?_; refine ⟨congrArg (fun x : Nat => Value.int .i64 x) ?_, hG⟩; unfold widthB
   simp_all
  ·refine wsr ?_; refine vm rfl rfl ?_; refine WL.step (OpTo.call ⟨Tryz.call120⟩ rfl rfl (wide_ok) (fun v6 w6 hp6 => ?_)); obtain ⟨hwd, hm6⟩ := hp6; have hG := hG.grow hm6; refine WL.step (OpTo.call ⟨Tryz.call118⟩ rfl rfl (in_ok hwd (by decide) r) (fun v7 w7 hp7 => ?_)); obtain ⟨rfl, hm7⟩ := hp7; have hG := hG.grow hm7; refine va rfl rfl ?_; refine WL.nil ?_; refine WC.cond rfl (fun hq8 => ?_) (fun hq8 => ?_)
   ·refine wsr ?_; refine va rfl rfl ?_; refine WL.nil ?_; refine WC.ret ?_; refine fin_one rfl rfl ?_; refine ⟨congrArg (fun x : Nat => Value.int .i64 x) ?_, hG⟩; unfold widthB
    simp_all
   ·refine WC.skip ?_; refine wsr ?_; refine va rfl rfl ?_; refine WL.nil ?_; refine WC.ret ?_; refine fin_one rfl rfl ?_; refine ⟨congrArg (fun x : Nat => Value.int .i64 x) ?_, hG⟩; unfold widthB
    simp_all

end Go.Eng
