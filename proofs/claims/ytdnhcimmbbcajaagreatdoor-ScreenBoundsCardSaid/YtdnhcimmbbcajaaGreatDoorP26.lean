/-
  A part of a proof (Eq1): lemmas on what the program's functions do. No condition but those that each lemma states.
-/
import Derived.Laws.StructEq
import Derived.DeepKeys
import Derived.Test.YtdnhcimmbbcajaaGreatDoorP25
set_option maxRecDepth 8000
set_option linter.all false
namespace Go.Eng
open Go Go.Proofs

theorem st43 : Tryz.prog.stoodInHeld 43 = false := by kernel_rfl
theorem st40 : Tryz.prog.stoodInHeld 40 = false := by kernel_rfl
theorem f43 : Tryz.prog.underlying 43 = some (.struct (Tryz.prog.fieldsOf 43)) := by kernel_rfl
theorem f40 : Tryz.prog.underlying 40 = some (.struct (Tryz.prog.fieldsOf 40)) := by kernel_rfl
theorem g43 : (Tryz.prog.fieldsOf 43).toList.map (fun f => (f.type, f.offset)) = [(3, 0), (3, 1), (4, 2), (40, 3), (4, 6), (41, 7), (3, 9)] := by kernel_rfl
theorem g40 : (Tryz.prog.fieldsOf 40).toList.map (fun f => (f.type, f.offset)) = [(3, 0), (3, 1), (3, 2)] := by kernel_rfl

/-- The fields of one value, against themselves. -/
theorem eqFields_self {d : Nat} {xs : Array Value} {w : World} : ∀ (fs : List Field), (∀ f ∈ fs, ∃ v, (part f.type xs f.offset).run Tryz.prog w = .ok v w ∧ (Op.equalIn d f.type v v).run Tryz.prog w = .ok true w) → (Op.eqFields d xs xs fs).run Tryz.prog w = .ok true w
  | [], _ => rfl
  | f :: fs, h => by
    obtain ⟨v, h1, h2⟩ := h f (by simp)
    have ih := eqFields_self fs (fun g hg => h g (by simp [hg]))
    unfold Op.eqFields
    split
    · simp only [Sem.run_bind, h1, Result.andThen_ok, h2]
      simpa using ih
    · exact ih
theorem eqI (d : Nat) (k : IntKind) (t : TypeId) (a : Int) (k' : IntKind) (h : Tryz.prog.underlying t = some (.int k')) (w : World) : (Op.equalIn (d + 1) t (.int k a) (.int k a)).run Tryz.prog w = .ok true w := by
  rw [run_equalIn_int w d t k k' a a h]; simp
theorem eqB (d : Nat) (b : Bool) (w : World) : (Op.equalIn (d + 1) 4 (.bool b) (.bool b)).run Tryz.prog w = .ok true w := by
  rw [run_equalIn_bool' w d 4 b b Tryz.underlying4]; simp
theorem mem43 {f : Field} (h : f ∈ (Tryz.prog.fieldsOf 43).toList) : (f.type, f.offset) ∈ [(3, 0), (3, 1), (4, 2), (40, 3), (4, 6), (41, 7), (3, 9)] := by
  rw [← g43]; exact List.mem_map.2 ⟨f, h, rfl⟩
theorem mem40 {f : Field} (h : f ∈ (Tryz.prog.fieldsOf 40).toList) : (f.type, f.offset) ∈ [(3, 0), (3, 1), (3, 2)] := by
  rw [← g40]; exact List.mem_map.2 ⟨f, h, rfl⟩
theorem eqA (d : Nat) (a b c : Int) (w : World) : (Op.equalIn (d + 2) 40 (.agg #[.int .i64 a, .int .i64 b, .int .i64 c]) (.agg #[.int .i64 a, .int .i64 b, .int .i64 c])).run Tryz.prog w = .ok true w := by
  rw [run_equalIn_agg w (d + 1) 40 _ _ f40 st40]
  refine eqFields_self _ fun f hf => ?_
  have hm := mem40 hf
  simp at hm
  rcases hm with ⟨h1, h2⟩ | ⟨h1, h2⟩ | ⟨h1, h2⟩ <;> rw [h1, h2]
  · exact ⟨.int .i64 a, by simp [part, go_sem], eqI _ _ _ _ _ Tryz.underlying3 _⟩
  · exact ⟨.int .i64 b, by simp [part, go_sem], eqI _ _ _ _ _ Tryz.underlying3 _⟩
  · exact ⟨.int .i64 c, by simp [part, go_sem], eqI _ _ _ _ _ Tryz.underlying3 _⟩
theorem eqItems_self {d e n : Nat} {xs : Array Value} {w : World} : ∀ (is : List Nat), (∀ i ∈ is, ∃ v, (part e xs (i * n)).run Tryz.prog w = .ok v w ∧ (Op.equalIn d e v v).run Tryz.prog w = .ok true w) → (Op.eqItems d e n xs xs is).run Tryz.prog w = .ok true w
  | [], _ => rfl
  | i :: is, h => by
    obtain ⟨v, h1, h2⟩ := h i (by simp)
    have ih := eqItems_self is (fun g hg => h g (by simp [hg]))
    unfold Op.eqItems
    simp only [Sem.run_bind, h1, Result.andThen_ok, h2]
    simpa using ih
theorem eqS (d : Nat) (a b : Int) (w : World) : (Op.equalIn (d + 2) 41 (.agg #[.int .u8 a, .int .u8 b]) (.agg #[.int .u8 a, .int .u8 b])).run Tryz.prog w = .ok true w := by
  obtain ⟨i, hi⟩ : ∃ i, Tryz.prog.info? 5 = some i := by
    have : (Tryz.prog.info? 5).isSome = true := by kernel_rfl
    exact Option.isSome_iff_exists.1 this
  rw [run_equalIn_array w (d + 1) _ _ Tryz.underlying41 hi]
  have hc : Tryz.prog.cellsOf 5 = 1 := by kernel_rfl
  rw [hc]
  refine eqItems_self _ fun j hj => ?_
  have hj2 : j = 0 ∨ j = 1 := by simp at hj; omega
  rcases hj2 with rfl | rfl
  · exact ⟨.int .u8 a, by simp [part, go_sem], eqI _ _ _ _ _ Tryz.underlying5 _⟩
  · exact ⟨.int .u8 b, by simp [part, go_sem], eqI _ _ _ _ _ Tryz.underlying5 _⟩
theorem eqC (c : Cur) (w : World) : (Op.equalIn 10000 43 (.agg c.vals.toArray) (.agg c.vals.toArray)).run Tryz.prog w = .ok true w := by
  rw [run_equalIn_agg w 9999 43 _ _ f43 st43]
  refine eqFields_self _ fun f hf => ?_
  have hm := mem43 hf
  simp at hm
  rcases hm with ⟨h1, h2⟩ | ⟨h1, h2⟩ | ⟨h1, h2⟩ | ⟨h1, h2⟩ | ⟨h1, h2⟩ | ⟨h1, h2⟩ | ⟨h1, h2⟩ <;> rw [h1, h2]
  · exact ⟨.int .i64 c.row, by simp [part, go_sem], eqI _ _ _ _ _ Tryz.underlying3 _⟩
  · exact ⟨.int .i64 c.col, by simp [part, go_sem], eqI _ _ _ _ _ Tryz.underlying3 _⟩
  · exact ⟨.bool c.wrap, by simp [part, go_sem], eqB _ _ _⟩
  · exact ⟨.agg #[.int .i64 c.a.fg, .int .i64 c.a.bg, .int .i64 c.a.fl], by simp [part, go_sem], eqA _ _ _ _ _⟩
  · exact ⟨.bool c.origin, by simp [part, go_sem], eqB _ _ _⟩
  · exact ⟨.agg #[.int .u8 c.s0, .int .u8 c.s1], by simp [part, go_sem], eqS _ _ _ _⟩
  · exact ⟨.int .i64 c.shift, by simp [part, go_sem], eqI _ _ _ _ _ Tryz.underlying3 _⟩

section
variable {n : Nat} {e : Env} {w : World} {ty : TypeId} {ps : String} {af : Array Edge} {g : Option (Nat × Bool)} {dst : Option Tmp} {x y : Operand}
theorem gt43 : Tryz.prog.eqGuardType Tryz.prog.depth 43 = false := by kernel_rfl
/-- A cursor is equal to itself. -/
theorem OpRun.eqCur {c : Cur} (hx : oval e x = some (.agg c.vals.toArray)) (hy : oval e y = some (.agg c.vals.toArray)) :
    OpRun Tryz.prog n e w { dst, op := .binOp .eql 43 x y 43, type := ty, pos := ps, after := af, guard := g } (.bool true) w := by
  constructor
  intro ac ha
  simp only [execOp, ha.eval hx, ha.eval hy]
  have hg : (eqGuard .eql 43 x y (.agg c.vals.toArray) (.agg c.vals.toArray)).run Tryz.prog w = .ok () w := run_eqGuard_agg w _ _ _ _ _ _ gt43
  have hb : (binOp .eql 43 (.agg c.vals.toArray) (.agg c.vals.toArray)).run Tryz.prog w = .ok (.bool true) w := by
    rw [run_eql_struct, eqC]; rfl
  rw [run_bind, run_bind, hg]
  dsimp only
  rw [hb]
  rfl
end

/-! ### The plain law: what is saved is there again -/
theorem saves_law {S S4 : Scr} (h : ScrK S) (h4 : Calm S.save S4) : S4.rest.c = S.c := by
  have hr : S4.G.rows = S.G0.rows := by
    rw [h4.rows]; unfold Scr.save Scr.G
    have := h.rows
    split <;> first | rfl | exact this
  have hc : S4.G.cols = S.G0.cols := by
    rw [h4.cols]; unfold Scr.save Scr.G
    have := h.cols
    split <;> first | rfl | exact this
  have hs : S4.saved = S.c := by
    unfold Scr.saved
    rw [h4.now, h4.v0, h4.i0, h4.v1, h4.i1]
    have hn := h.now
    unfold Scr.save
    by_cases e : S.now = 0
    · simp [e]
    · simp [e]
  have hcur := h.cur
  show ({ S4.saved with row := clip S4.saved.row S4.G.rows, col := clip S4.saved.col S4.G.cols } : Cur) = _
  rw [hs, hr, hc, clip_of hcur.1, clip_of hcur.2.1]
theorem FewOk.at_ {acts : List Act1} (h : FewOk acts) {i : Nat} (hi : i < acts.length) : (acts.getD i default).ps.length ≤ 4096 ∧ (acts.getD i default).inter.size ≤ 65536 ∧ ∀ x ∈ (acts.getD i default).ps, 0 ≤ x ∧ x ≤ 65535 := h.one _ (getD_mem hi)
def aK : Nat := 5000
theorem aK_ge : 4098 ≤ aK := by decide
theorem aK_max {i n : Nat} (h2 : i ≤ n) (h3 : n ≤ 250) : i * aK ≤ 1250000 := Nat.le_trans (Nat.mul_le_mul_right aK (Nat.le_trans h2 h3)) (by decide)
theorem an_mono {x i : Nat} (h : x ≤ i * aK) : x ≤ (i + 1) * aK := Nat.le_trans h (Nat.mul_le_mul_right aK (Nat.le_succ i))
theorem an_mono2 {x i : Nat} (h : x ≤ 10000000 + i * aK) : x ≤ 10000000 + (i + 1) * aK := Nat.le_trans h (Nat.add_le_add_left (Nat.mul_le_mul_right aK (Nat.le_succ i)) _)
theorem an_step {x y i n : Nat} (h : x ≤ i * aK) (h2 : y ≤ x + (n + 2)) (h3 : n ≤ 4096) : y ≤ (i + 1) * aK := by
  rw [Nat.succ_mul]; have := aK_ge; omega
theorem an_step2 {x y i n : Nat} (h : x ≤ 10000000 + i * aK) (h2 : y ≤ x + (n + 2)) (h3 : n ≤ 4096) : y ≤ 10000000 + (i + 1) * aK := by
  rw [Nat.succ_mul]; have := aK_ge; omega
theorem an_max {x i n : Nat} (h : x ≤ i * aK) (h2 : i ≤ n) (h3 : n ≤ 250) : x ≤ 1250000 := by have := aK_max h2 h3; omega
theorem an_max2 {x i n : Nat} (h : x ≤ 10000000 + i * aK) (h2 : i ≤ n) (h3 : n ≤ 250) : x ≤ 11250000 := by have := aK_max h2 h3; omega
theorem RI.old {w : World} {v : Value} {ps : List Int} {len cap sb : Nat} {S : Scr} (h : RI w v ps len cap) (hown : ∀ k, S.own sb k → w.heap.size ≤ k) : ∀ k, vblk v = some k → ¬ S.own sb k := fun k hk hs => by have := h.lt k hk; have := hown k hs; omega
end Go.Eng
