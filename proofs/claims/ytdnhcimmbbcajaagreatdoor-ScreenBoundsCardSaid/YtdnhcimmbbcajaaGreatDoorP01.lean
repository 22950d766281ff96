/-
  A part of a proof (Eng4 Eng5 Eng6): lemmas on what the program's functions do. No condition but those that each lemma states.
-/
import Derived.OrdersHeld
import Derived.Test.YtdnhcimmbbcajaaGreatDoorP00
set_option maxRecDepth 8000
set_option linter.all false
namespace Go.Eng
open Go

/-! ### Regions that draw their order. S: what holds of the world till the last operation. -/
section
variable {P : Program} {ops : Array Oper} {Q : Exit → Act → World → Prop} {S : World → Prop}

/-- Number i comes ahead of number j, whatever the order. -/
def reach (ops : Array Oper) : Nat → Nat → Nat → Bool
  | 0, _, _ => false
  | f + 1, i, j => match ops[j]? with
    | none => false
    | some o => o.after.any fun e => Region.binds .any e && (e.on == i || reach ops f i e.on)

/-- All others come ahead of number j. -/
def isLast (ops : Array Oper) (j : Nat) : Bool := (List.range ops.size).all fun i => i == j || reach ops ops.size i j

def Closed (ops : Array Oper) (listed : Array Bool) : Prop :=
  ∀ j o, ops[j]? = some o → listed.getD j false = true → ∀ e ∈ o.after, Region.binds .any e = true → listed.getD e.on false = true

theorem reach_listed {listed : Array Bool} (hc : Closed ops listed) : ∀ (f i j : Nat) (o : Oper), ops[j]? = some o → (∀ e ∈ o.after, Region.binds .any e = true → listed.getD e.on false = true) →
    reach ops f i j = true → listed.getD i false = true
  | 0, i, j, _, _, _, h => by simp [reach] at h
  | f + 1, i, j, o, ho, hl, h => by
    simp only [reach, ho] at h
    obtain ⟨e, he, hb⟩ := Array.any_eq_true'.1 h
    simp only [Bool.and_eq_true, Bool.or_eq_true, beq_iff_eq] at hb
    have h1 := hl e he hb.1
    rcases hb.2 with h2 | h2
    · rw [← h2]; exact h1
    · cases hk : ops[e.on]? with
      | none =>
        cases f with
        | zero => simp [reach] at h2
        | succ f => simp [reach, hk] at h2
      | some ok => exact reach_listed hc f i e.on ok hk (hc e.on ok hk h1) h2

theorem Closed.set {listed : Array Bool} (hc : Closed ops listed) {i : Nat} (hi : i ∈ Region.ready .any ops listed) : Closed ops (listed.setIfInBounds i true) := by
  intro j o ho hj e he hb
  by_cases hij : i = j
  · subst hij
    obtain ⟨_, o', ho', hall⟩ := mem_ready.1 hi
    rw [ho] at ho'; cases ho'
    exact getD_set_true (hall e he hb)
  · rw [getD_set_ne false hij] at hj
    exact getD_set_true (hc j o ho hj e he hb)

theorem not_last {listed : Array Bool} (hc : Closed ops listed) {i j : Nat} (hi : i ∈ Region.ready .any ops listed) (hj : j ∈ Region.ready .any ops listed) (hne : i ≠ j) : isLast ops j = false := by
  rw [Bool.eq_false_iff]
  intro hl
  obtain ⟨hi0, oi, hoi, _⟩ := mem_ready.1 hi
  obtain ⟨_, oj, hoj, hall⟩ := mem_ready.1 hj
  have hlt : i < ops.size := (Array.getElem?_eq_some_iff.1 hoi).1
  unfold isLast at hl
  rw [List.all_eq_true] at hl
  have h1 := hl i (List.mem_range.2 hlt)
  simp only [Bool.or_eq_true, beq_iff_eq] at h1
  have h2 := reach_listed hc _ i j oj hoj hall (h1.resolve_left hne)
  rcases Nat.lt_or_ge i listed.size with h' | h'
  · simp [h'] at h2 hi0; rw [hi0] at h2; cases h2
  · simp [Array.getElem?_eq_none h'] at h2

def anyK (P : Program) (ops : Array Oper) (Q : Exit → Act → World → Prop) (S : World → Prop) : Nat → Array Bool → Act → World → Prop
  | 0, listed, a, w => Region.ready .any ops listed = [] ∧ Q .normal a w
  | fuel + 1, listed, a, w => (Region.ready .any ops listed = [] → Q .normal a w) ∧
    ∀ i ∈ Region.ready .any ops listed, wpOp P ops Q i (fun a' w' => (isLast ops i = false → S w') ∧ anyK P ops Q S fuel (listed.setIfInBounds i true) a' w') a w

theorem any_of_K : ∀ (fuel : Nat) (listed : Array Bool) (a : Act) (w : World), anyK P ops Q S fuel listed a w → wpAny P .any ops Q fuel listed a w
  | 0, _, _, _, h => h
  | fuel + 1, _, _, _, h => ⟨h.1, fun i hi => wpOp_mono (fun a' w' h' => any_of_K fuel _ a' w' h'.2) (h.2 i hi)⟩

theorem anyK_first {i : Nat} {oi : Oper} {v : Value} (hi : ops[i]? = some oi) (hsel : ∀ (j : Nat) (o : Oper) cs b, ops[j]? = some o → o.op ≠ .select cs b)
    (hQ : ∀ c a w, Q (.panic c) (a.put oi.dst v) w → Q (.panic c) a w) :
    ∀ (fuel : Nat) (listed : Array Bool) (a : Act) (w : World), Closed ops listed →
      (∀ j oj, ops[j]? = some oj → j ≠ i → listed.getD j true = false → (∀ e ∈ oj.after, Region.binds .any e = true → e.on ≠ i) → oi.apart ops oj = true) →
      i ∈ Region.ready .any ops listed → YieldsIf P ops S oi v a → S w →
      anyK P ops Q S fuel (listed.setIfInBounds i true) (a.put oi.dst v) w → anyK P ops Q S (fuel + 1) listed a w := by
  intro fuel
  induction fuel with
  | zero =>
    intro listed a w _ _ hr hy hS H
    refine ⟨fun h => (by rw [h] at hr; cases hr), fun j hj => ?_⟩
    by_cases hji : j = i
    · subst hji; exact hy.wpOp hi hS ⟨fun _ => hS, H⟩
    · have := ready_mono hj hji
      rw [H.1] at this
      cases this
  | succ fuel ih =>
    intro listed a w hcl hfree hr hy hS H
    refine ⟨fun h => (by rw [h] at hr; cases hr), fun j hj => ?_⟩
    by_cases hji : j = i
    · subst hji; exact hy.wpOp hi hS ⟨fun _ => hS, H⟩
    · have h1 := H.2 j (ready_mono hj hji)
      obtain ⟨hjun, oj, hoj, hall⟩ := mem_ready.1 hj
      have hnot : ∀ e ∈ oj.after, Region.binds .any e = true → e.on ≠ i := fun e he hb heq => by
        have h1 := hall e he hb
        have h0 := (mem_ready.1 hr).1
        rw [heq] at h1
        rcases Nat.lt_or_ge i listed.size with h' | h'
        · simp [h'] at h0 h1; rw [h0] at h1; cases h1
        · simp [Array.getElem?_eq_none h'] at h1
      have h2 := wpOp_putIf hoj (hfree j oj hoj hji hjun hnot) (fun cs b => hsel i oi cs b hi) (fun cs b => hsel j oj cs b hoj) hQ hy h1
      have hfree' : ∀ k ok, ops[k]? = some ok → k ≠ i → (listed.setIfInBounds j true).getD k true = false →
          (∀ e ∈ ok.after, Region.binds .any e = true → e.on ≠ i) → oi.apart ops ok = true := fun k ok hk hki hun hno => by
        refine hfree k ok hk hki ?_ hno
        by_cases hjk : j = k
        · subst hjk; exact hjun
        · rw [getD_set_ne true hjk] at hun; exact hun
      have hl := not_last hcl hr hj (Ne.symm hji)
      refine wpOp_mono (fun a' w' h3 => ?_) h2
      obtain ⟨hy', hS', hK⟩ := h3
      refine ⟨fun _ => hS' hl, ih (listed.setIfInBounds j true) a' w' (hcl.set hj) hfree' (ready_mono hr (Ne.symm hji)) hy' (hS' hl) ?_⟩
      rw [Array.setIfInBounds_comm _ _ hji]
      exact hK
end

def QN (n : Nat) (K : Env → World → Prop) : Exit → Act → World → Prop := fun x a w => match x with
  | .normal => ∃ e, Agrees n e a ∧ K e w
  | _ => False

/-- A region under way: 'listed' have come up. -/
structure WH (P : Program) (n : Nat) (ops : Array Oper) (S : World → Prop) (K : Env → World → Prop) (fuel : Nat) (listed : Array Bool) (e : Env) (w : World) : Prop where
  out : Closed ops listed → ∀ a, Agrees n e a → anyK P ops (QN n K) S fuel listed a w

variable {P : Program} {n : Nat} {e : Env} {w : World} {K : Env → World → Prop} {ops : Array Oper} {S : World → Prop} {fuel : Nat} {listed : Array Bool} {R : Post}

theorem WC.regionD {id : Nat} (S : World → World → Prop) (k : Nat) (hk : ops.size = k) (hm : P.follows .mixedOrders = true)
    (h : ∀ w', Grow w w' → w'.heap.size = w.heap.size → WH P n ops (S w') (R .normal) k (Array.replicate k false) e w') : WC P n (.region id ops true) R e w := by
  subst hk
  constructor
  intro a Q ha hq
  have h1 := (h { w with drawn := w.drawn + 1 } ⟨rfl, rfl, rfl, Nat.le_refl _, fun _ _ _ => rfl⟩ rfl).out (by
    intro j o _ hj
    have : (Array.replicate ops.size false).getD j false = false := by
      rw [Array.getD_eq_getD_getElem?, Array.getElem?_replicate]; split <;> rfl
    rw [this] at hj; cases hj) a ha
  refine Code.wp_mono ?_ (wp_region_any hm (any_of_K _ _ _ _ h1))
  intro x a' w' hx
  cases x with
  | normal => obtain ⟨e', h2, h3⟩ := hx; exact hq _ e' a' w' h2 h3
  | _ => exact hx.elim

/-- Number i first: it reads at most, and what it hands back is the same whenever it comes up. -/
theorem WH.take (i : Nat) {d : Nat} {op : Op} {ty : TypeId} {ps : String} {af : Array Edge} {v : Value}
    (hi : ops[i]? = some { dst := some d, op, type := ty, pos := ps, after := af, guard := none })
    (hk : (Region.noSelect ops && Region.free .any ops listed i && (Region.ready .any ops listed).contains i && Nat.blt d n) = true) (hS : S w)
    (hv : ∀ w', S w' → OpRun P n e w' { dst := some d, op, type := ty, pos := ps, after := af, guard := none } v w')
    (k : WH P n ops S K fuel (listed.setIfInBounds i true) ((d, v) :: e) w) : WH P n ops S K (fuel + 1) listed e w := by
  simp only [Bool.and_eq_true] at hk
  obtain ⟨⟨⟨hs, hf⟩, hr⟩, hd⟩ := hk
  have hr' : i ∈ Region.ready .any ops listed := by simpa using hr
  constructor
  intro hcl a ha
  refine anyK_first hi (Region.noSelect_spec hs) (fun _ _ _ h => h) fuel listed a w hcl (Region.free_spec hi hf) hr' ?_ hS (k.out (hcl.set hr') _ (ha.put hd v))
  exact .inl ⟨by simp [Region.wanted], fun w' hw' => (hv w' hw').out a ha⟩

/-- Number i first: its guard says yes. -/
theorem WH.takeG (i : Nat) {d j t : Nat} {b : Bool} {op : Op} {ty : TypeId} {ps : String} {af : Array Edge} {v : Value}
    (hi : ops[i]? = some { dst := some d, op, type := ty, pos := ps, after := af, guard := some (j, b) })
    (hk : (Region.noSelect ops && Region.free .any ops listed i && (Region.ready .any ops listed).contains i && Nat.blt d n) = true) (hS : S w)
    (hj : (ops[j]?).bind (·.dst) = some t) (hb : look e t = some (.bool b))
    (hv : ∀ w', S w' → OpRun P n e w' { dst := some d, op, type := ty, pos := ps, after := af, guard := some (j, b) } v w')
    (k : WH P n ops S K fuel (listed.setIfInBounds i true) ((d, v) :: e) w) : WH P n ops S K (fuel + 1) listed e w := by
  simp only [Bool.and_eq_true] at hk
  obtain ⟨⟨⟨hs, hf⟩, hr⟩, hd⟩ := hk
  have hr' : i ∈ Region.ready .any ops listed := by simpa using hr
  constructor
  intro hcl a ha
  refine anyK_first hi (Region.noSelect_spec hs) (fun _ _ _ h => h) fuel listed a w hcl (Region.free_spec hi hf) hr' ?_ hS (k.out (hcl.set hr') _ (ha.put hd v))
  exact .inl ⟨by simp [Region.wanted, yielded_of ha hj hb], fun w' hw' => (hv w' hw').out a ha⟩

/-- Number i first: its guard says no. -/
theorem WH.passG (i : Nat) {d j t : Nat} {b c : Bool} {op : Op} {ty : TypeId} {ps : String} {af : Array Edge}
    (hi : ops[i]? = some { dst := some d, op, type := ty, pos := ps, after := af, guard := some (j, b) })
    (hk : (Region.noSelect ops && Region.free .any ops listed i && (Region.ready .any ops listed).contains i && Nat.blt d n) = true) (hS : S w)
    (hj : (ops[j]?).bind (·.dst) = some t) (hb : look e t = some (.bool c)) (hc : (c == b) = false)
    (k : WH P n ops S K fuel (listed.setIfInBounds i true) ((d, undef) :: e) w) : WH P n ops S K (fuel + 1) listed e w := by
  simp only [Bool.and_eq_true] at hk
  obtain ⟨⟨⟨hs, hf⟩, hr⟩, hd⟩ := hk
  have hr' : i ∈ Region.ready .any ops listed := by simpa using hr
  constructor
  intro hcl a ha
  refine anyK_first hi (Region.noSelect_spec hs) (fun _ _ _ h => h) fuel listed a w hcl (Region.free_spec hi hf) hr' ?_ hS (k.out (hcl.set hr') _ (ha.put hd undef))
  exact .inr ⟨by simp only [Region.wanted, yielded_of ha hj hb]; simpa using hc, rfl⟩

/-- Just number i can come up: it is carried out. -/
theorem WH.one (i : Nat) {dst : Option Tmp} {op : Op} {ty : TypeId} {ps : String} {af : Array Edge}
    (hi : ops[i]? = some { dst, op, type := ty, pos := ps, after := af, guard := none }) (hr : Region.ready .any ops listed = [i])
    (k : OpTo P n e w { dst, op, type := ty, pos := ps, after := af, guard := none } (fun e' w' => (isLast ops i = false → S w') ∧ WH P n ops S K fuel (listed.setIfInBounds i true) e' w')) :
    WH P n ops S K (fuel + 1) listed e w := by
  constructor
  intro hcl a ha
  refine ⟨fun h => (by rw [h] at hr; cases hr), fun j hj => ?_⟩
  have hr2 := hj
  rw [hr] at hj
  obtain rfl : j = i := by simpa using hj
  unfold wpOp
  simp only [hi]
  rw [if_pos (by simp [Region.wanted])]
  refine .inl (k.out a _ _ ha fun e' a' w' h1 h2 => ⟨h2.1, h2.2.out (hcl.set hr2) a' h1⟩)

theorem WH.done (hr : Region.ready .any ops listed = []) (h : K e w) : WH P n ops S K fuel listed e w := by
  constructor
  intro _ a ha
  cases fuel with
  | zero => exact ⟨hr, e, ha, h⟩
  | succ f => exact ⟨fun _ => ⟨e, ha, h⟩, by rw [hr]; intro i hi; cases hi⟩

end Go.Eng
namespace Go.Eng
open Go
variable {P : Program} {n : Nat} {e : Env} {w : World} {K : Env → World → Prop} {ops rest : List Oper} {ty : TypeId} {ps : String} {af : Array Edge} {d : Nat} {g : Option (Nat × Bool)} {dst : Option Tmp}
  {x y : Operand} {t u : TypeId} {b o : Nat}

/-! ### Builtins that only compute -/
theorem run_builtin {bt : Builtin} {args : Array Operand} {ats : Array TypeId} {vs : List Value} {v : Value} {w' : World} (hv : ovals e args.toList = some vs)
    (h : ∀ cs, (builtin bt ats ty cs vs.toArray).run P w = .ok (.value v) w') :
    OpRun P n e w { dst, op := .call { callee := .builtin bt, args, argTypes := ats }, type := ty, pos := ps, after := af, guard := g } v w' :=
  ⟨fun ac ha => by
    have e1 : args.map ac.eval = vs.toArray := by
      rw [← ha.evals hv, ← Array.toList_map]
    have : execOp ac.eval { dst, op := .call { callee := .builtin bt, args, argTypes := ats }, type := ty, pos := ps, after := af, guard := g } =
      builtin bt ats ty (args.map fun | .const _ => true | _ => false) (args.map ac.eval) := rfl
    rw [this, e1]
    exact h _⟩

theorem OpRun.lenS {el : TypeId} {args : Array Operand} {ad : Option Addr} {len cap : Nat} (hv : ovals e args.toList = some [.slice ad len cap]) (ht : TIs P t (.slice el)) :
    OpRun P n e w { dst, op := .call { callee := .builtin .len, args, argTypes := #[t] }, type := ty, pos := ps, after := af, guard := g } (.int .i64 len) w :=
  run_builtin hv fun cs => by
    have h1 : (Builtin.len_ #[t] ty #[.slice ad len cap]).run P w = .ok (.int .i64 len) w := by
      unfold Builtin.len_
      simp only [List.getElem?_toArray, List.getElem?_cons_zero]
      rw [run_bind, ht.out]; rfl
    show (do pure (Next.value (← Builtin.len_ #[t] ty #[.slice ad len cap])) : Sem Next).run P w = _
    rw [run_bind, h1]; rfl

theorem OpRun.lenStr {args : Array Operand} {s : ByteArray} (hv : ovals e args.toList = some [.string s]) (ht : TIs P t .string) :
    OpRun P n e w { dst, op := .call { callee := .builtin .len, args, argTypes := #[t] }, type := ty, pos := ps, after := af, guard := g } (.int .i64 s.size) w :=
  run_builtin hv fun cs => by
    have h1 : (Builtin.len_ #[t] ty #[.string s]).run P w = .ok (.int .i64 s.size) w := by
      unfold Builtin.len_
      simp only [List.getElem?_toArray, List.getElem?_cons_zero]
      rw [run_bind, ht.out]; rfl
    show (do pure (Next.value (← Builtin.len_ #[t] ty #[.string s])) : Sem Next).run P w = _
    rw [run_bind, h1]; rfl

theorem OpRun.bmax {args : Array Operand} {ats : Array TypeId} {a c : Int} {k : IntKind} (hv : ovals e args.toList = some [.int k a, .int k c]) :
    OpRun P n e w { dst, op := .call { callee := .builtin .max, args, argTypes := ats }, type := ty, pos := ps, after := af, guard := g } (.int k (max a c)) w :=
  run_builtin hv fun cs => by
    show (do pure (Next.value (← (Builtin.max_ ats ty [Value.int k a, .int k c].toArray))) : Sem Next).run P w = _
    have : (if c > a then c else a) = max a c := by rw [Int.max_def]; split <;> split <;> omega
    simp only [Builtin.max_, List.foldlM, Builtin.max2, this]
    rfl

theorem OpRun.bmin {args : Array Operand} {ats : Array TypeId} {a c : Int} {k : IntKind} (hv : ovals e args.toList = some [.int k a, .int k c]) :
    OpRun P n e w { dst, op := .call { callee := .builtin .min, args, argTypes := ats }, type := ty, pos := ps, after := af, guard := g } (.int k (min a c)) w :=
  run_builtin hv fun cs => by
    show (do pure (Next.value (← (Builtin.min_ ats ty [Value.int k a, .int k c].toArray))) : Sem Next).run P w = _
    have : (if c < a then c else a) = min a c := by rw [Int.min_def]; split <;> split <;> omega
    simp only [Builtin.min_, List.foldlM, Builtin.min2, this]
    rfl

/-! ### Slicing -/
theorem run_bound {k : IntKind} {i : Int} {y : Nat} {c : BoundsCode} (h0 : 0 ≤ i) (h1 : i ≤ y) : (Instr.sliceBound (.int k i) y c).run P w = .ok i.toNat w := by
  unfold Instr.sliceBound
  simp only [asIntOf]
  rw [run_bind, run_pure]; dsimp only
  rw [if_pos ⟨h0, h1⟩]; rfl

/-- Where a part of a slice begins. -/
def subo (o l sz m : Nat) : Nat := if m = l then o else o + l * sz

theorem sub_addr (o l sz m : Nat) : (if m = l then some (⟨b, o, none⟩ : Addr) else (some (⟨b, o, none⟩ : Addr)).map (·.add (l * sz))) = some ⟨b, subo o l sz m, none⟩ := by
  unfold subo; split
  · rfl
  · simp [addr_add]

theorem run_sliceAt {el : TypeId} {sz len cap l h m : Nat} {lo hi mx : Option Value} (ht : TIs P t (.slice el)) (hs : TSize P el sz)
    (hb : ∀ w, (Instr.sliceBounds true len cap lo hi mx).run P w = .ok (l, h, m) w) :
    (Instr.sliceAt t (.slice (some ⟨b, o, none⟩) len cap) lo hi mx).run P w = .ok (.slice (some ⟨b, subo o l sz m, none⟩) (h - l) (m - l)) w := by
  unfold Instr.sliceAt
  rw [run_bind, ht.out]; dsimp only
  unfold Instr.slice
  rw [run_bind, ht.out]; dsimp only
  rw [run_bind, hb]; dsimp only
  rw [run_bind, hs.out]; dsimp only
  rw [run_pure, sub_addr]

section
variable {el : TypeId} {sz len cap : Nat} {k k' k'' : IntKind} {l h m : Int} {xl xh xm : Operand}

/-- x[l:] -/
theorem OpRun.sliceL (hx : oval e x = some (.slice (some ⟨b, o, none⟩) len cap)) (hl : oval e xl = some (.int k l)) (ht : TIs P t (.slice el)) (hs : TSize P el sz) (h1 : 0 ≤ l) (h2 : l ≤ len) :
    OpRun P n e w { dst, op := .slice t x (some xl) none none, type := ty, pos := ps, after := af, guard := g } (.slice (some ⟨b, subo o l.toNat sz cap, none⟩) (len - l.toNat) (cap - l.toNat)) w :=
  ⟨fun ac ha => by
    have hb : ∀ w, (Instr.sliceBounds true len cap (some (.int k l)) none none).run P w = .ok (l.toNat, len, cap) w := fun w => by
      unfold Instr.sliceBounds
      dsimp only
      rw [run_bind, run_pure]; dsimp only
      rw [run_bind, run_pure]; dsimp only
      rw [run_bind, run_bound h1 h2]; rfl
    simp only [execOp, ha.eval hx, Option.map_some, Option.map_none, ha.eval hl]
    rw [run_bind, run_sliceAt ht hs hb]; rfl⟩

/-- x[:h] -/
theorem OpRun.sliceH (hx : oval e x = some (.slice (some ⟨b, o, none⟩) len cap)) (hh : oval e xh = some (.int k h)) (ht : TIs P t (.slice el)) (hs : TSize P el sz) (h1 : 0 ≤ h) (h2 : h ≤ cap) :
    OpRun P n e w { dst, op := .slice t x none (some xh) none, type := ty, pos := ps, after := af, guard := g } (.slice (some ⟨b, o, none⟩) h.toNat cap) w :=
  ⟨fun ac ha => by
    have hb : ∀ w, (Instr.sliceBounds true len cap none (some (.int k h)) none).run P w = .ok (0, h.toNat, cap) w := fun w => by
      unfold Instr.sliceBounds
      dsimp only
      rw [run_bind, run_pure]; dsimp only
      rw [run_bind, run_bound h1 h2]; dsimp only
      rw [run_bind, run_pure]; rfl
    simp only [execOp, ha.eval hx, Option.map_some, Option.map_none, ha.eval hh]
    rw [run_bind, run_sliceAt ht hs hb]
    have : subo o 0 sz cap = o := by unfold subo; split <;> simp
    simp only [this, Nat.sub_zero]; rfl⟩

/-- x[l:h] -/
theorem OpRun.sliceLH (hx : oval e x = some (.slice (some ⟨b, o, none⟩) len cap)) (hl : oval e xl = some (.int k l)) (hh : oval e xh = some (.int k' h)) (ht : TIs P t (.slice el)) (hs : TSize P el sz)
    (h1 : 0 ≤ l) (h2 : l ≤ h) (h3 : h ≤ cap) :
    OpRun P n e w { dst, op := .slice t x (some xl) (some xh) none, type := ty, pos := ps, after := af, guard := g } (.slice (some ⟨b, subo o l.toNat sz cap, none⟩) (h.toNat - l.toNat) (cap - l.toNat)) w :=
  ⟨fun ac ha => by
    have hb : ∀ w, (Instr.sliceBounds true len cap (some (.int k l)) (some (.int k' h)) none).run P w = .ok (l.toNat, h.toNat, cap) w := fun w => by
      unfold Instr.sliceBounds
      dsimp only
      rw [run_bind, run_pure]; dsimp only
      rw [run_bind, run_bound (by omega) h3]; dsimp only
      rw [run_bind, run_bound h1 (by omega)]; rfl
    simp only [execOp, ha.eval hx, Option.map_some, Option.map_none, ha.eval hl, ha.eval hh]
    rw [run_bind, run_sliceAt ht hs hb]; rfl⟩

/-- x[:h:m] -/
theorem OpRun.sliceHM (hx : oval e x = some (.slice (some ⟨b, o, none⟩) len cap)) (hh : oval e xh = some (.int k h)) (hm : oval e xm = some (.int k' m)) (ht : TIs P t (.slice el)) (hs : TSize P el sz)
    (h1 : 0 ≤ h) (h2 : h ≤ m) (h3 : m ≤ cap) :
    OpRun P n e w { dst, op := .slice t x none (some xh) (some xm), type := ty, pos := ps, after := af, guard := g } (.slice (some ⟨b, o, none⟩) h.toNat m.toNat) w :=
  ⟨fun ac ha => by
    have hb : ∀ w, (Instr.sliceBounds true len cap none (some (.int k h)) (some (.int k' m))).run P w = .ok (0, h.toNat, m.toNat) w := fun w => by
      unfold Instr.sliceBounds
      dsimp only
      rw [run_bind, run_bound (by omega) h3]; dsimp only
      rw [run_bind, run_bound h1 (by omega)]; dsimp only
      rw [run_bind, run_pure]; rfl
    simp only [execOp, ha.eval hx, Option.map_some, Option.map_none, ha.eval hh, ha.eval hm]
    rw [run_bind, run_sliceAt ht hs hb]
    have : subo o 0 sz m.toNat = o := by unfold subo; split <;> simp
    simp only [this, Nat.sub_zero]; rfl⟩

/-- x[l:h:m] -/
theorem OpRun.sliceLHM (hx : oval e x = some (.slice (some ⟨b, o, none⟩) len cap)) (hl : oval e xl = some (.int k l)) (hh : oval e xh = some (.int k' h)) (hm : oval e xm = some (.int k'' m)) (ht : TIs P t (.slice el)) (hs : TSize P el sz)
    (h1 : 0 ≤ l) (h2 : l ≤ h) (h3 : h ≤ m) (h4 : m ≤ cap) :
    OpRun P n e w { dst, op := .slice t x (some xl) (some xh) (some xm), type := ty, pos := ps, after := af, guard := g } (.slice (some ⟨b, subo o l.toNat sz m.toNat, none⟩) (h.toNat - l.toNat) (m.toNat - l.toNat)) w :=
  ⟨fun ac ha => by
    have hb : ∀ w, (Instr.sliceBounds true len cap (some (.int k l)) (some (.int k' h)) (some (.int k'' m))).run P w = .ok (l.toNat, h.toNat, m.toNat) w := fun w => by
      unfold Instr.sliceBounds
      dsimp only
      rw [run_bind, run_bound (by omega) h4]; dsimp only
      rw [run_bind, run_bound (by omega) (by omega)]; dsimp only
      rw [run_bind, run_bound h1 (by omega)]; rfl
    simp only [execOp, ha.eval hx, Option.map_some, ha.eval hl, ha.eval hh, ha.eval hm]
    rw [run_bind, run_sliceAt ht hs hb]; rfl⟩

/-- A nil slice's part: x[:0], x[0:] .. -/
theorem OpRun.sliceNilH (hx : oval e x = some (.slice none 0 0)) (hh : oval e xh = some (.int k 0)) (ht : TIs P t (.slice el)) (hs : TSize P el sz) :
    OpRun P n e w { dst, op := .slice t x none (some xh) none, type := ty, pos := ps, after := af, guard := g } (.slice none 0 0) w :=
  ⟨fun ac ha => by
    simp only [execOp, ha.eval hx, Option.map_some, Option.map_none, ha.eval hh]
    have hb : ∀ w, (Instr.sliceBounds true 0 0 none (some (.int k 0)) none).run P w = .ok (0, 0, 0) w := fun w => by
      unfold Instr.sliceBounds
      dsimp only
      rw [run_bind, run_pure]; dsimp only
      rw [run_bind, run_bound (by omega) (by omega)]; dsimp only
      rw [run_bind, run_pure]; rfl
    have h1 : (Instr.sliceAt t (.slice none 0 0) none (some (.int k 0)) none).run P w = .ok (.slice none 0 0) w := by
      unfold Instr.sliceAt
      rw [run_bind, ht.out]; dsimp only
      unfold Instr.slice
      rw [run_bind, ht.out]; dsimp only
      rw [run_bind, hb]; dsimp only
      rw [run_bind, hs.out]; rfl
    rw [run_bind, h1]; rfl⟩
end

/-! ### Aggregates -/
/-- 'build': a struct of parts; what it comes to by evaluation. -/
structure TBuild (P : Program) (t : TypeId) (parts : List (Nat × Value)) (v : Value) : Prop where
  out : ∀ w, (Instr.build t parts.toArray).run P w = .ok v w

def pvals (e : Env) : List (Nat × Operand) → Option (List (Nat × Value))
  | [] => some []
  | (i, x) :: xs => match oval e x, pvals e xs with
    | some v, some vs => some ((i, v) :: vs)
    | _, _ => none

theorem pvals_eval {e : Env} {ac : Act} (ha : Agrees n e ac) : ∀ {xs : List (Nat × Operand)} {vs : List (Nat × Value)}, pvals e xs = some vs → xs.map (fun (i, x) => (i, ac.eval x)) = vs
  | [], vs, h => by simp [pvals] at h; simp [h]
  | (i, x) :: xs, vs, h => by
    simp only [pvals] at h
    split at h
    · rename_i v vs' h1 h2
      cases h
      simp only [List.map_cons, ha.eval h1, pvals_eval ha h2]
    · cases h

theorem OpRun.build {parts : Array (Nat × Operand)} {vs : List (Nat × Value)} {v : Value} (hv : pvals e parts.toList = some vs) (hb : TBuild P t vs v) :
    OpRun P n e w { dst, op := .build t parts, type := ty, pos := ps, after := af, guard := g } v w :=
  ⟨fun ac ha => by
    have e1 : parts.map (fun (i, x) => (i, ac.eval x)) = vs.toArray := by
      rw [← pvals_eval ha hv, ← Array.toList_map]
    simp only [execOp, e1]
    rw [run_bind, hb.out]; rfl⟩

/-- A literal of a slice whose elements are of one cell each. -/
theorem run_fill1 : ∀ (vs : List Value) (i : Nat) (cells : List Value), i + vs.length ≤ cells.length → (∀ v ∈ vs, v.cells.toList = [v]) →
    Instr.fill (fun i => some (i * 1, 1)) cells.toArray ((List.range' i vs.length).zip vs) = some (putList cells i vs).toArray
  | [], i, cells, _, _ => by simp [Instr.fill, putList]
  | v :: vs, i, cells, hl, hv => by
    have h1 : v.cells = #[v] := by
      have := hv v (by simp)
      rw [← Array.toArray_toList (xs := v.cells), this]
    simp only [List.length_cons] at hl
    simp only [List.length_cons, List.range'_succ, List.zip_cons_cons, Instr.fill, h1, putList]
    rw [if_neg (by simp; omega)]
    have := run_fill1 vs (i + 1) (cells.set i v) (by simp; omega) (fun u hu => hv u (by simp [hu]))
    simpa using this

theorem putList_all : ∀ (vs cells : List Value), vs.length = cells.length → putList cells 0 vs = vs := by
  have key : ∀ (vs pre cells : List Value), vs.length = cells.length → putList (pre ++ cells) pre.length vs = pre ++ vs := by
    intro vs
    induction vs with
    | nil => intro pre cells h; cases cells with
      | nil => simp [putList]
      | cons c cs => simp at h
    | cons v vs ih =>
      intro pre cells h
      cases cells with
      | nil => simp at h
      | cons c cs =>
        simp only [putList]
        have := ih (pre ++ [v]) cs (by simpa using h)
        simp at this
        simpa using this
  intro vs cells h
  simpa using key vs [] cells h

theorem OpTo.buildSlice {el : TypeId} {k sz : Nat} {parts : Array (Nat × Operand)} {pv : List (Nat × Value)} {cs : List Value} {z : Value} (hv : pvals e parts.toList = some pv) (hk : Nat.ble (k * sz) 1000 = true) (hk0 : Nat.beq (k * sz) 0 = false)
    (ht : TIs P t (.slice el)) (hs : TSize P el sz) (hz : TZero P el z) (hf : Instr.fill (fun i => some (i * sz, sz)) ((Array.range (k * sz)).map (z.cells[· % z.cells.size]!)) pv = some cs.toArray) (hd : Nat.blt d n = true)
    (kk : ∀ b w', Blk w' b el cs → Grow w w' → w.heap.size ≤ b → b < w'.heap.size → K ((d, .slice (some ⟨b, 0, none⟩) k k) :: e) w') :
    OpTo P n e w { dst := some d, op := .buildSlice t k parts, type := ty, pos := ps, after := af, guard := g } K := by
  have hk' : k * sz ≤ 1000 := by simpa [Nat.ble_eq] using hk
  have hk0' : k * sz ≠ 0 := by intro h; rw [h] at hk0; simp at hk0
  refine OpTo.val (v := .slice (some ⟨w.heap.size, 0, none⟩) k k) (w' := w.alloc (.cells cs.toArray el)) ⟨fun ac ha => ?_⟩ hd
    (kk _ _ (Blk.new el cs) (grow_alloc _) (Nat.le_refl _) (by simp))
  have e1 : parts.map (fun (i, x) => (i, ac.eval x)) = pv.toArray := by
    rw [← pvals_eval ha hv, ← Array.toList_map]
  have h2 : (Instr.buildSlice t k pv.toArray).run P w = .ok (.slice (some ⟨w.heap.size, 0, none⟩) k k) (w.alloc (.cells cs.toArray el)) := by
    unfold Instr.buildSlice
    rw [run_bind, ht.out]; dsimp only
    rw [run_bind, hs.out]; dsimp only
    rw [if_neg (by omega), if_neg hk0', run_bind, hz.out]; dsimp only
    rw [run_bind, run_pure]; dsimp only
    rw [hf]; rfl
  simp only [execOp, e1]
  rw [run_bind, h2]; rfl

theorem fill_one {k : Nat} {vs : List Value} {z : Value} (hl : vs.length = k) (h1 : vs.all Value.one = true) :
    Instr.fill (fun i => some (i * 1, 1)) ((Array.range (k * 1)).map (z.cells[· % z.cells.size]!)) ((List.range k).zip vs) = some vs.toArray := by
  have hcell : ∀ v ∈ vs, v.cells.toList = [v] := by
    intro v hv'
    have := List.all_eq_true.1 h1 v hv'
    cases v <;> first | rfl | (simp [Value.one] at this)
  generalize hg : ((Array.range (k * 1)).map (z.cells[· % z.cells.size]!)) = cells
  have hc : cells.toList.length = k := by rw [← hg]; simp
  have := run_fill1 vs 0 cells.toList (by omega) hcell
  rw [← List.range_eq_range', hl] at this
  rw [Array.toArray_toList] at this
  rw [this, putList_all vs cells.toList (by omega)]

/-- 'build' of a struct. -/
theorem TBuild.struct {fs : Array Field} {places : Array (Nat × Nat)} {pv : List (Nat × Value)} {z : Value} {cs : List Value} (hz : TZero P t z) (ht : TIs P t (.struct fs))
    (hp : ∀ w, (fs.mapM fun f => do pure (f.offset, ← sizeOf f.type) : Sem (Array (Nat × Nat))).run P w = .ok places w) (hf : Instr.fill (places[·]?) z.cells pv = some cs.toArray) :
    TBuild P t pv (.agg cs.toArray) :=
  ⟨fun w => by
    unfold Instr.build
    rw [run_bind, hz.out]; dsimp only
    rw [run_bind, ht.out]; dsimp only
    rw [run_bind, hp]; dsimp only
    rw [hf]; rfl⟩

end Go.Eng
namespace Go.Eng
open Go
variable {P : Program} {n : Nat} {e : Env} {w : World} {K : Env → World → Prop} {ops rest : List Oper} {ty : TypeId} {ps : String} {af : Array Edge} {d : Nat} {g : Option (Nat × Bool)} {dst : Option Tmp}
  {x y : Operand} {t u : TypeId} {b o : Nat}

/-! ### Slices -/
def sblk : Value → Option Nat
  | .slice (some a) _ _ => some a.block
  | _ => none

/-- v is a slice of len elements (room for cap), of sz cells each; its cells are cs. -/
structure Sl (w : World) (v : Value) (T sz : Nat) (cs : List Value) (len cap : Nat) : Prop where
  shape : (v = .slice none 0 0 ∧ cs = [] ∧ len = 0 ∧ cap = 0) ∨ ∃ b o blk, v = .slice (some ⟨b, o, none⟩) len cap ∧ Blk w b T blk ∧ At blk o cs ∧ o + cap * sz ≤ blk.length
  hlen : cs.length = len * sz
  hle : len ≤ cap
  hcap : cap ≤ 9223372036854775807

/-- What can be read of a slice. -/
structure Src (w : World) (v : Value) (sz : Nat) (xs : List Value) (m : Nat) : Prop where
  shape : ∃ ad cap, v = .slice ad m cap ∧ (ad = none → m = 0) ∧ ∀ a, ad = some a → a.spot = none ∧ ∀ j, j < xs.length → w.cell? ⟨a.block, a.off + j, none⟩ = xs[j]?
  hlen : xs.length = m * sz

theorem Sl.nil (w : World) (T sz : Nat) : Sl w (.slice none 0 0) T sz [] 0 0 := ⟨.inl ⟨rfl, rfl, rfl, rfl⟩, by simp, Nat.le_refl _, by omega⟩

theorem Sl.of {T sz len cap b o : Nat} {blk cs : List Value} (hb : Blk w b T blk) (hat : At blk o cs) (hr : o + cap * sz ≤ blk.length) (hl : cs.length = len * sz) (hle : len ≤ cap) (hc : cap ≤ 9223372036854775807) :
    Sl w (.slice (some ⟨b, o, none⟩) len cap) T sz cs len cap := ⟨.inr ⟨b, o, blk, rfl, hb, hat, hr⟩, hl, hle, hc⟩

theorem Sl.src {v : Value} {T sz len cap : Nat} {cs : List Value} (h : Sl w v T sz cs len cap) : Src w v sz cs len := by
  refine ⟨?_, h.hlen⟩
  rcases h.shape with ⟨rfl, rfl, rfl, rfl⟩ | ⟨b, o, blk, rfl, hb, hat, _⟩
  · exact ⟨none, 0, rfl, fun _ => rfl, fun a ha => by cases ha⟩
  · refine ⟨some ⟨b, o, none⟩, cap, rfl, (fun ha => by cases ha), fun a ha => ?_⟩
    cases ha
    refine ⟨rfl, fun j hj => ?_⟩
    have := hat.get j hj
    rw [List.getElem?_eq_getElem hj] at this ⊢
    exact hb.cell this

theorem Sl.mod {S : Nat → Prop} {w' : World} {v : Value} {T sz len cap : Nat} {cs : List Value} (h : Sl w v T sz cs len cap) (hm : Mod S w w') (hs : ∀ k, sblk v = some k → ¬ S k) : Sl w' v T sz cs len cap := by
  refine ⟨?_, h.hlen, h.hle, h.hcap⟩
  rcases h.shape with h1 | ⟨b, o, blk, rfl, hb, hat, hr⟩
  · exact .inl h1
  · exact .inr ⟨b, o, blk, rfl, hb.mod hm (hs b rfl), hat, hr⟩

theorem Sl.grow {w' : World} {v : Value} {T sz len cap : Nat} {cs : List Value} (h : Sl w v T sz cs len cap) (hm : Grow w w') : Sl w' v T sz cs len cap := h.mod hm fun _ _ h => h

theorem Sl.lt {v : Value} {T sz len cap : Nat} {cs : List Value} (h : Sl w v T sz cs len cap) {k : Nat} (hk : sblk v = some k) : k < w.heap.size := by
  rcases h.shape with ⟨rfl, _⟩ | ⟨b, o, blk, rfl, hb, _⟩
  · cases hk
  · cases hk; exact hb.lt

theorem Sl.typ {v : Value} {T sz len cap : Nat} {cs : List Value} (h : Sl w v T sz cs len cap) {k : Nat} (hk : sblk v = some k) : ∃ blk, Blk w k T blk := by
  rcases h.shape with ⟨rfl, _⟩ | ⟨b, o, blk, rfl, hb, _⟩
  · cases hk
  · cases hk; exact ⟨blk, hb⟩

theorem Sl.ne {v : Value} {T sz len cap k T' : Nat} {cs cs' : List Value} (h : Sl w v T sz cs len cap) (hb : Blk w k T' cs') (hT : Nat.beq T T' = false) : ∀ j, sblk v = some j → j ≠ k := fun j hj => by
  obtain ⟨blk, h1⟩ := h.typ hj
  exact h1.ne hb hT

theorem putList_at : ∀ (vs blk : List Value) (o : Nat), o + vs.length ≤ blk.length → At (putList blk o vs) o vs := by
  intro vs
  have keep : ∀ (vs blk : List Value) (o i : Nat), i < o → (putList blk o vs)[i]? = blk[i]? := by
    intro vs
    induction vs with
    | nil => intro blk o i _; rfl
    | cons v vs ih => intro blk o i hi; simp only [putList]; rw [ih _ _ _ (by omega), List.getElem?_set_ne (by omega)]
  induction vs with
  | nil => intro blk o _; trivial
  | cons v vs ih =>
    intro blk o h
    simp at h
    refine ⟨?_, ih _ _ (by simp; omega)⟩
    simp only [putList]
    rw [keep vs _ (o + 1) o (by omega), List.getElem?_set_self (by omega)]

theorem putList_other : ∀ (vs blk : List Value) (o i : Nat), i < o ∨ o + vs.length ≤ i → (putList blk o vs)[i]? = blk[i]? := by
  intro vs
  induction vs with
  | nil => intro blk o i _; rfl
  | cons v vs ih =>
    intro blk o i hi
    simp only [putList]
    simp at hi
    rw [ih _ _ _ (by omega), List.getElem?_set_ne (by omega)]

theorem At.append {blk : List Value} : ∀ {cs xs : List Value} {o : Nat}, At blk o cs → At blk (o + cs.length) xs → At blk o (cs ++ xs)
  | [], xs, o, _, h => by simpa using h
  | c :: cs, xs, o, h, h2 => ⟨h.1, At.append h.2 (by simp at h2; rw [show o + 1 + cs.length = o + (cs.length + 1) from by omega]; exact h2)⟩

theorem At.congr {blk blk' : List Value} : ∀ {cs : List Value} {o : Nat}, At blk o cs → (∀ j, j < cs.length → blk'[o + j]? = blk[o + j]?) → At blk' o cs
  | [], _, _, _ => trivial
  | c :: cs, o, h, hj => ⟨by have := hj 0 (by simp); simp at this; rw [this]; exact h.1, At.congr h.2 fun j hj' => by
      have := hj (j + 1) (by simpa using hj')
      rw [show o + 1 + j = o + (j + 1) from by omega]; exact this⟩

theorem At.self : ∀ (pre cs post : List Value), At (pre ++ cs ++ post) pre.length cs
  | _, [], _ => trivial
  | pre, c :: cs, post => ⟨by simp, by have := At.self (pre ++ [c]) cs post; simpa using this⟩

theorem At.zero (cs post : List Value) : At (cs ++ post) 0 cs := by simpa using At.self [] cs post

theorem Src.grow {w' : World} {v : Value} {sz m : Nat} {xs : List Value} (h : Src w v sz xs m) (hh : ∀ k, k < w.heap.size → w'.heap[k]? = w.heap[k]?) : Src w' v sz xs m := by
  refine ⟨?_, h.hlen⟩
  obtain ⟨ad, cap, rfl, h1, h2⟩ := h.shape
  refine ⟨ad, cap, rfl, h1, fun a ha => ⟨(h2 a ha).1, fun j hj => ?_⟩⟩
  have h3 := (h2 a ha).2 j hj
  rw [← h3]
  have hlt : a.block < w.heap.size := by
    rcases Nat.lt_or_ge a.block w.heap.size with hb | hb
    · exact hb
    · rw [List.getElem?_eq_getElem hj] at h3
      simp [World.cell?, Array.getElem?_eq_none hb] at h3
  simp only [World.cell?, hh _ hlt]

theorem run_firstCells {v : Value} {sz m : Nat} {xs : List Value} (h : Src w v sz xs m) : (Builtin.firstCells sz m v).run P w = .ok xs.toArray w := by
  obtain ⟨ad, cap, rfl, h1, h2⟩ := h.shape
  cases ad with
  | none =>
    have : xs = [] := List.length_eq_zero_iff.1 (by rw [h.hlen, h1 rfl]; simp)
    subst this
    rfl
  | some a =>
    obtain ⟨hsp, hc⟩ := h2 a rfl
    obtain ⟨ab, ao, asp⟩ := a
    simp at hsp; subst hsp
    show (loadCells ⟨ab, ao, none⟩ (m * sz)).run P w = _
    unfold loadCells
    rw [run_loadCells (m * sz) 0 #[] xs h.hlen (fun j hj => by rw [Nat.zero_add]; exact hc j (by rw [h.hlen]; exact hj))]
    simp

/-- How far a slice grows. -/
theorem growBy_le (newLen : Nat) : ∀ (r c : Nat), c ≤ newLen → Builtin.growBy newLen r c ≤ 2 * newLen + 768
  | 0, c, h => by simp [Builtin.growBy]; omega
  | r + 1, c, h => by
    simp only [Builtin.growBy]
    split
    · omega
    · by_cases h2 : c + (c + 768) / 4 ≤ newLen
      · exact growBy_le newLen r _ h2
      · cases r with
        | zero => simp only [Builtin.growBy]; omega
        | succ r => simp only [Builtin.growBy]; rw [if_pos (by omega)]; omega

theorem nextslicecap_le {need cap : Nat} (h : cap < need) : Builtin.nextslicecap need cap ≤ 2 * need + 768 := by
  unfold Builtin.nextslicecap
  split
  · omega
  · split
    · omega
    · exact growBy_le need 4 cap (by omega)

def World.same (w w' : World) : Prop := w'.heap = w.heap ∧ w'.os = w.os ∧ w'.tape = w.tape ∧ w'.output = w.output

theorem run_choose (q : Question) : ∃ (k : Nat) (w' : World), (choose q).run P w = .ok k w' ∧ World.same w w' ∧ (k = 0 ∨ ∃ t, k = q.cut t) := by
  unfold choose
  simp only [Sem.run]
  split
  · exact ⟨0, w, rfl, ⟨rfl, rfl, rfl, rfl⟩, .inl rfl⟩
  · exact ⟨_, _, rfl, ⟨rfl, rfl, rfl, rfl⟩, .inr ⟨_, rfl⟩⟩

theorem same_grow {w w' : World} (h : World.same w w') : Grow w w' := ⟨h.2.1, h.2.2.1, h.2.2.2, by rw [h.1]; exact Nat.le_refl _, fun k _ _ => by rw [h.1]⟩

theorem run_askRoom (k : Nat) : (askRoom k).run P w = .ok () w := by
  unfold askRoom; split <;> rfl

structure TBytes (P : Program) (t : TypeId) (k : Nat) : Prop where
  out : ∀ w, ∃ i, (typeInfo t).run P w = .ok i w ∧ i.bytes = k

/-- What append's post is. -/
def Apd (w : World) (s : Value) (T sz : Nat) (cs : List Value) (len : Nat) (v : Value) (w' : World) : Prop :=
  ∃ cap', Sl w' v T sz cs len cap' ∧ Mod (fun k => sblk s = some k) w w' ∧ (sblk v = sblk s ∨ ∃ b, sblk v = some b ∧ w.heap.size ≤ b)

/-- In place. -/
theorem apd_fits {s : Value} {el sz len cap m : Nat} {cs xs : List Value} (hS : Sl w s el sz cs len cap) (hx : xs.length = m * sz) (hx1 : xs.all Value.one = true) (hfit : len + m ≤ cap) :
    ∃ w' a, s = .slice a len cap ∧ (match a with | some a => storeCells (a.add (len * sz)) xs | none => pure () : Sem Unit).run P w = .ok () w' ∧ Apd w s el sz (cs ++ xs) (len + m) (.slice a (len + m) cap) w' := by
  rcases hS.shape with ⟨rfl, rfl, rfl, rfl⟩ | ⟨b, o, blk, rfl, hb, hat, hr⟩
  · have hm : m = 0 := by omega
    subst hm
    have : xs = [] := List.length_eq_zero_iff.1 (by rw [hx]; simp)
    subst this
    exact ⟨w, none, rfl, rfl, 0, Sl.nil _ _ _, Mod.refl _ _, .inl rfl⟩
  · have hle : o + (len + m) * sz ≤ blk.length := Nat.le_trans (Nat.add_le_add_left (Nat.mul_le_mul_right sz hfit) o) hr
    rw [Nat.add_mul] at hle
    obtain ⟨w', h1, h2, h3, h4⟩ := run_storeCells (P := P) (o := o + len * sz) xs 0 w blk hb (by omega) (by simpa using hx1)
    refine ⟨w', some ⟨b, o, none⟩, rfl, ?_, cap, ?_, ?_, .inl rfl⟩
    · dsimp only; rw [addr_add]; exact h1
    · refine Sl.of h2 ?_ (by rw [putList_length]; exact hr) (by simp [hS.hlen, hx, Nat.add_mul]) hfit hS.hcap
      refine At.append (hat.congr fun j hj => putList_other _ _ _ _ (.inl (by rw [hS.hlen] at hj; omega))) ?_
      rw [hS.hlen]
      exact putList_at xs blk (o + len * sz) (by omega)
    · exact h3.mono fun k _ hk => by simp [sblk, hk]

theorem zeroCells_length (z : Array Value) (k : Nat) : (Builtin.zeroCells z k).toList.length = k * z.size := by simp [Builtin.zeroCells]

/-- In new memory. -/
theorem apd_grows {s : Value} {el sz len cap m nc : Nat} {cs xs : List Value} {z : Array Value} (hS : Sl w s el sz cs len cap) (hx : xs.length = m * sz) (hz : z.size = sz) (hnc : len + m ≤ nc) (hnc2 : nc ≤ 9223372036854775807)
    {w1 : World} (h1 : World.same w w1) :
    (newRow el (cs.toArray ++ xs.toArray ++ Builtin.zeroCells z (nc - (len + m)))).run P w1 = .ok ⟨w1.heap.size, 0, none⟩ (w1.alloc (.cells (cs.toArray ++ xs.toArray ++ Builtin.zeroCells z (nc - (len + m))) el)) ∧
    Apd w s el sz (cs ++ xs) (len + m) (.slice (some ⟨w1.heap.size, 0, none⟩) (len + m) nc) (w1.alloc (.cells (cs.toArray ++ xs.toArray ++ Builtin.zeroCells z (nc - (len + m))) el)) := by
  refine ⟨rfl, nc, ?_, ?_, .inr ⟨_, rfl, by rw [h1.1]; exact Nat.le_refl _⟩⟩
  · have hb := Blk.new (w := w1) el (cs ++ xs ++ (Builtin.zeroCells z (nc - (len + m))).toList)
    simp only [← List.append_toArray, Array.toArray_toList] at hb
    refine Sl.of hb ?_ ?_ ?_ hnc hnc2
    · exact At.zero (cs ++ xs) _
    · simp only [List.length_append, zeroCells_length, hS.hlen, hx, hz]
      rw [← Nat.add_mul, ← Nat.add_mul, Nat.zero_add]
      exact Nat.mul_le_mul_right sz (by omega)
    · simp [hS.hlen, hx, Nat.add_mul]
  · exact (same_grow h1).trans (grow_alloc _) |>.any

theorem cut_appendCap {need old el t : Nat} (h : need ≤ 4611686018427387904) : need ≤ (Question.appendCap need old el).cut t ∧ (Question.appendCap need old el).cut t ≤ 9223372036854775807 := by
  simp only [Question.cut]
  have : t % (2 ^ 63 - need) < 2 ^ 63 - need := Nat.mod_lt _ (by omega)
  omega

theorem run_choose_cap {need old el : Nat} (w : World) : ∃ (k : Nat) (w' : World), (choose (.appendCap need old el)).run P w = .ok k w' ∧ World.same w w' ∧ ∃ t, k = (Question.appendCap need old el).cut t :=
  ⟨_, _, rfl, ⟨rfl, rfl, rfl, rfl⟩, _, rfl⟩

theorem append_run {s xv : Value} {st el sz len cap m by_ : Nat} {cs xs : List Value} {z : Value} {dsc : TypeDesc} (hst : TIs P st (.slice el)) (hu : TIs P u dsc) (hnz : ∀ k, dsc ≠ .int k) (hsz : TSize P el sz) (hS : Sl w s el sz cs len cap) (hX : Src w xv sz xs m) (hx1 : xs.all Value.one = true)
    (hz : TZero P el z) (hzs : z.cells.size = sz) (hby : TBytes P el by_) (hbig : (2 * (len + m) + 768) * by_ ≤ 281474976710656) (hm : len + m ≤ 4611686018427387904) (hb0 : Nat.beq by_ 0 = false) :
    ∃ v' w', (Builtin.append_ #[st, u] ty #[s, xv]).run P w = .ok v' w' ∧ Apd w s el sz (cs ++ xs) (len + m) v' w' := by
  have hb0' : by_ ≠ 0 := by intro h; subst h; simp at hb0
  obtain ⟨xad, xcap, rfl, hx2, hx3⟩ := hX.shape
  have hsv : ∃ a, s = .slice a len cap := by
    rcases hS.shape with ⟨rfl, _, rfl, rfl⟩ | ⟨b, o, blk, rfl, _⟩
    · exact ⟨_, rfl⟩
    · exact ⟨_, rfl⟩
  obtain ⟨a, rfl⟩ := hsv
  have hlen : (Builtin.lenOf (.slice xad m xcap)).run P w = .ok m w := rfl
  unfold Builtin.append_
  simp only [List.getElem?_toArray, List.getElem?_cons_zero, List.getElem?_cons_succ]
  rw [run_bind, hst.out]; dsimp only
  rw [run_bind, hsz.out]; dsimp only
  rw [run_bind, hu.out]; dsimp only
  rw [run_bind, run_pure]; dsimp only
  rw [if_neg (by cases dsc <;> first | (exact absurd rfl (hnz _)) | simp)]
  rw [run_bind, hlen]; dsimp only
  simp only [Bool.not_false, if_true]
  by_cases hfit : len + m ≤ cap
  · rw [if_pos hfit, run_bind, run_firstCells hX]; dsimp only
    obtain ⟨w', a', hs, h1, h2⟩ := apd_fits (P := P) hS hX.hlen hx1 hfit
    cases hs
    refine ⟨_, w', ?_, h2⟩
    cases a with
    | none => cases h1; rfl
    | some a => dsimp only at h1 ⊢; rw [run_bind, h1]; rfl
  · obtain ⟨i, hi, hib⟩ := hby.out w
    rw [if_neg hfit]
    rw [run_bind, hi]; dsimp only
    rw [if_neg (by rw [hib]; simp [hb0']), run_bind, hi]; dsimp only
    have hle := nextslicecap_le (need := len + m) (cap := cap) (by omega)
    rw [if_neg (by
      rw [hib]
      have : Builtin.nextslicecap (len + m) cap * by_ ≤ (2 * (len + m) + 768) * by_ := Nat.mul_le_mul_right _ hle
      omega)]
    obtain ⟨k, w1, hk, hsame, t', ht'⟩ := run_choose_cap (P := P) (need := len + m) (old := cap) (el := el) w
    rw [run_bind, hk]; dsimp only
    obtain ⟨i1, hi1, _⟩ := hby.out w1
    rw [run_bind, hi1]; dsimp only
    rw [run_bind, run_askRoom]; dsimp only
    have hsrc1 : Src w1 (.slice a len cap) sz cs len := hS.src.grow fun k _ => by rw [hsame.1]
    have hX1 : Src w1 (.slice xad m xcap) sz xs m := hX.grow fun k _ => by rw [hsame.1]
    rw [run_bind, run_firstCells hsrc1]; dsimp only
    rw [run_bind, run_firstCells hX1]; dsimp only
    rw [run_bind, hz.out]; dsimp only
    have hcut := cut_appendCap (need := len + m) (old := cap) (el := el) (t := t') hm
    rw [← ht'] at hcut
    have hg := apd_grows (P := P) (z := z.cells) hS hX.hlen hzs hcut.1 hcut.2 hsame
    rw [run_bind, hg.1]
    exact ⟨_, _, rfl, hg.2⟩

theorem OpTo.append {s xv : Value} {st el sz len cap m by_ : Nat} {cs xs : List Value} {z : Value} {dsc : TypeDesc} {args : Array Operand} (hv : ovals e args.toList = some [s, xv]) (hst : TIs P st (.slice el)) (hu : TIs P u dsc) (hnz : ∀ k, dsc ≠ .int k) (hsz : TSize P el sz)
    (hS : Sl w s el sz cs len cap) (hX : Src w xv sz xs m) (hx1 : xs.all Value.one = true)
    (hz : TZero P el z) (hzs : z.cells.size = sz) (hby : TBytes P el by_) (hbig : (2 * (len + m) + 768) * by_ ≤ 281474976710656) (hm : len + m ≤ 4611686018427387904) (hb0 : Nat.beq by_ 0 = false) (hd : Nat.blt d n = true)
    (k : ∀ v w', Apd w s el sz (cs ++ xs) (len + m) v w' → K ((d, v) :: e) w') :
    OpTo P n e w { dst := some d, op := .call { callee := .builtin .append, args, argTypes := #[st, u] }, type := ty, pos := ps, after := af, guard := g } K := by
  obtain ⟨v', w', h1, h2⟩ := append_run (ty := ty) hst hu hnz hsz hS hX hx1 hz hzs hby hbig hm hb0
  refine OpTo.val (run_builtin hv fun cs => ?_) hd (k v' w' h2)
  show (do pure (Next.value (← Builtin.append_ #[st, u] ty #[s, xv])) : Sem Next).run P w = _
  rw [run_bind, h1]; rfl

end Go.Eng
