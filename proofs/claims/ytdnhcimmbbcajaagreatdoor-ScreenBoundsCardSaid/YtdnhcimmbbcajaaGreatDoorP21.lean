/-
  A part of a proof (Eng12): lemmas on what the program's functions do. No condition but those that each lemma states.
-/
import Derived.Test.YtdnhcimmbbcajaaGreatDoorP16
set_option maxRecDepth 8000
set_option linter.all false
namespace Go.Eng
open Go

/-! ### Regions that draw their order, with few fragile operations F: S has to hold just till all of F have come up. -/
/-- All fragile ones come ahead of number j. -/
def calm (ops : Array Oper) (F : List Nat) (j : Nat) : Bool := F.all fun i => i == j || reach ops ops.size i j

section
variable {P : Program} {ops : Array Oper} {Q : Exit → Act → World → Prop} {F : List Nat} {S S1 : World → Prop}

theorem not_calm {listed : Array Bool} (hc : Closed ops listed) {i j : Nat} (hF : i ∈ F) (hi : i ∈ Region.ready .any ops listed) (hj : j ∈ Region.ready .any ops listed) (hne : i ≠ j) : calm ops F j = false := by
  rw [Bool.eq_false_iff]
  intro hl
  obtain ⟨hi0, oi, hoi, _⟩ := mem_ready.1 hi
  obtain ⟨_, oj, hoj, hall⟩ := mem_ready.1 hj
  unfold calm at hl
  rw [List.all_eq_true] at hl
  have h1 := hl i hF
  simp only [Bool.or_eq_true, beq_iff_eq] at h1
  have h2 := reach_listed hc _ i j oj hoj hall (h1.resolve_left hne)
  rcases Nat.lt_or_ge i listed.size with h' | h'
  · simp [h'] at h2 hi0; rw [hi0] at h2; cases h2
  · simp [Array.getElem?_eq_none h'] at h2

def anyF (P : Program) (ops : Array Oper) (Q : Exit → Act → World → Prop) (F : List Nat) (S : World → Prop) : Nat → Array Bool → Act → World → Prop
  | 0, listed, a, w => Region.ready .any ops listed = [] ∧ Q .normal a w
  | fuel + 1, listed, a, w => (Region.ready .any ops listed = [] → Q .normal a w) ∧
    ∀ i ∈ Region.ready .any ops listed, wpOp P ops Q i (fun a' w' => (calm ops F i = false → S w → S w') ∧ anyF P ops Q F S fuel (listed.setIfInBounds i true) a' w') a w

theorem any_of_F : ∀ (fuel : Nat) (listed : Array Bool) (a : Act) (w : World), anyF P ops Q F S fuel listed a w → wpAny P .any ops Q fuel listed a w
  | 0, _, _, _, h => h
  | fuel + 1, _, _, _, h => ⟨h.1, fun i hi => wpOp_mono (fun a' w' h' => any_of_F fuel _ a' w' h'.2) (h.2 i hi)⟩

theorem anyF_first {i : Nat} {oi : Oper} {v : Value} (hi : ops[i]? = some oi) (hsel : ∀ (j : Nat) (o : Oper) cs b, ops[j]? = some o → o.op ≠ .select cs b)
    (hQ : ∀ c a w, Q (.panic c) (a.put oi.dst v) w → Q (.panic c) a w)
    (hS1 : ∀ (listed : Array Bool) (j : Nat) (w w' : World), Closed ops listed → i ∈ Region.ready .any ops listed → j ∈ Region.ready .any ops listed → i ≠ j → S1 w → (calm ops F j = false → S w → S w') → S1 w') :
    ∀ (fuel : Nat) (listed : Array Bool) (a : Act) (w : World), Closed ops listed →
      (∀ j oj, ops[j]? = some oj → j ≠ i → listed.getD j true = false → (∀ e ∈ oj.after, Region.binds .any e = true → e.on ≠ i) → oi.apart ops oj = true) →
      i ∈ Region.ready .any ops listed → YieldsIf P ops S1 oi v a → S1 w →
      anyF P ops Q F S fuel (listed.setIfInBounds i true) (a.put oi.dst v) w → anyF P ops Q F S (fuel + 1) listed a w := by
  intro fuel
  induction fuel with
  | zero =>
    intro listed a w _ _ hr hy hS H
    refine ⟨fun h => (by rw [h] at hr; cases hr), fun j hj => ?_⟩
    by_cases hji : j = i
    · subst hji; exact hy.wpOp hi hS ⟨fun _ h => h, H⟩
    · have := ready_mono hj hji
      rw [H.1] at this
      cases this
  | succ fuel ih =>
    intro listed a w hcl hfree hr hy hS H
    refine ⟨fun h => (by rw [h] at hr; cases hr), fun j hj => ?_⟩
    by_cases hji : j = i
    · subst hji; exact hy.wpOp hi hS ⟨fun _ h => h, H⟩
    · have h1 := H.2 j (ready_mono hj hji)
      obtain ⟨hjun, oj, hoj, hall⟩ := mem_ready.1 hj
      have hnot : ∀ e ∈ oj.after, Region.binds .any e = true → e.on ≠ i := fun e he hb heq => by
        have h1 := hall e he hb
        have h0 := (mem_ready.1 hr).1
        rw [heq] at h1
        rcases Nat.lt_or_ge i listed.size with h' | h'
        · simp [h'] at h0 h1; rw [h0] at h1; cases h1
        · simp [Array.getElem?_eq_none h'] at h1
      have h2 := wpOp_putIf hoj (hfree j oj hoj hji hjun hnot) (fun cs b => hsel i oi cs b hi) (fun cs b => hsel j oj cs b hoj) hQ hy h1
      have hfree' : ∀ k ok, ops[k]? = some ok → k ≠ i → (listed.setIfInBounds j true).getD k true = false →
          (∀ e ∈ ok.after, Region.binds .any e = true → e.on ≠ i) → oi.apart ops ok = true := fun k ok hk hki hun hno => by
        refine hfree k ok hk hki ?_ hno
        by_cases hjk : j = k
        · subst hjk; exact hjun
        · rw [getD_set_ne true hjk] at hun; exact hun
      refine wpOp_mono (fun a' w' h3 => ?_) h2
      obtain ⟨hy', hS', hK⟩ := h3
      have hs1 := hS1 listed j w w' hcl hr hj (Ne.symm hji) hS hS'
      refine ⟨hS', ih (listed.setIfInBounds j true) a' w' (hcl.set hj) hfree' (ready_mono hr (Ne.symm hji)) hy' hs1 ?_⟩
      rw [Array.setIfInBounds_comm _ _ hji]
      exact hK
end

/-- A region under way: 'listed' have come up. -/
structure WF (P : Program) (n : Nat) (ops : Array Oper) (F : List Nat) (S : World → Prop) (K : Env → World → Prop) (fuel : Nat) (listed : Array Bool) (e : Env) (w : World) : Prop where
  out : Closed ops listed → ∀ a, Agrees n e a → anyF P ops (QN n K) F S fuel listed a w

variable {P : Program} {n : Nat} {e : Env} {w : World} {K : Env → World → Prop} {ops : Array Oper} {F : List Nat} {S : World → Prop} {fuel : Nat} {listed : Array Bool} {R : Post}

theorem WC.regionF {id : Nat} (F : List Nat) (S : World → World → Prop) (k : Nat) (hk : ops.size = k) (hm : P.follows .mixedOrders = true)
    (h : ∀ w', Grow w w' → w'.heap.size = w.heap.size → WF P n ops F (S w') (R .normal) k (Array.replicate k false) e w') : WC P n (.region id ops true) R e w := by
  subst hk
  constructor
  intro a Q ha hq
  have h1 := (h { w with drawn := w.drawn + 1 } ⟨rfl, rfl, rfl, Nat.le_refl _, fun _ _ _ => rfl⟩ rfl).out (by
    intro j o _ hj
    have : (Array.replicate ops.size false).getD j false = false := by
      rw [Array.getD_eq_getD_getElem?, Array.getElem?_replicate]; split <;> rfl
    rw [this] at hj; cases hj) a ha
  refine Code.wp_mono ?_ (wp_region_any hm (any_of_F _ _ _ _ h1))
  intro x a' w' hx
  cases x with
  | normal => obtain ⟨e', h2, h3⟩ := hx; exact hq _ e' a' w' h2 h3
  | _ => exact hx.elim

/-- Number i first, a fragile one. -/
theorem WF.take (i : Nat) {d : Nat} {op : Op} {ty : TypeId} {ps : String} {af : Array Edge} {v : Value}
    (hi : ops[i]? = some { dst := some d, op, type := ty, pos := ps, after := af, guard := none })
    (hk : (F.contains i && Region.noSelect ops && Region.free .any ops listed i && (Region.ready .any ops listed).contains i && Nat.blt d n) = true) (hS : S w)
    (hv : ∀ w', S w' → OpRun P n e w' { dst := some d, op, type := ty, pos := ps, after := af, guard := none } v w')
    (k : WF P n ops F S K fuel (listed.setIfInBounds i true) ((d, v) :: e) w) : WF P n ops F S K (fuel + 1) listed e w := by
  simp only [Bool.and_eq_true] at hk
  obtain ⟨⟨⟨⟨hF, hs⟩, hf⟩, hr⟩, hd⟩ := hk
  have hr' : i ∈ Region.ready .any ops listed := by simpa using hr
  have hF' : i ∈ F := by simpa using hF
  constructor
  intro hcl a ha
  refine anyF_first (S1 := S) hi (Region.noSelect_spec hs) (fun _ _ _ h => h) (fun l j w w' hc h1 h2 h3 h5 h4 => h4 (not_calm hc hF' h1 h2 h3) h5) fuel listed a w hcl (Region.free_spec hi hf) hr' ?_ hS (k.out (hcl.set hr') _ (ha.put hd v))
  exact .inl ⟨by simp [Region.wanted], fun w' hw' => (hv w' hw').out a ha⟩

/-- Number i first: it looks at no world. -/
theorem WF.takeP (i : Nat) {d : Nat} {op : Op} {ty : TypeId} {ps : String} {af : Array Edge} {v : Value}
    (hi : ops[i]? = some { dst := some d, op, type := ty, pos := ps, after := af, guard := none })
    (hk : (Region.noSelect ops && Region.free .any ops listed i && (Region.ready .any ops listed).contains i && Nat.blt d n) = true)
    (hv : ∀ w', OpRun P n e w' { dst := some d, op, type := ty, pos := ps, after := af, guard := none } v w')
    (k : WF P n ops F S K fuel (listed.setIfInBounds i true) ((d, v) :: e) w) : WF P n ops F S K (fuel + 1) listed e w := by
  simp only [Bool.and_eq_true] at hk
  obtain ⟨⟨⟨hs, hf⟩, hr⟩, hd⟩ := hk
  have hr' : i ∈ Region.ready .any ops listed := by simpa using hr
  constructor
  intro hcl a ha
  refine anyF_first (S1 := fun _ => True) hi (Region.noSelect_spec hs) (fun _ _ _ h => h) (fun _ _ _ _ _ _ _ _ _ _ => trivial) fuel listed a w hcl (Region.free_spec hi hf) hr' ?_ trivial (k.out (hcl.set hr') _ (ha.put hd v))
  exact .inl ⟨by simp [Region.wanted], fun w' _ => (hv w').out a ha⟩

/-- Just number i can come up: it is carried out. -/
theorem WF.one (i : Nat) {dst : Option Tmp} {op : Op} {ty : TypeId} {ps : String} {af : Array Edge}
    (hi : ops[i]? = some { dst, op, type := ty, pos := ps, after := af, guard := none }) (hr : Region.ready .any ops listed = [i])
    (k : OpTo P n e w { dst, op, type := ty, pos := ps, after := af, guard := none } (fun e' w' => (calm ops F i = false → S w → S w') ∧ WF P n ops F S K fuel (listed.setIfInBounds i true) e' w')) :
    WF P n ops F S K (fuel + 1) listed e w := by
  constructor
  intro hcl a ha
  refine ⟨fun h => (by rw [h] at hr; cases hr), fun j hj => ?_⟩
  have hr2 := hj
  rw [hr] at hj
  obtain rfl : j = i := by simpa using hj
  unfold wpOp
  simp only [hi]
  rw [if_pos (by simp [Region.wanted])]
  refine .inl (k.out a _ _ ha fun e' a' w' h1 h2 => ⟨h2.1, h2.2.out (hcl.set hr2) a' h1⟩)

theorem WF.done (hr : Region.ready .any ops listed = []) (h : K e w) : WF P n ops F S K fuel listed e w := by
  constructor
  intro _ a ha
  cases fuel with
  | zero => exact ⟨hr, e, ha, h⟩
  | succ f => exact ⟨fun _ => ⟨e, ha, h⟩, by rw [hr]; intro i hi; cases hi⟩

end Go.Eng
