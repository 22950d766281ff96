/-
  A part of a proof (Eng1 Eng2 Eng3): lemmas on what the program's functions do. No condition but those that each lemma states.
-/
import Derived.WalkKit
import Derived.Orders
set_option maxRecDepth 8000
set_option linter.all false
namespace Go.Eng
open Go

abbrev Env := List (Nat × Value)

/-- What a slot is known to hold. -/
def look : Env → Nat → Option Value
  | [], _ => none
  | (k, v) :: e, t => bif Nat.beq k t then some v else look e t

/-- What an operand is known to hold. -/
def oval (e : Env) : Operand → Option Value
  | .tmp t => look e t
  | .const v => some v
  | .global g => some (.pointer (some ⟨g, 0, none⟩))
  | .func f => some (.func (.func f) #[] #[])

def ovals (e : Env) : List Operand → Option (List Value)
  | [] => some []
  | x :: xs => match oval e x, ovals e xs with
    | some v, some vs => some (v :: vs)
    | _, _ => none

structure Agrees (n : Nat) (e : Env) (a : Act) : Prop where
  defers : a.defers = []
  size : a.tmps.size = n
  at_ : ∀ t v, look e t = some v → a.tmps.getD t undef = v

theorem look_cons (d : Nat) (v : Value) (e : Env) (t : Nat) : look ((d, v) :: e) t = if d = t then some v else look e t := by
  simp only [look]
  by_cases h : d = t
  · subst h; simp
  · rw [if_neg h]; have : Nat.beq d t = false := by
      rw [Bool.eq_false_iff]; intro hb; exact h (Nat.eq_of_beq_eq_true hb)
    rw [this]; rfl

theorem Agrees.eval {n : Nat} {e : Env} {a : Act} (h : Agrees n e a) {x : Operand} {v : Value} (hx : oval e x = some v) : a.eval x = v := by
  cases x with
  | tmp t => exact h.at_ t v hx
  | const c => simpa [oval, Act.eval] using hx
  | global g => simpa [oval, Act.eval] using hx
  | func f => simpa [oval, Act.eval] using hx

theorem Agrees.evals {n : Nat} {e : Env} {a : Act} (h : Agrees n e a) : ∀ {xs : List Operand} {vs : List Value}, ovals e xs = some vs → xs.map a.eval = vs
  | [], vs, hx => by simp [ovals] at hx; simp [hx]
  | x :: xs, vs, hx => by
    simp only [ovals] at hx
    split at hx
    · rename_i v vs' h1 h2
      simp at hx; subst hx
      simp [h.eval h1, h.evals h2]
    · cases hx

theorem Agrees.put {n : Nat} {e : Env} {a : Act} (h : Agrees n e a) {d : Nat} (hd : Nat.blt d n = true) (v : Value) : Agrees n ((d, v) :: e) (a.put (some d) v) := by
  have hd' : d < n := by simpa [Nat.blt_eq] using hd
  refine ⟨by simp [Act.put, h.defers], by simp [Act.put, h.size], fun t u hl => ?_⟩
  rw [look_cons] at hl
  by_cases ht : d = t
  · subst ht
    rw [if_pos rfl] at hl; cases hl
    simp [Act.put, Array.getD_eq_getD_getElem?, h.size, hd']
  · rw [if_neg ht] at hl
    have := h.at_ t u hl
    simp [Act.put, Array.getD_eq_getD_getElem?, Array.getElem?_setIfInBounds_ne ht] at this ⊢
    exact this

/-- The slots of 'e'' hold in 'e' what they hold in 'e''. -/
def Sub : Env → Env → Prop
  | [], _ => True
  | p :: r, e => look e p.1 = some p.2 ∧ Sub r e

theorem Sub.look {e : Env} : ∀ {e' : Env}, Sub e' e → ∀ t v, look e' t = some v → look e t = some v
  | [], _, t, v, h => by simp [Eng.look] at h
  | (d, u) :: r, hs, t, v, h => by
    rw [look_cons] at h
    by_cases ht : d = t
    · subst ht; rw [if_pos rfl] at h; cases h; exact hs.1
    · rw [if_neg ht] at h; exact hs.2.look t v h

theorem Agrees.sub {n : Nat} {e e' : Env} {a : Act} (h : Agrees n e a) (hs : Sub e' e) : Agrees n e' a :=
  ⟨h.defers, h.size, fun t v hl => h.at_ t v (hs.look t v hl)⟩

abbrev Post := Exit → Env → World → Prop

section
variable (P : Program) (n : Nat)

structure WL (ops : Array Oper) (l : List Oper) (K : Env → World → Prop) (e : Env) (w : World) : Prop where
  out : ∀ a (Q : Exit → Act → World → Prop), Agrees n e a → (∀ e' a' w', Agrees n e' a' → K e' w' → Q .normal a' w') → wpList P ops Q l a w

structure WC (c : Code) (R : Post) (e : Env) (w : World) : Prop where
  out : ∀ a (Q : Exit → Act → World → Prop), Agrees n e a → (∀ x e' a' w', Agrees n e' a' → R x e' w' → Q x a' w') → c.wp P Q a w
end

def thn (K : Env → World → Prop) (R : Post) : Post := fun x e w => match x with
  | .normal => K e w
  | x => R x e w

def blk (id : Nat) (R : Post) : Post := fun x e w => match x with
  | .exit j => bif Nat.beq j id then R .normal e w else R (.exit j) e w
  | x => R x e w

variable {P : Program} {n : Nat} {R : Post} {e : Env} {w : World}

theorem WC.mono {c : Code} {R' : Post} (h : WC P n c R' e w) (hr : ∀ x e w, R' x e w → R x e w) : WC P n c R e w :=
  ⟨fun a Q ha hq => h.out a Q ha fun x e' a' w' h1 h2 => hq x e' a' w' h1 (hr _ _ _ h2)⟩

theorem WC.sub {c : Code} {e' : Env} (hs : Sub e' e) (h : WC P n c R e' w) : WC P n c R e w :=
  ⟨fun a Q ha hq => h.out a Q (ha.sub hs) hq⟩

theorem WC.skip (h : R .normal e w) : WC P n .skip R e w := ⟨fun a _ ha hq => wp_skip (hq _ e a w ha h)⟩
theorem WC.exit {id : Nat} (h : R (.exit id) e w) : WC P n (.exit id) R e w := ⟨fun a _ ha hq => wp_exit (hq _ e a w ha h)⟩
theorem WC.ret (h : R .ret e w) : WC P n .ret R e w := ⟨fun a _ ha hq => wp_ret (hq _ e a w ha h)⟩

theorem WC.seq {x y : Code} (h : WC P n x (thn (WC P n y R) R) e w) : WC P n (.seq x y) R e w := by
  constructor
  intro a Q ha hq
  refine wp_seq (h.out a _ ha ?_)
  intro x e' a' w' h1 h2
  cases x with
  | normal => exact h2.out a' Q h1 hq
  | _ => exact hq _ e' a' w' h1 h2

theorem WC.block {id : Nat} {c : Code} (h : WC P n c (blk id R) e w) : WC P n (.block id c) R e w := by
  constructor
  intro a Q ha hq
  refine wp_block (h.out a _ ha ?_)
  intro x e' a' w' h1 h2
  cases x with
  | exit j =>
    simp only [blk] at h2
    simp only [Exit.inBlock]
    by_cases hj : j = id
    · subst hj; simp at h2; simp; exact hq _ e' a' w' h1 h2
    · have : Nat.beq j id = false := by rw [Bool.eq_false_iff]; intro hb; exact hj (Nat.eq_of_beq_eq_true hb)
      rw [this] at h2; rw [if_neg hj]; exact hq _ e' a' w' h1 h2
  | _ => exact hq _ e' a' w' h1 h2

/-- Two ways meet again: what holds there is said by M. -/
theorem WC.seqCut {x y : Code} (M : Env → World → Prop) (h : WC P n x (thn M R) e w) (h2 : ∀ e w, M e w → WC P n y R e w) : WC P n (.seq x y) R e w :=
  WC.seq (h.mono fun x e w hx => by
    cases x with
    | normal => exact h2 _ _ hx
    | _ => exact hx)

theorem WC.condD {c : Operand} {x y : Code} {p : Prop} {i : Decidable p} (hc : oval e c = some (.bool (@decide p i))) (ht : p → WC P n x R e w) (hf : ¬ p → WC P n y R e w) :
    WC P n (.cond c x y) R e w :=
  ⟨fun a Q ha hq => wp_cond_split (ha.eval hc) (fun hb => (ht (of_decide_eq_true hb)).out a Q ha hq) (fun hb => (hf (of_decide_eq_false hb)).out a Q ha hq)⟩

theorem WC.cond {c : Operand} {x y : Code} {b : Bool} (hc : oval e c = some (.bool b)) (ht : b = true → WC P n x R e w) (hf : b = false → WC P n y R e w) :
    WC P n (.cond c x y) R e w :=
  ⟨fun a Q ha hq => wp_cond_split (ha.eval hc) (fun hb => (ht hb).out a Q ha hq) (fun hb => (hf hb).out a Q ha hq)⟩

theorem WC.condT {c : Operand} {x y : Code} (hc : oval e c = some (.bool true)) (ht : WC P n x R e w) : WC P n (.cond c x y) R e w :=
  ⟨fun a Q ha hq => wp_cond_true (ha.eval hc) (ht.out a Q ha hq)⟩
theorem WC.condF {c : Operand} {x y : Code} (hc : oval e c = some (.bool false)) (ht : WC P n y R e w) : WC P n (.cond c x y) R e w :=
  ⟨fun a Q ha hq => wp_cond_false (ha.eval hc) (ht.out a Q ha hq)⟩

theorem WC.region {id : Nat} {l : List Oper} (h : WL P n l.toArray l (R .normal) e w) : WC P n (.region id l.toArray false) R e w :=
  ⟨fun a Q ha hq => wp_region_lit (h.out a Q ha fun e' a' w' h1 h2 => hq _ e' a' w' h1 h2)⟩

theorem least (p : Nat → Prop) (h : ∃ m, p m) : ∃ m, p m ∧ ∀ k, p k → m ≤ k := by
  obtain ⟨m, hm⟩ := h
  induction m using Nat.strongRecOn with
  | _ m ih =>
    by_cases hx : ∃ k, k < m ∧ p k
    · obtain ⟨k, hk, hp⟩ := hx; exact ih k hk hp
    · exact ⟨m, hm, fun k hk => by
        rcases Nat.lt_or_ge k m with h | h
        · exact (hx ⟨k, h, hk⟩).elim
        · exact h⟩

open Classical in
noncomputable def lst (p : Nat → Prop) : Nat := if h : ∃ m, p m then Classical.choose (least p h) else 0

theorem lst_spec {p : Nat → Prop} (h : ∃ m, p m) : p (lst p) ∧ ∀ k, p k → lst p ≤ k := by
  unfold lst; rw [dif_pos h]; exact Classical.choose_spec (least p h)

/-- A loop: I holds at each round's head, at some number; each round that goes on lowers the number. -/
theorem WC.loop {c : Code} (I : Nat → Env → World → Prop) (m : Nat) (h0 : I m e w)
    (round : ∀ m e w, I m e w → WC P n c (thn (fun e' w' => ∃ m', m' < m ∧ I m' e' w') R) e w) : WC P n (.loop c) R e w := by
  constructor
  intro a Q ha hq
  let J : Act → World → Nat → Prop := fun a w m => ∃ e, I m e w ∧ Agrees n e a
  refine wp_loop (fun a w => ∃ m, J a w m) (fun a w => lst (J a w)) ⟨m, e, h0, ha⟩ ?_
  intro a w hI
  obtain ⟨e1, hI1, ha1⟩ := (lst_spec hI).1
  refine (round _ e1 w hI1).out a _ ha1 ?_
  intro x e' a' w' h1 h2
  cases x with
  | normal =>
    obtain ⟨m', hm', hI'⟩ := h2
    have hex : ∃ m, J a' w' m := ⟨m', e', hI', h1⟩
    exact ⟨hex, Nat.lt_of_le_of_lt ((lst_spec hex).2 m' ⟨e', hI', h1⟩) hm'⟩
  | _ => exact hq _ e' a' w' h1 h2

/-! ### Functions -/

/-- A call returns, and what it hands back and the world behind it meet Φ. -/
structure Ret (P : Program) (f : FuncId) (args : List Value) (w : World) (Φ : Value → World → Prop) : Prop where
  out : Calls P f args.toArray w fun e w' => ∃ v, e = .returned v ∧ Φ v w'

theorem Ret.mono {f : FuncId} {args : List Value} {Φ Φ' : Value → World → Prop} (h : Ret P f args w Φ) (hr : ∀ v w', Φ v w' → Φ' v w') : Ret P f args w Φ' :=
  ⟨Calls.mono h.out fun _ _ ⟨v, he, hp⟩ => ⟨v, he, hr _ _ hp⟩⟩

def penv : Nat → List Value → Env
  | _, [] => []
  | i, v :: vs => (i, v) :: penv (i + 1) vs

theorem look_penv : ∀ (vs : List Value) (i t : Nat) (v : Value), look (penv i vs) t = some v → i ≤ t ∧ vs[t - i]? = some v
  | [], i, t, v, h => by simp [penv, look] at h
  | u :: us, i, t, v, h => by
    simp only [penv] at h
    rw [look_cons] at h
    by_cases ht : i = t
    · subst ht; rw [if_pos rfl] at h; cases h; simp
    · rw [if_neg ht] at h
      have ⟨h1, h2⟩ := look_penv us (i + 1) t v h
      refine ⟨by omega, ?_⟩
      have : t - i = (t - (i + 1)) + 1 := by omega
      rw [this]; simpa using h2

/-- The end of a function: what its results are. -/
structure fin (P : Program) (fn : Func) (n : Nat) (Φ : Value → World → Prop) (x : Exit) (e : Env) (w : World) : Prop where
  end_ : x = .normal ∨ x = .ret
  out : ∃ v, (∀ a, Agrees n e a → (results fn a.tmps).run P w = .ok v w) ∧ Φ v w

theorem Ret.of {f : FuncId} {fn : Func} {c : Code} {args : List Value} {n : Nat} {Φ : Value → World → Prop}
    (hf : P.funcs[f]? = some fn) (hnt : fn.ntmps = n) (hb : fn.body = some c) (hn : Nat.ble args.length n = true)
    (h : WC P n c (fin P fn n Φ) (penv 0 args) w) : Ret P f args w Φ := by
  subst hnt
  have hn' : args.length ≤ fn.ntmps := by simpa [Nat.ble_eq] using hn
  constructor
  refine calls_of_wp hf hb ?_
  refine h.out _ _ ⟨rfl, by simp; omega, ?_⟩ ?_
  · intro t v hl
    have ⟨_, h2⟩ := look_penv args 0 t v hl
    simp only [Nat.sub_zero] at h2
    have ht : t < args.length := by
      rcases Nat.lt_or_ge t args.length with h | h
      · exact h
      · rw [List.getElem?_eq_none h] at h2; cases h2
    rw [Array.getD_eq_getD_getElem?, Array.getElem?_append_left (by simpa using ht)]
    simp [h2]
  · intro x e' a' w' h1 h2
    obtain ⟨hx, v, hv, hp⟩ := h2
    rcases hx with rfl | rfl
    · exact ⟨h1.defers, v, hv a' h1, v, rfl, hp⟩
    · exact ⟨h1.defers, v, hv a' h1, v, rfl, hp⟩

theorem fin_none {fn : Func} {n : Nat} {Φ : Value → World → Prop} (hr : fn.results = #[]) (h : Φ (.tuple #[]) w) : fin P fn n Φ .normal e w :=
  ⟨.inl rfl, _, fun _ _ => results_none hr _ _ _, h⟩
theorem fin_none' {fn : Func} {n : Nat} {Φ : Value → World → Prop} (hr : fn.results = #[]) (h : Φ (.tuple #[]) w) : fin P fn n Φ .ret e w :=
  ⟨.inr rfl, _, fun _ _ => results_none hr _ _ _, h⟩
theorem fin_one {fn : Func} {n : Nat} {Φ : Value → World → Prop} {t : Tmp} {v : Value} (hr : fn.results = #[.tmp t]) (hv : look e t = some v) (h : Φ v w) : fin P fn n Φ .ret e w :=
  ⟨.inr rfl, v, fun a ha => by rw [results_tmp hr, ha.at_ t v hv], h⟩
theorem fin_two {fn : Func} {n : Nat} {Φ : Value → World → Prop} {t u : Tmp} {v x : Value} (hr : fn.results = #[.tmp t, .tmp u]) (hv : look e t = some v) (hx : look e u = some x)
    (h : Φ (.tuple #[v, x]) w) : fin P fn n Φ .ret e w :=
  ⟨.inr rfl, _, fun a ha => by rw [results_tmp2 hr, ha.at_ t v hv, ha.at_ u x hx], h⟩

end Go.Eng
namespace Go.Eng
open Go

/-! ### What memory holds -/

structure Blk (w : World) (b : Nat) (T : TypeId) (cs : List Value) : Prop where
  out : w.heap[b]? = some (.cells cs.toArray T (0, 0))

/-- Some values stand in a list from a place on. -/
def At : List Value → Nat → List Value → Prop
  | _, _, [] => True
  | cs, o, v :: vs => cs[o]? = some v ∧ At cs (o + 1) vs

structure Mod (S : Nat → Prop) (w w' : World) : Prop where
  os : w'.os = w.os
  tape : w'.tape = w.tape
  output : w'.output = w.output
  size : w.heap.size ≤ w'.heap.size
  block : ∀ k, k < w.heap.size → ¬ S k → w'.heap[k]? = w.heap[k]?

/-- Only new blocks. -/
abbrev Grow (w w' : World) : Prop := Mod (fun _ => False) w w'

theorem Mod.refl (S : Nat → Prop) (w : World) : Mod S w w := ⟨rfl, rfl, rfl, Nat.le_refl _, fun _ _ _ => rfl⟩
theorem Mod.trans {S S' S'' : Nat → Prop} {a b c : World} (h : Mod S a b) (k : Mod S' b c) (h1 : ∀ x, S x → S'' x) (h2 : ∀ x, x < a.heap.size → S' x → S'' x) : Mod S'' a c :=
  ⟨k.os.trans h.os, k.tape.trans h.tape, k.output.trans h.output, Nat.le_trans h.size k.size,
   fun i hi hn => (k.block i (Nat.lt_of_lt_of_le hi h.size) (fun hs => hn (h2 i hi hs))).trans (h.block i hi (fun hs => hn (h1 i hs)))⟩
theorem Mod.mono {S S' : Nat → Prop} {a b : World} (h : Mod S a b) (h1 : ∀ x, x < a.heap.size → S x → S' x) : Mod S' a b :=
  ⟨h.os, h.tape, h.output, h.size, fun i hi hn => h.block i hi (fun hs => hn (h1 i hi hs))⟩
theorem Grow.trans {a b c : World} (h : Grow a b) (k : Grow b c) : Grow a c := Mod.trans h k (fun _ h => h) (fun _ _ h => h)
theorem Mod.grow {S : Nat → Prop} {a b c : World} (h : Mod S a b) (k : Grow b c) : Mod S a c := h.trans k (fun _ h => h) (fun _ _ h => h.elim)
theorem Grow.mod {S : Nat → Prop} {a b c : World} (h : Grow a b) (k : Mod S b c) : Mod S a c := Mod.trans h k (fun _ h => h.elim) (fun _ _ h => h)
theorem Grow.any {S : Nat → Prop} {a b : World} (h : Grow a b) : Mod S a b := h.mono fun _ _ h => h.elim

theorem Blk.lt {w : World} {b : Nat} {T : TypeId} {cs : List Value} (h : Blk w b T cs) : b < w.heap.size := by
  have := h.out
  rcases Nat.lt_or_ge b w.heap.size with hb | hb
  · exact hb
  · rw [Array.getElem?_eq_none hb] at this; cases this

theorem Blk.mod {S : Nat → Prop} {w w' : World} {b : Nat} {T : TypeId} {cs : List Value} (h : Blk w b T cs) (hm : Mod S w w') (hs : ¬ S b) : Blk w' b T cs :=
  ⟨(hm.block b h.lt hs).trans h.out⟩
theorem Blk.grow {w w' : World} {b : Nat} {T : TypeId} {cs : List Value} (h : Blk w b T cs) (hm : Grow w w') : Blk w' b T cs := h.mod hm fun h => h

theorem Blk.ne {w : World} {b b' : Nat} {T T' : TypeId} {cs cs' : List Value} (h : Blk w b T cs) (h' : Blk w b' T' cs') (hT : Nat.beq T T' = false) : b ≠ b' := by
  rintro rfl
  have := h.out.symm.trans h'.out
  simp at this
  obtain ⟨-, rfl⟩ := this
  simp at hT

theorem Blk.cell {w : World} {b : Nat} {T : TypeId} {cs : List Value} (h : Blk w b T cs) {o : Nat} {v : Value} (hv : cs[o]? = some v) : w.cell? ⟨b, o, none⟩ = some v := by
  simp [World.cell?, h.out, hv]

theorem Blk.frozen {w : World} {b : Nat} {T : TypeId} {cs : List Value} (h : Blk w b T cs) (o : Nat) : w.frozen? ⟨b, o, none⟩ = false := by
  simp [World.frozen?, h.out]

theorem Blk.shape {w : World} {b : Nat} {T : TypeId} {cs : List Value} (h : Blk w b T cs) : w.shape? b = some (T, cs.length) := by
  simp [World.shape?, h.out]

/-! ### One operation -/

section
variable (P : Program) (n : Nat)

/-- The operation hands back v; the world behind it is w'. -/
structure OpRun (e : Env) (w : World) (o : Oper) (v : Value) (w' : World) : Prop where
  out : ∀ a, Agrees n e a → (execOp a.eval o).run P w = .ok (.value v) w'

/-- The operation, carried out, comes to K. -/
structure OpTo (e : Env) (w : World) (o : Oper) (K : Env → World → Prop) : Prop where
  out : ∀ a (Q : Exit → Act → World → Prop) (K' : Act → World → Prop), Agrees n e a → (∀ e' a' w', Agrees n e' a' → K e' w' → K' a' w') → o.wp P a w K' Q
end

variable {P : Program} {n : Nat} {e : Env} {w : World} {K : Env → World → Prop} {ops rest : List Oper} {ty : TypeId} {ps : String} {af : Array Edge} {d : Nat}

theorem WL.nil {ops : Array Oper} (h : K e w) : WL P n ops [] K e w := ⟨fun a _ ha hq => wpList_nil (hq e a w ha h)⟩

theorem WL.step {ops : Array Oper} {dst : Option Tmp} {op : Op}
    (h : OpTo P n e w { dst, op, type := ty, pos := ps, after := af, guard := none } (fun e' w' => WL P n ops rest K e' w')) :
    WL P n ops ({ dst, op, type := ty, pos := ps, after := af, guard := none } :: rest) K e w := by
  constructor
  intro a Q ha hq
  refine wpList_plain rfl fun K' hK' => ?_
  exact h.out a Q K' ha fun e' a' w' h1 h2 => hK' _ _ (h2.out a' Q h1 hq)

theorem OpTo.val {op : Op} {g : Option (Nat × Bool)} {v : Value} {w' : World} (h : OpRun P n e w { dst := some d, op, type := ty, pos := ps, after := af, guard := g } v w') (hd : Nat.blt d n = true)
    (k : K ((d, v) :: e) w') : OpTo P n e w { dst := some d, op, type := ty, pos := ps, after := af, guard := g } K := by
  constructor
  intro a Q K' ha hk
  unfold Oper.wp
  rw [h.out a ha]
  exact hk _ _ _ (ha.put hd v) k

theorem WL.val {ops : Array Oper} {op : Op} {v : Value} {w' : World} (h : OpRun P n e w { dst := some d, op, type := ty, pos := ps, after := af, guard := none } v w') (hd : Nat.blt d n = true)
    (k : WL P n ops rest K ((d, v) :: e) w') : WL P n ops ({ dst := some d, op, type := ty, pos := ps, after := af, guard := none } :: rest) K e w :=
  WL.step (OpTo.val h hd k)

theorem getD_getElem? (a : Array Value) (t : Nat) (v : Value) (h : a.getD t undef = v) (hv : ∀ x : Array Value, v ≠ .tuple x) : a[t]? = some v := by
  rw [Array.getD_eq_getD_getElem?] at h
  cases hx : a[t]? with
  | none => rw [hx] at h; exact absurd h.symm (hv _)
  | some u => rw [hx] at h; simp at h; rw [h]

theorem yielded_of {n : Nat} {e : Env} {a : Act} (ha : Agrees n e a) {ops : Array Oper} {j t : Nat} {b : Bool} (hj : (ops[j]?).bind (·.dst) = some t) (hb : look e t = some (.bool b)) :
    yielded ops a.tmps j = some b := by
  have h1 := ha.at_ t _ hb
  have h2 := getD_getElem? a.tmps t (.bool b) h1 (by intro x h; cases h)
  unfold yielded
  rw [hj]
  simp [h2]

/-- The guard says yes: as an operation without a guard. -/
theorem WL.want {ops : Array Oper} {dst : Option Tmp} {op : Op} {j t : Nat} {b : Bool} (hj : (ops[j]?).bind (·.dst) = some t) (hb : look e t = some (.bool b))
    (k : WL P n ops ({ dst, op, type := ty, pos := ps, after := af, guard := none } :: rest) K e w) :
    WL P n ops ({ dst, op, type := ty, pos := ps, after := af, guard := some (j, b) } :: rest) K e w := by
  constructor
  intro a Q ha hq
  have := k.out a Q ha hq
  simp only [wpList, Region.wanted, yielded_of ha hj hb, beq_self_eq_true, if_true] at this ⊢
  exact this

/-- The guard says no: the operation is passed over. -/
theorem WL.pass {ops : Array Oper} {op : Op} {j t : Nat} {b c : Bool} (hj : (ops[j]?).bind (·.dst) = some t) (hb : look e t = some (.bool c)) (hc : (c == b) = false) (hd : Nat.blt d n = true)
    (k : WL P n ops rest K ((d, undef) :: e) w) :
    WL P n ops ({ dst := some d, op, type := ty, pos := ps, after := af, guard := some (j, b) } :: rest) K e w := by
  constructor
  intro a Q ha hq
  have := k.out _ Q (ha.put hd undef) hq
  simp only [wpList, Region.wanted, yielded_of ha hj hb]
  rw [if_neg (by simpa using hc)]
  exact this

/-- The guard was passed over itself. -/
theorem WL.passU {ops : Array Oper} {op : Op} {j t : Nat} {b : Bool} (hj : (ops[j]?).bind (·.dst) = some t) (hb : look e t = some undef) (hd : Nat.blt d n = true)
    (k : WL P n ops rest K ((d, undef) :: e) w) :
    WL P n ops ({ dst := some d, op, type := ty, pos := ps, after := af, guard := some (j, b) } :: rest) K e w := by
  constructor
  intro a Q ha hq
  have := k.out _ Q (ha.put hd undef) hq
  have hy : yielded ops a.tmps j = none := by
    have h1 := ha.at_ t _ hb
    unfold yielded
    rw [hj]
    rw [Array.getD_eq_getD_getElem?] at h1
    cases hx : a.tmps[t]? with
    | none => simp [hx]
    | some u => rw [hx] at h1; simp at h1; subst h1; simp [hx, undef]
  simp only [wpList, Region.wanted, hy]
  exact this

/-- A guard's source: both ways. -/
theorem WL.splitD {ops : Array Oper} {x : Operand} {p : Prop} {i : Decidable p} (hx : oval e x = some (.bool (@decide p i))) (hd : Nat.blt d n = true)
    (k1 : p → WL P n ops rest K ((d, .bool true) :: e) w) (k2 : ¬ p → WL P n ops rest K ((d, .bool false) :: e) w) :
    WL P n ops ({ dst := some d, op := .move x, type := ty, pos := ps, after := af, guard := none } :: rest) K e w := by
  by_cases hp : p
  · refine WL.val (v := .bool true) ⟨fun a ha => ?_⟩ hd (k1 hp)
    simp only [execOp, ha.eval hx, decide_eq_true hp]; rfl
  · refine WL.val (v := .bool false) ⟨fun a ha => ?_⟩ hd (k2 hp)
    simp only [execOp, ha.eval hx, decide_eq_false hp]; rfl

theorem WL.splitB {ops : Array Oper} {x : Operand} {q : Bool} (hx : oval e x = some (.bool q)) (hd : Nat.blt d n = true)
    (k1 : q = true → WL P n ops rest K ((d, .bool true) :: e) w) (k2 : q = false → WL P n ops rest K ((d, .bool false) :: e) w) :
    WL P n ops ({ dst := some d, op := .move x, type := ty, pos := ps, after := af, guard := none } :: rest) K e w := by
  cases q
  · refine WL.val (v := .bool false) ⟨fun a ha => ?_⟩ hd (k2 rfl)
    simp only [execOp, ha.eval hx]; rfl
  · refine WL.val (v := .bool true) ⟨fun a ha => ?_⟩ hd (k1 rfl)
    simp only [execOp, ha.eval hx]; rfl

/-! A part of the code that comes to one value. -/
def Keep (e e' : Env) : Prop := ∀ t v, look e t = some v → look e' t = some v
theorem Keep.refl (e : Env) : Keep e e := fun _ _ h => h
theorem Keep.cons {e e' : Env} {d : Nat} {v : Value} (h : Keep e e') (hd : look e d = none) : Keep e ((d, v) :: e') := fun t u ht => by
  rw [look_cons]
  by_cases hdt : d = t
  · subst hdt; rw [hd] at ht; cases ht
  · rw [if_neg hdt]; exact h t u ht

theorem WC.keep {e' : Env} {c : Code} {R : Post} (hk : Keep e e') (h : WC P n c R e w) : WC P n c R e' w :=
  ⟨fun a Q ha hq => h.out a Q ⟨ha.defers, ha.size, fun t v hl => ha.at_ t v (hk t v hl)⟩ hq⟩

theorem Keep.val {e e' : Env} {t : Nat} {v : Value} (hk : Keep e e') (hv : look e' t = some v) : Keep ((t, v) :: e) e' := fun u x h => by
  rw [look_cons] at h
  by_cases ht : t = u
  · subst ht; rw [if_pos rfl] at h; cases h; exact hv
  · rw [if_neg ht] at h; exact hk u x h

theorem WC.seqVal {x y : Code} {R : Post} (t : Nat) (v : Value) (h : WC P n x (thn (fun e' w' => w' = w ∧ look e' t = some v ∧ Keep e e') R) e w) (h2 : WC P n y R ((t, v) :: e) w) :
    WC P n (.seq x y) R e w :=
  WC.seqCut _ h fun e' w' ⟨hw, hv, hk⟩ => by subst hw; exact WC.keep (hk.val hv) h2

section
variable {g : Option (Nat × Bool)} {dst : Option Tmp}

theorem OpRun.move {x : Operand} {v : Value} (hx : oval e x = some v) : OpRun P n e w { dst, op := .move x, type := ty, pos := ps, after := af, guard := g } v w :=
  ⟨fun a ha => by simp only [execOp, ha.eval hx]; rfl⟩
theorem OpRun.assign {x : Operand} {v : Value} (hx : oval e x = some v) : OpRun P n e w { dst, op := .assign x, type := ty, pos := ps, after := af, guard := g } v w :=
  ⟨fun a ha => by simp only [execOp, ha.eval hx]; rfl⟩
theorem OpRun.pickT {c x y : Operand} {v : Value} (hc : oval e c = some (.bool true)) (hx : oval e x = some v) : OpRun P n e w { dst, op := .pick c x y, type := ty, pos := ps, after := af, guard := g } v w :=
  ⟨fun a ha => by simp only [execOp, ha.eval hc, ha.eval hx]; rfl⟩
theorem OpRun.pickF {c x y : Operand} {v : Value} (hc : oval e c = some (.bool false)) (hy : oval e y = some v) : OpRun P n e w { dst, op := .pick c x y, type := ty, pos := ps, after := af, guard := g } v w :=
  ⟨fun a ha => by simp only [execOp, ha.eval hc, ha.eval hy]; rfl⟩
theorem OpRun.nilCheck {x : Operand} {ad : Addr} (hx : oval e x = some (.pointer (some ad))) : OpRun P n e w { dst, op := .nilCheck x, type := ty, pos := ps, after := af, guard := g } (.pointer (some ad)) w :=
  ⟨fun a ha => by simp only [execOp, ha.eval hx]; rfl⟩
theorem OpRun.extract {x : Operand} {vs : Array Value} {i : Nat} {v : Value} (hx : oval e x = some (.tuple vs)) (hv : vs[i]? = some v) : OpRun P n e w { dst, op := .extract x i, type := ty, pos := ps, after := af, guard := g } v w :=
  ⟨fun a ha => by simp only [execOp, ha.eval hx, Instr.extract, hv]; rfl⟩

/-- The facts on types that an operation looks up. -/
structure TIs (P : Program) (t : TypeId) (dsc : TypeDesc) : Prop where
  out : ∀ w, (underlying t).run P w = .ok dsc w
structure TSize (P : Program) (t : TypeId) (k : Nat) : Prop where
  out : ∀ w, (sizeOf t).run P w = .ok k w
structure TAgg (P : Program) (t : TypeId) (b : Bool) : Prop where
  out : ∀ w, (isAgg t).run P w = .ok b w
structure TZero (P : Program) (t : TypeId) (v : Value) : Prop where
  out : ∀ w, (zeroValue t).run P w = .ok v w

theorem run_bind {α β : Type} (s : Sem α) (f : α → Sem β) (w : World) : (s >>= f).run P w = match s.run P w with
    | .ok a w' => (f a).run P w'
    | .halt h w' => .halt h w' := by
  show (Sem.bind s f).run P w = _
  induction s generalizing w with
  | pure a => rfl
  | load m a k ih =>
    simp only [Sem.bind, Sem.run]
    cases w.cell? a with
    | some v => exact ih v w
    | none =>
      cases w.farLoad P a (m == .atomic) with
      | ok r => exact ih r.1 w
      | error h => rfl
  | store m a v k ih =>
    cases v <;> simp only [Sem.bind, Sem.run] <;> first | rfl | (
      cases w.cell? a with
      | some v =>
        dsimp only
        split
        · rfl
        · exact ih _
      | none =>
        dsimp only
        cases w.farStore P a _ (m == .atomic) with
        | ok r => exact ih r.1
        | error h => rfl)
  | new o k ih => simp only [Sem.bind, Sem.run]; exact ih _ _
  | shape r k ih => simp only [Sem.bind, Sem.run]; exact ih _ _
  | freeze a m k ih => simp only [Sem.bind, Sem.run]; exact ih _
  | frozen a k ih => simp only [Sem.bind, Sem.run]; exact ih _ _
  | getObj r k ih =>
    simp only [Sem.bind, Sem.run]
    cases w.heap[r]? with
    | none => rfl
    | some o => cases o <;> first | rfl | exact ih _ _
  | setObj r o k ih =>
    simp only [Sem.bind, Sem.run]
    cases w.heap[r]? with
    | none => rfl
    | some o => cases o <;> first | rfl | exact ih _
  | choose q k ih =>
    simp only [Sem.bind, Sem.run]
    split
    · exact ih _ _
    · exact ih _ _
  | sys c k ih => simp only [Sem.bind, Sem.run]; exact ih _ _
  | program k ih => simp only [Sem.bind, Sem.run]; exact ih _ _
  | mark m k ih => simp only [Sem.bind, Sem.run]; exact ih _
  | halt h => rfl

theorem run_pure {α : Type} (a : α) (w : World) : (pure a : Sem α).run P w = .ok a w := rfl
theorem run_pure' {α : Type} (a : α) (w : World) : (Sem.pure a : Sem α).run P w = .ok a w := rfl

/-! Integers -/
theorem wrap_of {k : IntKind} {x : Int} (h : k.has x) : k.wrap x = x := by
  cases k <;> simp [IntKind.has, IntKind.min, IntKind.max, IntKind.bits, IntKind.signed] at h <;> simp [IntKind.wrap, IntKind.bits, IntKind.signed] <;> omega
end

/-! Short names. -/
section
variable {R : Post}
theorem vm {ops : Array Oper} {x : Operand} {v : Value} (hx : oval e x = some v) (hd : Nat.blt d n = true) (k : WL P n ops rest K ((d, v) :: e) w) :
    WL P n ops ({ dst := some d, op := .move x, type := ty, pos := ps, after := af, guard := none } :: rest) K e w := WL.val (OpRun.move hx) hd k
theorem va {ops : Array Oper} {x : Operand} {v : Value} (hx : oval e x = some v) (hd : Nat.blt d n = true) (k : WL P n ops rest K ((d, v) :: e) w) :
    WL P n ops ({ dst := some d, op := .assign x, type := ty, pos := ps, after := af, guard := none } :: rest) K e w := WL.val (OpRun.assign hx) hd k
theorem vn {ops : Array Oper} {x : Operand} {ad : Addr} (hx : oval e x = some (.pointer (some ad))) (hd : Nat.blt d n = true) (k : WL P n ops rest K ((d, .pointer (some ad)) :: e) w) :
    WL P n ops ({ dst := some d, op := .nilCheck x, type := ty, pos := ps, after := af, guard := none } :: rest) K e w := WL.val (OpRun.nilCheck hx) hd k
theorem wsr {id : Nat} {l : List Oper} {y : Code} (h : WL P n l.toArray l (thn (WC P n y R) R .normal) e w) : WC P n (.seq (.region id l.toArray false) y) R e w := WC.seq (WC.region h)
end
section
variable {R : Post} {t : Nat} {x y : Code}
theorem WC.condDK {p : Prop} {i : Decidable p} (hc : look e t = some (.bool (@decide p i))) (ht : p → WC P n x R ((t, .bool true) :: e) w) (hf : ¬ p → WC P n y R ((t, .bool false) :: e) w) : WC P n (.cond (.tmp t) x y) R e w :=
  WC.condD (c := .tmp t) hc (fun hp => WC.keep ((Keep.refl e).val (by rw [hc, decide_eq_true hp])) (ht hp)) (fun hp => WC.keep ((Keep.refl e).val (by rw [hc, decide_eq_false hp])) (hf hp))
theorem WC.condK {p : Bool} (hc : look e t = some (.bool p)) (ht : p = true → WC P n x R ((t, .bool true) :: e) w) (hf : p = false → WC P n y R ((t, .bool false) :: e) w) : WC P n (.cond (.tmp t) x y) R e w :=
  WC.cond (c := .tmp t) hc (fun hp => WC.keep ((Keep.refl e).val (by rw [hc, hp])) (ht hp)) (fun hp => WC.keep ((Keep.refl e).val (by rw [hc, hp])) (hf hp))
end
end Go.Eng
namespace Go.Eng
open Go
variable {P : Program} {n : Nat} {e : Env} {w : World} {K : Env → World → Prop} {ops rest : List Oper} {ty : TypeId} {ps : String} {af : Array Edge} {d : Nat} {g : Option (Nat × Bool)} {dst : Option Tmp}

/-! ### Arithmetic. 'In k x': x is a number of kind k. -/
def lo : IntKind → Int
  | .i8 => -128 | .i16 => -32768 | .i32 => -2147483648 | .i64 => -9223372036854775808 | _ => 0
def hi : IntKind → Int
  | .i8 => 127 | .i16 => 32767 | .i32 => 2147483647 | .i64 => 9223372036854775807
  | .u8 => 255 | .u16 => 65535 | .u32 => 4294967295 | .u64 => 18446744073709551615
def In (k : IntKind) (x : Int) : Prop := lo k ≤ x ∧ x ≤ hi k

theorem In.i64 {x : Int} (h : -9223372036854775808 ≤ x ∧ x ≤ 9223372036854775807) : In .i64 x := h
theorem In.i32 {x : Int} (h : -2147483648 ≤ x ∧ x ≤ 2147483647) : In .i32 x := h
theorem In.u8 {x : Int} (h : 0 ≤ x ∧ x ≤ 255) : In .u8 x := h
theorem In.u64 {x : Int} (h : 0 ≤ x ∧ x ≤ 18446744073709551615) : In .u64 x := h

theorem wrap_in {k : IntKind} {x : Int} (h : In k x) : k.wrap x = x := by
  obtain ⟨h1, h2⟩ := h
  cases k <;> simp only [lo, hi] at h1 h2 <;> simp [IntKind.wrap, IntKind.bits, IntKind.signed] <;> omega

section
variable {k : IntKind} {x y : Operand} {a b : Int} {t u : TypeId}

theorem run_int (op : BinOp) (hop : op ≠ .shl ∧ op ≠ .shr) (hx : oval e x = some (.int k a)) (hy : oval e y = some (.int k b)) (v : Value)
    (hv : ∀ w, (match op with | .add | .sub | .mul => Op.intArith op k a b | .quo | .rem => Op.intDiv op k a b | .and | .or | .xor | .andNot => Op.intBits op k a b | _ => Op.intCmp op a b : Sem Value).run P w = .ok v w) :
    OpRun P n e w { dst, op := .binOp op t x y u, type := ty, pos := ps, after := af, guard := g } v w := by
  constructor
  intro ac ha
  simp only [execOp, ha.eval hx, ha.eval hy]
  have hg : (eqGuard op t x y (.int k a) (.int k b)).run P w = .ok () w := by
    unfold eqGuard
    cases op <;> rfl
  have hb : (binOp op t (.int k a) (.int k b)).run P w = .ok v w := by
    rw [← hv w]
    cases op <;> first | (exact absurd rfl hop.1) | (exact absurd rfl hop.2) | (simp [binOp])
  rw [run_bind, run_bind, hg]
  dsimp only
  rw [hb]
  rfl

theorem OpRun.add (hx : oval e x = some (.int k a)) (hy : oval e y = some (.int k b)) (h : In k (a + b)) :
    OpRun P n e w { dst, op := .binOp .add t x y u, type := ty, pos := ps, after := af, guard := g } (.int k (a + b)) w :=
  run_int .add (by simp) hx hy _ fun w => by simp only [Op.intArith, wrap_in h]; rfl
theorem OpRun.sub (hx : oval e x = some (.int k a)) (hy : oval e y = some (.int k b)) (h : In k (a - b)) :
    OpRun P n e w { dst, op := .binOp .sub t x y u, type := ty, pos := ps, after := af, guard := g } (.int k (a - b)) w :=
  run_int .sub (by simp) hx hy _ fun w => by simp only [Op.intArith, wrap_in h]; rfl
theorem OpRun.mul (hx : oval e x = some (.int k a)) (hy : oval e y = some (.int k b)) (h : In k (a * b)) :
    OpRun P n e w { dst, op := .binOp .mul t x y u, type := ty, pos := ps, after := af, guard := g } (.int k (a * b)) w :=
  run_int .mul (by simp) hx hy _ fun w => by simp only [Op.intArith, wrap_in h]; rfl
/-- Whatever comes: the sum as it wraps. -/
theorem OpRun.addW (hx : oval e x = some (.int k a)) (hy : oval e y = some (.int k b)) :
    OpRun P n e w { dst, op := .binOp .add t x y u, type := ty, pos := ps, after := af, guard := g } (.int k (k.wrap (a + b))) w :=
  run_int .add (by simp) hx hy _ fun w => by simp only [Op.intArith]; rfl
theorem OpRun.subW (hx : oval e x = some (.int k a)) (hy : oval e y = some (.int k b)) :
    OpRun P n e w { dst, op := .binOp .sub t x y u, type := ty, pos := ps, after := af, guard := g } (.int k (k.wrap (a - b))) w :=
  run_int .sub (by simp) hx hy _ fun w => by simp only [Op.intArith]; rfl
theorem OpRun.quo (hx : oval e x = some (.int k a)) (hy : oval e y = some (.int k b)) (hb : 0 < b) (ha : 0 ≤ a) (h : In k (a / b)) :
    OpRun P n e w { dst, op := .binOp .quo t x y u, type := ty, pos := ps, after := af, guard := g } (.int k (a / b)) w :=
  run_int .quo (by simp) hx hy _ fun w => by
    simp only [Op.intDiv]; rw [if_neg (by omega), Int.tdiv_eq_ediv_of_nonneg ha, wrap_in h]; rfl
theorem OpRun.rem (hx : oval e x = some (.int k a)) (hy : oval e y = some (.int k b)) (hb : 0 < b) (ha : 0 ≤ a) :
    OpRun P n e w { dst, op := .binOp .rem t x y u, type := ty, pos := ps, after := af, guard := g } (.int k (a % b)) w :=
  run_int .rem (by simp) hx hy _ fun w => by
    simp only [Op.intDiv]; rw [if_neg (by omega), Int.tmod_eq_emod_of_nonneg ha]; rfl
theorem OpRun.lss (hx : oval e x = some (.int k a)) (hy : oval e y = some (.int k b)) :
    OpRun P n e w { dst, op := .binOp .lss t x y u, type := ty, pos := ps, after := af, guard := g } (.bool (decide (a < b))) w :=
  run_int .lss (by simp) hx hy _ fun w => rfl
theorem OpRun.leq (hx : oval e x = some (.int k a)) (hy : oval e y = some (.int k b)) :
    OpRun P n e w { dst, op := .binOp .leq t x y u, type := ty, pos := ps, after := af, guard := g } (.bool (decide (a ≤ b))) w :=
  run_int .leq (by simp) hx hy _ fun w => rfl
theorem OpRun.gtr (hx : oval e x = some (.int k a)) (hy : oval e y = some (.int k b)) :
    OpRun P n e w { dst, op := .binOp .gtr t x y u, type := ty, pos := ps, after := af, guard := g } (.bool (decide (b < a))) w :=
  run_int .gtr (by simp) hx hy _ fun w => rfl
theorem OpRun.geq (hx : oval e x = some (.int k a)) (hy : oval e y = some (.int k b)) :
    OpRun P n e w { dst, op := .binOp .geq t x y u, type := ty, pos := ps, after := af, guard := g } (.bool (decide (b ≤ a))) w :=
  run_int .geq (by simp) hx hy _ fun w => rfl
theorem OpRun.eql (hx : oval e x = some (.int k a)) (hy : oval e y = some (.int k b)) :
    OpRun P n e w { dst, op := .binOp .eql t x y u, type := ty, pos := ps, after := af, guard := g } (.bool (decide (a = b))) w :=
  run_int .eql (by simp) hx hy _ fun w => by
    simp only [Op.intCmp]; rw [show (a == b) = decide (a = b) from by rw [Bool.eq_iff_iff]; simp]; rfl
theorem OpRun.neq (hx : oval e x = some (.int k a)) (hy : oval e y = some (.int k b)) :
    OpRun P n e w { dst, op := .binOp .neq t x y u, type := ty, pos := ps, after := af, guard := g } (.bool (decide (a ≠ b))) w :=
  run_int .neq (by simp) hx hy _ fun w => by
    simp only [Op.intCmp]; rw [show (a != b) = decide (a ≠ b) from by rw [Bool.eq_iff_iff]; simp]; rfl
theorem OpRun.neg (hx : oval e x = some (.int k a)) (h : In k (-a)) :
    OpRun P n e w { dst, op := .unOp .neg t x, type := ty, pos := ps, after := af, guard := g } (.int k (-a)) w :=
  ⟨fun ac ha => by simp only [execOp, ha.eval hx, Op.unary, Op.intArith, Int.zero_sub, wrap_in h]; rfl⟩
theorem OpRun.not {p : Bool} (hx : oval e x = some (.bool p)) :
    OpRun P n e w { dst, op := .unOp .not t x, type := ty, pos := ps, after := af, guard := g } (.bool (!p)) w :=
  ⟨fun ac ha => by simp only [execOp, ha.eval hx, Op.unary]; rfl⟩
theorem OpRun.notD {p : Prop} {i : Decidable p} (hx : oval e x = some (.bool (@decide p i))) :
    OpRun P n e w { dst, op := .unOp .not t x, type := ty, pos := ps, after := af, guard := g } (.bool (decide (¬ p))) w :=
  ⟨fun ac ha => by
    simp only [execOp, ha.eval hx, Op.unary]
    rw [show (!decide p) = decide (¬ p) from by rw [Bool.eq_iff_iff]; simp]; rfl⟩
/-- A conversion between kinds of integers. -/
theorem OpRun.conv {k' : IntKind} {dsc : TypeDesc} (hx : oval e x = some (.int k a)) (ht : TIs P t dsc) (hu : TIs P u (.int k')) (h : In k' a) :
    OpRun P n e w { dst, op := .convert t u x, type := ty, pos := ps, after := af, guard := g } (.int k' a) w :=
  ⟨fun ac ha => by
    have h1 : (convert t u (.int k a)).run P w = .ok (.int k' a) w := by
      unfold convert
      rw [run_bind, ht.out]; dsimp only
      rw [run_bind, hu.out]; dsimp only
      cases dsc <;> simp only [Conv.intToInt, wrap_in h] <;> rfl
    simp only [execOp, ha.eval hx]
    rw [run_bind, h1]; rfl⟩
theorem OpRun.convW {k' : IntKind} {dsc : TypeDesc} (hx : oval e x = some (.int k a)) (ht : TIs P t dsc) (hu : TIs P u (.int k')) :
    OpRun P n e w { dst, op := .convert t u x, type := ty, pos := ps, after := af, guard := g } (.int k' (k'.wrap a)) w :=
  ⟨fun ac ha => by
    have h1 : (convert t u (.int k a)).run P w = .ok (.int k' (k'.wrap a)) w := by
      unfold convert
      rw [run_bind, ht.out]; dsimp only
      rw [run_bind, hu.out]; dsimp only
      cases dsc <;> simp only [Conv.intToInt] <;> rfl
    simp only [execOp, ha.eval hx]
    rw [run_bind, h1]; rfl⟩
end

/-! ### Addresses -/
section
variable {x y : Operand} {t u : TypeId} {b o : Nat}

theorem OpRun.fieldAddr {fs : Array Field} {i k off : Nat} {fl : Field} (hx : oval e x = some (.pointer (some ⟨b, o, none⟩))) (ht : TIs P t (.struct fs)) (hf : fs[i]? = some fl) (hk : TSize P fl.type k)
    (hk0 : Nat.beq k 0 = false) (ho : fl.offset = off) :
    OpRun P n e w { dst, op := .fieldAddr t x i, type := ty, pos := ps, after := af, guard := g } (.pointer (some ⟨b, o + off, none⟩)) w :=
  ⟨fun ac ha => by
    have hk1 : k ≠ 0 := by intro h; subst h; simp at hk0
    have h1 : (Instr.fieldAt t (.pointer (some ⟨b, o, none⟩)) i).run P w = .ok (.pointer (some ⟨b, o + off, none⟩)) w := by
      unfold Instr.fieldAt
      rw [run_bind, ht.out]; dsimp only
      rw [hf]; dsimp only
      simp only [Instr.sureAddr]
      rw [run_bind, run_pure]; dsimp only
      unfold fieldPlace
      rw [run_bind, run_bind, hk.out]; dsimp only
      rw [if_neg hk1, run_pure]; dsimp only
      rw [ho, run_pure, Addr.add]
      split
      · rename_i h; rw [h]; rfl
      · rfl
    simp only [execOp, ha.eval hx]
    rw [run_bind, h1]; rfl⟩

/-- An element's address, of a slice. -/
theorem OpRun.indexAddr {k : IntKind} {el : TypeId} {len cap sz : Nat} {i : Int} (hx : oval e x = some (.slice (some ⟨b, o, none⟩) len cap)) (hy : oval e y = some (.int k i))
    (ht : TIs P t (.slice el)) (hs : TSize P el sz) (h0 : 0 ≤ i) (h1 : i < len) :
    OpRun P n e w { dst, op := .indexAddr t x y, type := ty, pos := ps, after := af, guard := g } (.pointer (some ⟨b, o + i.toNat * sz, none⟩)) w :=
  ⟨fun ac ha => by
    have h2 : (Instr.indexAt t (.slice (some ⟨b, o, none⟩) len cap) (.int k i)).run P w = .ok (.pointer (some ⟨b, o + i.toNat * sz, none⟩)) w := by
      unfold Instr.indexAt
      simp only [asIntOf]
      rw [run_bind, run_pure]; dsimp only
      rw [run_bind, ht.out]; dsimp only
      rw [run_bind, run_pure]; dsimp only
      rw [run_bind, ht.out]; dsimp only
      rw [if_pos ⟨h0, h1⟩, run_bind, hs.out]; dsimp only
      rw [run_pure, Addr.add]
      split
      · rename_i h; rw [h]; rfl
      · rfl
    simp only [execOp, ha.eval hx, ha.eval hy]
    rw [run_bind, h2]; rfl⟩

/-- An element's address, of an array. -/
theorem OpRun.indexArr {k : IntKind} {el : TypeId} {len sz : Nat} {i : Int} (hx : oval e x = some (.pointer (some ⟨b, o, none⟩))) (hy : oval e y = some (.int k i))
    (ht : TIs P t (.array len el)) (hs : TSize P el sz) (h0 : 0 ≤ i) (h1 : i < len) :
    OpRun P n e w { dst, op := .indexAddr t x y, type := ty, pos := ps, after := af, guard := g } (.pointer (some ⟨b, o + i.toNat * sz, none⟩)) w :=
  ⟨fun ac ha => by
    have h2 : (Instr.indexAt t (.pointer (some ⟨b, o, none⟩)) (.int k i)).run P w = .ok (.pointer (some ⟨b, o + i.toNat * sz, none⟩)) w := by
      unfold Instr.indexAt
      simp only [asIntOf]
      rw [run_bind, run_pure]; dsimp only
      rw [run_bind, ht.out]; dsimp only
      simp only [Instr.sureAddr]
      rw [run_bind, run_pure]; dsimp only
      rw [run_bind, run_pure]; dsimp only
      rw [run_bind, ht.out]; dsimp only
      rw [if_pos ⟨h0, h1⟩, run_bind, hs.out]; dsimp only
      rw [run_pure, Addr.add]
      split
      · rename_i h; rw [h]; rfl
      · rfl
    simp only [execOp, ha.eval hx, ha.eval hy]
    rw [run_bind, h2]; rfl⟩

/-! ### Loads -/
theorem run_load {ad : Addr} {v : Value} (h : w.cell? ad = some v) : (load ad).run P w = .ok v w := by
  simp [load, Sem.run, h]

theorem OpRun.loadC {v : Value} (hx : oval e x = some (.pointer (some ⟨b, o, none⟩))) (ht : TAgg P t false) (hc : w.cell? ⟨b, o, none⟩ = some v) :
    OpRun P n e w { dst, op := .load t x, type := ty, pos := ps, after := af, guard := g } v w :=
  ⟨fun ac ha => by
    have h2 : (Instr.loadAt t (.pointer (some ⟨b, o, none⟩))).run P w = .ok v w := by
      unfold Instr.loadAt loadVar
      simp only [Instr.sureAddr]
      rw [run_bind, run_pure]; dsimp only
      rw [run_bind, ht.out]; dsimp only
      rw [if_neg (by simp)]
      exact run_load hc
    simp only [execOp, ha.eval hx]
    rw [run_bind, h2]; rfl⟩

theorem OpRun.load {U : TypeId} {cs : List Value} {v : Value} (hx : oval e x = some (.pointer (some ⟨b, o, none⟩))) (ht : TAgg P t false) (hb : Blk w b U cs) (hv : cs[o]? = some v) :
    OpRun P n e w { dst, op := .load t x, type := ty, pos := ps, after := af, guard := g } v w := OpRun.loadC hx ht (hb.cell hv)

theorem addr_add (i : Nat) : (⟨b, o, none⟩ : Addr).add i = ⟨b, o + i, none⟩ := by
  unfold Addr.add; split
  · rename_i h; rw [h]; rfl
  · rfl

theorem run_loadCells : ∀ (k i : Nat) (acc : Array Value) (vs : List Value), vs.length = k → (∀ j, j < k → w.cell? ⟨b, o + (i + j), none⟩ = vs[j]?) →
    (loadCellsFrom ⟨b, o, none⟩ i k acc).run P w = .ok (acc ++ vs.toArray) w
  | 0, i, acc, vs, hl, _ => by
    have : vs = [] := List.length_eq_zero_iff.1 hl
    subst this
    simp [loadCellsFrom]
  | k + 1, i, acc, vs, hl, h => by
    cases vs with
    | nil => simp at hl
    | cons v vs =>
      have h0 := h 0 (by omega)
      simp at h0
      unfold loadCellsFrom
      rw [run_bind, addr_add, run_load h0]; dsimp only
      rw [run_loadCells k (i + 1) (acc.push v) vs (by simpa using hl) (fun j hj => by
        have := h (j + 1) (by omega)
        simp at this
        rw [← this]; congr 2; omega)]
      simp

theorem OpRun.loadAC {vs : List Value} (hx : oval e x = some (.pointer (some ⟨b, o, none⟩))) (ht : TAgg P t true) (hs : TSize P t vs.length)
    (hc : ∀ j, j < vs.length → w.cell? ⟨b, o + j, none⟩ = vs[j]?) :
    OpRun P n e w { dst, op := .load t x, type := ty, pos := ps, after := af, guard := g } (.agg vs.toArray) w :=
  ⟨fun ac ha => by
    have h2 : (Instr.loadAt t (.pointer (some ⟨b, o, none⟩))).run P w = .ok (.agg vs.toArray) w := by
      unfold Instr.loadAt loadVar
      simp only [Instr.sureAddr]
      rw [run_bind, run_pure]; dsimp only
      rw [run_bind, ht.out]; dsimp only
      rw [if_pos rfl, run_bind, hs.out]; dsimp only
      rw [run_bind]
      unfold loadCells
      rw [run_loadCells vs.length 0 #[] vs rfl (fun j hj => by rw [Nat.zero_add]; exact hc j hj)]
      simp
    simp only [execOp, ha.eval hx]
    rw [run_bind, h2]; rfl⟩

theorem At.get {cs : List Value} : ∀ {o : Nat} {vs : List Value}, At cs o vs → ∀ j, j < vs.length → cs[o + j]? = vs[j]?
  | _, [], _, j, hj => by simp at hj
  | o, v :: vs, h, 0, _ => by simpa using h.1
  | o, v :: vs, h, j + 1, hj => by
    have := h.2.get j (by simpa using hj)
    rw [show o + (j + 1) = o + 1 + j from by omega, this]; simp

theorem At.of {cs : List Value} : ∀ {o : Nat} {vs : List Value}, (∀ j, j < vs.length → cs[o + j]? = vs[j]?) → At cs o vs
  | _, [], _ => trivial
  | o, v :: vs, h => ⟨by simpa using h 0 (by simp), At.of fun j hj => by
      have := h (j + 1) (by simpa using hj)
      rw [show o + 1 + j = o + (j + 1) from by omega, this]; simp⟩

theorem OpRun.loadA {U : TypeId} {cs vs : List Value} (hx : oval e x = some (.pointer (some ⟨b, o, none⟩))) (ht : TAgg P t true) (hs : TSize P t vs.length)
    (hb : Blk w b U cs) (hv : At cs o vs) :
    OpRun P n e w { dst, op := .load t x, type := ty, pos := ps, after := af, guard := g } (.agg vs.toArray) w :=
  OpRun.loadAC hx ht hs fun j hj => by
    have := hv.get j hj
    have h2 : vs[j]? = some vs[j] := List.getElem?_eq_getElem hj
    rw [h2] at this ⊢
    exact hb.cell this

/-! ### Stores -/
/-- A value of one cell. -/
def Value.one : Value → Bool
  | .agg _ | .tuple _ => false
  | _ => true
theorem Blk.setCell {T : TypeId} {cs : List Value} (h : Blk w b T cs) (v : Value) : Blk (w.setCell ⟨b, o, none⟩ v) b T (cs.set o v) := by
  have hb := h.lt
  constructor
  simp only [World.setCell, Array.getElem?_modify, h.out, if_true, Option.map_some]
  simp

theorem mod_setCell (v : Value) : Mod (fun k => k = b) w (w.setCell ⟨b, o, none⟩ v) :=
  ⟨rfl, rfl, rfl, by simp [World.setCell], fun k _ hk => by simp only [World.setCell, Array.getElem?_modify]; rw [if_neg (fun h => hk h.symm)]⟩

theorem size_setCell (ad : Addr) (v : Value) : (w.setCell ad v).heap.size = w.heap.size := by simp [World.setCell]

theorem run_store {T : TypeId} {cs : List Value} {v : Value} (h : Blk w b T cs) (ho : o < cs.length) (hv : Value.one v = true) :
    (store ⟨b, o, none⟩ v).run P w = .ok () (w.setCell ⟨b, o, none⟩ v) := by
  have hc : w.cell? ⟨b, o, none⟩ = some cs[o] := h.cell (List.getElem?_eq_getElem ho)
  have hf := h.frozen o
  unfold store
  cases v <;> first | (simp [Value.one] at hv; done) | (simp [Sem.run, hc, hf])

def putList : List Value → Nat → List Value → List Value
  | cs, _, [] => cs
  | cs, o, v :: vs => putList (cs.set o v) (o + 1) vs

theorem putList_length : ∀ (vs cs : List Value) (o : Nat), (putList cs o vs).length = cs.length
  | [], _, _ => rfl
  | v :: vs, cs, o => by simp [putList, putList_length vs]

theorem run_storeCells {T : TypeId} : ∀ (vs : List Value) (i : Nat) (w : World) (cs : List Value), Blk w b T cs → o + i + vs.length ≤ cs.length → (∀ v ∈ vs, Value.one v = true) →
    ∃ w', (storeCells ⟨b, o, none⟩ vs i).run P w = .ok () w' ∧ Blk w' b T (putList cs (o + i) vs) ∧ Mod (fun k => k = b) w w' ∧ w'.heap.size = w.heap.size
  | [], i, w, cs, h, _, _ => ⟨w, rfl, h, Mod.refl _ _, rfl⟩
  | v :: vs, i, w, cs, h, hl, hv => by
    simp at hl
    have h1 := run_store (P := P) (o := o + i) h (by omega) (hv v (by simp))
    have h2 : Blk (w.setCell ⟨b, o + i, none⟩ v) b T (cs.set (o + i) v) := h.setCell v
    obtain ⟨w', h3, h4, h5, h6⟩ := run_storeCells vs (i + 1) _ _ h2 (by simp; omega) (fun u hu => hv u (by simp [hu]))
    refine ⟨w', ?_, by rw [show o + (i + 1) = o + i + 1 from by omega] at h4; exact h4, (mod_setCell v).trans h5 (fun _ h => h) (fun _ _ h => h), by rw [h6, size_setCell]⟩
    unfold storeCells
    rw [run_bind, addr_add, h1]; dsimp only
    exact h3

theorem OpTo.unit {op : Op} {w' : World} (h : ∀ ac, Agrees n e ac → (execOp ac.eval { dst := none, op, type := ty, pos := ps, after := af, guard := g }).run P w = .ok .skip w') (k : K e w') :
    OpTo P n e w { dst := none, op, type := ty, pos := ps, after := af, guard := g } K := by
  constructor
  intro a Q K' ha hk
  unfold Oper.wp
  rw [h a ha]
  exact hk _ _ _ ha k

theorem OpTo.storeN {T : TypeId} {cs vs : List Value} {v : Value} (hx : oval e x = some (.pointer (some ⟨b, o, none⟩))) (hy : oval e y = some v) (hv : v.cells.toList = vs) (hs : TSize P t vs.length) (hb : Blk w b T cs) (ho : o + vs.length ≤ cs.length)
    (h1 : ∀ v ∈ vs, Value.one v = true)
    (k : ∀ w', Blk w' b T (putList cs o vs) → Mod (fun k => k = b) w w' → w'.heap.size = w.heap.size → K e w') :
    OpTo P n e w { dst := none, op := .store t x y, type := ty, pos := ps, after := af, guard := g } K := by
  obtain ⟨w', hr, hb', hm, hz⟩ := run_storeCells (P := P) vs 0 w cs hb (by omega) h1
  refine OpTo.unit (w' := w') ?_ (k w' hb' hm hz)
  intro ac ha
  have h2 : (Instr.storeAt t (.pointer (some ⟨b, o, none⟩)) v).run P w = .ok () w' := by
    unfold Instr.storeAt storeVar
    simp only [Instr.sureAddr]
    rw [run_bind, run_pure]; dsimp only
    rw [run_bind, hs.out]; dsimp only
    rw [if_neg (by rw [← Array.length_toList, hv]; simp), hv]
    exact hr
  simp only [execOp, ha.eval hx, ha.eval hy]
  rw [run_bind, h2]; rfl

theorem blt1 {cs : List Value} {v : Value} (h : Nat.blt o cs.length = true) : o + [v].length ≤ cs.length := by
  have : o < cs.length := by simpa [Nat.blt_eq] using h
  simp; omega

theorem OpTo.store {T : TypeId} {cs : List Value} {v : Value} (hx : oval e x = some (.pointer (some ⟨b, o, none⟩))) (hy : oval e y = some v) (hs : TSize P t 1) (hv : Value.one v = true) (hb : Blk w b T cs) (ho : Nat.blt o cs.length = true)
    (k : ∀ w', Blk w' b T (cs.set o v) → Mod (fun k => k = b) w w' → w'.heap.size = w.heap.size → K e w') :
    OpTo P n e w { dst := none, op := .store t x y, type := ty, pos := ps, after := af, guard := g } K :=
  OpTo.storeN (vs := [v]) hx hy (by cases v <;> first | rfl | (simp [Value.one] at hv)) hs hb (blt1 ho) (by simpa using hv) k

theorem OpTo.storeA {T : TypeId} {cs vs : List Value} (hx : oval e x = some (.pointer (some ⟨b, o, none⟩))) (hy : oval e y = some (.agg vs.toArray)) (hs : TSize P t vs.length) (hv : vs.all Value.one = true) (hb : Blk w b T cs) (ho : Nat.ble (o + vs.length) cs.length = true)
    (k : ∀ w', Blk w' b T (putList cs o vs) → Mod (fun k => k = b) w w' → w'.heap.size = w.heap.size → K e w') :
    OpTo P n e w { dst := none, op := .store t x y, type := ty, pos := ps, after := af, guard := g } K :=
  OpTo.storeN (vs := vs) hx hy rfl hs hb (by simpa [Nat.ble_eq] using ho) (by simpa using hv) k

/-! ### New memory -/
theorem Blk.new (T : TypeId) (cs : List Value) : Blk (w.alloc (.cells cs.toArray T)) w.heap.size T cs := by
  constructor
  show (w.heap.push _)[w.heap.size]? = _
  simp
theorem grow_alloc (ob : Obj) : Grow w (w.alloc ob) :=
  ⟨rfl, rfl, rfl, by simp, fun k hk _ => RowKit.Below.heap_alloc _ _ _ hk⟩

theorem run_newVar {T : TypeId} {v : Value} : (newVar T v).run P w = .ok ⟨w.heap.size, 0, none⟩ (w.alloc (.cells v.cells T)) := rfl

theorem OpTo.mem {op : Op} {w' : World} {v : Value} (h : ∀ ac, Agrees n e ac → (execOp ac.eval { dst := some d, op, type := ty, pos := ps, after := af, guard := g }).run P w = .ok (.value v) w') (hd : Nat.blt d n = true) (k : K ((d, v) :: e) w') :
    OpTo P n e w { dst := some d, op, type := ty, pos := ps, after := af, guard := g } K := OpTo.val ⟨h⟩ hd k

theorem OpTo.box {v : Value} {vs : List Value} (hx : oval e x = some v) (hvs : v.cells.toList = vs) (hd : Nat.blt d n = true)
    (k : ∀ b w', Blk w' b t vs → Grow w w' → w.heap.size ≤ b → b < w'.heap.size → K ((d, .pointer (some ⟨b, 0, none⟩)) :: e) w') :
    OpTo P n e w { dst := some d, op := .box t x, type := ty, pos := ps, after := af, guard := g } K := by
  refine OpTo.val (v := .pointer (some ⟨w.heap.size, 0, none⟩)) (w' := w.alloc (.cells v.cells t)) ⟨fun ac ha => ?_⟩ hd
    (k _ _ (by rw [← hvs]; have := Blk.new (w := w) t v.cells.toList; simpa using this) (grow_alloc _) (Nat.le_refl _) (by simp))
  simp only [execOp, ha.eval hx, Instr.box]
  rw [run_bind, run_bind, run_newVar]; rfl

theorem OpTo.alloc {v : Value} {vs : List Value} (hz : TZero P t v) (hvs : v.cells.toList = vs) (hd : Nat.blt d n = true)
    (k : ∀ b w', Blk w' b t vs → Grow w w' → w.heap.size ≤ b → b < w'.heap.size → K ((d, .pointer (some ⟨b, 0, none⟩)) :: e) w') :
    OpTo P n e w { dst := some d, op := .alloc t, type := ty, pos := ps, after := af, guard := g } K := by
  refine OpTo.val (v := .pointer (some ⟨w.heap.size, 0, none⟩)) (w' := w.alloc (.cells v.cells t)) ⟨fun ac ha => ?_⟩ hd
    (k _ _ (by rw [← hvs]; have := Blk.new (w := w) t v.cells.toList; simpa using this) (grow_alloc _) (Nat.le_refl _) (by simp))
  simp only [execOp, Instr.alloc]
  rw [run_bind, run_bind, hz.out]; dsimp only
  rw [run_bind, run_newVar]; rfl

theorem OpRun.makeFunc {fn : Fn} {first captured : Array Operand} {vs us : List Value} (h1 : ovals e first.toList = some vs) (h2 : ovals e captured.toList = some us) :
    OpRun P n e w { dst, op := .makeFunc fn first captured, type := ty, pos := ps, after := af, guard := g } (.func fn vs.toArray us.toArray) w :=
  ⟨fun ac ha => by
    have e1 : first.map ac.eval = vs.toArray := by
      rw [← ha.evals h1, ← Array.toList_map]
    have e2 : captured.map ac.eval = us.toArray := by
      rw [← ha.evals h2, ← Array.toList_map]
    simp only [execOp, e1, e2, Instr.makeFunc]; rfl⟩

/-! ### Calls -/
structure Ent (P : Program) (f : FuncId) : Prop where
  out : ∀ (args : Array Value) (w : World), (callFunc f args).run P w = .ok (.enter f args) w

theorem OpTo.call {f : FuncId} {args : Array Operand} {ats : Array TypeId} {vs : List Value} {Φ : Value → World → Prop} (hent : Ent P f) (hv : ovals e args.toList = some vs) (hd : Nat.blt d n = true)
    (hc : Ret P f vs w Φ) (k : ∀ v w', Φ v w' → K ((d, v) :: e) w') :
    OpTo P n e w { dst := some d, op := .call { callee := .value (.func f), args, argTypes := ats }, type := ty, pos := ps, after := af, guard := g } K := by
  constructor
  intro a Q K' ha hk
  unfold Oper.wp
  have e1 : args.map a.eval = vs.toArray := by
    rw [← ha.evals hv, ← Array.toList_map]
  have hr : (execOp a.eval { dst := some d, op := .call { callee := .value (.func f), args, argTypes := ats }, type := ty, pos := ps, after := af, guard := g }).run P w = .ok (.enter f vs.toArray) w := by
    simp only [execOp, resolve, Act.eval, Deferred.ofValue, e1]
    rw [run_bind, run_pure]; dsimp only
    simp only [invoke]
    simp
    exact hent.out _ _
  rw [hr, Oper.upon_enter]
  refine Calls.mono hc.out ?_
  rintro _ w' ⟨v, rfl, hp⟩
  exact hk _ _ _ (ha.put hd v) (k v w' hp)

/-- A call of a function value. -/
theorem OpTo.callV {f : FuncId} {x : Operand} {args : Array Operand} {ats : Array TypeId} {vs : List Value} {fs us : Array Value} {Φ : Value → World → Prop} (hx : oval e x = some (.func (.func f) fs us)) (hent : Ent P f) (hv : ovals e args.toList = some vs) (hd : Nat.blt d n = true)
    (hc : Ret P f (fs.toList ++ vs ++ us.toList) w Φ) (k : ∀ v w', Φ v w' → K ((d, v) :: e) w') :
    OpTo P n e w { dst := some d, op := .call { callee := .value x, args, argTypes := ats }, type := ty, pos := ps, after := af, guard := g } K := by
  constructor
  intro a Q K' ha hk
  unfold Oper.wp
  have e1 : args.map a.eval = vs.toArray := by
    rw [← ha.evals hv, ← Array.toList_map]
  have hr : (execOp a.eval { dst := some d, op := .call { callee := .value x, args, argTypes := ats }, type := ty, pos := ps, after := af, guard := g }).run P w = .ok (.enter f (fs.toList ++ vs ++ us.toList).toArray) w := by
    simp only [execOp, resolve, ha.eval hx, Deferred.ofValue, e1]
    rw [run_bind, run_pure]; dsimp only
    simp only [invoke]
    rw [hent.out]
    simp
  rw [hr, Oper.upon_enter]
  refine Calls.mono hc.out ?_
  rintro _ w' ⟨v, rfl, hp⟩
  exact hk _ _ _ (ha.put hd v) (k v w' hp)
end

/-! Short names. -/
theorem vf {ops : Array Oper} (off : Nat) {x : Operand} {t : TypeId} {b o : Nat} {fs : Array Field} {i k : Nat} {fl : Field} (ht : ∀ w, (underlying t).run P w = .ok (.struct fs) w) (hk : ∀ w, (sizeOf fl.type).run P w = .ok k w) (hx : oval e x = some (.pointer (some ⟨b, o, none⟩))) (hf : fs[i]? = some fl)
    (hk0 : Nat.beq k 0 = false) (ho : fl.offset = off) (hd : Nat.blt d n = true) (kk : WL P n ops rest K ((d, .pointer (some ⟨b, o + off, none⟩)) :: e) w) :
    WL P n ops ({ dst := some d, op := .fieldAddr t x i, type := ty, pos := ps, after := af, guard := none } :: rest) K e w := WL.val (OpRun.fieldAddr hx ⟨ht⟩ hf ⟨hk⟩ hk0 ho) hd kk
theorem oF (off : Nat) {x : Operand} {t : TypeId} {b o : Nat} {fs : Array Field} {i k : Nat} {fl : Field} (ht : ∀ w, (underlying t).run P w = .ok (.struct fs) w) (hk : ∀ w, (sizeOf fl.type).run P w = .ok k w) (hx : oval e x = some (.pointer (some ⟨b, o, none⟩))) (hf : fs[i]? = some fl)
    (hk0 : Nat.beq k 0 = false) (ho : fl.offset = off) : OpRun P n e w { dst, op := .fieldAddr t x i, type := ty, pos := ps, after := af, guard := g } (.pointer (some ⟨b, o + off, none⟩)) w := OpRun.fieldAddr hx ⟨ht⟩ hf ⟨hk⟩ hk0 ho
end Go.Eng
