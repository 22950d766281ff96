/-
  A part of a proof (Tabs0 Tabs1h Tabs2 Eng9): lemmas on what the program's functions do. No condition but those that each lemma states.
-/
import Derived.Scope
import Derived.Test.YtdnhcimmbbcajaaGreatDoorP07
set_option maxRecDepth 8000
set_option linter.all false
namespace Go.Eng
open Go Go.Proofs Go.Maps Go.ChangeMaps Go.MapKept

abbrev bf : DataW Unit := .lit (.bool false)

/-- A map from ints to bools: what it tells at each key; its keys are small. -/
def MapK (w : World) (b : Nat) (f : Int → Bool) : Prop :=
  ∃ (D : DataW Unit) (n : Nat), w.ownsMap Tryz.prog 3 (plainElem Tryz.prog 4) b n D ∧ (∀ x : Int, has D (.int .i64 x) = true → 0 ≤ x ∧ x < 4096) ∧ ∀ k : Int, D.atKey (.int .i64 k) bf = .lit (.bool (f k))

theorem MapK.mod {S : Nat → Prop} {w w' : World} {b : Nat} {f : Int → Bool} (h : MapK w b f) (hm : Mod S w w') (hs : ¬ S b) : MapK w' b f := by
  obtain ⟨D, n, hown, h2⟩ := h
  have hlt := hown.lt
  obtain ⟨es, clock, hb, r⟩ := hown
  exact ⟨D, n, ⟨es, clock, (hm.block b hlt hs).trans hb, r⟩, h2⟩
theorem MapK.grow {w w' : World} {b : Nat} {f : Int → Bool} (h : MapK w b f) (hm : Grow w w') : MapK w' b f := h.mod hm fun h => h
theorem MapK.lt {w : World} {b : Nat} {f : Int → Bool} (h : MapK w b f) : b < w.heap.size := by
  obtain ⟨D, n, hown, h2⟩ := h; exact hown.lt
theorem MapK.nblk {w : World} {b k T : Nat} {f : Int → Bool} {cs : List Value} (h : MapK w b f) (hb : Blk w k T cs) : k ≠ b := by
  rintro rfl
  obtain ⟨D, n, ⟨es, clock, hb', r⟩, h2⟩ := h
  rw [hb.out] at hb'; cases hb'

theorem nd_le : ∀ (n : Nat) (l : List Nat), l.Nodup → (∀ x ∈ l, x < n) → l.length ≤ n := by
  intro n
  induction n with
  | zero => intro l _ h; cases l with
    | nil => simp
    | cons a l => exact absurd (h a (by simp)) (by omega)
  | succ n ih =>
    intro l hl h
    by_cases hn : n ∈ l
    · have h1 := ih (l.erase n) (hl.erase n) (fun x hx => by
        have h2 := h x (List.mem_of_mem_erase hx)
        have h3 : x ≠ n := fun e => by subst e; exact absurd hx (List.Nodup.not_mem_erase hl)
        omega)
      rw [List.length_erase_of_mem hn] at h1
      omega
    · have h1 := ih l hl (fun x hx => by
        have h2 := h x hx
        have h3 : x ≠ n := fun e => hn (e ▸ hx)
        omega)
      omega

theorem own_keys {w : World} {b n : Nat} {D : DataW Unit} {R : Value → Option (DataW Unit × List MemPlace)} (h : w.ownsMap Tryz.prog 3 R b n D) :
    ∃ es, D = .map es ∧ es.Pairwise (fun p q => p.1 ≠ q.1) ∧ ∀ p ∈ es, ∃ x : Int, p.1 = .int .i64 x := by
  obtain ⟨es, hD, hp⟩ := h.tidy Kz.law26
  obtain ⟨es', clock, hb, F, hs, hD'⟩ := h
  refine ⟨es, hD, hp, fun p hpm => ?_⟩
  rw [hD] at hD'
  cases hD'
  have hpm2 := (Go.WideShapes.sorted_perm _).mem_iff.1 hpm
  obtain ⟨x, hx, rfl⟩ := List.mem_map.1 hpm2
  obtain ⟨y, hy⟩ := F.reads x hx
  rw [Go.WideElems.rg_of hy]
  obtain ⟨a, _, ha, _⟩ := Maps.keyOf_i64 Tryz.underlying3 (Go.WideElems.rd_key hy)
  exact ⟨a, ha⟩

theorem MapK.size {w : World} {b n : Nat} {D : DataW Unit} {R : Value → Option (DataW Unit × List MemPlace)} (h : w.ownsMap Tryz.prog 3 R b n D) (hk : ∀ x : Int, has D (.int .i64 x) = true → 0 ≤ x ∧ x < 4096) : Maps.size D ≤ 4096 := by
  obtain ⟨es, rfl, hp, hx⟩ := own_keys h
  have hin : ∀ p ∈ es, 0 ≤ intOf p.1 ∧ intOf p.1 < 4096 := fun p hpm => by
    obtain ⟨x, hx⟩ := hx p hpm
    have := hk x (by rw [has_eq, List.any_eq_true]; exact ⟨p, hpm, by rw [hx]; simp [Lit.sameKey]⟩)
    rw [hx]; exact this
  have := nd_le 4096 (es.map fun p => (intOf p.1).toNat) (by
    refine List.pairwise_map.2 (hp.imp_of_mem fun {p q} h1 h2 hne e => hne ?_)
    obtain ⟨x, hx1⟩ := hx p h1
    obtain ⟨y, hx2⟩ := hx q h2
    have i1 := hin p h1
    have i2 := hin q h2
    rw [hx1] at i1 e ⊢; rw [hx2] at i2 e ⊢
    simp only [intOf] at i1 i2 e
    have : x = y := by omega
    rw [this]) (fun x hx => by
      obtain ⟨p, hpm, rfl⟩ := List.mem_map.1 hx
      have := hin p hpm; omega)
  simpa [Maps.size] using this

theorem MapK.tight {w : World} {b n : Nat} {D : DataW Unit} {R : Value → Option (DataW Unit × List MemPlace)} (h : w.ownsMap Tryz.prog 3 R b n D) : w.ownsMap Tryz.prog 3 R b (Maps.size D) D := by
  obtain ⟨es, clock, hb, F, hs, rfl⟩ := h
  refine ⟨es, clock, hb, F, ?_, rfl⟩
  simp [Maps.size, length_sorted]

theorem wf64 {k : Int} (h : -9223372036854775808 ≤ k ∧ k ≤ 9223372036854775807) : (Lit.int .i64 k).wf = true := by
  have h1 : IntKind.i64.min = -9223372036854775808 := by decide
  have h2 : IntKind.i64.max = 9223372036854775807 := by decide
  show (decide (IntKind.i64.min ≤ k) && decide (k ≤ IntKind.i64.max)) = true
  rw [h1, h2]; simp; omega

variable {n : Nat} {e : Env} {w : World} {K : Env → World → Prop} {ty : TypeId} {ps : String} {af : Array Edge} {g : Option (Nat × Bool)} {d : Nat} {dst : Option Tmp} {xm xk xv : Operand}

theorem key_mk {k : Int} (h : -9223372036854775808 ≤ k ∧ k ≤ 9223372036854775807) : keyOf Tryz.prog 3 (.int .i64 k) = some (.int .i64 k) := keyOf_int_mk Tryz.underlying3 (wf64 h)
theorem key_is (k : Int) : WideAt.IsKeyLit (.int .i64 k) := trivial

theorem OpRun.lookupK {b : Nat} {f : Int → Bool} {k : Int} (hm : oval e xm = some (.map (some b))) (hk : oval e xk = some (.int .i64 k)) (h : MapK w b f) (hr : -9223372036854775808 ≤ k ∧ k ≤ 9223372036854775807) :
    OpRun Tryz.prog n e w { dst, op := .lookup 66 xm xk false, type := ty, pos := ps, after := af, guard := g } (.bool (f k)) w := by
  obtain ⟨D, m, hown, hkeys, hat⟩ := h
  obtain ⟨v, pp, hrun, hv⟩ := hown.lookup Kz.law26 Tryz.underlying66 (z := .bool false) (Tryz.zeroValue4 w) (plainElem_bool Tryz.underlying4 false) (key_mk hr)
  rw [hat k] at hv
  have hv2 : v = .bool (f k) := by
    unfold plainElem at hv
    cases v <;> simp [Tryz.underlying4] at hv
    rw [hv.1]
  subst hv2
  exact ⟨fun ac ha => by
    simp only [execOp, ha.eval hm, ha.eval hk]
    rw [run_bind, hrun]; rfl⟩

theorem mapTurned_mod {w w' : World} {b : Nat} (h : w.mapTurned w' b) : Mod (fun k => k = b) w w' ∧ w'.heap.size = w.heap.size := by
  obtain ⟨es, clock, es', clock', hb, rfl⟩ := h
  exact ⟨⟨rfl, rfl, rfl, by simp [Go.ChangeMaps.setBlock], fun k hk hn => Go.ChangeMaps.heap_setBlock_other hb _ hn⟩, by simp [Go.ChangeMaps.setBlock]⟩

theorem MapK.put {w' : World} {b m : Nat} {D : DataW Unit} {f : Int → Bool} {k : Int} {v : Bool} (h0 : IsMap D) (h : w'.ownsMap Tryz.prog 3 (plainElem Tryz.prog 4) b m (D.put (.int .i64 k) (.lit (.bool v))))
    (hkeys : ∀ x : Int, has D (.int .i64 x) = true → 0 ≤ x ∧ x < 4096) (hat : ∀ k : Int, D.atKey (.int .i64 k) bf = .lit (.bool (f k))) (hr : 0 ≤ k ∧ k < 4096) : MapK w' b (fun x => if x = k then v else f x) := by
  refine ⟨_, m, h, fun x hx => ?_, fun x => ?_⟩
  · by_cases e : x = k
    · subst e; exact hr
    · rw [has_put_other (fun h => e (by cases h; rfl))] at hx; exact hkeys x hx
  · by_cases e : x = k
    · subst e; dsimp only; rw [if_pos rfl]; exact atKey_put_same h0 (key_is x) _ _
    · dsimp only; rw [if_neg e, atKey_put_other (fun h => e (by cases h; rfl))]; exact hat x

theorem OpTo.mapUpdateK {b : Nat} {f : Int → Bool} {k : Int} {v : Bool} (hm : oval e xm = some (.map (some b))) (hk : oval e xk = some (.int .i64 k)) (hv : oval e xv = some (.bool v)) (h : MapK w b f) (hr : 0 ≤ k ∧ k < 4096)
    (kk : ∀ w', MapK w' b (fun x => if x = k then v else f x) → Mod (fun k => k = b) w w' → w'.heap.size = w.heap.size → K e w') :
    OpTo Tryz.prog n e w { dst := none, op := .mapUpdate 66 xm xk xv, type := ty, pos := ps, after := af, guard := g } K := by
  obtain ⟨D, m, hown, hkeys, hat⟩ := h
  have hown := MapK.tight hown
  have hs := MapK.size hown hkeys
  obtain ⟨w', hrun, hown', ht⟩ := hown.store Kz.law26 Tryz.underlying66 (by unfold maxLen; omega) (key_mk (k := k) ⟨by omega, by omega⟩) (plainElem_bool Tryz.underlying4 v)
  obtain ⟨hmod, hsz⟩ := mapTurned_mod ht
  refine OpTo.unit (w' := w') (fun ac ha => ?_) (kk w' (MapK.put hown.isMap hown' hkeys hat hr) hmod hsz)
  simp only [execOp, ha.eval hm, ha.eval hk, ha.eval hv]
  rw [run_bind, hrun]; rfl

theorem OpTo.unitV {op : Op} {w' : World} {v : Value} (h : OpRun Tryz.prog n e w { dst := none, op, type := ty, pos := ps, after := af, guard := g } v w') (k : K e w') :
    OpTo Tryz.prog n e w { dst := none, op, type := ty, pos := ps, after := af, guard := g } K := by
  constructor
  intro a Q K' ha hk
  unfold Oper.wp
  rw [h.out a ha]
  exact hk _ _ _ ha k

theorem OpTo.deleteK {b : Nat} {f : Int → Bool} {k : Int} {args : Array Operand} (hv : ovals e args.toList = some [.map (some b), .int .i64 k]) (h : MapK w b f) (hr : -9223372036854775808 ≤ k ∧ k ≤ 9223372036854775807)
    (kk : ∀ w', (MapK w' b (fun x => if x = k then false else f x)) → Mod (fun k => k = b) w w' → w'.heap.size = w.heap.size → K e w') :
    OpTo Tryz.prog n e w { dst := none, op := .call { callee := .builtin .delete, args, argTypes := #[66, 3] }, type := ty, pos := ps, after := af, guard := g } K := by
  obtain ⟨D, m, hown, hkeys, hat⟩ := h
  obtain ⟨w', hrun, hown', ht⟩ := hown.drop Kz.law26 Tryz.underlying66 (key_mk hr) ty
  obtain ⟨hmod, hsz⟩ := mapTurned_mod ht
  refine OpTo.unitV (v := .tuple #[]) (w' := w') (run_builtin hv fun cs => ?_) (kk w' ⟨_, m, hown', fun x hx => ?_, fun x => ?_⟩ hmod hsz)
  · show (do pure (Next.value (← Builtin.delete_ #[66, 3] ty #[.map (some b), .int .i64 k])) : Sem Next).run Tryz.prog w = _
    rw [run_bind, hrun]; rfl
  · by_cases e : x = k
    · subst e; rw [has_del_same] at hx; cases hx
    · rw [has_del_other (fun h => e (by cases h; rfl))] at hx; exact hkeys x hx
  · by_cases e : x = k
    · subst e; dsimp only; rw [if_pos rfl, atKey_del_same]
    · dsimp only; rw [if_neg e, atKey_del_other (fun h => e (by cases h; rfl))]; exact hat x

theorem MapK.empty {w : World} {b clock : Nat} (h : w.heap[b]? = some (.map #[] clock)) : MapK w b (fun _ => false) :=
  ⟨.map [], 0, ⟨#[], clock, h, ⟨by simp, ⟨by simp, by simp, by simp⟩, by simp⟩, Nat.le_refl _, rfl⟩, fun x hx => (by cases hx), fun k => rfl⟩

theorem OpTo.clearK {b : Nat} {f : Int → Bool} {args : Array Operand} (hv : ovals e args.toList = some [.map (some b)]) (h : MapK w b f)
    (kk : ∀ w', MapK w' b (fun _ => false) → Mod (fun k => k = b) w w' → w'.heap.size = w.heap.size → K e w') :
    OpTo Tryz.prog n e w { dst := none, op := .call { callee := .builtin .clear, args, argTypes := #[66] }, type := ty, pos := ps, after := af, guard := g } K := by
  obtain ⟨D, m, ⟨es, clock, hb, r⟩, hkeys, hat⟩ := h
  have hrun : (Builtin.clear_ #[66] ty #[.map (some b)]).run Tryz.prog w = .ok (.tuple #[]) (Go.ChangeMaps.setBlock w b (.map #[] clock)) := by
    simp [Builtin.clear_, run_underlying Tryz.underlying66, Go.MapKept.run_getObj_map hb, Go.MapKept.run_setObj_map _ hb, Result.andThen, Go.ChangeMaps.setBlock]
  obtain ⟨hmod, hsz⟩ := mapTurned_mod (w := w) (w' := Go.ChangeMaps.setBlock w b (.map #[] clock)) ⟨es, clock, #[], clock, hb, rfl⟩
  refine OpTo.unitV (v := .tuple #[]) (w' := Go.ChangeMaps.setBlock w b (.map #[] clock)) (run_builtin hv fun cs => ?_) (kk _ (MapK.empty (clock := clock) (Go.ChangeMaps.heap_setBlock_same hb _)) hmod hsz)
  show (do pure (Next.value (← Builtin.clear_ #[66] ty #[.map (some b)])) : Sem Next).run Tryz.prog w = _
  rw [run_bind, hrun]; rfl

theorem OpTo.makeMapK (hd : Nat.blt d n = true) (kk : ∀ b w', MapK w' b (fun _ => false) → Grow w w' → w.heap.size ≤ b → b < w'.heap.size → K ((d, .map (some b)) :: e) w') :
    OpTo Tryz.prog n e w { dst := some d, op := .makeMap 66 none, type := ty, pos := ps, after := af, guard := g } K := by
  refine OpTo.val (v := .map (some w.heap.size)) (w' := w.alloc (.map #[] 0)) ⟨fun ac ha => ?_⟩ hd (kk _ _ (MapK.empty (clock := 0) ?_) (grow_alloc _) (Nat.le_refl _) (by simp))
  · rfl
  · show (w.heap.push _)[w.heap.size]? = _
    simp

end Go.Eng
namespace Go.Eng
open Go Go.Proofs Go.Maps Go.Sort

def ng (R : Post) : Post := fun x e w => match x with
  | .goto _ => False
  | x => R x e w

theorem WC.scope {P : Program} {n : Nat} {R : Post} {e : Env} {w : World} {c : Code} (h : WC P n c (ng R) e w) : WC P n (.scope c) R e w := by
  constructor
  intro a Q ha hq
  refine wp_scope_straight (h.out a _ ha ?_)
  intro x e' a' w' h1 h2
  cases x with
  | goto l => exact h2.elim
  | _ => exact hq _ e' a' w' h1 h2

theorem WC.label {P : Program} {n l : Nat} {R : Post} {e : Env} {w : World} (h : R .normal e w) : WC P n (.label l) R e w := ⟨fun a _ ha hq => wp_label (hq _ e a w ha h)⟩

theorem keysR (w : World) (mb : Nat) : Ret Tryz.prog 111 [.map (some mb)] w (fun r w' => r = .func (.func 140) #[] #[.pointer (some ⟨w.heap.size, 0, none⟩)] ∧ w' = w.alloc (.cells #[.map (some mb)] 66)) :=
  ⟨Calls.mono (callsIn_wide.1 (Kz.keys_in Fence.wide 5 trivial rfl (some mb) w)) (fun _ _ h => ⟨_, h.1, rfl, h.2⟩)⟩

theorem Sl.of_row {w : World} {base T : Nat} {v : Value} {n : Nat} {xs : List Value} (h : w.ownsRow base T 1 v n xs) : ∃ cap, Sl w v T 1 xs n cap := by
  obtain ⟨hl, h | ⟨g, cap, cur, rfl, hb, hg, h1, h2, h3, h4⟩⟩ := h
  · obtain ⟨rfl, rfl⟩ := h
    have : xs = [] := List.eq_nil_of_length_eq_zero (by omega)
    subst this
    exact ⟨0, Sl.nil _ _ _⟩
  · refine ⟨cap, Sl.of (blk := cur.toList) ⟨by simpa using hg⟩ (At.of fun j hj => ?_) (by simp; omega) hl h1 (by unfold maxLen at h2; omega)⟩
    rw [← h4, Nat.zero_add, List.getElem?_take, if_pos (by omega)]

theorem sortedR {w : World} {mb : Nat} {f : Int → Bool} (h : MapK w mb f) : Ret Tryz.prog 110 [.func (.func 140) #[] #[.pointer (some ⟨w.heap.size, 0, none⟩)]] (w.alloc (.cells #[.map (some mb)] 66))
    (fun r w' => ∃ (ss : List Int) (cap : Nat), Sl w' r 3 1 (ss.map (Value.int .i64)) ss.length cap ∧ ss.length ≤ 4096 ∧ (∀ x ∈ ss, 0 ≤ x ∧ x < 4096) ∧ Grow (w.alloc (.cells #[.map (some mb)] 66)) w') := by
  obtain ⟨D, m, hown, hkeys, hat⟩ := h
  have hs := MapK.size hown hkeys
  have hbl := hown.lt
  have hseq : SeqGives Fence.wide 2 Tryz.prog 140 #[.pointer (some ⟨w.heap.size, 0, none⟩)] encZ (fun ss => ss.Perm (intKeys D)) (Maps.size D) (w.alloc (.cells #[.map (some mb)] 66)) :=
    Kz.keys_gives Fence.wide _ trivial rfl (by omega) w.heap.size mb m D _ (by simp) (by simp) (by
      obtain ⟨es, clock, hb, Ft, hs, hD⟩ := hown
      exact ⟨es, clock, (RowKit.Below.heap_alloc _ _ mb hbl).trans hb, Ft, hs, hD⟩)
  have cS := Kz.sorted_in Fence.wide 5 trivial trivial trivial trivial rfl (by omega) (Kz.sorts _) 140 #[.pointer (some ⟨w.heap.size, 0, none⟩)] trivial (enters_of Tryz.func140 (by kernel_rfl) rfl) _ _ (by unfold maxLen; omega) (by omega) _ hseq
  refine ⟨Calls.mono (callsIn_wide.1 cS) ?_⟩
  rintro e w' ⟨v, ss, rfl, hS, hrow, hnil, hb⟩
  have hlen : (ss.mergeSort (fun x y => decide (x ≤ y))).length = ss.length := by simp
  obtain ⟨cap, hsl⟩ := Sl.of_row hrow
  obtain ⟨es, rfl, hp, hx⟩ := own_keys hown
  refine ⟨v, rfl, ss.mergeSort (fun x y => decide (x ≤ y)), cap, by rw [hlen]; exact hsl, ?_, fun x hxm => ?_, ⟨hb.os, hb.tape, hb.output, hb.size, fun k hk _ => hb.block k hk⟩⟩
  · rw [hlen, hS.length_eq]
    simpa [intKeys, Maps.size] using hs
  · have h1 : x ∈ ss := (List.mergeSort_perm ss _).mem_iff.1 hxm
    have h2 := hS.mem_iff.1 h1
    obtain ⟨p, hpm, rfl⟩ := List.mem_map.1 h2
    obtain ⟨y, hy⟩ := hx p hpm
    refine hkeys _ ?_
    rw [has_eq, List.any_eq_true]
    exact ⟨p, hpm, by rw [hy]; simp [Lit.sameKey, intOf]⟩

structure Tabs where
  cols : Nat
  mb : Nat
  f : Int → Bool

structure TabsW (w : World) (tb : Nat) (T : Tabs) : Prop where
  blk : Blk w tb 109 [.int .i64 T.cols, .map (some T.mb)]
  map : MapK w T.mb T.f
  cols : 1 ≤ T.cols ∧ T.cols ≤ 1000

def Tabs.own (tb : Nat) (T : Tabs) (k : Nat) : Prop := k = tb ∨ k = T.mb

theorem TabsW.mod {S : Nat → Prop} {w w' : World} {tb : Nat} {T : Tabs} (h : TabsW w tb T) (hm : Mod S w w') (hs : ∀ k, T.own tb k → ¬ S k) : TabsW w' tb T :=
  ⟨h.blk.mod hm (hs _ (.inl rfl)), h.map.mod hm (hs _ (.inr rfl)), h.cols⟩
theorem TabsW.grow {w w' : World} {tb : Nat} {T : Tabs} (h : TabsW w tb T) (hm : Grow w w') : TabsW w' tb T := h.mod hm fun _ _ h => h
theorem TabsW.own_lt {w : World} {tb : Nat} {T : Tabs} (h : TabsW w tb T) {k : Nat} (hk : T.own tb k) : k < w.heap.size := by
  rcases hk with rfl | rfl
  · exact h.blk.lt
  · exact h.map.lt
theorem map_noLine {w : World} {b : Nat} {f : Int → Bool} (h : MapK w b f) : NoLine w (fun k => k = b) := by
  rintro k rfl cs hb
  exact h.nblk hb rfl
theorem TabsW.noLine {w : World} {tb : Nat} {T : Tabs} (h : TabsW w tb T) : NoLine w (T.own tb) := by
  rintro k (rfl | rfl) cs hb
  · exact absurd (h.blk.typ_eq hb) (by decide)
  · exact h.map.nblk hb rfl

theorem int_get {ss : List Int} {i : Nat} (hi : i < ss.length) : (ss.map (Value.int .i64)).getD i default = .int .i64 (ss.getD i 0) := by
  simp [List.getD_eq_getElem?_getD, hi]
theorem int_mem {ss : List Int} {i : Nat} (hi : i < ss.length) : ss.getD i 0 ∈ ss := getD_mem hi

/-- What an operation on stops leaves. -/
structure TOp (w w' : World) (tb : Nat) (T T' : Tabs) : Prop where
  to : TabsW w' tb T'
  mod : Mod (T.own tb) w w'
  mb : T'.mb = T.mb
  cols : T'.cols = T.cols
end Go.Eng
namespace Go.Eng
open Go Go.Proofs
theorem tb109_1 {m : Option Nat} : TBuild Tryz.prog 109 [(1, .map m)] (.agg #[.int .i64 0, .map m]) :=
  TBuild.struct (cs := [.int .i64 0, .map m]) ⟨Tryz.zeroValue109⟩ ⟨Tryz.runUnderlying109⟩ (places := #[(0, 1), (1, 1)]) (fun w => by simp [Tryz.sizeOf3, Tryz.sizeOf66]) rfl
theorem TabsW.mk2 {w : World} {tb m c : Nat} {f : Int → Bool} (hB : Blk w tb 109 [.int .i64 c, .map (some m)]) (hM : MapK w m f) (hc : 1 ≤ c ∧ c ≤ 1000) : TabsW w tb ⟨c, m, f⟩ := ⟨hB, hM, hc⟩

theorem all_ok {w : World} {tb mb : Nat} {c0 : Int} {f : Int → Bool} (hB : Blk w tb 109 [.int .i64 c0, .map (some mb)]) (hM : MapK w mb f) : Ret Tryz.prog 66 [.pointer (some ⟨tb, 0, none⟩)] w (fun r w' => ∃ (ss : List Int) (cap : Nat), Sl w' r 3 1 (ss.map (Value.int .i64)) ss.length cap ∧ ss.length ≤ 4096 ∧ (∀ x ∈ ss, 0 ≤ x ∧ x < 4096) ∧ Grow w w') := by
 refine Ret.of Tryz.func66 Tryz.ntmps66 rfl rfl ?_; refine WC.sub (e' := [(0, .pointer (some ⟨tb, 0, none⟩))]) ⟨rfl, trivial⟩ ?_; have hG : Mod (fun k => False) w w := Mod.refl _ _; refine wsr ?_; refine va rfl rfl ?_; refine WL.nil ?_; refine wsr ?_; refine vm rfl rfl ?_; refine vn rfl rfl ?_; refine vf 1 Tryz.runUnderlying109 Tryz.sizeOf66 rfl rfl rfl rfl rfl ?_; refine WL.val (OpRun.load rfl ⟨Tryz.isAgg66⟩ hB rfl) rfl ?_; refine WL.step (OpTo.call ⟨Tryz.call111⟩ rfl rfl (keysR w mb) (fun v1 w1 hp1 => ?_)); obtain ⟨rfl, rfl⟩ := hp1
 skip
 refine WL.step (OpTo.call ⟨Tryz.call110⟩ rfl rfl (sortedR hM) (fun v2 w2 hp2 => ?_)); obtain ⟨ss, cap, hsl, hl, hr, hm2⟩ := hp2; have hgr := (grow_alloc (w := w) (.cells #[.map (some mb)] 66)).trans hm2; refine va rfl rfl ?_; refine WL.nil ?_; refine WC.ret ?_; refine fin_one rfl rfl ?_; exact ⟨ss, cap, hsl, hl, hr, hgr⟩

theorem tis_ok {w : World} {tb : Nat} {T : Tabs} (h : TabsW w tb T) (col : Int) : Ret Tryz.prog 83 [.pointer (some ⟨tb, 0, none⟩), .int .i64 col] w (fun r w' => r = .bool (decide (0 ≤ col ∧ col < T.cols)) ∧ w = w') := by
 have hB := h.blk; have hM := h.map; have hc := h.cols; refine Ret.of Tryz.func83 Tryz.ntmps83 rfl rfl ?_; refine WC.sub (e' := [(0, .pointer (some ⟨tb, 0, none⟩)), (1, .int .i64 col)]) ⟨rfl, rfl, trivial⟩ ?_; have hG : Mod (fun k => False) w w := Mod.refl _ _; refine wsr ?_; refine va rfl rfl ?_; refine WL.nil ?_; refine wsr ?_; refine vm rfl rfl ?_; refine WL.val (OpRun.geq rfl rfl) rfl ?_; refine WL.splitD rfl rfl (fun hq1 => ?_) (fun hq1 => ?_)
 ·refine WL.want rfl rfl ?_; refine vm rfl rfl ?_; refine WL.want rfl rfl ?_; refine vm rfl rfl ?_; refine WL.want rfl rfl ?_; refine vn rfl rfl ?_; refine WL.want rfl rfl ?_; refine vf 0 Tryz.runUnderlying109 Tryz.sizeOf3 rfl rfl rfl rfl rfl ?_; refine WL.want rfl rfl ?_; refine WL.val (OpRun.load rfl ⟨Tryz.isAgg3⟩ hB rfl) rfl ?_; refine WL.want rfl rfl ?_; refine WL.val (OpRun.lss rfl rfl) rfl ?_; refine WL.val (OpRun.pickT rfl rfl) rfl ?_; refine va rfl rfl ?_; refine WL.nil ?_; refine WC.ret ?_; refine fin_one rfl rfl ?_; refine ⟨?_, rfl⟩; refine congrArg Value.bool ?_
  first | exact (decide_eq_decide.2 (by omega)) | exact (decide_eq_true (by omega)).symm | exact (decide_eq_false (by omega)).symm
 ·refine WL.pass rfl rfl rfl rfl ?_; refine WL.pass rfl rfl rfl rfl ?_; refine WL.pass rfl rfl rfl rfl ?_; refine WL.pass rfl rfl rfl rfl ?_; refine WL.pass rfl rfl rfl rfl ?_; refine WL.pass rfl rfl rfl rfl ?_; refine WL.val (OpRun.pickF rfl rfl) rfl ?_; refine va rfl rfl ?_; refine WL.nil ?_; refine WC.ret ?_; refine fin_one rfl rfl ?_; refine ⟨?_, rfl⟩; refine congrArg Value.bool ?_
  first | exact (decide_eq_decide.2 (by omega)) | exact (decide_eq_true (by omega)).symm | exact (decide_eq_false (by omega)).symm

theorem near_ok {w : World} {tb : Nat} {T : Tabs} (h : TabsW w tb T) (col : Int) : Ret Tryz.prog 84 [.pointer (some ⟨tb, 0, none⟩), .int .i64 col] w (fun r w' => (∃ z, r = .int .i64 z) ∧ w = w') := by
 have hB := h.blk; have hM := h.map; have hc := h.cols; refine Ret.of Tryz.func84 Tryz.ntmps84 rfl rfl ?_; refine WC.sub (e' := [(0, .pointer (some ⟨tb, 0, none⟩)), (1, .int .i64 col)]) ⟨rfl, rfl, trivial⟩ ?_; have hG : Mod (fun k => False) w w := Mod.refl _ _; refine wsr ?_; refine va rfl rfl ?_; refine WL.nil ?_; refine wsr ?_; refine vm rfl rfl ?_; refine WL.val (OpRun.bmax rfl) rfl ?_; refine vm rfl rfl ?_; refine vn rfl rfl ?_; refine vf 0 Tryz.runUnderlying109 Tryz.sizeOf3 rfl rfl rfl rfl rfl ?_; refine WL.val (OpRun.load rfl ⟨Tryz.isAgg3⟩ hB rfl) rfl ?_; refine WL.val (OpRun.sub rfl rfl (In.i64 (by omega))) rfl ?_; refine WL.val (OpRun.bmin rfl) rfl ?_; refine va rfl rfl ?_; refine WL.nil ?_; refine WC.ret ?_
 refine fin_one rfl rfl ?_; exact ⟨⟨_, rfl⟩, rfl⟩

set_option maxHeartbeats 1000000 in
theorem tresize_ok {w : World} {tb mb : Nat} {c0 : Nat} {f : Int → Bool} (hB : Blk w tb 109 [.int .i64 c0, .map (some mb)]) (hM : MapK w mb f) (hc0 : c0 ≤ 1000) (cols : Nat) (hc : 1 ≤ cols ∧ cols ≤ 1000) : Ret Tryz.prog 33 [.pointer (some ⟨tb, 0, none⟩), .int .i64 cols] w (fun r w' => r = .int .i64 0 ∧ Blk w' tb 109 [.int .i64 cols, .map (some mb)] ∧ (∃ f', MapK w' mb f') ∧ Mod (fun k => k = tb ∨ k = mb) w w') := by
 refine Ret.of Tryz.func33 Tryz.ntmps33 rfl rfl ?_; refine WC.sub (e' := [(0, .pointer (some ⟨tb, 0, none⟩)), (1, .int .i64 cols)]) ⟨rfl, rfl, trivial⟩ ?_; have hG : Mod (fun k => k = tb ∨ k = mb) w w := Mod.refl _ _; refine wsr ?_; refine va rfl rfl ?_; refine WL.nil ?_; refine WC.seq ?_; refine wsr ?_; refine vm rfl rfl ?_; refine WL.val (OpRun.lss rfl rfl) rfl ?_; refine WL.splitD rfl rfl (fun hq1 => ?_) (fun hq1 => ?_)
 ·refine WL.pass rfl rfl rfl rfl ?_; refine WL.pass rfl rfl rfl rfl ?_; refine WL.val (OpRun.pickT rfl rfl) rfl ?_; refine WL.nil ?_; refine WC.condT rfl ?_; refine wsr ?_; refine va rfl rfl ?_; refine WL.nil ?_; refine WC.ret ?_; refine fin_one rfl rfl ?_
  first | (exfalso; omega) | exact ⟨rfl, hB, ⟨_, hM⟩, hG⟩
 ·refine WL.want rfl rfl ?_; refine vm rfl rfl ?_; refine WL.want rfl rfl ?_; refine WL.val (OpRun.gtr rfl rfl) rfl ?_; refine WL.val (OpRun.pickF rfl rfl) rfl ?_; refine WL.nil ?_; refine WC.condD rfl (fun hq2 => ?_) (fun hq2 => ?_)
  ·exfalso; omega
  ·refine WC.skip ?_; refine WC.seq ?_; refine wsr ?_; refine vm rfl rfl ?_; refine vn rfl rfl ?_; refine vf 0 Tryz.runUnderlying109 Tryz.sizeOf3 rfl rfl rfl rfl rfl ?_; refine WL.val (OpRun.load rfl ⟨Tryz.isAgg3⟩ hB rfl) rfl ?_; refine WL.val (OpRun.bmax rfl) rfl ?_; refine va rfl rfl ?_; refine WL.nil ?_; refine WC.block ?_; refine WC.loop (fun m e w' => ∃ (i : Nat) (f' : Int → Bool), i ≤ 1000 ∧ m = 1000 - i ∧ Sub [(0, .pointer (some ⟨tb, 0, none⟩)), (1, .int .i64 cols), (5, .int .i64 i)] e ∧ Blk w' tb 109 [.int .i64 c0, .map (some mb)] ∧ MapK w' mb f' ∧ Mod (fun k => k = tb ∨ k = mb) w w') (1000 - (max (c0 : Int) 1).toNat) ⟨(max (c0 : Int) 1).toNat, f, by omega, rfl, ⟨rfl, rfl, congrArg (fun x => some (Value.int .i64 x)) (by omega), trivial⟩, hB, hM, hG⟩ ?_
   rintro m e wl ⟨i, f2, hi, rfl, hs, hB, hM, hG⟩
   refine WC.sub hs ?_; refine WC.seq ?_; refine wsr ?_; refine vm rfl rfl ?_; refine vm rfl rfl ?_; refine WL.val (OpRun.lss rfl rfl) rfl ?_; refine WL.nil ?_; refine WC.condD rfl (fun hq5 => ?_) (fun hq5 => ?_)
   ·refine WC.skip ?_; refine WC.seq ?_; refine WC.block ?_; refine wsr ?_; refine vm rfl rfl ?_; refine WL.val (OpRun.rem rfl rfl (by omega) (by omega)) rfl ?_; refine WL.val (OpRun.eql rfl rfl) rfl ?_; refine WL.nil ?_; refine WC.condD rfl (fun hq6 => ?_) (fun hq6 => ?_)
    ·refine WC.region ?_; refine vm rfl rfl ?_; refine vn rfl rfl ?_; refine vf 1 Tryz.runUnderlying109 Tryz.sizeOf66 rfl rfl rfl rfl rfl ?_; refine WL.val (OpRun.load rfl ⟨Tryz.isAgg66⟩ hB rfl) rfl ?_; refine vm rfl rfl ?_; refine WL.step (OpTo.mapUpdateK rfl rfl rfl hM (⟨by omega, by omega⟩) (fun w7 hn7 hm7 hz7 => ?_)); have hB := hB.mod hm7 (hM.nblk hB); have hG := hG.trans hm7 (fun _ h => h) (fun x hx hs => .inr hs); have hM := hn7; refine WL.nil ?_; refine WC.region ?_; refine vm rfl rfl ?_; refine WL.val (OpRun.add rfl rfl (In.i64 (by omega))) rfl ?_; refine va rfl rfl ?_; refine WL.nil ?_; exact ⟨1000 - (i + 1), by omega, i + 1, _, by omega, rfl, ⟨rfl, rfl, rfl, trivial⟩, hB, hM, hG⟩
    ·refine WC.skip ?_; refine WC.region ?_; refine vm rfl rfl ?_; refine WL.val (OpRun.add rfl rfl (In.i64 (by omega))) rfl ?_; refine va rfl rfl ?_; refine WL.nil ?_; exact ⟨1000 - (i + 1), by omega, i + 1, _, by omega, rfl, ⟨rfl, rfl, rfl, trivial⟩, hB, hM, hG⟩
   ·refine WC.exit ?_; refine WC.seq ?_; refine wsr ?_; refine vm rfl rfl ?_; refine WL.step (OpTo.call ⟨Tryz.call66⟩ rfl rfl (all_ok hB hM) (fun vA wA hpA => ?_)); obtain ⟨ss, cap, hsl, hsl2, hsr, hmA⟩ := hpA; have hB := hB.grow hmA; have hM := hM.grow hmA; have hG := hG.grow hmA; obtain ⟨sad, rfl⟩ := hsl.slice; refine WL.val (OpRun.lenS rfl ⟨Tryz.runUnderlying32⟩) rfl ?_; refine vm rfl rfl ?_; refine WL.nil ?_; refine WC.block ?_; refine WC.loop (fun m e w' => ∃ (j : Nat) (f' : Int → Bool), j ≤ ss.length ∧ m = ss.length - j ∧ Sub [(0, .pointer (some ⟨tb, 0, none⟩)), (1, .int .i64 cols), (33, .slice sad ss.length cap), (34, .int .i64 ss.length), (35, .int .i64 j)] e ∧ Blk w' tb 109 [.int .i64 c0, .map (some mb)] ∧ MapK w' mb f' ∧ Sl w' (.slice sad ss.length cap) 3 1 (ss.map (Value.int .i64)) ss.length cap ∧ Mod (fun k => k = tb ∨ k = mb) w w') (ss.length) ⟨0, _, by omega, by omega, ⟨rfl, rfl, rfl, rfl, rfl, trivial⟩, hB, hM, hsl, hG⟩ ?_
    rintro m e wl ⟨j, f3, hj, rfl, hs, hB, hM, hsl, hG⟩
    refine WC.sub hs ?_; refine wsr ?_; refine WL.val (OpRun.lss rfl rfl) rfl ?_; refine WL.nil ?_; refine WC.seq ?_; refine WC.condD rfl (fun hq9 => ?_) (fun hq9 => ?_)
    ·refine WC.skip ?_; refine WC.seq ?_; refine WC.block ?_; refine wsr ?_; obtain ⟨bb, oo, sblk1, hsv, hsb, hsA, hsr1⟩ := hsl.pos (by omega)
     cases hsv
     have hxm := hsr _ (int_mem (ss := ss) (i := j) (by omega)); refine WL.val (OpRun.indexAddr rfl rfl ⟨Tryz.runUnderlying32⟩ ⟨Tryz.sizeOf3⟩ (by omega) (by omega)) rfl ?_; refine WL.val (OpRun.load rfl ⟨Tryz.isAgg3⟩ hsb (v := .int .i64 (ss.getD j 0)) (by rw [← int_get (by omega)]; exact at_get1 (i := j) hsA (by simp; omega))) rfl ?_; refine va rfl rfl ?_; refine WL.nil ?_; refine wsr ?_; refine vm rfl rfl ?_; refine vm rfl rfl ?_; refine WL.val (OpRun.geq rfl rfl) rfl ?_; refine WL.nil ?_; refine WC.condD rfl (fun hq10 => ?_) (fun hq10 => ?_)
     ·refine WC.region ?_; refine vm rfl rfl ?_; refine vn rfl rfl ?_; refine vf 1 Tryz.runUnderlying109 Tryz.sizeOf66 rfl rfl rfl rfl rfl ?_; refine WL.val (OpRun.load rfl ⟨Tryz.isAgg66⟩ hB rfl) rfl ?_; refine vm rfl rfl ?_; refine WL.step (OpTo.deleteK rfl hM (⟨by omega, by omega⟩) (fun w11 hn11 hm11 hz11 => ?_)); have hB := hB.mod hm11 (hM.nblk hB); have hsl := hsl.mod hm11 (fun k hk => fun h2 => by subst h2; obtain ⟨bk, hbk⟩ := hsl.typ hk; exact hM.nblk hbk rfl); have hG := hG.trans hm11 (fun _ h => h) (fun x hx hs => .inr hs); have hM := hn11; refine WL.nil ?_; refine WC.region ?_; refine WL.val (OpRun.add rfl rfl (In.i64 (by omega))) rfl ?_; refine vm rfl rfl ?_; refine WL.nil ?_; exact ⟨ss.length - (j + 1), by omega, j + 1, _, by omega, rfl, ⟨rfl, rfl, rfl, rfl, rfl, trivial⟩, hB, hM, hsl, hG⟩
     ·refine WC.skip ?_; refine WC.region ?_; refine WL.val (OpRun.add rfl rfl (In.i64 (by omega))) rfl ?_; refine vm rfl rfl ?_; refine WL.nil ?_; exact ⟨ss.length - (j + 1), by omega, j + 1, _, by omega, rfl, ⟨rfl, rfl, rfl, rfl, rfl, trivial⟩, hB, hM, hsl, hG⟩
    ·refine WC.exit ?_; refine wsr ?_; refine vm rfl rfl ?_; refine vm rfl rfl ?_; refine vn rfl rfl ?_; refine vf 0 Tryz.runUnderlying109 Tryz.sizeOf3 rfl rfl rfl rfl rfl ?_; refine WL.step (OpTo.store rfl rfl ⟨Tryz.sizeOf3⟩ rfl hB rfl (fun w10 hn10 hm10 hz10 => ?_))
     first | simp only [List.set_cons_zero, List.set_cons_succ] at hn10 | dsimp only [putList, List.set] at hn10
     have hM := hM.mod hm10 (fun h2 => hM.nblk hB h2.symm); have hsl := hsl.mod hm10 (fun k hk => hsl.ne hB rfl k hk); have hG := hG.trans hm10 (fun _ h => h) (fun x hx hs => .inl hs); have hB := hn10; refine WL.nil ?_; refine wsr ?_; refine va rfl rfl ?_; refine WL.nil ?_; refine WC.ret ?_; refine fin_one rfl rfl ?_
     first | (exfalso; omega) | exact ⟨rfl, hB, ⟨_, hM⟩, hG⟩

theorem tnew_ok {w : World} (cols : Nat) (hc : 1 ≤ cols ∧ cols ≤ 1000) : Ret Tryz.prog 46 [.int .i64 cols] w (fun r w' => ∃ tb T, r = .tuple #[.pointer (some ⟨tb, 0, none⟩), .int .i64 0] ∧ TabsW w' tb T ∧ T.cols = cols ∧ Grow w w' ∧ ∀ k, T.own tb k → w.heap.size ≤ k) := by
 refine Ret.of Tryz.func46 Tryz.ntmps46 rfl rfl ?_; refine WC.sub (e' := [(0, .int .i64 cols)]) ⟨rfl, trivial⟩ ?_; have hG : Mod (fun k => False) w w := Mod.refl _ _; refine wsr ?_; refine va rfl rfl ?_; refine va rfl rfl ?_; refine WL.nil ?_; refine wsr ?_; refine WL.step (OpTo.makeMapK rfl (fun bM wM hM hmM hloM hhiM => ?_)); have hG := hG.grow hmM; refine WL.val (OpRun.build rfl tb109_1) rfl ?_; refine WL.step (OpTo.box (vs := [_, _]) rfl rfl rfl (fun bB wB hB hmB hloB hhiB => ?_)); have hM := hM.grow hmB; have hG := hG.grow hmB; refine va rfl rfl ?_; refine WL.nil ?_; refine WC.seq ?_; refine wsr ?_; refine vm rfl rfl ?_; refine vm rfl rfl ?_; refine WL.step (OpTo.call ⟨Tryz.call33⟩ rfl rfl (tresize_ok (c0 := 0) hB hM (by omega) cols hc) (fun vR wR hpR => ?_))
 obtain ⟨rfl, hB2, ⟨f2, hM2⟩, hmR⟩ := hpR; have hG := hG.trans hmR (fun _ h => h) (fun x hx hs => by rcases hs with rfl | rfl; (have := hmM.size; omega); omega); refine va rfl rfl ?_; refine WL.nil ?_; refine wsr ?_; refine vm rfl rfl ?_; refine WL.val (OpRun.neq rfl rfl) rfl ?_; refine WL.nil ?_; refine WC.condD rfl (fun hq4 => ?_) (fun hq4 => ?_)
 ·refine wsr ?_; refine vm rfl rfl ?_; refine va rfl rfl ?_; refine va rfl rfl ?_; refine WL.nil ?_; refine WC.ret ?_; refine fin_two rfl rfl rfl ?_; exact absurd ‹_› (by decide)
 ·refine WC.skip ?_; refine wsr ?_; refine vm rfl rfl ?_; refine va rfl rfl ?_; refine va rfl rfl ?_; refine WL.nil ?_; refine WC.ret ?_; refine fin_two rfl rfl rfl ?_; exact ⟨bB, ⟨cols, bM, f2⟩, rfl, ⟨hB2, hM2, hc⟩, rfl, hG, fun k hk => by rcases hk with rfl | rfl; (have := hmM.size; omega); exact hloM⟩

theorem tset_ok {w : World} {tb : Nat} {T : Tabs} (h : TabsW w tb T) (col : Int) : Ret Tryz.prog 88 [.pointer (some ⟨tb, 0, none⟩), .int .i64 col] w (fun r w' => (∃ b, r = .bool b) ∧ ∃ T', TOp w w' tb T T') := by
 have hB := h.blk; have hM := h.map; have hc := h.cols; refine Ret.of Tryz.func88 Tryz.ntmps88 rfl rfl ?_; refine WC.sub (e' := [(0, .pointer (some ⟨tb, 0, none⟩)), (1, .int .i64 col)]) ⟨rfl, rfl, trivial⟩ ?_; have hG : Mod (fun k => T.own tb k) w w := Mod.refl _ _; refine wsr ?_; refine va rfl rfl ?_; refine WL.nil ?_; refine WC.seq ?_; refine wsr ?_; refine vm rfl rfl ?_; refine vm rfl rfl ?_; refine WL.step (OpTo.call ⟨Tryz.call83⟩ rfl rfl (tis_ok h col) (fun v1 w1 hp1 => ?_)); obtain ⟨rfl, rfl⟩ := hp1; refine WL.nil ?_; refine WC.condD rfl (fun hq2 => ?_) (fun hq2 => ?_)
 ·refine WC.region ?_; refine vm rfl rfl ?_; refine vn rfl rfl ?_; refine vf 1 Tryz.runUnderlying109 Tryz.sizeOf66 rfl rfl rfl rfl rfl ?_; refine WL.val (OpRun.load rfl ⟨Tryz.isAgg66⟩ hB rfl) rfl ?_; refine vm rfl rfl ?_; refine WL.step (OpTo.mapUpdateK rfl rfl rfl hM (⟨by omega, by omega⟩) (fun w3 hn3 hm3 hz3 => ?_)); have hB := hB.mod hm3 (hM.nblk hB); have hG := hG.trans hm3 (fun _ h => h) (fun x hx hs => .inr hs); have hM := hn3; refine WL.nil ?_; refine wsr ?_; refine vm rfl rfl ?_; refine vm rfl rfl ?_; refine WL.step (OpTo.call ⟨Tryz.call83⟩ rfl rfl (tis_ok (TabsW.mk2 hB hM h.cols) col) (fun v4 w4 hp4 => ?_)); obtain ⟨rfl, rfl⟩ := hp4; refine va rfl rfl ?_; refine WL.nil ?_; refine WC.ret ?_; refine fin_one rfl rfl ?_
  exact ⟨⟨_, rfl⟩, _, ⟨TabsW.mk2 hB hM h.cols, hG, rfl, rfl⟩⟩
 ·refine WC.skip ?_; refine wsr ?_; refine vm rfl rfl ?_; refine vm rfl rfl ?_; refine WL.step (OpTo.call ⟨Tryz.call83⟩ rfl rfl (tis_ok (TabsW.mk2 hB hM h.cols) col) (fun v3 w3 hp3 => ?_)); obtain ⟨rfl, rfl⟩ := hp3; refine va rfl rfl ?_; refine WL.nil ?_; refine WC.ret ?_; refine fin_one rfl rfl ?_; exact ⟨⟨_, rfl⟩, _, ⟨TabsW.mk2 hB hM h.cols, hG, rfl, rfl⟩⟩

theorem tclear_ok {w : World} {tb : Nat} {T : Tabs} (h : TabsW w tb T) (col : Int) (hcol : 0 ≤ col ∧ col < 4096) : Ret Tryz.prog 98 [.pointer (some ⟨tb, 0, none⟩), .int .i64 col] w (fun r w' => (∃ b, r = .bool b) ∧ ∃ T', TOp w w' tb T T') := by
 have hB := h.blk; have hM := h.map; have hc := h.cols; refine Ret.of Tryz.func98 Tryz.ntmps98 rfl rfl ?_; refine WC.sub (e' := [(0, .pointer (some ⟨tb, 0, none⟩)), (1, .int .i64 col)]) ⟨rfl, rfl, trivial⟩ ?_; have hG : Mod (fun k => T.own tb k) w w := Mod.refl _ _; refine wsr ?_; refine va rfl rfl ?_; refine WL.nil ?_; refine wsr ?_; refine vm rfl rfl ?_; refine vn rfl rfl ?_; refine vf 1 Tryz.runUnderlying109 Tryz.sizeOf66 rfl rfl rfl rfl rfl ?_; refine WL.val (OpRun.load rfl ⟨Tryz.isAgg66⟩ hB rfl) rfl ?_; refine vm rfl rfl ?_; refine WL.val (OpRun.lookupK rfl rfl hM (by omega)) rfl ?_; refine va rfl rfl ?_; refine WL.nil ?_; refine wsr ?_; refine vm rfl rfl ?_; refine vn rfl rfl ?_
 refine vf 1 Tryz.runUnderlying109 Tryz.sizeOf66 rfl rfl rfl rfl rfl ?_; refine WL.val (OpRun.load rfl ⟨Tryz.isAgg66⟩ hB rfl) rfl ?_; refine vm rfl rfl ?_; refine WL.step (OpTo.deleteK rfl hM (by omega) (fun w1 hn1 hm1 hz1 => ?_)); have hB := hB.mod hm1 (hM.nblk hB); have hG := hG.trans hm1 (fun _ h => h) (fun x hx hs => .inr hs); have hM := hn1; refine WL.nil ?_; refine wsr ?_; refine vm rfl rfl ?_; refine va rfl rfl ?_; refine WL.nil ?_; refine WC.ret ?_; refine fin_one rfl rfl ?_; exact ⟨⟨_, rfl⟩, _, ⟨TabsW.mk2 hB hM h.cols, hG, rfl, rfl⟩⟩

theorem tnone_ok {w : World} {tb : Nat} {T : Tabs} (h : TabsW w tb T) : Ret Tryz.prog 99 [.pointer (some ⟨tb, 0, none⟩)] w (fun r w' => r = .tuple #[] ∧ ∃ T', TOp w w' tb T T') := by
 have hB := h.blk; have hM := h.map; have hc := h.cols; refine Ret.of Tryz.func99 Tryz.ntmps99 rfl rfl ?_; refine WC.sub (e' := [(0, .pointer (some ⟨tb, 0, none⟩))]) ⟨rfl, trivial⟩ ?_; have hG : Mod (fun k => T.own tb k) w w := Mod.refl _ _; refine WC.region ?_; refine vm rfl rfl ?_; refine vn rfl rfl ?_; refine vf 1 Tryz.runUnderlying109 Tryz.sizeOf66 rfl rfl rfl rfl rfl ?_; refine WL.val (OpRun.load rfl ⟨Tryz.isAgg66⟩ hB rfl) rfl ?_; refine WL.step (OpTo.clearK rfl hM (fun w1 hn1 hm1 hz1 => ?_)); have hB := hB.mod hm1 (hM.nblk hB); have hG := hG.trans hm1 (fun _ h => h) (fun x hx hs => .inr hs); have hM := hn1; refine WL.nil ?_; refine fin_none rfl ?_; exact ⟨rfl, _, ⟨TabsW.mk2 hB hM h.cols, hG, rfl, rfl⟩⟩

theorem next_ok {w : World} {tb : Nat} {T : Tabs} (h : TabsW w tb T) (col n : Int) (hn : n ≤ 4611686018427387904) : Ret Tryz.prog 51 [.pointer (some ⟨tb, 0, none⟩), .int .i64 col, .int .i64 n] w (fun r w' => (∃ z, r = .int .i64 z) ∧ Grow w w') := by
 have hB := h.blk; have hM := h.map; have hc := h.cols; refine Ret.of Tryz.func51 Tryz.ntmps51 rfl rfl ?_; refine WC.sub (e' := [(0, .pointer (some ⟨tb, 0, none⟩)), (1, .int .i64 col), (2, .int .i64 n)]) ⟨rfl, rfl, rfl, trivial⟩ ?_; have hG : Mod (fun k => False) w w := Mod.refl _ _; refine wsr ?_; refine va rfl rfl ?_; refine WL.nil ?_; refine WC.scope ?_; refine WC.seq ?_; refine WC.seqVal 16 (.bool (decide (n < 1 ∨ ¬ (0 ≤ col ∧ col < T.cols)))) ?_ ?_
 ·refine WC.region ?_; refine vm rfl rfl ?_; refine WL.val (OpRun.lss rfl rfl) rfl ?_; refine WL.splitD rfl rfl (fun hq1 => ?_) (fun hq1 => ?_)
  ·refine WL.pass rfl rfl rfl rfl ?_; refine WL.pass rfl rfl rfl rfl ?_; refine WL.pass rfl rfl rfl rfl ?_; refine WL.pass rfl rfl rfl rfl ?_; refine WL.val (OpRun.pickT rfl rfl) rfl ?_; refine WL.nil ?_; refine ⟨rfl, ?_, by repeat (first | exact Keep.refl _ | refine Keep.cons ?_ rfl)⟩
   first | exact congrArg (fun b => some (Value.bool b)) (decide_eq_true (by omega)).symm | exact congrArg (fun b => some (Value.bool b)) (decide_eq_false (by omega)).symm | exact congrArg (fun b => some (Value.bool b)) (decide_eq_decide.2 (by omega))
  ·refine WL.want rfl rfl ?_; refine vm rfl rfl ?_; refine WL.want rfl rfl ?_; refine vm rfl rfl ?_; refine WL.want rfl rfl ?_; refine WL.step (OpTo.call ⟨Tryz.call83⟩ rfl rfl (tis_ok h col) (fun v2 w2 hp2 => ?_)); obtain ⟨rfl, rfl⟩ := hp2; refine WL.want rfl rfl ?_; refine WL.val (OpRun.notD rfl) rfl ?_; refine WL.val (OpRun.pickF rfl rfl) rfl ?_; refine WL.nil ?_; refine ⟨rfl, ?_, by repeat (first | exact Keep.refl _ | refine Keep.cons ?_ rfl)⟩
   first | exact congrArg (fun b => some (Value.bool b)) (decide_eq_true (by omega)).symm | exact congrArg (fun b => some (Value.bool b)) (decide_eq_false (by omega)).symm | exact congrArg (fun b => some (Value.bool b)) (decide_eq_decide.2 (by omega))
 ·refine WC.condD rfl (fun hq1 => ?_) (fun hq1 => ?_)
  ·refine wsr ?_; refine vm rfl rfl ?_; refine vm rfl rfl ?_; refine WL.step (OpTo.call ⟨Tryz.call84⟩ rfl rfl (near_ok h col) (fun v2 w2 hp2 => ?_)); obtain ⟨⟨z, rfl⟩, rfl⟩ := hp2; refine va rfl rfl ?_; refine WL.nil ?_; refine WC.ret ?_; refine fin_one rfl rfl ?_; exact ⟨⟨_, rfl⟩, hG⟩
  ·refine WC.skip ?_; refine WC.seq ?_; refine WC.label ?_; refine WC.seq ?_; refine wsr ?_; refine vm rfl rfl ?_; refine WL.step (OpTo.call ⟨Tryz.call66⟩ rfl rfl (all_ok hB hM) (fun vA wA hpA => ?_)); obtain ⟨ss, cap, hsl, hsl2, hsr, hmA⟩ := hpA; have hB := hB.grow hmA; have hG := hG.grow hmA; obtain ⟨sad, rfl⟩ := hsl.slice; refine WL.val (OpRun.lenS rfl ⟨Tryz.runUnderlying32⟩) rfl ?_; refine vm rfl rfl ?_; refine WL.nil ?_; refine WC.block ?_; refine WC.loop (fun m e w' => ∃ (j : Nat) (n' : Int), 1 ≤ n' ∧ n' ≤ n ∧ j ≤ ss.length ∧ m = ss.length - j ∧ Sub [(0, .pointer (some ⟨tb, 0, none⟩)), (1, .int .i64 col), (2, .int .i64 n'), (21, .slice sad ss.length cap), (22, .int .i64 ss.length), (23, .int .i64 j)] e ∧ Blk w' tb 109 [.int .i64 T.cols, .map (some T.mb)] ∧ Sl w' (.slice sad ss.length cap) 3 1 (ss.map (Value.int .i64)) ss.length cap ∧ Grow w w') (ss.length) ⟨0, n, by omega, by omega, by omega, by omega, ⟨rfl, rfl, rfl, rfl, rfl, rfl, trivial⟩, hB, hsl, hG⟩ ?_
   rintro m e wl ⟨j, n2, hn1, hn2, hj, rfl, hs, hB, hsl, hG⟩
   refine WC.sub hs ?_; refine wsr ?_; refine WL.val (OpRun.lss rfl rfl) rfl ?_; refine WL.nil ?_; refine WC.seq ?_; refine WC.condD rfl (fun hq5 => ?_) (fun hq5 => ?_)
   ·refine WC.skip ?_; refine WC.seq ?_; refine WC.block ?_; refine wsr ?_; obtain ⟨bb, oo, sblk1, hsv, hsb, hsA, hsr1⟩ := hsl.pos (by omega)
    cases hsv
    refine WL.val (OpRun.indexAddr rfl rfl ⟨Tryz.runUnderlying32⟩ ⟨Tryz.sizeOf3⟩ (by omega) (by omega)) rfl ?_; refine WL.val (OpRun.load rfl ⟨Tryz.isAgg3⟩ hsb (v := .int .i64 (ss.getD j 0)) (by rw [← int_get (by omega)]; exact at_get1 (i := j) hsA (by simp; omega))) rfl ?_; refine va rfl rfl ?_; refine WL.nil ?_; refine WC.seq ?_; refine wsr ?_; refine vm rfl rfl ?_; refine vm rfl rfl ?_; refine WL.val (OpRun.leq rfl rfl) rfl ?_; refine WL.nil ?_; refine WC.condD rfl (fun hq6 => ?_) (fun hq6 => ?_)
    ·refine WC.exit ?_; refine WC.region ?_; refine WL.val (OpRun.add rfl rfl (In.i64 (by omega))) rfl ?_; refine vm rfl rfl ?_; refine WL.nil ?_; exact ⟨ss.length - (j + 1), by omega, j + 1, _, by omega, by omega, by omega, rfl, ⟨rfl, rfl, rfl, rfl, rfl, rfl, trivial⟩, hB, hsl, hG⟩
    ·refine WC.skip ?_; refine wsr ?_; refine vm rfl rfl ?_; refine WL.val (OpRun.sub rfl rfl (In.i64 (by omega))) rfl ?_; refine va rfl rfl ?_; refine WL.nil ?_; refine wsr ?_; refine vm rfl rfl ?_; refine WL.val (OpRun.eql rfl rfl) rfl ?_; refine WL.nil ?_; refine WC.condD rfl (fun hq7 => ?_) (fun hq7 => ?_)
     ·refine wsr ?_; refine vm rfl rfl ?_; refine va rfl rfl ?_; refine WL.nil ?_; refine WC.ret ?_; refine fin_one rfl rfl ?_; exact ⟨⟨_, rfl⟩, hG⟩
     ·refine WC.skip ?_; refine WC.region ?_; refine WL.val (OpRun.add rfl rfl (In.i64 (by omega))) rfl ?_; refine vm rfl rfl ?_; refine WL.nil ?_; exact ⟨ss.length - (j + 1), by omega, j + 1, _, by omega, by omega, by omega, rfl, ⟨rfl, rfl, rfl, rfl, rfl, rfl, trivial⟩, hB, hsl, hG⟩
   ·refine WC.exit ?_; refine wsr ?_; refine vm rfl rfl ?_; refine vn rfl rfl ?_; refine vf 0 Tryz.runUnderlying109 Tryz.sizeOf3 rfl rfl rfl rfl rfl ?_; refine WL.val (OpRun.load rfl ⟨Tryz.isAgg3⟩ hB rfl) rfl ?_; refine WL.val (OpRun.sub rfl rfl (In.i64 (by omega))) rfl ?_; refine va rfl rfl ?_; refine WL.nil ?_; refine WC.ret ?_; refine fin_one rfl rfl ?_; exact ⟨⟨_, rfl⟩, hG⟩

end Go.Eng
namespace Go.Eng
open Go Go.Proofs

variable {P : Program} {n : Nat} {e : Env} {w : World}

theorem run_loadVarA {t U : TypeId} {b o : Nat} {cs vs : List Value} (ht : TAgg P t true) (hs : TSize P t vs.length) (hb : Blk w b U cs) (hv : At cs o vs) :
    (loadVar t ⟨b, o, none⟩).run P w = .ok (.agg vs.toArray) w := by
  unfold loadVar
  rw [run_bind, ht.out]; dsimp only
  rw [if_pos rfl, run_bind, hs.out]; dsimp only
  rw [run_bind]
  unfold loadCells
  rw [run_loadCells vs.length 0 #[] vs rfl (fun j hj => by
    rw [Nat.zero_add]
    have := hv.get j hj
    have h2 : vs[j]? = some vs[j] := List.getElem?_eq_getElem hj
    rw [h2] at this ⊢
    exact hb.cell this)]
  simp

theorem run_loadVar1 {t U : TypeId} {b o : Nat} {cs : List Value} {v : Value} (ht : TAgg P t false) (hb : Blk w b U cs) (hv : cs[o]? = some v) :
    (loadVar t ⟨b, o, none⟩).run P w = .ok v w := by
  unfold loadVar
  rw [run_bind, ht.out]; dsimp only
  rw [if_neg (by simp)]
  exact run_load (hb.cell hv)

theorem fin_cell {fn : Func} {Φ : Value → World → Prop} {t : Tmp} {T : TypeId} {a : Addr} {v : Value} (x : Exit) (hx : x = .normal ∨ x = .ret) (hr : fn.results = #[.cell t T]) (hv : look e t = some (.pointer (some a)))
    (hl : (loadVar T a).run P w = .ok v w) (h : Φ v w) : fin P fn n Φ x e w :=
  ⟨hx, v, fun ac ha => by
    have h1 := ha.at_ t _ hv
    rw [Array.getD_eq_getD_getElem?] at h1
    unfold results
    rw [hr]
    simp [h1, hl, asAddr, Result.andThen], h⟩
end Go.Eng
