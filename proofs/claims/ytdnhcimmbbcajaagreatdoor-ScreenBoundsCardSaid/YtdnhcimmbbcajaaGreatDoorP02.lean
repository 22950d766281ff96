/-
  A part of a proof (Eng7 Eng8): lemmas on what the program's functions do. No condition but those that each lemma states.
-/
import Derived.Test.YtdnhcimmbbcajaaGreatDoorP01
set_option maxRecDepth 8000
set_option linter.all false
namespace Go.Eng
open Go
variable {P : Program} {n : Nat} {e : Env} {w : World} {K : Env → World → Prop} {ops rest : List Oper} {ty : TypeId} {ps : String} {af : Array Edge} {d : Nat} {g : Option (Nat × Bool)} {dst : Option Tmp}
  {x y : Operand} {t u : TypeId} {b o : Nat}

theorem run_eqS (k : Nat) {el : TypeId} {ad : Option Addr} {len cap l2 c2 : Nat} (ht : TIs P t (.slice el)) :
    (Op.equalIn (k + 1) t (.slice ad len cap) (.slice none l2 c2)).run P w = .ok ad.isNone w := by
  unfold Op.equalIn
  rw [run_bind, ht.out]
  cases ad <;> rfl
theorem run_eqP (k : Nat) {el : TypeId} {ad : Option Addr} (ht : TIs P t (.pointer el)) :
    (Op.equalIn (k + 1) t (.pointer ad) (.pointer none)).run P w = .ok ad.isNone w := by
  unfold Op.equalIn
  rw [run_bind, ht.out]
  cases ad <;> rfl

/-- s == nil -/
theorem OpRun.eqlNil {el : TypeId} {ad : Option Addr} {len cap l2 c2 : Nat} (hx : oval e x = some (.slice ad len cap)) (hy : oval e y = some (.slice none l2 c2)) (ht : TIs P t (.slice el)) :
    OpRun P n e w { dst, op := .binOp .eql t x y u, type := ty, pos := ps, after := af, guard := g } (.bool ad.isNone) w :=
  ⟨fun ac ha => by
    have h1 : (eqGuard .eql t x y (.slice ad len cap) (.slice none l2 c2)).run P w = .ok () w := rfl
    have h2 : (binOp .eql t (.slice ad len cap) (.slice none l2 c2)).run P w = .ok (.bool ad.isNone) w := by
      show (do pure (Value.bool (← Op.equal t (.slice ad len cap) (.slice none l2 c2))) : Sem Value).run P w = _
      rw [run_bind, show (Op.equal t (.slice ad len cap) (.slice none l2 c2)).run P w = _ from run_eqS 9999 ht]; rfl
    simp only [execOp, ha.eval hx, ha.eval hy]
    rw [run_bind, run_bind, h1]; dsimp only
    rw [h2]; rfl⟩

/-- s == nil, of a pointer -/
theorem OpRun.eqlNilP {el : TypeId} {ad : Option Addr} (hx : oval e x = some (.pointer ad)) (hy : oval e y = some (.pointer none)) (ht : TIs P t (.pointer el)) :
    OpRun P n e w { dst, op := .binOp .eql t x y u, type := ty, pos := ps, after := af, guard := g } (.bool ad.isNone) w :=
  ⟨fun ac ha => by
    have h1 : (eqGuard .eql t x y (.pointer ad) (.pointer none)).run P w = .ok () w := rfl
    have h2 : (binOp .eql t (.pointer ad) (.pointer none)).run P w = .ok (.bool ad.isNone) w := by
      show (do pure (Value.bool (← Op.equal t (.pointer ad) (.pointer none))) : Sem Value).run P w = _
      rw [run_bind, show (Op.equal t (.pointer ad) (.pointer none)).run P w = _ from run_eqP 9999 ht]; rfl
    simp only [execOp, ha.eval hx, ha.eval hy]
    rw [run_bind, run_bind, h1]; dsimp only
    rw [h2]; rfl⟩

/-- []T{} -/
theorem OpTo.buildSlice0 {el sz : TypeId} {parts : Array (Nat × Operand)} (hp : parts = #[]) (ht : TIs P t (.slice el)) (hs : TSize P el sz) (hd : Nat.blt d n = true)
    (kk : ∀ b w', Blk w' b el [] → Grow w w' → w.heap.size ≤ b → b < w'.heap.size → K ((d, .slice (some ⟨b, 0, none⟩) 0 0) :: e) w') :
    OpTo P n e w { dst := some d, op := .buildSlice t 0 parts, type := ty, pos := ps, after := af, guard := g } K := by
  subst hp
  refine OpTo.val (v := .slice (some ⟨w.heap.size, 0, none⟩) 0 0) (w' := w.alloc (.cells #[] el)) ⟨fun ac ha => ?_⟩ hd
    (kk _ _ (Blk.new el []) (grow_alloc _) (Nat.le_refl _) (by simp))
  have h2 : (Instr.buildSlice t 0 #[]).run P w = .ok (.slice (some ⟨w.heap.size, 0, none⟩) 0 0) (w.alloc (.cells #[] el)) := by
    unfold Instr.buildSlice
    rw [run_bind, ht.out]; dsimp only
    rw [run_bind, hs.out]; dsimp only
    rw [if_neg (by omega), if_pos (by omega), run_bind, run_pure]; dsimp only
    simp only [Nat.zero_mul, Instr.fill]
    have hz : ∀ z : Array Value, (Array.map (fun x => z[x % z.size]!) (Array.range 0)) = #[] := by intro z; simp
    rw [hz]
    rfl
  simp only [execOp]
  rw [run_bind]
  simp only [List.map_toArray, List.map_nil]
  rw [h2]; rfl

theorem OpTo.storeS {T : TypeId} {cs : List Value} {v : Value} (hx : oval e x = some (.pointer (some ⟨b, o, none⟩))) (hy : oval e y = some v) (hs : TSize P t 1) (hv : Value.one v = true) (hb : Blk w b T cs) (ho : o < cs.length)
    (k : ∀ w', Blk w' b T (cs.set o v) → Mod (fun k => k = b) w w' → w'.heap.size = w.heap.size → K e w') :
    OpTo P n e w { dst := none, op := .store t x y, type := ty, pos := ps, after := af, guard := g } K :=
  OpTo.store hx hy hs hv hb (by simpa [Nat.blt_eq] using ho) k

theorem OpTo.storeAS {T : TypeId} {cs vs : List Value} (hx : oval e x = some (.pointer (some ⟨b, o, none⟩))) (hy : oval e y = some (.agg vs.toArray)) (hs : TSize P t vs.length) (hv : vs.all Value.one = true) (hb : Blk w b T cs) (ho : o + vs.length ≤ cs.length)
    (k : ∀ w', Blk w' b T (putList cs o vs) → Mod (fun k => k = b) w w' → w'.heap.size = w.heap.size → K e w') :
    OpTo P n e w { dst := none, op := .store t x y, type := ty, pos := ps, after := af, guard := g } K :=
  OpTo.storeA hx hy hs hv hb (by simpa [Nat.ble_eq] using ho) k

theorem Keep.look {e e' : Env} {t : Nat} {v : Value} (hk : Keep e e') (h : look e t = some v) : look e' t = some v := hk t v h

end Go.Eng
namespace Go.Eng
open Go
variable {P : Program} {n : Nat} {e : Env} {w : World} {K : Env → World → Prop} {ops rest : List Oper} {ty : TypeId} {ps : String} {af : Array Edge} {d : Nat} {g : Option (Nat × Bool)} {dst : Option Tmp}
  {x y : Operand} {t u : TypeId} {b o : Nat}

theorem OpRun.capS {el : TypeId} {args : Array Operand} {ad : Option Addr} {len cap : Nat} (hv : ovals e args.toList = some [.slice ad len cap]) (ht : TIs P t (.slice el)) :
    OpRun P n e w { dst, op := .call { callee := .builtin .cap, args, argTypes := #[t] }, type := ty, pos := ps, after := af, guard := g } (.int .i64 cap) w :=
  run_builtin hv fun cs => by
    have h1 : (Builtin.cap_ #[t] ty #[.slice ad len cap]).run P w = .ok (.int .i64 cap) w := by
      unfold Builtin.cap_
      simp only [List.getElem?_toArray, List.getElem?_cons_zero]
      rw [run_bind, ht.out]; rfl
    show (do pure (Next.value (← Builtin.cap_ #[t] ty #[.slice ad len cap])) : Sem Next).run P w = _
    rw [run_bind, h1]; rfl

theorem toList_all {xs : List Value} (h : xs.all Value.one = true) : ∀ v ∈ xs.toArray.toList, Value.one v = true := by simpa using h

/-- append(s, make([]T, k)...) -/
theorem append_runZ {s : Value} {st el sz len cap k by_ : Nat} {cs zs : List Value} {z : Value} {ik : IntKind} (hst : TIs P st (.slice el)) (hu : TIs P u (.int ik)) (hsz : TSize P el sz) (hS : Sl w s el sz cs len cap)
    (hz : TZero P el z) (hzs : z.cells.size = sz) (hzl : (Builtin.zeroCells z.cells k).toList = zs) (hz1 : zs.all Value.one = true) (hby : TBytes P el by_) (hbig : (2 * (len + k) + 768) * by_ ≤ 281474976710656) (hm : len + k ≤ 4611686018427387904) (hb0 : Nat.beq by_ 0 = false) (hs0 : Nat.beq sz 0 = false) (hk : 0 < k) :
    ∃ v' w', (Builtin.append_ #[st, u] ty #[s, .int ik k]).run P w = .ok v' w' ∧ Apd w s el sz (cs ++ zs) (len + k) v' w' := by
  have hb0' : by_ ≠ 0 := by intro h; subst h; simp at hb0
  have hs0' : sz ≠ 0 := by intro h; subst h; simp at hs0
  have hxl : zs.length = k * sz := by rw [← hzl, zeroCells_length, hzs]
  have hkb : (2 * (len + k) + 768) * by_ = 2 * (k * by_) + 2 * (len * by_) + 768 * by_ := by rw [Nat.add_mul, Nat.mul_add, Nat.add_mul, Nat.mul_assoc, Nat.mul_assoc]; omega
  have hsv : ∃ a, s = .slice a len cap := by
    rcases hS.shape with ⟨rfl, _, rfl, rfl⟩ | ⟨b, o, blk, rfl, _⟩
    · exact ⟨_, rfl⟩
    · exact ⟨_, rfl⟩
  obtain ⟨a, rfl⟩ := hsv
  have hwr : IntKind.i64.wrap (k : Int) = k := wrap_in (k := .i64) (In.i64 (by omega))
  unfold Builtin.append_
  simp only [List.getElem?_toArray, List.getElem?_cons_zero, List.getElem?_cons_succ]
  rw [run_bind, hst.out]; dsimp only
  rw [run_bind, hsz.out]; dsimp only
  rw [run_bind, hu.out]; dsimp only
  rw [run_bind, run_pure]; dsimp only
  rw [if_pos rfl]
  simp only [asInt, asIntOf]
  rw [run_bind, run_bind, run_pure]; dsimp only
  rw [run_pure]; dsimp only
  rw [hwr, if_neg (by omega)]
  obtain ⟨i, hi, hib⟩ := hby.out w
  rw [run_bind, hi]; dsimp only
  rw [if_neg (by rw [hib]; have : (k : Int) * (by_ : Int) = ((k * by_ : Nat) : Int) := by simp
                 rw [this]; omega), run_bind, run_pure]; dsimp only
  simp only [Int.toNat_natCast, Bool.not_true, Bool.false_eq_true, if_false]
  rw [if_neg (show ¬ k * sz = 0 from by intro h; rcases Nat.mul_eq_zero.1 h with h | h <;> omega)]
  have happ : ∀ w', (do pure (Builtin.zeroCells (← zeroValue el).cells k) : Sem (Array Value)).run P w' = .ok zs.toArray w' := fun w' => by
    rw [run_bind, hz.out]; dsimp only
    rw [run_pure, ← hzl, Array.toArray_toList]
  by_cases hfit : len + k ≤ cap
  · rw [if_pos hfit, run_bind, happ]; dsimp only
    obtain ⟨w', a', hs, h1, h2⟩ := apd_fits (P := P) hS hxl hz1 hfit
    cases hs
    refine ⟨_, w', ?_, h2⟩
    cases a with
    | none => cases h1; rfl
    | some a => dsimp only at h1 ⊢; rw [run_bind, h1]; rfl
  · rw [if_neg hfit]
    rw [run_bind, hi]; dsimp only
    rw [if_neg (by rintro ⟨h, _⟩; simp [IntKind.max, IntKind.bits, IntKind.signed] at h; omega), run_bind, hi]; dsimp only
    have hle := nextslicecap_le (need := len + k) (cap := cap) (by omega)
    rw [if_neg (by
      rw [hib]
      have : Builtin.nextslicecap (len + k) cap * by_ ≤ (2 * (len + k) + 768) * by_ := Nat.mul_le_mul_right _ hle
      omega)]
    obtain ⟨kc, w1, hk1, hsame, t', ht'⟩ := run_choose_cap (P := P) (need := len + k) (old := cap) (el := el) w
    rw [run_bind, hk1]; dsimp only
    obtain ⟨i1, hi1, _⟩ := hby.out w1
    rw [run_bind, hi1]; dsimp only
    rw [run_bind, run_askRoom]; dsimp only
    have hsrc1 : Src w1 (.slice a len cap) sz cs len := hS.src.grow fun k _ => by rw [hsame.1]
    rw [run_bind, run_firstCells hsrc1]; dsimp only
    rw [run_bind, happ]; dsimp only
    rw [run_bind, hz.out]; dsimp only
    have hcut := cut_appendCap (need := len + k) (old := cap) (el := el) (t := t') hm
    rw [← ht'] at hcut
    have hg := apd_grows (P := P) (z := z.cells) hS hxl hzs hcut.1 hcut.2 hsame
    rw [run_bind, hg.1]
    exact ⟨_, _, rfl, hg.2⟩

theorem zeroCells_all {z : Value} {k : Nat} (h : z.cells.toList.all Value.one = true) (h0 : 0 < z.cells.size) : (Builtin.zeroCells z.cells k).toList.all Value.one = true := by
  rw [List.all_eq_true] at h ⊢
  intro v hv
  simp only [Builtin.zeroCells, Array.toList_map, List.mem_map] at hv
  obtain ⟨i, _, rfl⟩ := hv
  apply h
  have : i % z.cells.size < z.cells.size := Nat.mod_lt _ h0
  rw [getElem!_pos z.cells _ this]
  exact Array.getElem_mem_toList this

theorem OpTo.appendZ {s : Value} {st el sz len cap k by_ : Nat} {cs : List Value} {z : Value} {ik : IntKind} {kx : Int} {args : Array Operand} (hv : ovals e args.toList = some [s, .int ik kx]) (hkx : kx = (k : Int)) (hst : TIs P st (.slice el)) (hu : TIs P u (.int ik)) (hsz : TSize P el sz)
    (hS : Sl w s el sz cs len cap) (hz : TZero P el z) (hzs : z.cells.size = sz) (hz1 : z.cells.toList.all Value.one = true) (hby : TBytes P el by_) (hbig : (2 * (len + k) + 768) * by_ ≤ 281474976710656) (hm : len + k ≤ 4611686018427387904) (hb0 : Nat.beq by_ 0 = false) (hs0 : Nat.beq sz 0 = false) (hk : 0 < k) (hd : Nat.blt d n = true)
    (kk : ∀ v w', Apd w s el sz (cs ++ (Builtin.zeroCells z.cells k).toList) (len + k) v w' → K ((d, v) :: e) w') :
    OpTo P n e w { dst := some d, op := .call { callee := .builtin .append, args, argTypes := #[st, u] }, type := ty, pos := ps, after := af, guard := g } K := by
  subst hkx
  have hs0' : 0 < sz := by cases sz with | zero => simp at hs0 | succ k => omega
  obtain ⟨v', w', h1, h2⟩ := append_runZ (ty := ty) hst hu hsz hS hz hzs rfl (zeroCells_all hz1 (by rw [hzs]; exact hs0')) hby hbig hm hb0 hs0 hk
  refine OpTo.val (run_builtin hv fun cs => ?_) hd (kk v' w' h2)
  show (do pure (Next.value (← Builtin.append_ #[st, u] ty #[s, .int ik k])) : Sem Next).run P w = _
  rw [run_bind, h1]; rfl

/-- Slices side by side. -/
def Parts (w : World) (T sz : Nat) : List Value → List (List Value) → Prop
  | [], [] => True
  | v :: vs, c :: cs => (∃ len cap, Sl w v T sz c len cap) ∧ c.all Value.one = true ∧ Parts w T sz vs cs
  | _, _ => False

theorem Parts.length {T sz : Nat} : ∀ {vs : List Value} {cs : List (List Value)}, Parts w T sz vs cs → vs.length = cs.length
  | [], [], _ => rfl
  | _ :: _, _ :: _, h => by simp [h.2.2.length]
  | [], _ :: _, h => h.elim
  | _ :: _, [], h => h.elim

theorem Parts.get {T sz : Nat} : ∀ {vs : List Value} {cs : List (List Value)}, Parts w T sz vs cs → ∀ i, i < vs.length → (∃ len cap, Sl w (vs.getD i default) T sz (cs.getD i []) len cap) ∧ (cs.getD i []).all Value.one = true
  | [], [], _, i, hi => by simp at hi
  | _ :: _, _ :: _, h, 0, _ => ⟨h.1, h.2.1⟩
  | _ :: _, _ :: _, h, i + 1, hi => by simpa using h.2.2.get i (by simpa using hi)
  | [], _ :: _, h, _, _ => h.elim
  | _ :: _, [], h, _, _ => h.elim

theorem Parts.mod {T sz : Nat} {S : Nat → Prop} {w' : World} (hm : Mod S w w') : ∀ {vs : List Value} {cs : List (List Value)}, Parts w T sz vs cs → (∀ v ∈ vs, ∀ k, sblk v = some k → ¬ S k) → Parts w' T sz vs cs
  | [], [], _, _ => trivial
  | v :: vs, _ :: _, ⟨⟨l, c, h⟩, h1, h2⟩, hs => ⟨⟨l, c, h.mod hm (hs v (by simp))⟩, h1, Parts.mod hm h2 fun u hu => hs u (by simp [hu])⟩
  | [], _ :: _, h, _ => h.elim
  | _ :: _, [], h, _ => h.elim

theorem Parts.grow {T sz : Nat} {w' : World} {vs : List Value} {cs : List (List Value)} (h : Parts w T sz vs cs) (hm : Grow w w') : Parts w' T sz vs cs := h.mod hm fun _ _ _ _ h => h

theorem Parts.lt {T sz : Nat} : ∀ {vs : List Value} {cs : List (List Value)}, Parts w T sz vs cs → ∀ v ∈ vs, ∀ k, sblk v = some k → k < w.heap.size
  | [], [], _, v, hv, _, _ => by cases hv
  | u :: vs, _ :: _, ⟨⟨l, c, h⟩, h1, h2⟩, v, hv, k, hk => by
    rcases List.mem_cons.1 hv with rfl | hv
    · exact h.lt hk
    · exact h2.lt v hv k hk
  | [], _ :: _, h, _, _, _, _ => h.elim
  | _ :: _, [], h, _, _, _, _ => h.elim

theorem take_flat (cs : List (List Value)) (k : Nat) (h : k < cs.length) : (cs.take (k + 1)).flatten = (cs.take k).flatten ++ cs.getD k [] := by
  rw [List.take_succ_eq_append_getElem h, List.flatten_append, List.getD_eq_getElem?_getD, List.getElem?_eq_getElem h]
  simp only [List.flatten_cons, List.flatten_nil, List.append_nil, Option.getD_some]

theorem take_flat_le (cs : List (List Value)) (k : Nat) : (cs.take k).flatten.length ≤ cs.flatten.length := by
  conv => rhs; rw [← List.take_append_drop k cs]
  rw [List.flatten_append, List.length_append]; omega

theorem Sl.slice {v : Value} {T sz len cap : Nat} {cs : List Value} (h : Sl w v T sz cs len cap) : ∃ ad, v = .slice ad len cap := by
  rcases h.shape with ⟨rfl, _, rfl, rfl⟩ | ⟨b, o, blk, rfl, _⟩
  · exact ⟨none, rfl⟩
  · exact ⟨_, rfl⟩
theorem Sl.pos {v : Value} {T sz len cap : Nat} {cs : List Value} (h : Sl w v T sz cs len cap) (hl : 0 < len) :
    ∃ b o blk, v = .slice (some ⟨b, o, none⟩) len cap ∧ Blk w b T blk ∧ At blk o cs ∧ o + cap * sz ≤ blk.length := by
  rcases h.shape with ⟨rfl, _, rfl, rfl⟩ | h
  · omega
  · exact h

theorem fill5 {a b c d e z : Value} : Instr.fill (fun i => some (i * 5, 5)) ((Array.range (1 * 5)).map (z.cells[· % z.cells.size]!)) [(0, .agg #[a, b, c, d, e])] = some [a, b, c, d, e].toArray := by
  have h : ((Array.range (1 * 5)).map (z.cells[· % z.cells.size]!)).toList.length = 5 := by simp
  generalize ((Array.range (1 * 5)).map (z.cells[· % z.cells.size]!)) = m at h
  rcases m with ⟨l⟩
  match l, h with
  | [_, _, _, _, _], _ => rfl

theorem get1 {vs : List Value} {k : Nat} (h : k < vs.length) : vs[0 + k * 1]? = some (vs.getD k default) := by
  rw [Nat.zero_add, Nat.mul_one, List.getElem?_eq_getElem h, List.getD_eq_getElem?_getD, List.getElem?_eq_getElem h]; rfl

theorem flat_take_all (cs : List (List Value)) : (cs.take cs.length).flatten = cs.flatten := by rw [List.take_length]

end Go.Eng
