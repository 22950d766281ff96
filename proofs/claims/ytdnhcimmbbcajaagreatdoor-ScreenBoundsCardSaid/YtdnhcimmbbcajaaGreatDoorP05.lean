/-
  A part of a proof (Grid0 Grid1 Grid2): lemmas on what the program's functions do. No condition but those that each lemma states.
-/
import Derived.Test.YtdnhcimmbbcajaaGreatDoorP04
set_option maxRecDepth 8000
set_option linter.all false
namespace Go.Eng
open Go

def Good (c : Nat) (l : List Cell) : Prop := l.length = c ∧ rightB l = true

theorem mend_getD (l : List Cell) (i : Nat) (hi : i < l.length) : (mend l).getD i default = mendCell l i := by
  simp [mend, List.getD_eq_getElem?_getD, hi]

theorem mend_kind {l : List Cell} {i : Nat} : (mendCell l i).kind = if fitsB l i = true then (l.getD i default).kind else 0 := by
  unfold mendCell fitsB
  dsimp only
  generalize (l.getD i default) = c
  by_cases h0 : c.kind = 0
  · simp [h0]
  by_cases h1 : c.kind = 1
  · simp [h1]; split <;> simp_all [blank]
  by_cases h2 : c.kind = 2
  · simp [h2]; split <;> simp_all [blank]
  · simp [h0, h1, h2]

theorem fits0 {l : List Cell} {i : Nat} (h : (l.getD i default).kind = 0) : fitsB l i = true := by unfold fitsB; dsimp only; rw [if_pos h]
theorem fits1 {l : List Cell} {i : Nat} (h : (l.getD i default).kind = 1) : (fitsB l i = true) ↔ (i + 1 < l.length ∧ (l.getD (i + 1) default).kind = 2) := by
  unfold fitsB; dsimp only; rw [if_neg (by omega), if_pos h]
  unfold isB
  rw [decide_eq_true_eq, show ((i : Int) + 1).toNat = i + 1 from by omega]
  exact ⟨fun h => ⟨by omega, h.2.2⟩, fun h => ⟨by omega, by omega, h.2⟩⟩
theorem fits2 {l : List Cell} {i : Nat} (hi : i < l.length) (h : (l.getD i default).kind = 2) : (fitsB l i = true) ↔ (1 ≤ i ∧ (l.getD (i - 1) default).kind = 1) := by
  unfold fitsB; dsimp only; rw [if_neg (by omega), if_neg (by omega), if_pos h]
  unfold isB
  rw [decide_eq_true_eq, show ((i : Int) - 1).toNat = i - 1 from by omega]
  exact ⟨fun h => ⟨by omega, h.2.2⟩, fun h => ⟨by omega, by omega, h.2⟩⟩
theorem fitsN {l : List Cell} {i : Nat} (h0 : (l.getD i default).kind ≠ 0) (h1 : (l.getD i default).kind ≠ 1) (h2 : (l.getD i default).kind ≠ 2) : fitsB l i = false := by
  unfold fitsB; dsimp only; rw [if_neg h0, if_neg h1, if_neg h2]

theorem fits_mend (l : List Cell) (i : Nat) (hi : i < l.length) : fitsB (mend l) i = true := by
  by_cases hf : fitsB l i = true
  · have hk : ((mend l).getD i default).kind = (l.getD i default).kind := by rw [mend_getD l i hi, mend_kind, if_pos hf]
    by_cases h0 : (l.getD i default).kind = 0
    · exact fits0 (hk.trans h0)
    by_cases h1 : (l.getD i default).kind = 1
    · rw [fits1 (hk.trans h1), mend_length]
      obtain ⟨hl, h2⟩ := (fits1 h1).1 hf
      refine ⟨hl, ?_⟩
      rw [mend_getD l (i + 1) hl, mend_kind, if_pos, h2]
      rw [fits2 hl h2]
      exact ⟨by omega, by rw [Nat.add_sub_cancel]; exact h1⟩
    by_cases h2 : (l.getD i default).kind = 2
    · rw [fits2 (by rw [mend_length]; exact hi) (hk.trans h2)]
      obtain ⟨hl, h3⟩ := (fits2 hi h2).1 hf
      refine ⟨hl, ?_⟩
      rw [mend_getD l (i - 1) (by omega), mend_kind, if_pos, h3]
      rw [fits1 h3, show i - 1 + 1 = i from by omega]
      exact ⟨hi, h2⟩
    · rw [fitsN h0 h1 h2] at hf; cases hf
  · exact fits0 (by rw [mend_getD l i hi, mend_kind, if_neg hf])

theorem mend_right (l : List Cell) : rightB (mend l) = true := by
  unfold rightB
  rw [List.all_eq_true]
  intro i hi
  rw [List.mem_range, mend_length] at hi
  rw [fits_mend l i hi, mend_getD l i hi]
  simp only [Bool.true_and, Bool.not_eq_true', Bool.and_eq_false_iff, decide_eq_false_iff_not]
  by_cases h2 : (mendCell l i).kind = 2
  · right
    rw [Decidable.not_not]
    rw [mend_kind] at h2
    split at h2
    · rename_i hf
      rw [mendCell_tail rfl h2 hf]
    · cases h2
  · exact .inl h2

theorem rightB_iff {l : List Cell} : rightB l = true ↔ ∀ i, i < l.length → fitsB l i = true ∧ ((l.getD i default).kind = 2 → (l.getD i default).r = 0) := by
  unfold rightB
  rw [List.all_eq_true]
  constructor
  · intro h i hi
    have := h i (List.mem_range.2 hi)
    simp at this ⊢
    exact ⟨this.1, fun h2 => this.2.resolve_left (fun h => h h2)⟩
  · intro h i hi
    have := h i (List.mem_range.1 hi)
    simp at this ⊢
    exact ⟨this.1, (Decidable.em _).elim (fun h2 => .inr (this.2 h2)) .inl⟩

theorem replicate_right (n : Nat) (a : Attr) : rightB (List.replicate n (blank a)) = true := by
  rw [rightB_iff]
  intro i hi
  rw [List.length_replicate] at hi
  have e : (List.replicate n (blank a)).getD i default = blank a := by simp [List.getD_eq_getElem?_getD, hi]
  unfold fitsB; rw [e]; simp [blank]

theorem append_right {l : List Cell} {n : Nat} {a : Attr} (h : rightB l = true) : rightB (l ++ List.replicate n (blank a)) = true := by
  rw [rightB_iff] at h ⊢
  have el : ∀ i, i < l.length → (l ++ List.replicate n (blank a)).getD i default = l.getD i default := fun i hi => by
    simp [List.getD_eq_getElem?_getD, List.getElem?_append_left hi]
  intro i hi
  by_cases hl : i < l.length
  · have ⟨h1, h2⟩ := h i hl
    have e := el i hl
    rw [e]
    refine ⟨?_, h2⟩
    by_cases k0 : (l.getD i default).kind = 0
    · exact fits0 (by rw [e]; exact k0)
    by_cases k1 : (l.getD i default).kind = 1
    · obtain ⟨h3, h4⟩ := (fits1 k1).1 h1
      exact (fits1 (by rw [e]; exact k1)).2 ⟨by rw [List.length_append]; omega, by rw [el _ h3]; exact h4⟩
    by_cases k2 : (l.getD i default).kind = 2
    · obtain ⟨h3, h4⟩ := (fits2 hl k2).1 h1
      exact (fits2 hi (by rw [e]; exact k2)).2 ⟨h3, by rw [el _ (by omega)]; exact h4⟩
    · rw [fitsN k0 k1 k2] at h1; cases h1
  · have e : (l ++ List.replicate n (blank a)).getD i default = blank a := by
      rw [List.length_append, List.length_replicate] at hi
      simp [List.getD_eq_getElem?_getD, List.getElem?_append_right (show l.length ≤ i by omega), show i - l.length < n by omega]
    rw [e]
    exact ⟨fits0 (by rw [e]; rfl), fun h => by cases h⟩

theorem resizeB_right (l : List Cell) (c : Int) : rightB (resizeB l c) = true := by
  unfold resizeB
  dsimp only
  split
  · exact mend_right _
  · exact append_right (mend_right _)
theorem resizeB_length (l : List Cell) (c : Nat) (hc : c ≤ 1000) : (resizeB l c).length = c := by
  unfold resizeB
  dsimp only
  have e : min (max (c : Int) 0) 1000 = c := by omega
  rw [e]
  split <;> simp [mend_length] <;> omega
theorem resizeB_good (l : List Cell) (c : Nat) (hc : c ≤ 1000) : Good c (resizeB l c) := ⟨resizeB_length l c hc, resizeB_right _ _⟩
theorem blank_good (c : Nat) (a : Attr) : Good c (List.replicate c (blank a)) := ⟨List.length_replicate, replicate_right _ _⟩

/-! ### Slices of lines, rings, grids: what memory holds -/

/-- A part of a slice of one-cell elements. -/
theorem Sl.sub {w : World} {b o n cap cap' T : Nat} {vs : List Value} (h : Sl w (.slice (some ⟨b, o, none⟩) n cap) T 1 vs n cap') (i j m : Nat) (hij : i + j ≤ n) (hm : i + j ≤ m) (hmc : m ≤ cap) :
    Sl w (.slice (some ⟨b, subo o i 1 m, none⟩) j (m - i)) T 1 ((vs.drop i).take j) j (m - i) := by
  have hlen := h.hlen
  have hle := h.hle
  have hcp := h.hcap
  have hjl : ((vs.drop i).take j).length = j := by rw [List.length_take, List.length_drop]; omega
  rcases h.shape with ⟨h1, _⟩ | ⟨b', o', blk, h1, h2, h3, h4⟩
  · cases h1
  · cases h1
    unfold subo
    by_cases hc : m = i
    · have hj0 : j = 0 := by omega
      subst hj0; subst hc
      rw [if_pos rfl, List.take_zero]
      exact Sl.of h2 trivial (by omega) (by simp) (by omega) (by omega)
    · rw [if_neg hc]
      refine Sl.of h2 (At.of fun k hk => ?_) (by omega) (by omega) (by omega) (by omega)
      rw [hjl] at hk
      have := h3.get (i + k) (by omega)
      rw [show o + i * 1 + k = o + (i + k) from by omega, this, List.getElem?_take, if_pos hk, List.getElem?_drop]

theorem Sl.pre {w : World} {b o n cap cap' T : Nat} {vs : List Value} (h : Sl w (.slice (some ⟨b, o, none⟩) n cap) T 1 vs n cap') (j m : Nat) (hij : j ≤ n) (hm : j ≤ m) (hmc : m ≤ cap) :
    Sl w (.slice (some ⟨b, o, none⟩) j m) T 1 (vs.take j) j m := by
  have := h.sub 0 j m (by omega) (by omega) hmc
  have e : subo o 0 1 m = o := by unfold subo; split <;> simp
  rw [e] at this
  simpa using this

/-- Lines, one by one. -/
def LinesW (w : World) : List Value → List (List Cell) → Prop
  | [], [] => True
  | v :: vs, l :: ls => LineV w v l ∧ LinesW w vs ls
  | _, _ => False

theorem LinesW.length {w : World} : ∀ {vs : List Value} {ls : List (List Cell)}, LinesW w vs ls → vs.length = ls.length
  | [], [], _ => rfl
  | _ :: _, _ :: _, h => by simp [h.2.length]
  | [], _ :: _, h => h.elim
  | _ :: _, [], h => h.elim

theorem LinesW.get {w : World} : ∀ {vs : List Value} {ls : List (List Cell)}, LinesW w vs ls → ∀ i, i < vs.length → LineV w (vs.getD i default) (ls.getD i [])
  | [], [], _, i, hi => by simp at hi
  | _ :: _, _ :: _, h, 0, _ => h.1
  | _ :: _, _ :: _, h, i + 1, hi => by simpa using h.2.get i (by simpa using hi)
  | [], _ :: _, h, _, _ => h.elim
  | _ :: _, [], h, _, _ => h.elim

theorem LinesW.append {w : World} : ∀ {vs us : List Value} {ls ms : List (List Cell)}, LinesW w vs ls → LinesW w us ms → LinesW w (vs ++ us) (ls ++ ms)
  | [], _, [], _, _, h => h
  | _ :: _, _, _ :: _, _, h, h2 => ⟨h.1, h.2.append h2⟩
  | [], _, _ :: _, _, h, _ => h.elim
  | _ :: _, _, [], _, h, _ => h.elim

theorem LinesW.take {w : World} : ∀ {vs : List Value} {ls : List (List Cell)} (j : Nat), LinesW w vs ls → LinesW w (vs.take j) (ls.take j)
  | [], [], j, _ => by simp [LinesW]
  | _ :: _, _ :: _, 0, _ => by simp [LinesW]
  | _ :: _, _ :: _, j + 1, h => ⟨h.1, h.2.take j⟩
  | [], _ :: _, _, h => h.elim
  | _ :: _, [], _, h => h.elim

theorem LinesW.drop {w : World} : ∀ {vs : List Value} {ls : List (List Cell)} (j : Nat), LinesW w vs ls → LinesW w (vs.drop j) (ls.drop j)
  | [], [], j, _ => by simp [LinesW]
  | _ :: _, _ :: _, 0, h => h
  | _ :: _, _ :: _, j + 1, h => h.2.drop j
  | [], _ :: _, _, h => h.elim
  | _ :: _, [], _, h => h.elim

theorem LinesW.set {w : World} {v : Value} {l : List Cell} (hv : LineV w v l) : ∀ {vs : List Value} {ls : List (List Cell)} (j : Nat), LinesW w vs ls → LinesW w (vs.set j v) (ls.set j l)
  | [], [], j, _ => by simp [LinesW]
  | _ :: _, _ :: _, 0, h => ⟨hv, h.2⟩
  | _ :: _, _ :: _, j + 1, h => ⟨h.1, h.2.set hv j⟩
  | [], _ :: _, _, h => h.elim
  | _ :: _, [], _, h => h.elim

theorem LineV.one {w : World} {v : Value} {l : List Cell} (h : LineV w v l) : Value.one v = true := by
  obtain ⟨ad, cap, rfl⟩ := h.slice; rfl

theorem LinesW.one {w : World} : ∀ {vs : List Value} {ls : List (List Cell)}, LinesW w vs ls → vs.all Value.one = true
  | [], [], _ => rfl
  | v :: vs, _ :: _, h => by rw [List.all_cons, h.1.one, h.2.one]; rfl
  | [], _ :: _, h => h.elim
  | _ :: _, [], h => h.elim

/-- The blocks that are written are no lines. -/
def NoLine (w : World) (S : Nat → Prop) : Prop := ∀ k, S k → ∀ cs, ¬ Blk w k 89 cs

theorem LineV.modN {S : Nat → Prop} {w w' : World} {v : Value} {l : List Cell} (h : LineV w v l) (hm : Mod S w w') (hs : NoLine w S) : LineV w' v l := by
  obtain ⟨c, h⟩ := h
  refine ⟨c, h.mod hm fun k hk hS => ?_⟩
  obtain ⟨blk, hb⟩ := h.typ hk
  exact hs k hS _ hb

theorem LinesW.modN {S : Nat → Prop} {w w' : World} (hm : Mod S w w') (hs : NoLine w S) : ∀ {vs : List Value} {ls : List (List Cell)}, LinesW w vs ls → LinesW w' vs ls
  | [], [], _ => trivial
  | _ :: _, _ :: _, h => ⟨h.1.modN hm hs, LinesW.modN hm hs h.2⟩
  | [], _ :: _, h => h.elim
  | _ :: _, [], h => h.elim

theorem LinesW.grow {w w' : World} {vs : List Value} {ls : List (List Cell)} (h : LinesW w vs ls) (hm : Grow w w') : LinesW w' vs ls := LinesW.modN hm (fun _ h => h.elim) h

theorem Blk.typ_eq {w : World} {k T T' : Nat} {cs cs' : List Value} (h : Blk w k T cs) (h' : Blk w k T' cs') : T = T' := by
  have := h.out.symm.trans h'.out
  simp at this
  exact this.2

theorem NoLine.blk {w : World} {b T : Nat} {cs : List Value} (h : Blk w b T cs) (hT : Nat.beq T 89 = false) : NoLine w (fun k => k = b) := by
  rintro k rfl cs' h'
  have := h.typ_eq h'
  subst this; simp at hT

structure Ring where
  most : Nat
  vs : List Value
  at_ : Nat
  gone : Int
  v : Value
  cap : Nat

structure RingW (w : World) (rb : Nat) (R : Ring) : Prop where
  blk : Blk w rb 115 [.int .i64 R.most, R.v, .int .i64 R.at_, .int .i64 R.gone]
  sl : Sl w R.v 54 1 R.vs R.vs.length R.cap
  one : R.vs.all Value.one = true
  le : R.vs.length ≤ R.most
  most : R.most ≤ 65536
  at_ : R.at_ = 0 ∨ R.at_ < R.vs.length

def Ring.own (rb : Nat) (R : Ring) (k : Nat) : Prop := k = rb ∨ sblk R.v = some k

theorem RingW.mod {S : Nat → Prop} {w w' : World} {rb : Nat} {R : Ring} (h : RingW w rb R) (hm : Mod S w w') (hs : ∀ k, R.own rb k → ¬ S k) : RingW w' rb R :=
  ⟨h.blk.mod hm (hs rb (.inl rfl)), h.sl.mod hm (fun k hk => hs k (.inr hk)), h.one, h.le, h.most, h.at_⟩
theorem RingW.grow {w w' : World} {rb : Nat} {R : Ring} (h : RingW w rb R) (hm : Grow w w') : RingW w' rb R := h.mod hm fun _ _ h => h

theorem RingW.own_lt {w : World} {rb : Nat} {R : Ring} (h : RingW w rb R) {k : Nat} (hk : R.own rb k) : k < w.heap.size := by
  rcases hk with rfl | hk
  · exact h.blk.lt
  · exact h.sl.lt hk
theorem RingW.own_typ {w : World} {rb : Nat} {R : Ring} (h : RingW w rb R) {k : Nat} (hk : R.own rb k) : ∃ T cs, (T = 115 ∨ T = 54) ∧ Blk w k T cs := by
  rcases hk with rfl | hk
  · exact ⟨_, _, .inl rfl, h.blk⟩
  · obtain ⟨blk, hb⟩ := h.sl.typ hk; exact ⟨_, _, .inr rfl, hb⟩

structure Grid where
  rb : Nat
  ring : Ring
  rows : Nat
  cols : Nat
  v : Value
  cap : Nat
  vs : List Value
  L : List (List Cell)
  top : Int

structure GridW (w : World) (gb : Nat) (G : Grid) : Prop where
  blk : Blk w gb 85 [.pointer (some ⟨G.rb, 0, none⟩), .int .i64 G.rows, .int .i64 G.cols, G.v, .int .i64 G.top]
  ring : RingW w G.rb G.ring
  sl : Sl w G.v 54 1 G.vs G.rows G.cap
  lines : LinesW w G.vs G.L
  good : ∀ l ∈ G.L, Good G.cols l
  rows : 1 ≤ G.rows ∧ G.rows ≤ 1000
  cols : 1 ≤ G.cols ∧ G.cols ≤ 1000
  ne : ∀ k, sblk G.v = some k → sblk G.ring.v ≠ some k

def Grid.own (gb : Nat) (G : Grid) (k : Nat) : Prop := k = gb ∨ sblk G.v = some k ∨ G.ring.own G.rb k

theorem GridW.own_lt {w : World} {gb : Nat} {G : Grid} (h : GridW w gb G) {k : Nat} (hk : G.own gb k) : k < w.heap.size := by
  rcases hk with rfl | hk | hk
  · exact h.blk.lt
  · exact h.sl.lt hk
  · exact h.ring.own_lt hk
theorem GridW.own_typ {w : World} {gb : Nat} {G : Grid} (h : GridW w gb G) {k : Nat} (hk : G.own gb k) : ∃ T cs, (T = 85 ∨ T = 115 ∨ T = 54) ∧ Blk w k T cs := by
  rcases hk with rfl | hk | hk
  · exact ⟨_, _, .inl rfl, h.blk⟩
  · obtain ⟨blk, hb⟩ := h.sl.typ hk; exact ⟨_, _, .inr (.inr rfl), hb⟩
  · obtain ⟨T, cs, hT, hb⟩ := h.ring.own_typ hk; exact ⟨T, cs, .inr hT, hb⟩
theorem GridW.noLine {w : World} {gb : Nat} {G : Grid} (h : GridW w gb G) : NoLine w (G.own gb) := fun k hk cs hb => by
  obtain ⟨T, cs', hT, hb'⟩ := h.own_typ hk
  have := hb'.typ_eq hb
  rcases hT with rfl | rfl | rfl <;> exact absurd this (by decide)

theorem GridW.mod {S : Nat → Prop} {w w' : World} {gb : Nat} {G : Grid} (h : GridW w gb G) (hm : Mod S w w') (hs : ∀ k, G.own gb k → ¬ S k) (hn : NoLine w S) : GridW w' gb G :=
  ⟨h.blk.mod hm (hs gb (.inl rfl)), h.ring.mod hm (fun k hk => hs k (.inr (.inr hk))), h.sl.mod hm (fun k hk => hs k (.inr (.inl hk))), LinesW.modN hm hn h.lines, h.good, h.rows, h.cols, h.ne⟩
theorem GridW.grow {w w' : World} {gb : Nat} {G : Grid} (h : GridW w gb G) (hm : Grow w w') : GridW w' gb G := h.mod hm (fun _ _ h => h) (fun _ h => h.elim)

theorem GridW.vlen {w : World} {gb : Nat} {G : Grid} (h : GridW w gb G) : G.vs.length = G.rows := by have := h.sl.hlen; omega
theorem GridW.Llen {w : World} {gb : Nat} {G : Grid} (h : GridW w gb G) : G.L.length = G.rows := by rw [← h.lines.length, h.vlen]

/-- What an operation on a grid leaves. -/
structure GOp (w w' : World) (gb : Nat) (G G' : Grid) : Prop where
  to : GridW w' gb G'
  mod : Mod (G.own gb) w w'
  own : ∀ k, G'.own gb k → G.own gb k ∨ w.heap.size ≤ k

theorem GOp.trans {a b c : World} {gb : Nat} {G G' G'' : Grid} (h : GOp a b gb G G') (k : GOp b c gb G' G'') : GOp a c gb G G'' :=
  ⟨k.to, h.mod.trans k.mod (fun _ h => h) (fun x hx hs => (h.own x hs).resolve_right (by omega)), fun x hx => by
    rcases k.own x hx with h1 | h1
    · exact h.own x h1
    · exact .inr (Nat.le_trans h.mod.size h1)⟩
theorem GOp.refl {w : World} {gb : Nat} {G : Grid} (h : GridW w gb G) : GOp w w gb G G := ⟨h, Mod.refl _ _, fun _ h => .inl h⟩
theorem GOp.growL {a b c : World} {gb : Nat} {G G' : Grid} (h : Grow a b) (k : GOp b c gb G G') : GOp a c gb G G' :=
  ⟨k.to, h.mod k.mod, fun x hx => (k.own x hx).imp id (fun h1 => Nat.le_trans h.size h1)⟩
theorem GOp.growR {a b c : World} {gb : Nat} {G G' : Grid} (h : GOp a b gb G G') (k : Grow b c) : GOp a c gb G G' :=
  ⟨h.to.grow k, h.mod.grow k, h.own⟩

theorem at_set1 {blk vs : List Value} {o i : Nat} {v : Value} (h : At blk o vs) (hi : i < vs.length) (hr : o + vs.length ≤ blk.length) : At (blk.set (o + i * 1) v) o (vs.set i v) := by
  refine At.of fun j hj => ?_
  rw [List.length_set] at hj
  rw [List.getElem?_set, List.getElem?_set]
  by_cases hij : i = j
  · rw [if_pos (by omega), if_pos hij, if_pos (by omega), if_pos hi]
  · rw [if_neg (by omega), if_neg hij]; exact h.get j hj

theorem at_get1 {blk vs : List Value} {o i : Nat} (h : At blk o vs) (hi : i < vs.length) : blk[o + i * 1]? = some (vs.getD i default) := by
  rw [Nat.mul_one, h.get i hi, List.getElem?_eq_getElem hi, List.getD_eq_getElem?_getD, List.getElem?_eq_getElem hi]; rfl

theorem all_set {vs : List Value} {i : Nat} {v : Value} (h : vs.all Value.one = true) (hv : Value.one v = true) : (vs.set i v).all Value.one = true := by
  rw [List.all_eq_true] at h ⊢
  intro x hx
  rcases List.mem_or_eq_of_mem_set hx with h1 | h1
  · exact h x h1
  · rw [h1]; exact hv

theorem all_snoc {vs : List Value} {v : Value} (h : vs.all Value.one = true) (hv : Value.one v = true) : (vs ++ [v]).all Value.one = true := by
  rw [List.all_append, h]; simp [hv]

/-- What an operation on a ring leaves. -/
structure ROp (w w' : World) (rb : Nat) (R R' : Ring) : Prop where
  to : RingW w' rb R'
  mod : Mod (R.own rb) w w'
  own : ∀ k, R'.own rb k → R.own rb k ∨ w.heap.size ≤ k
  most : R'.most = R.most

end Go.Eng
namespace Go.Eng
open Go Go.Proofs

theorem wrapI (x : Int) (h : -9223372036854775808 ≤ x ∧ x ≤ 9223372036854775807) : IntKind.i64.wrap x = x := wrap_in (k := .i64) h

theorem tb115_0 {k : IntKind} {r : Int} : TBuild Tryz.prog 115 [(0, .int k r)] (.agg #[.int k r, .slice none 0 0, .int .i64 0, .int .i64 0]) :=
  TBuild.struct (cs := [.int k r, .slice none 0 0, .int .i64 0, .int .i64 0]) ⟨Tryz.zeroValue115⟩ ⟨Tryz.runUnderlying115⟩ (places := #[(0, 1), (1, 1), (2, 1), (3, 1)]) (fun w => by simp [Tryz.sizeOf3, Tryz.sizeOf83, Tryz.sizeOf2]) rfl
theorem tb85_0_1_2 {p : Option Addr} {a b : Int} : TBuild Tryz.prog 85 [(0, .pointer p), (1, .int .i64 a), (2, .int .i64 b)] (.agg #[.pointer p, .int .i64 a, .int .i64 b, .slice none 0 0, .int .i64 0]) :=
  TBuild.struct (cs := [.pointer p, .int .i64 a, .int .i64 b, .slice none 0 0, .int .i64 0]) ⟨Tryz.zeroValue85⟩ ⟨Tryz.runUnderlying85⟩ (places := #[(0, 1), (1, 1), (2, 1), (3, 1), (4, 1)]) (fun w => by simp [Tryz.sizeOf3, Tryz.sizeOf83, Tryz.sizeOf2, Tryz.sizeOf82]) rfl

theorem ringnew_ok {w : World} (n : Nat) (hn : n ≤ 16384) : Ret Tryz.prog 43 [.int .i64 n] w (fun r w' => ∃ rb, r = .tuple #[.pointer (some ⟨rb, 0, none⟩), .int .i64 0] ∧ RingW w' rb ⟨n, [], 0, 0, .slice none 0 0, 0⟩ ∧ Grow w w' ∧ w.heap.size ≤ rb) := by
 refine Ret.of Tryz.func43 Tryz.ntmps43 rfl rfl ?_; refine WC.sub (e' := [(0, .int .i64 n)]) ⟨rfl, trivial⟩ ?_; have hG : Mod (fun k => False) w w := Mod.refl _ _; refine wsr ?_; refine va rfl rfl ?_; refine va rfl rfl ?_; refine WL.nil ?_; refine WC.seq ?_; refine wsr ?_; refine vm rfl rfl ?_; refine WL.val (OpRun.lss rfl rfl) rfl ?_; refine WL.splitD rfl rfl (fun hq1 => ?_) (fun hq1 => ?_)
 ·refine WL.pass rfl rfl rfl rfl ?_; refine WL.pass rfl rfl rfl rfl ?_; refine WL.val (OpRun.pickT rfl rfl) rfl ?_; refine WL.nil ?_; refine WC.condT rfl ?_; refine wsr ?_; refine va rfl rfl ?_; refine va rfl rfl ?_; refine WL.nil ?_; refine WC.ret ?_; refine fin_two rfl rfl rfl ?_
  first | (exfalso; omega) | exact ⟨bR, rfl, ⟨hR, Sl.nil _ _ _, rfl, Nat.zero_le _, by show n ≤ 65536; omega, .inl rfl⟩, hG, hloR⟩
 ·refine WL.want rfl rfl ?_; refine vm rfl rfl ?_; refine WL.want rfl rfl ?_; refine WL.val (OpRun.gtr rfl rfl) rfl ?_; refine WL.val (OpRun.pickF rfl rfl) rfl ?_; refine WL.nil ?_; refine WC.condD rfl (fun hq2 => ?_) (fun hq2 => ?_)
  ·exfalso; omega
  ·refine WC.skip ?_; refine wsr ?_; refine vm rfl rfl ?_; refine WL.val (OpRun.build rfl tb115_0) rfl ?_; refine WL.step (OpTo.box (vs := [_, _, _, _]) rfl rfl rfl (fun bR wR hR hmR hloR hhiR => ?_)); have hG := hG.grow hmR; refine va rfl rfl ?_; refine va rfl rfl ?_; refine WL.nil ?_; refine WC.ret ?_; refine fin_two rfl rfl rfl ?_
   first | (exfalso; omega) | exact ⟨bR, rfl, ⟨hR, Sl.nil _ _ _, rfl, Nat.zero_le _, by show n ≤ 65536; omega, .inl rfl⟩, hG, hloR⟩

theorem ringlen_ok {w : World} {rb : Nat} {R : Ring} (h : RingW w rb R) : Ret Tryz.prog 36 [.pointer (some ⟨rb, 0, none⟩)] w (fun r w' => r = .int .i64 R.vs.length ∧ w = w') := by
 have hB := h.blk; obtain ⟨ad, hv⟩ := h.sl.slice; rw [hv] at hB; refine Ret.of Tryz.func36 Tryz.ntmps36 rfl rfl ?_; refine WC.sub (e' := [(0, .pointer (some ⟨rb, 0, none⟩))]) ⟨rfl, trivial⟩ ?_; have hG : Mod (fun k => False) w w := Mod.refl _ _; refine wsr ?_; refine va rfl rfl ?_; refine WL.nil ?_; refine wsr ?_; refine vm rfl rfl ?_; refine vn rfl rfl ?_; refine vf 1 Tryz.runUnderlying115 Tryz.sizeOf83 rfl rfl rfl rfl rfl ?_; refine WL.val (OpRun.load rfl ⟨Tryz.isAgg83⟩ hB rfl) rfl ?_; refine WL.val (OpRun.lenS rfl ⟨Tryz.runUnderlying83⟩) rfl ?_; refine va rfl rfl ?_; refine WL.nil ?_; refine WC.ret ?_; refine fin_one rfl rfl ?_; exact ⟨rfl, rfl⟩

theorem clone1_ok {w : World} {v : Value} {vs : List Value} {n cap : Nat} (hv : Sl w v 54 1 vs n cap) (hn : n ≤ 65536) (h1 : vs.all Value.one = true) : Ret Tryz.prog 69 [v] w (fun r w' => (∃ cap', Sl w' r 54 1 vs n cap') ∧ Grow w w' ∧ Fresh w r) := by
 obtain ⟨ad, rfl⟩ := hv.slice; have hvb : ∀ k, sblk (.slice ad n cap) = some k → k < w.heap.size := fun k hk => hv.lt hk; refine Ret.of Tryz.func69 Tryz.ntmps69 rfl rfl ?_; refine WC.sub (e' := [(0, .slice ad n cap)]) ⟨rfl, trivial⟩ ?_; have hG : Mod (fun k => False) w w := Mod.refl _ _; refine wsr ?_; refine va rfl rfl ?_; refine WL.nil ?_; refine WC.seq ?_; refine wsr ?_; refine vm rfl rfl ?_; refine WL.val (OpRun.eqlNil rfl rfl ⟨Tryz.runUnderlying83⟩) rfl ?_; refine WL.nil ?_; refine WC.cond rfl (fun hq1 => ?_) (fun hq1 => ?_)
 ·refine wsr ?_; refine va rfl rfl ?_; refine WL.nil ?_; refine WC.ret ?_; refine fin_one rfl rfl ?_
  cases ad with
  | some a => cases hq1
  | none =>
    rcases hv.shape with ⟨h2, rfl, rfl, _⟩ | ⟨b, o, blk, h2, _⟩
    · exact ⟨⟨_, Sl.nil _ _ _⟩, hG, Fresh.nil _⟩
    · cases h2
 ·refine WC.skip ?_; refine wsr ?_; refine WL.step (OpTo.buildSlice0 rfl ⟨Tryz.runUnderlying83⟩ ⟨Tryz.sizeOf54⟩ rfl (fun b2 w2 hbE hm2 hlo2 hhi2 => ?_)); have hv := hv.grow hm2; have hG := hG.grow hm2; have hfrE : Fresh w (.slice (some ⟨b2, 0, none⟩) 0 0) := fun k hk => by cases hk; omega
  refine vm rfl rfl ?_; refine WL.step (OpTo.append rfl ⟨Tryz.runUnderlying83⟩ ⟨Tryz.runUnderlying83⟩ (by intro k h; cases h) ⟨Tryz.sizeOf54⟩ (Sl.of hbE (cs := []) trivial (by simp) (by simp) (by omega) (by omega)) hv.src (h1) ⟨Tryz.zeroValue54⟩ rfl (by_ := 24) ⟨fun w => ⟨_, Tryz.typeInfo54 w, rfl⟩⟩ (by omega) (by omega) rfl rfl (fun vA wA hpA => ?_)); obtain ⟨capA, hSA, hmA, hbkA⟩ := hpA; have hv := hv.mod hmA (fun k hk h => absurd (hvb k hk) (by have := hfrE k h; omega)); have hfrA : Fresh w vA := fun k hk => hbkA.elim (fun h => hfrE k (h ▸ hk)) (fun ⟨b, hb, hlt⟩ => by have h1 := hb.symm.trans hk; cases h1; have := hG.size; omega); have hG := hG.trans hmA (fun _ h => h) (fun x hx hs => absurd hx (by have := hfrE x hs; omega)); refine va rfl rfl ?_; refine WL.nil ?_; refine WC.ret ?_; refine fin_one rfl rfl ?_; exact ⟨⟨_, by simpa using hSA⟩, hG, hfrA⟩

/-- A ring's content in its order. -/
def Ring.ord (R : Ring) : List Value := R.vs.drop R.at_ ++ R.vs.take R.at_
theorem Ring.ord_length (R : Ring) : R.ord.length = R.vs.length := by
  unfold Ring.ord; rw [List.length_append, List.length_drop, List.length_take]; omega
theorem Ring.ord_one {R : Ring} (h : R.vs.all Value.one = true) : R.ord.all Value.one = true := by
  rw [List.all_eq_true] at h ⊢
  intro v hv
  unfold Ring.ord at hv
  rcases List.mem_append.1 hv with h1 | h1
  · exact h v (List.mem_of_mem_drop h1)
  · exact h v (List.mem_of_mem_take h1)
theorem ev1 {R : Ring} {k j : Nat} (h : R.vs.all Value.one = true) : ((R.vs.drop j).take k).all Value.one = true := by
  rw [List.all_eq_true] at h ⊢
  exact fun v hv => h v (List.mem_of_mem_drop (List.mem_of_mem_take hv))
theorem ev2 {R : Ring} {k : Nat} (h : R.vs.all Value.one = true) : (R.vs.take k).all Value.one = true := by
  rw [List.all_eq_true] at h ⊢
  exact fun v hv => h v (List.mem_of_mem_take hv)
theorem evflat (R : Ring) : [(R.vs.drop R.at_).take (R.vs.length - R.at_), R.vs.take R.at_].flatten = R.ord := by
  unfold Ring.ord
  simp only [List.flatten_cons, List.flatten_nil, List.append_nil]
  rw [List.take_of_length_le (by rw [List.length_drop]; omega)]

theorem even_ok {w : World} {rb : Nat} {R : Ring} (h : RingW w rb R) : Ret Tryz.prog 137 [.pointer (some ⟨rb, 0, none⟩)] w (fun r w' => r = .tuple #[] ∧ ∃ v' cap', RingW w' rb ⟨R.most, R.ord, 0, R.gone, v', cap'⟩ ∧ Mod (fun k => k = rb) w w' ∧ (sblk v' = sblk R.v ∨ Fresh w v')) := by
 have hB := h.blk; have hsl := h.sl; obtain ⟨ad, hv⟩ := hsl.slice; rw [hv] at hB hsl; have hat := h.at_; have hle := h.le; have hmo := h.most; refine Ret.of Tryz.func137 Tryz.ntmps137 rfl rfl ?_; refine WC.sub (e' := [(0, .pointer (some ⟨rb, 0, none⟩))]) ⟨rfl, trivial⟩ ?_; have hG : Mod (fun k => k = rb) w w := Mod.refl _ _; refine wsr ?_; refine vm rfl rfl ?_; refine vn rfl rfl ?_; refine vf 2 Tryz.runUnderlying115 Tryz.sizeOf3 rfl rfl rfl rfl rfl ?_; refine WL.val (OpRun.load rfl ⟨Tryz.isAgg3⟩ hB rfl) rfl ?_; refine WL.val (OpRun.gtr rfl rfl) rfl ?_; refine WL.nil ?_; refine WC.condD rfl (fun hq1 => ?_) (fun hq1 => ?_)
 ·obtain ⟨b, o, blk, hv2, -, -, -⟩ := hsl.pos (by omega)
  cases hv2
  have hcl := hsl.hle; have hD := hsl.sub R.at_ (R.vs.length - R.at_) R.cap (by omega) (by omega) (Nat.le_refl _); have hT := hsl.pre R.at_ R.cap (by omega) (by omega) (Nat.le_refl _); refine WC.seq ?_; refine WC.regionD (fun w0 w1 => Grow w0 w1) 24 rfl mixed (fun w2 hm2 hz2 => ?_); have hmD1 := hm2; have hB := hB.grow hm2; have hsl := hsl.grow hm2; have hD := hD.grow hm2; have hT := hT.grow hm2; have hG := hG.grow hm2; have hSc := Mod.refl (fun k => False) w2; refine WH.take 0 rfl (by kernel_rfl) hSc (fun w1 h1 => OpRun.move rfl) ?_; refine WH.take 1 rfl (by kernel_rfl) hSc (fun w1 h1 => OpRun.move rfl) ?_; refine WH.take 2 rfl (by kernel_rfl) hSc (fun w1 h1 => OpRun.nilCheck rfl) ?_; refine WH.take 3 rfl (by kernel_rfl) hSc (fun _ _ => oF 1 Tryz.runUnderlying115 Tryz.sizeOf83 rfl rfl rfl rfl) ?_; refine WH.take 4 rfl (by kernel_rfl) hSc (fun w1 h1 => OpRun.load rfl ⟨Tryz.isAgg83⟩ (hB.grow h1) rfl) ?_
  refine WH.take 5 rfl (by kernel_rfl) hSc (fun w1 h1 => OpRun.move rfl) ?_; refine WH.take 6 rfl (by kernel_rfl) hSc (fun w1 h1 => OpRun.nilCheck rfl) ?_; refine WH.take 7 rfl (by kernel_rfl) hSc (fun _ _ => oF 2 Tryz.runUnderlying115 Tryz.sizeOf3 rfl rfl rfl rfl) ?_; refine WH.take 8 rfl (by kernel_rfl) hSc (fun w1 h1 => OpRun.load rfl ⟨Tryz.isAgg3⟩ (hB.grow h1) rfl) ?_; refine WH.take 9 rfl (by kernel_rfl) hSc (fun w1 h1 => OpRun.sliceL rfl rfl ⟨Tryz.runUnderlying83⟩ ⟨Tryz.sizeOf54⟩ (by omega) (by omega)) ?_; refine WH.take 10 rfl (by kernel_rfl) hSc (fun w1 h1 => OpRun.move rfl) ?_; refine WH.take 11 rfl (by kernel_rfl) hSc (fun w1 h1 => OpRun.nilCheck rfl) ?_; refine WH.take 12 rfl (by kernel_rfl) hSc (fun _ _ => oF 1 Tryz.runUnderlying115 Tryz.sizeOf83 rfl rfl rfl rfl) ?_; refine WH.take 13 rfl (by kernel_rfl) hSc (fun w1 h1 => OpRun.load rfl ⟨Tryz.isAgg83⟩ (hB.grow h1) rfl) ?_
  refine WH.take 14 rfl (by kernel_rfl) hSc (fun w1 h1 => OpRun.move rfl) ?_; refine WH.take 15 rfl (by kernel_rfl) hSc (fun w1 h1 => OpRun.nilCheck rfl) ?_; refine WH.take 16 rfl (by kernel_rfl) hSc (fun _ _ => oF 2 Tryz.runUnderlying115 Tryz.sizeOf3 rfl rfl rfl rfl) ?_; refine WH.take 17 rfl (by kernel_rfl) hSc (fun w1 h1 => OpRun.load rfl ⟨Tryz.isAgg3⟩ (hB.grow h1) rfl) ?_; refine WH.take 18 rfl (by kernel_rfl) hSc (fun w1 h1 => OpRun.sliceH rfl rfl ⟨Tryz.runUnderlying83⟩ ⟨Tryz.sizeOf54⟩ (by omega) (by omega)) ?_; refine WH.one 19 rfl (by kernel_rfl) (OpTo.buildSlice (cs := [_, _]) rfl rfl rfl ⟨Tryz.runUnderlying145⟩ ⟨Tryz.sizeOf83⟩ ⟨Tryz.zeroValue83⟩ (fill_one (vs := [_, _]) rfl rfl) rfl (fun bE wE hbE hmE hloE hhiE => ?_)); have hB := hB.grow hmE; have hsl := hsl.grow hmE; have hD := hD.grow hmE; have hT := hT.grow hmE; have hG := hG.grow hmE; have hSc := hSc.grow hmE
  refine ⟨fun _ => hSc, ?_⟩; refine WH.one 20 rfl (by kernel_rfl) (OpTo.call ⟨Tryz.call64⟩ rfl rfl (concat1_ok hbE rfl (cs := [(R.vs.drop R.at_).take (R.vs.length - R.at_), R.vs.take R.at_]) ⟨⟨_, _, hD⟩, ev1 h.one, ⟨_, _, hT⟩, ev2 h.one, trivial⟩ (by rw [evflat, Ring.ord_length]; omega) (by omega)) (fun vC wC hpC => ?_)); obtain ⟨⟨len1, cap1, hC⟩, hmC, hfC⟩ := hpC; have hB := hB.grow hmC; have hsl := hsl.grow hmC; have hD := hD.grow hmC; have hT := hT.grow hmC; have hG := hG.grow hmC; have hSc := hSc.grow hmC; refine ⟨fun _ => hSc, ?_⟩; rw [evflat] at hC; have hl1 := hC.hlen; rw [Ring.ord_length] at hl1; obtain rfl : len1 = R.vs.length := by omega
  obtain ⟨cad, rfl⟩ := hC.slice; have hfrC : Fresh w (.slice cad R.vs.length cap1) := fun k hk => by have := hfC k hk; have := hmE.size; have := hG.size; omega
  refine WH.one 21 rfl (by kernel_rfl) (OpTo.val (OpRun.nilCheck rfl) rfl ?_); refine ⟨fun _ => hSc, ?_⟩; refine WH.one 22 rfl (by kernel_rfl) (OpTo.val (OpRun.fieldAddr (off := 1) rfl ⟨Tryz.runUnderlying115⟩ rfl ⟨Tryz.sizeOf83⟩ rfl rfl) rfl ?_); refine ⟨fun _ => hSc, ?_⟩; refine WH.one 23 rfl (by kernel_rfl) (OpTo.store rfl rfl ⟨Tryz.sizeOf83⟩ rfl hB rfl (fun w5 hn5 hm5 hz5 => ?_))
  first | simp only [List.set_cons_zero, List.set_cons_succ] at hn5 | dsimp only [putList, List.set] at hn5
  have hsl := hsl.mod hm5 (fun k hk => hsl.ne hB rfl k hk); have hD := hD.mod hm5 (fun k hk => hD.ne hB rfl k hk); have hT := hT.mod hm5 (fun k hk => hT.ne hB rfl k hk); have hC := hC.mod hm5 (fun k hk => hC.ne hB rfl k hk); have hG := hG.trans hm5 (fun _ h => h) (fun x hx hs => by (try dsimp only at hs ⊢); omega); refine ⟨fun hl => (by have h2 := hl.symm.trans (show isLast _ _ = true from by kernel_rfl); cases h2), ?_⟩; have hB := hn5; refine WH.done (by kernel_rfl) ?_; refine WC.region ?_; refine vm rfl rfl ?_; refine vn rfl rfl ?_; refine vf 2 Tryz.runUnderlying115 Tryz.sizeOf3 rfl rfl rfl rfl rfl ?_; refine WL.step (OpTo.store rfl rfl ⟨Tryz.sizeOf3⟩ rfl hB rfl (fun w6 hn6 hm6 hz6 => ?_))
  first | simp only [List.set_cons_zero, List.set_cons_succ] at hn6 | dsimp only [putList, List.set] at hn6
  have hsl := hsl.mod hm6 (fun k hk => hsl.ne hB rfl k hk); have hD := hD.mod hm6 (fun k hk => hD.ne hB rfl k hk); have hT := hT.mod hm6 (fun k hk => hT.ne hB rfl k hk); have hC := hC.mod hm6 (fun k hk => hC.ne hB rfl k hk); have hG := hG.trans hm6 (fun _ h => h) (fun x hx hs => by (try dsimp only at hs ⊢); omega); have hB := hn6; refine WL.nil ?_; refine fin_none rfl ?_; refine ⟨rfl, ?_⟩
  first
    | exact ⟨_, cap1, ⟨hB, by rw [Ring.ord_length]; exact hC, Ring.ord_one h.one, by rw [Ring.ord_length]; exact hle, hmo, .inl rfl⟩, hG, .inr hfrC⟩
    | (have h0 : R.at_ = 0 := by omega
       have ho : R.ord = R.vs := by unfold Ring.ord; rw [h0]; simp
       rw [ho]; rw [h0] at hB; exact ⟨_, R.cap, ⟨hB, hsl, h.one, hle, hmo, .inl rfl⟩, hG, .inl (by rw [hv])⟩)
 ·refine WC.skip ?_; refine fin_none rfl ?_; refine ⟨rfl, ?_⟩
  first
    | exact ⟨_, cap1, ⟨hB, by rw [Ring.ord_length]; exact hC, Ring.ord_one h.one, by rw [Ring.ord_length]; exact hle, hmo, .inl rfl⟩, hG, .inr hfrC⟩
    | (have h0 : R.at_ = 0 := by omega
       have ho : R.ord = R.vs := by unfold Ring.ord; rw [h0]; simp
       rw [ho]; rw [h0] at hB; exact ⟨_, R.cap, ⟨hB, hsl, h.one, hle, hmo, .inl rfl⟩, hG, .inl (by rw [hv])⟩)

theorem push_ok {w : World} {rb : Nat} {R : Ring} (h : RingW w rb R) {v : Value} (hv1 : Value.one v = true) : Ret Tryz.prog 108 [.pointer (some ⟨rb, 0, none⟩), v] w (fun r w' => (∃ a b, r = .tuple #[a, .bool b]) ∧ ∃ R', ROp w w' rb R R' ∧ R'.vs.length = min (R.vs.length + 1) R.most) := by
 have hB := h.blk; have hsl := h.sl; obtain ⟨ad, hv⟩ := hsl.slice; rw [hv] at hB hsl; have hat := h.at_; have hle := h.le; have hmo := h.most; have hcl := hsl.hle; refine Ret.of Tryz.func108 Tryz.ntmps108 rfl rfl ?_; refine WC.sub (e' := [(0, .pointer (some ⟨rb, 0, none⟩)), (1, v)]) ⟨rfl, rfl, trivial⟩ ?_; have hG : Mod (fun k => R.own rb k) w w := Mod.refl _ _; refine wsr ?_; refine va rfl rfl ?_; refine va rfl rfl ?_; refine WL.nil ?_; refine wsr ?_; refine va rfl rfl ?_; refine WL.nil ?_; refine WC.seq ?_; refine WC.block ?_; refine wsr ?_; refine vm rfl rfl ?_; refine vn rfl rfl ?_; refine vf 0 Tryz.runUnderlying115 Tryz.sizeOf3 rfl rfl rfl rfl rfl ?_; refine WL.val (OpRun.load rfl ⟨Tryz.isAgg3⟩ hB rfl) rfl ?_
 refine WL.val (OpRun.eql rfl rfl) rfl ?_; refine va rfl rfl ?_; refine WL.nil ?_; refine WC.condD rfl (fun hq1 => ?_) (fun hq1 => ?_)
 ·refine wsr ?_; refine vm rfl rfl ?_; refine vn rfl rfl ?_; refine vf 3 Tryz.runUnderlying115 Tryz.sizeOf2 rfl rfl rfl rfl rfl ?_; refine WL.val (OpRun.load rfl ⟨Tryz.isAgg2⟩ hB rfl) rfl ?_; refine WL.val (OpRun.addW rfl rfl) rfl ?_; refine vn rfl rfl ?_; refine vf 3 Tryz.runUnderlying115 Tryz.sizeOf2 rfl rfl rfl rfl rfl ?_; refine WL.step (OpTo.store rfl rfl ⟨Tryz.sizeOf2⟩ rfl hB rfl (fun w2 hn2 hm2 hz2 => ?_))
  first | simp only [List.set_cons_zero, List.set_cons_succ] at hn2 | dsimp only [putList, List.set] at hn2
  have hsl := hsl.mod hm2 (fun k hk => hsl.ne hB rfl k hk); have hG := hG.trans hm2 (fun _ h => h) (fun x hx hs => .inl hs); have hB := hn2; refine WL.nil ?_; refine wsr ?_; refine vm rfl rfl ?_; refine va rfl rfl ?_; refine va rfl rfl ?_; refine WL.nil ?_; refine WC.ret ?_; refine fin_two rfl rfl rfl ?_; refine ⟨⟨_, _, rfl⟩, ⟨R.most, R.vs, R.at_, IntKind.i64.wrap (R.gone + 1), R.v, R.cap⟩, ⟨⟨by dsimp only; rw [hv]; exact hB, by dsimp only; rw [hv]; exact hsl, h.one, hle, hmo, hat⟩, hG, fun k hk => .inl hk, rfl⟩, by dsimp only; omega⟩
 ·refine WC.seq ?_; refine WC.regionD (fun w0 w1 => Grow w0 w1) 11 rfl mixed (fun w2 hm2 hz2 => ?_); have hmD5 := hm2; have hB := hB.grow hm2; have hsl := hsl.grow hm2; have hG := hG.grow hm2; have hSc := Mod.refl (fun k => False) w2; refine WH.take 0 rfl (by kernel_rfl) hSc (fun w1 h1 => OpRun.move rfl) ?_; refine WH.take 1 rfl (by kernel_rfl) hSc (fun w1 h1 => OpRun.nilCheck rfl) ?_; refine WH.take 2 rfl (by kernel_rfl) hSc (fun _ _ => oF 1 Tryz.runUnderlying115 Tryz.sizeOf83 rfl rfl rfl rfl) ?_; refine WH.take 3 rfl (by kernel_rfl) hSc (fun w1 h1 => OpRun.load rfl ⟨Tryz.isAgg83⟩ (hB.grow h1) rfl) ?_; refine WH.take 4 rfl (by kernel_rfl) hSc (fun w1 h1 => OpRun.lenS rfl ⟨Tryz.runUnderlying83⟩) ?_; refine WH.take 5 rfl (by kernel_rfl) hSc (fun w1 h1 => OpRun.move rfl) ?_; refine WH.take 6 rfl (by kernel_rfl) hSc (fun w1 h1 => OpRun.nilCheck rfl) ?_; refine WH.take 7 rfl (by kernel_rfl) hSc (fun _ _ => oF 0 Tryz.runUnderlying115 Tryz.sizeOf3 rfl rfl rfl rfl) ?_
  refine WH.take 8 rfl (by kernel_rfl) hSc (fun w1 h1 => OpRun.load rfl ⟨Tryz.isAgg3⟩ (hB.grow h1) rfl) ?_; refine WH.take 9 rfl (by kernel_rfl) hSc (fun w1 h1 => OpRun.lss rfl rfl) ?_; refine WH.take 10 rfl (by kernel_rfl) hSc (fun w1 h1 => OpRun.assign rfl) ?_; refine WH.done (by kernel_rfl) ?_; refine WC.condD rfl (fun hq3 => ?_) (fun hq3 => ?_)
  ·refine wsr ?_
   skip
   refine vm rfl rfl ?_; refine WL.step (OpTo.call ⟨Tryz.call137⟩ rfl rfl (even_ok (h.grow hm2)) (fun vV wV hpV => ?_)); obtain ⟨rfl, ev, ecap, hR2, hmV, hevb⟩ := hpV; have hG := hG.trans hmV (fun _ h => h) (fun x hx hs => .inl hs); have hB := hR2.blk; have hsl2 := hR2.sl; have hevo : ∀ x, sblk ev = some x → x < w.heap.size → R.own rb x := fun x hs hx => hevb.elim (fun h => .inr (h ▸ hs)) (fun h => absurd hx (by have := h x hs; omega)); obtain ⟨ead, hev⟩ := hsl2.slice; have hol := R.ord_length; have hgs := hG.size; refine WL.nil ?_; refine wsr ?_
   dsimp only at hB hsl2 hev
   rw [hev] at hB hsl2; refine vm rfl rfl ?_; refine vm rfl rfl ?_; refine vn rfl rfl ?_; refine vf 1 Tryz.runUnderlying115 Tryz.sizeOf83 rfl rfl rfl rfl rfl ?_; refine WL.val (OpRun.load rfl ⟨Tryz.isAgg83⟩ hB rfl) rfl ?_; refine vm rfl rfl ?_; refine WL.step (OpTo.buildSlice (cs := [_]) rfl rfl rfl ⟨Tryz.runUnderlying83⟩ ⟨Tryz.sizeOf54⟩ ⟨Tryz.zeroValue54⟩ (fill_one (vs := [_]) rfl (by simp [hv1])) rfl (fun bE wE hbE hmE hloE hhiE => ?_)); have hB := hB.grow hmE; have hsl2 := hsl2.grow hmE; have hG := hG.grow hmE; refine WL.step (OpTo.append rfl ⟨Tryz.runUnderlying83⟩ ⟨Tryz.runUnderlying83⟩ (by intro k h; cases h) ⟨Tryz.sizeOf54⟩ hsl2 (Sl.of hbE (cs := [v]) ⟨rfl, trivial⟩ (by simp) rfl (by omega) (by omega)).src (by simp [hv1]) ⟨Tryz.zeroValue54⟩ rfl (by_ := 24) ⟨fun w => ⟨_, Tryz.typeInfo54 w, rfl⟩⟩ (by omega) (by omega) rfl rfl (fun vA wA hpA => ?_))
   obtain ⟨capA, hSA, hmA, hbkA⟩ := hpA; have hB := hB.mod hmA (fun h => hsl2.ne hB rfl _ h rfl); have hG := hG.trans hmA (fun _ h => h) (fun x hx hs => hevo x (hev ▸ hs) hx); obtain ⟨aad, rfl⟩ := hSA.slice; refine vn rfl rfl ?_; refine vf 1 Tryz.runUnderlying115 Tryz.sizeOf83 rfl rfl rfl rfl rfl ?_; refine WL.step (OpTo.store rfl rfl ⟨Tryz.sizeOf83⟩ rfl hB rfl (fun w7 hn7 hm7 hz7 => ?_))
   first | simp only [List.set_cons_zero, List.set_cons_succ] at hn7 | dsimp only [putList, List.set] at hn7
   have hSA := hSA.mod hm7 (by first | exact fun k hk => hSA.ne hB rfl k hk | omega); have hG := hG.trans hm7 (fun _ h => h) (fun x hx hs => .inl hs); have hB := hn7; refine WL.nil ?_; refine wsr ?_; refine vm rfl rfl ?_; refine va rfl rfl ?_; refine va rfl rfl ?_; refine WL.nil ?_; refine WC.ret ?_; refine fin_two rfl rfl rfl ?_; refine ⟨⟨_, _, rfl⟩, ⟨R.most, R.ord ++ [v], 0, R.gone, .slice aad (R.ord.length + 1) capA, capA⟩, ⟨⟨hB, by dsimp only; rw [List.length_append]; exact hSA, all_snoc (Ring.ord_one h.one) hv1, by dsimp only; rw [List.length_append, hol]; simp only [List.length_cons, List.length_nil]; omega, hmo, .inl rfl⟩, hG, ?_, rfl⟩, by dsimp only; rw [List.length_append, hol]; simp only [List.length_cons, List.length_nil]; omega⟩
   intro k hk
   rcases hk with rfl | hk
   · exact .inl (.inl rfl)
   · rcases hbkA with h1 | ⟨b2, h1, h2⟩
     · by_cases hkw : k < w.heap.size
       · exact .inl (hevo k (by rw [hev, ← h1]; exact hk) hkw)
       · exact .inr (by omega)
     · rw [h1] at hk; cases hk; exact .inr (by have := hmE.size; omega)
  ·obtain ⟨b, o, blk, hv2, hb, hA, hr⟩ := hsl.pos (by omega)
   cases hv2
   refine WC.skip ?_; refine WC.seq ?_; refine WC.regionD (fun w0 w1 => Grow w0 w1) 11 rfl mixed (fun w4 hm4 hz4 => ?_); have hmD9 := hm4; have hB := hB.grow hm4; have hb := hb.grow hm4; have hsl := hsl.grow hm4; have hG := hG.grow hm4; have hSc := Mod.refl (fun k => False) w4; refine WH.take 0 rfl (by kernel_rfl) hSc (fun w1 h1 => OpRun.move rfl) ?_; refine WH.take 1 rfl (by kernel_rfl) hSc (fun w1 h1 => OpRun.nilCheck rfl) ?_; refine WH.take 2 rfl (by kernel_rfl) hSc (fun _ _ => oF 1 Tryz.runUnderlying115 Tryz.sizeOf83 rfl rfl rfl rfl) ?_
   first | refine WH.take 3 rfl (by kernel_rfl) hSc (fun w1 h1 => OpRun.load rfl ⟨Tryz.isAgg83⟩ (hb.grow h1) rfl) ?_ | refine WH.take 3 rfl (by kernel_rfl) hSc (fun w1 h1 => OpRun.load rfl ⟨Tryz.isAgg83⟩ (hB.grow h1) rfl) ?_
   refine WH.take 4 rfl (by kernel_rfl) hSc (fun w1 h1 => OpRun.move rfl) ?_; refine WH.take 5 rfl (by kernel_rfl) hSc (fun w1 h1 => OpRun.nilCheck rfl) ?_; refine WH.take 6 rfl (by kernel_rfl) hSc (fun _ _ => oF 2 Tryz.runUnderlying115 Tryz.sizeOf3 rfl rfl rfl rfl) ?_
   first | refine WH.take 7 rfl (by kernel_rfl) hSc (fun w1 h1 => OpRun.load rfl ⟨Tryz.isAgg3⟩ (hb.grow h1) rfl) ?_ | refine WH.take 7 rfl (by kernel_rfl) hSc (fun w1 h1 => OpRun.load rfl ⟨Tryz.isAgg3⟩ (hB.grow h1) rfl) ?_
   refine WH.take 8 rfl (by kernel_rfl) hSc (fun w1 h1 => OpRun.indexAddr rfl rfl ⟨Tryz.runUnderlying83⟩ ⟨Tryz.sizeOf54⟩ (by omega) (by omega)) ?_; refine WH.take 9 rfl (by kernel_rfl) hSc (fun w1 h1 => OpRun.load rfl ⟨Tryz.isAgg54⟩ (hb.grow h1) (at_get1 (i := R.at_) hA (by omega))) ?_; refine WH.take 10 rfl (by kernel_rfl) hSc (fun w1 h1 => OpRun.assign rfl) ?_; refine WH.done (by kernel_rfl) ?_; refine WC.seq ?_; refine WC.regionD (fun w0 w1 => Grow w0 w1) 11 rfl mixed (fun w5 hm5 hz5 => ?_); have hmD10 := hm5; have hB := hB.grow hm5; have hb := hb.grow hm5; have hsl := hsl.grow hm5; have hG := hG.grow hm5; have hSc := Mod.refl (fun k => False) w5
   skip
   refine WH.take 0 rfl (by kernel_rfl) hSc (fun w1 h1 => OpRun.move rfl) ?_; refine WH.take 1 rfl (by kernel_rfl) hSc (fun w1 h1 => OpRun.nilCheck rfl) ?_; refine WH.take 2 rfl (by kernel_rfl) hSc (fun _ _ => oF 1 Tryz.runUnderlying115 Tryz.sizeOf83 rfl rfl rfl rfl) ?_
   first | refine WH.take 3 rfl (by kernel_rfl) hSc (fun w1 h1 => OpRun.load rfl ⟨Tryz.isAgg83⟩ (hb.grow h1) rfl) ?_ | refine WH.take 3 rfl (by kernel_rfl) hSc (fun w1 h1 => OpRun.load rfl ⟨Tryz.isAgg83⟩ (hB.grow h1) rfl) ?_
   refine WH.take 4 rfl (by kernel_rfl) hSc (fun w1 h1 => OpRun.move rfl) ?_; refine WH.take 5 rfl (by kernel_rfl) hSc (fun w1 h1 => OpRun.nilCheck rfl) ?_; refine WH.take 6 rfl (by kernel_rfl) hSc (fun _ _ => oF 2 Tryz.runUnderlying115 Tryz.sizeOf3 rfl rfl rfl rfl) ?_
   first | refine WH.take 7 rfl (by kernel_rfl) hSc (fun w1 h1 => OpRun.load rfl ⟨Tryz.isAgg3⟩ (hb.grow h1) rfl) ?_ | refine WH.take 7 rfl (by kernel_rfl) hSc (fun w1 h1 => OpRun.load rfl ⟨Tryz.isAgg3⟩ (hB.grow h1) rfl) ?_
   refine WH.take 8 rfl (by kernel_rfl) hSc (fun w1 h1 => OpRun.move rfl) ?_; refine WH.take 9 rfl (by kernel_rfl) hSc (fun w1 h1 => OpRun.indexAddr rfl rfl ⟨Tryz.runUnderlying83⟩ ⟨Tryz.sizeOf54⟩ (by omega) (by omega)) ?_; refine WH.one 10 rfl (by kernel_rfl) (OpTo.storeS rfl rfl ⟨Tryz.sizeOf54⟩ hv1 hb (by omega) (fun w6 hn6 hm6 hz6 => ?_)); have hB := hB.mod hm6 (by first | exact hB.ne hb rfl | omega); have hG := hG.trans hm6 (fun _ h => h) (fun x hx hs => .inr (by rw [hv]; (try dsimp only at hs); subst hs; rfl)); refine ⟨fun hl => (by have h2 := hl.symm.trans (show isLast _ _ = true from by kernel_rfl); cases h2), ?_⟩; have hb := hn6; have hA := at_set1 (i := R.at_) (v := v) hA (by omega) (by omega); have hsl := Sl.of hb hA (by rw [List.length_set]; exact hr) (by rw [List.length_set]; omega) hcl h.sl.hcap; refine WH.done (by kernel_rfl) ?_; refine WC.seq ?_; refine WC.regionD (fun w0 w1 => Grow w0 w1) 15 rfl mixed (fun w7 hm7 hz7 => ?_)
   have hmD11 := hm7; have hB := hB.grow hm7; have hb := hb.grow hm7; have hG := hG.grow hm7; have hSc := Mod.refl (fun k => False) w7; refine WH.take 0 rfl (by kernel_rfl) hSc (fun w1 h1 => OpRun.move rfl) ?_; refine WH.take 1 rfl (by kernel_rfl) hSc (fun w1 h1 => OpRun.move rfl) ?_; refine WH.take 2 rfl (by kernel_rfl) hSc (fun w1 h1 => OpRun.nilCheck rfl) ?_; refine WH.take 3 rfl (by kernel_rfl) hSc (fun _ _ => oF 2 Tryz.runUnderlying115 Tryz.sizeOf3 rfl rfl rfl rfl) ?_
   first | refine WH.take 4 rfl (by kernel_rfl) hSc (fun w1 h1 => OpRun.load rfl ⟨Tryz.isAgg3⟩ (hb.grow h1) rfl) ?_ | refine WH.take 4 rfl (by kernel_rfl) hSc (fun w1 h1 => OpRun.load rfl ⟨Tryz.isAgg3⟩ (hB.grow h1) rfl) ?_
   refine WH.take 5 rfl (by kernel_rfl) hSc (fun w1 h1 => OpRun.add rfl rfl (In.i64 (by omega))) ?_; refine WH.take 6 rfl (by kernel_rfl) hSc (fun w1 h1 => OpRun.move rfl) ?_; refine WH.take 7 rfl (by kernel_rfl) hSc (fun w1 h1 => OpRun.nilCheck rfl) ?_; refine WH.take 8 rfl (by kernel_rfl) hSc (fun _ _ => oF 1 Tryz.runUnderlying115 Tryz.sizeOf83 rfl rfl rfl rfl) ?_
   first | refine WH.take 9 rfl (by kernel_rfl) hSc (fun w1 h1 => OpRun.load rfl ⟨Tryz.isAgg83⟩ (hb.grow h1) rfl) ?_ | refine WH.take 9 rfl (by kernel_rfl) hSc (fun w1 h1 => OpRun.load rfl ⟨Tryz.isAgg83⟩ (hB.grow h1) rfl) ?_
   refine WH.take 10 rfl (by kernel_rfl) hSc (fun w1 h1 => OpRun.lenS rfl ⟨Tryz.runUnderlying83⟩) ?_; refine WH.take 11 rfl (by kernel_rfl) hSc (fun w1 h1 => OpRun.rem rfl rfl (by omega) (by omega)) ?_; refine WH.take 12 rfl (by kernel_rfl) hSc (fun w1 h1 => OpRun.nilCheck rfl) ?_; refine WH.take 13 rfl (by kernel_rfl) hSc (fun _ _ => oF 2 Tryz.runUnderlying115 Tryz.sizeOf3 rfl rfl rfl rfl) ?_; refine WH.one 14 rfl (by kernel_rfl) (OpTo.store rfl rfl ⟨Tryz.sizeOf3⟩ rfl hB rfl (fun w8 hn8 hm8 hz8 => ?_))
   first | simp only [List.set_cons_zero, List.set_cons_succ] at hn8 | dsimp only [putList, List.set] at hn8
   have hb := hb.mod hm8 (by first | exact hb.ne hB rfl | omega); have hG := hG.trans hm8 (fun _ h => h) (fun x hx hs => .inl hs); refine ⟨fun hl => (by have h2 := hl.symm.trans (show isLast _ _ = true from by kernel_rfl); cases h2), ?_⟩; have hB := hn8; refine WH.done (by kernel_rfl) ?_; refine wsr ?_; refine vm rfl rfl ?_; refine vn rfl rfl ?_; refine vf 3 Tryz.runUnderlying115 Tryz.sizeOf2 rfl rfl rfl rfl rfl ?_
   first | refine WL.val (OpRun.load rfl ⟨Tryz.isAgg2⟩ hb rfl) rfl ?_ | refine WL.val (OpRun.load rfl ⟨Tryz.isAgg2⟩ hB rfl) rfl ?_
   refine WL.val (OpRun.addW rfl rfl) rfl ?_; refine vn rfl rfl ?_; refine vf 3 Tryz.runUnderlying115 Tryz.sizeOf2 rfl rfl rfl rfl rfl ?_; refine WL.step (OpTo.store rfl rfl ⟨Tryz.sizeOf2⟩ rfl hB rfl (fun w9 hn9 hm9 hz9 => ?_))
   first | simp only [List.set_cons_zero, List.set_cons_succ] at hn9 | dsimp only [putList, List.set] at hn9
   have hb := hb.mod hm9 (by first | exact hb.ne hB rfl | omega); have hG := hG.trans hm9 (fun _ h => h) (fun x hx hs => .inl hs); have hB := hn9; refine WL.nil ?_; refine wsr ?_; refine vm rfl rfl ?_; refine va rfl rfl ?_; refine va rfl rfl ?_; refine WL.nil ?_; refine WC.ret ?_; refine fin_two rfl rfl rfl ?_; refine ⟨⟨_, _, rfl⟩, ⟨R.most, R.vs.set R.at_ v, (R.at_ + 1) % R.vs.length, IntKind.i64.wrap (R.gone + 1), R.v, R.cap⟩, ⟨⟨by dsimp only; rw [hv]; exact hB, by dsimp only; rw [hv, List.length_set]; exact Sl.of hb hA (by rw [List.length_set]; exact hr) (by rw [List.length_set]; omega) hcl h.sl.hcap, all_set h.one hv1, by rw [List.length_set]; exact hle, hmo, .inr (by rw [List.length_set]; exact Nat.mod_lt _ (by omega))⟩, hG, fun k hk => .inl hk, rfl⟩, by dsimp only; rw [List.length_set]; omega⟩

theorem ringclear_ok {w : World} {rb : Nat} {R : Ring} (h : RingW w rb R) : Ret Tryz.prog 145 [.pointer (some ⟨rb, 0, none⟩)] w (fun r w' => r = .tuple #[] ∧ ∃ R', ROp w w' rb R R' ∧ R'.vs.length = 0) := by
 have hB := h.blk; have hsl := h.sl; obtain ⟨ad, hv⟩ := hsl.slice; rw [hv] at hB hsl; have hat := h.at_; have hle := h.le; have hmo := h.most; have hcl := hsl.hle; refine Ret.of Tryz.func145 Tryz.ntmps145 rfl rfl ?_; refine WC.sub (e' := [(0, .pointer (some ⟨rb, 0, none⟩))]) ⟨rfl, trivial⟩ ?_; have hG : Mod (fun k => R.own rb k) w w := Mod.refl _ _; refine WC.seq ?_; refine WC.regionD (fun w0 w1 => Grow w0 w1) 13 rfl mixed (fun w1 hm1 hz1 => ?_); have hmD0 := hm1; have hB := hB.grow hm1; have hG := hG.grow hm1; have hSc := Mod.refl (fun k => False) w1; refine WH.take 0 rfl (by kernel_rfl) hSc (fun w1 h1 => OpRun.move rfl) ?_; refine WH.take 1 rfl (by kernel_rfl) hSc (fun w1 h1 => OpRun.nilCheck rfl) ?_; refine WH.take 2 rfl (by kernel_rfl) hSc (fun _ _ => oF 3 Tryz.runUnderlying115 Tryz.sizeOf2 rfl rfl rfl rfl) ?_; refine WH.take 3 rfl (by kernel_rfl) hSc (fun w1 h1 => OpRun.load rfl ⟨Tryz.isAgg2⟩ (hB.grow h1) rfl) ?_
 refine WH.take 4 rfl (by kernel_rfl) hSc (fun w1 h1 => OpRun.move rfl) ?_; refine WH.take 5 rfl (by kernel_rfl) hSc (fun w1 h1 => OpRun.nilCheck rfl) ?_; refine WH.take 6 rfl (by kernel_rfl) hSc (fun _ _ => oF 1 Tryz.runUnderlying115 Tryz.sizeOf83 rfl rfl rfl rfl) ?_; refine WH.take 7 rfl (by kernel_rfl) hSc (fun w1 h1 => OpRun.load rfl ⟨Tryz.isAgg83⟩ (hB.grow h1) rfl) ?_; refine WH.take 8 rfl (by kernel_rfl) hSc (fun w1 h1 => OpRun.lenS rfl ⟨Tryz.runUnderlying83⟩) ?_; refine WH.take 9 rfl (by kernel_rfl) hSc (fun w1 h1 => OpRun.addW rfl rfl) ?_; refine WH.take 10 rfl (by kernel_rfl) hSc (fun w1 h1 => OpRun.nilCheck rfl) ?_; refine WH.take 11 rfl (by kernel_rfl) hSc (fun _ _ => oF 3 Tryz.runUnderlying115 Tryz.sizeOf2 rfl rfl rfl rfl) ?_; refine WH.one 12 rfl (by kernel_rfl) (OpTo.store rfl rfl ⟨Tryz.sizeOf2⟩ rfl hB rfl (fun w2 hn2 hm2 hz2 => ?_))
 first | simp only [List.set_cons_zero, List.set_cons_succ] at hn2 | dsimp only [putList, List.set] at hn2
 have hG := hG.trans hm2 (fun _ h => h) (fun x hx hs => .inl hs); refine ⟨fun hl => (by have h2 := hl.symm.trans (show isLast _ _ = true from by kernel_rfl); cases h2), ?_⟩; have hB := hn2; refine WH.done (by kernel_rfl) ?_; refine WC.region ?_; refine vm rfl rfl ?_; refine vm rfl rfl ?_; refine vn rfl rfl ?_; refine vf 1 Tryz.runUnderlying115 Tryz.sizeOf83 rfl rfl rfl rfl rfl ?_; refine WL.step (OpTo.store rfl rfl ⟨Tryz.sizeOf83⟩ rfl hB rfl (fun w3 hn3 hm3 hz3 => ?_))
 first | simp only [List.set_cons_zero, List.set_cons_succ] at hn3 | dsimp only [putList, List.set] at hn3
 have hG := hG.trans hm3 (fun _ h => h) (fun x hx hs => .inl hs); have hB := hn3; refine vn rfl rfl ?_; refine vf 2 Tryz.runUnderlying115 Tryz.sizeOf3 rfl rfl rfl rfl rfl ?_; refine WL.step (OpTo.store rfl rfl ⟨Tryz.sizeOf3⟩ rfl hB rfl (fun w4 hn4 hm4 hz4 => ?_))
 first | simp only [List.set_cons_zero, List.set_cons_succ] at hn4 | dsimp only [putList, List.set] at hn4
 have hG := hG.trans hm4 (fun _ h => h) (fun x hx hs => .inl hs); have hB := hn4; refine WL.nil ?_; refine fin_none rfl ?_; exact ⟨rfl, ⟨R.most, [], 0, _, .slice none 0 0, 0⟩, ⟨⟨hB, Sl.nil _ _ _, rfl, Nat.zero_le _, hmo, .inl rfl⟩, hG, fun k hk => .inl (hk.elim .inl (fun h => by cases h)), rfl⟩, rfl⟩

theorem ringtwin_ok {w : World} {rb : Nat} {R : Ring} (h : RingW w rb R) : Ret Tryz.prog 68 [.pointer (some ⟨rb, 0, none⟩)] w (fun r w' => ∃ rb' v' cap', r = .pointer (some ⟨rb', 0, none⟩) ∧ RingW w' rb' ⟨R.most, R.vs, R.at_, R.gone, v', cap'⟩ ∧ Grow w w' ∧ w.heap.size ≤ rb' ∧ Fresh w v') := by
 have hB := h.blk; have hsl := h.sl; obtain ⟨ad, hv⟩ := hsl.slice; rw [hv] at hB hsl; have hat := h.at_; have hle := h.le; have hmo := h.most; have hcl := hsl.hle; have hlt := hB.lt; have hsz0 : w.heap.size ≤ w.heap.size := Nat.le_refl _; refine Ret.of Tryz.func68 Tryz.ntmps68 rfl rfl ?_; refine WC.sub (e' := [(0, .pointer (some ⟨rb, 0, none⟩))]) ⟨rfl, trivial⟩ ?_; have hG : Mod (fun k => False) w w := Mod.refl _ _; refine wsr ?_; refine va rfl rfl ?_; refine WL.nil ?_; refine wsr ?_; refine vm rfl rfl ?_; refine vn rfl rfl ?_; refine WL.val (OpRun.loadA (vs := [_, _, _, _]) rfl ⟨Tryz.isAgg115⟩ ⟨Tryz.sizeOf115⟩ hB ⟨rfl, rfl, rfl, rfl, trivial⟩) rfl ?_; refine WL.step (OpTo.alloc (vs := [_, _, _, _]) ⟨Tryz.zeroValue115⟩ rfl rfl (fun bX wX hX hmX hloX hhiX => ?_)); have hB := hB.grow hmX
 have hsl := hsl.grow hmX; have hG := hG.grow hmX
 have hsv : ∀ k, sblk (Value.slice ad R.vs.length R.cap) = some k → k < w.heap.size := fun k hk => by
   have := h.sl; rw [hv] at this; exact this.lt hk
 refine WL.step (OpTo.storeA (vs := [_, _, _, _]) rfl rfl ⟨Tryz.sizeOf115⟩ rfl hX rfl (fun w2 hn2 hm2 hz2 => ?_))
 first | simp only [putList, List.set_cons_zero, List.set_cons_succ] at hn2 | dsimp only [putList, List.set] at hn2
 have hB := hB.mod hm2 (by first | exact hB.ne hX rfl | omega); have hsl := hsl.mod hm2 (fun k hk (h : k = _) => by have := hsv k hk; omega); have hG := hG.trans hm2 (fun _ h => h) (fun x hx hs => by (try dsimp only at hs ⊢); omega); have hX := hn2; refine WL.nil ?_; refine wsr ?_; refine vm rfl rfl ?_; refine vn rfl rfl ?_; refine vf 1 Tryz.runUnderlying115 Tryz.sizeOf83 rfl rfl rfl rfl rfl ?_
 first | refine WL.val (OpRun.load rfl ⟨Tryz.isAgg83⟩ hX rfl) rfl ?_ | refine WL.val (OpRun.load rfl ⟨Tryz.isAgg83⟩ hB rfl) rfl ?_
 refine WL.step (OpTo.call ⟨Tryz.call69⟩ rfl rfl (clone1_ok hsl (by omega) h.one) (fun vC wC hpC => ?_)); obtain ⟨⟨cap2, hC⟩, hmC, hfC⟩ := hpC; have hB := hB.grow hmC; have hX := hX.grow hmC; have hsl := hsl.grow hmC; have hG := hG.grow hmC; have hXl := hX.lt; obtain ⟨cad, rfl⟩ := hC.slice; refine vf 1 Tryz.runUnderlying115 Tryz.sizeOf83 rfl rfl rfl rfl rfl ?_; refine WL.step (OpTo.store rfl rfl ⟨Tryz.sizeOf83⟩ rfl hX rfl (fun w4 hn4 hm4 hz4 => ?_))
 first | simp only [List.set_cons_zero, List.set_cons_succ] at hn4 | dsimp only [putList, List.set] at hn4
 have hB := hB.mod hm4 (by first | exact hB.ne hX rfl | omega); have hsl := hsl.mod hm4 (fun k hk (h : k = _) => by have := hsv k hk; omega); have hC := hC.mod hm4 (fun k hk => hC.ne hX rfl k hk); have hG := hG.trans hm4 (fun _ h => h) (fun x hx hs => by (try dsimp only at hs ⊢); omega); have hX := hn4; refine WL.nil ?_; refine wsr ?_; refine va rfl rfl ?_; refine WL.nil ?_; refine WC.ret ?_; refine fin_one rfl rfl ?_
 skip
 refine ⟨_, _, cap2, rfl, ⟨hX, hC, h.one, hle, hmo, hat⟩, hG, hloX, fun k hk => by have := hfC k hk; have := hmX.size; omega⟩

end Go.Eng
namespace Go.Eng
open Go Go.Proofs

theorem NoLine.sl {w : World} {v : Value} {T sz len cap : Nat} {cs : List Value} (h : Sl w v T sz cs len cap) (hT : Nat.beq T 89 = false) : NoLine w (fun k => sblk v = some k) := fun k hk cs' hb => by
  obtain ⟨blk, hb'⟩ := h.typ hk
  have := hb'.typ_eq hb
  subst this; simp at hT

abbrev GB (p v : Value) (rows cols : Nat) (top : Int) : List Value := [p, .int .i64 rows, .int .i64 cols, v, .int .i64 top]
abbrev blankRow (c : Nat) (a : Attr) : List Cell := List.replicate c (blank a)

theorem gsize_ok {w : World} (n : Int) : Ret Tryz.prog 42 [.int .i64 n] w (fun r w' => r = .bool (decide (1 ≤ n ∧ n ≤ 1000)) ∧ w = w') := by
 refine Ret.of Tryz.func42 Tryz.ntmps42 rfl rfl ?_; refine WC.sub (e' := [(0, .int .i64 n)]) ⟨rfl, trivial⟩ ?_; have hG : Mod (fun k => False) w w := Mod.refl _ _; refine wsr ?_; refine va rfl rfl ?_; refine WL.nil ?_; refine wsr ?_; refine vm rfl rfl ?_; refine WL.val (OpRun.geq rfl rfl) rfl ?_; refine WL.splitD rfl rfl (fun hq1 => ?_) (fun hq1 => ?_)
 ·refine WL.want rfl rfl ?_; refine vm rfl rfl ?_; refine WL.want rfl rfl ?_; refine WL.val (OpRun.leq rfl rfl) rfl ?_; refine WL.val (OpRun.pickT rfl rfl) rfl ?_; refine va rfl rfl ?_; refine WL.nil ?_; refine WC.ret ?_; refine fin_one rfl rfl ?_; refine ⟨?_, rfl⟩; refine congrArg Value.bool ?_
  first | exact (decide_eq_decide.2 (by omega)) | exact (decide_eq_true (by omega)).symm | exact (decide_eq_false (by omega)).symm
 ·refine WL.pass rfl rfl rfl rfl ?_; refine WL.pass rfl rfl rfl rfl ?_; refine WL.val (OpRun.pickF rfl rfl) rfl ?_; refine va rfl rfl ?_; refine WL.nil ?_; refine WC.ret ?_; refine fin_one rfl rfl ?_; refine ⟨?_, rfl⟩; refine congrArg Value.bool ?_
  first | exact (decide_eq_decide.2 (by omega)) | exact (decide_eq_true (by omega)).symm | exact (decide_eq_false (by omega)).symm

theorem is_row {w : World} {gb : Nat} {G : Grid} (h : GridW w gb G) (row : Int) : Ret Tryz.prog 37 [.pointer (some ⟨gb, 0, none⟩), .int .i64 row] w (fun r w' => r = .bool (decide (0 ≤ row ∧ row < G.rows)) ∧ w = w') := by
 have hB := h.blk; refine Ret.of Tryz.func37 Tryz.ntmps37 rfl rfl ?_; refine WC.sub (e' := [(0, .pointer (some ⟨gb, 0, none⟩)), (1, .int .i64 row)]) ⟨rfl, rfl, trivial⟩ ?_; have hG : Mod (fun k => False) w w := Mod.refl _ _; refine wsr ?_; refine va rfl rfl ?_; refine WL.nil ?_; refine wsr ?_; refine vm rfl rfl ?_; refine WL.val (OpRun.geq rfl rfl) rfl ?_; refine WL.splitD rfl rfl (fun hq1 => ?_) (fun hq1 => ?_)
 ·refine WL.want rfl rfl ?_; refine vm rfl rfl ?_; refine WL.want rfl rfl ?_; refine vm rfl rfl ?_; refine WL.want rfl rfl ?_; refine vn rfl rfl ?_; refine WL.want rfl rfl ?_; refine vf 1 Tryz.runUnderlying85 Tryz.sizeOf3 rfl rfl rfl rfl rfl ?_; refine WL.want rfl rfl ?_; refine WL.val (OpRun.load rfl ⟨Tryz.isAgg3⟩ hB rfl) rfl ?_; refine WL.want rfl rfl ?_; refine WL.val (OpRun.lss rfl rfl) rfl ?_; refine WL.val (OpRun.pickT rfl rfl) rfl ?_; refine va rfl rfl ?_; refine WL.nil ?_; refine WC.ret ?_; refine fin_one rfl rfl ?_; refine ⟨?_, rfl⟩; refine congrArg Value.bool ?_
  first | exact (decide_eq_decide.2 (by omega)) | exact (decide_eq_true (by omega)).symm | exact (decide_eq_false (by omega)).symm
 ·refine WL.pass rfl rfl rfl rfl ?_; refine WL.pass rfl rfl rfl rfl ?_; refine WL.pass rfl rfl rfl rfl ?_; refine WL.pass rfl rfl rfl rfl ?_; refine WL.pass rfl rfl rfl rfl ?_; refine WL.pass rfl rfl rfl rfl ?_; refine WL.val (OpRun.pickF rfl rfl) rfl ?_; refine va rfl rfl ?_; refine WL.nil ?_; refine WC.ret ?_; refine fin_one rfl rfl ?_; refine ⟨?_, rfl⟩; refine congrArg Value.bool ?_
  first | exact (decide_eq_decide.2 (by omega)) | exact (decide_eq_true (by omega)).symm | exact (decide_eq_false (by omega)).symm

theorem Size_ok {w : World} {gb : Nat} {G : Grid} (h : GridW w gb G) : Ret Tryz.prog 14 [.pointer (some ⟨gb, 0, none⟩)] w (fun r w' => r = .tuple #[.int .i64 G.rows, .int .i64 G.cols] ∧ Grow w w') := by
 have hB := h.blk; refine Ret.of Tryz.func14 Tryz.ntmps14 rfl rfl ?_; refine WC.sub (e' := [(0, .pointer (some ⟨gb, 0, none⟩))]) ⟨rfl, trivial⟩ ?_; have hG : Mod (fun k => False) w w := Mod.refl _ _; refine wsr ?_; refine va rfl rfl ?_; refine va rfl rfl ?_; refine WL.nil ?_; refine WC.seq ?_; refine WC.regionD (fun w0 w1 => Grow w0 w1) 10 rfl mixed (fun w1 hm1 hz1 => ?_); have hmD1 := hm1; have hB := hB.grow hm1; have hG := hG.grow hm1; have hSc := Mod.refl (fun k => False) w1; refine WH.take 0 rfl (by kernel_rfl) hSc (fun w1 h1 => OpRun.move rfl) ?_; refine WH.take 1 rfl (by kernel_rfl) hSc (fun w1 h1 => OpRun.nilCheck rfl) ?_; refine WH.take 2 rfl (by kernel_rfl) hSc (fun _ _ => oF 1 Tryz.runUnderlying85 Tryz.sizeOf3 rfl rfl rfl rfl) ?_; refine WH.take 3 rfl (by kernel_rfl) hSc (fun w1 h1 => OpRun.load rfl ⟨Tryz.isAgg3⟩ (hB.grow h1) rfl) ?_
 refine WH.take 4 rfl (by kernel_rfl) hSc (fun w1 h1 => OpRun.move rfl) ?_; refine WH.take 5 rfl (by kernel_rfl) hSc (fun w1 h1 => OpRun.nilCheck rfl) ?_; refine WH.take 6 rfl (by kernel_rfl) hSc (fun _ _ => oF 2 Tryz.runUnderlying85 Tryz.sizeOf3 rfl rfl rfl rfl) ?_; refine WH.take 7 rfl (by kernel_rfl) hSc (fun w1 h1 => OpRun.load rfl ⟨Tryz.isAgg3⟩ (hB.grow h1) rfl) ?_; refine WH.take 8 rfl (by kernel_rfl) hSc (fun w1 h1 => OpRun.assign rfl) ?_; refine WH.take 9 rfl (by kernel_rfl) hSc (fun w1 h1 => OpRun.assign rfl) ?_; refine WH.done (by kernel_rfl) ?_; refine WC.ret ?_; refine fin_two rfl rfl rfl ?_; exact ⟨rfl, hG⟩

theorem Top_ok {w : World} {gb : Nat} {G : Grid} (h : GridW w gb G) : Ret Tryz.prog 124 [.pointer (some ⟨gb, 0, none⟩)] w (fun r w' => r = .int .i64 G.top ∧ w = w') := by
 have hB := h.blk; refine Ret.of Tryz.func124 Tryz.ntmps124 rfl rfl ?_; refine WC.sub (e' := [(0, .pointer (some ⟨gb, 0, none⟩))]) ⟨rfl, trivial⟩ ?_; have hG : Mod (fun k => False) w w := Mod.refl _ _; refine wsr ?_; refine va rfl rfl ?_; refine WL.nil ?_; refine wsr ?_; refine vm rfl rfl ?_; refine vn rfl rfl ?_; refine vf 4 Tryz.runUnderlying85 Tryz.sizeOf2 rfl rfl rfl rfl rfl ?_; refine WL.val (OpRun.load rfl ⟨Tryz.isAgg2⟩ hB rfl) rfl ?_; refine va rfl rfl ?_; refine WL.nil ?_; refine WC.ret ?_; refine fin_one rfl rfl ?_; exact ⟨rfl, rfl⟩

theorem Back_ok {w : World} {gb : Nat} {G : Grid} (h : GridW w gb G) : Ret Tryz.prog 16 [.pointer (some ⟨gb, 0, none⟩)] w (fun r w' => r = .int .i64 G.ring.vs.length ∧ w = w') := by
 have hB := h.blk; refine Ret.of Tryz.func16 Tryz.ntmps16 rfl rfl ?_; refine WC.sub (e' := [(0, .pointer (some ⟨gb, 0, none⟩))]) ⟨rfl, trivial⟩ ?_; have hG : Mod (fun k => False) w w := Mod.refl _ _; refine wsr ?_; refine va rfl rfl ?_; refine WL.nil ?_; refine wsr ?_; refine vm rfl rfl ?_; refine vn rfl rfl ?_; refine vf 0 Tryz.runUnderlying85 Tryz.sizeOf82 rfl rfl rfl rfl rfl ?_; refine WL.val (OpRun.load rfl ⟨Tryz.isAgg82⟩ hB rfl) rfl ?_; refine WL.step (OpTo.call ⟨Tryz.call36⟩ rfl rfl (ringlen_ok h.ring) (fun v1 w1 hp1 => ?_)); obtain ⟨rfl, rfl⟩ := hp1; refine va rfl rfl ?_; refine WL.nil ?_; refine WC.ret ?_; refine fin_one rfl rfl ?_; exact ⟨rfl, rfl⟩

theorem gblanks_ok {w : World} {gb rows cols : Nat} {p v : Value} {top : Int} (hB : Blk w gb 85 (GB p v rows cols top)) (hc : cols ≤ 1000) (n : Int) (hn : n ≤ 1000) (hn0 : -1000 ≤ n) (a : Attr) : Ret Tryz.prog 65 [.pointer (some ⟨gb, 0, none⟩), .int .i64 n, .agg #[.int .i64 a.fg, .int .i64 a.bg, .int .i64 a.fl]] w (fun r w' => (∃ vs cap, Sl w' r 54 1 vs n.toNat cap ∧ LinesW w' vs (List.replicate n.toNat (blankRow cols a))) ∧ Grow w w' ∧ Fresh w r) := by
 refine Ret.of Tryz.func65 Tryz.ntmps65 rfl rfl ?_; refine WC.sub (e' := [(0, .pointer (some ⟨gb, 0, none⟩)), (1, .int .i64 n), (2, .agg #[.int .i64 a.fg, .int .i64 a.bg, .int .i64 a.fl])]) ⟨rfl, rfl, rfl, trivial⟩ ?_; have hG : Mod (fun k => False) w w := Mod.refl _ _; refine wsr ?_; refine WL.step (OpTo.box (vs := [_, _, _]) rfl rfl rfl (fun bX wX hX hmX hloX hhiX => ?_)); have hB := hB.grow hmX; have hG := hG.grow hmX; refine va rfl rfl ?_; refine WL.nil ?_; refine wsr ?_; refine va rfl rfl ?_; refine WL.nil ?_; refine WC.seq ?_; refine wsr ?_; refine vm rfl rfl ?_; refine vm rfl rfl ?_; refine WL.nil ?_; refine WC.block ?_; refine WC.loop (fun m e w' => ∃ (k : Nat) (ov : Value) (vs : List Value) (oc : Nat), k ≤ n.toNat ∧ m = n.toNat - k ∧ Sub [(0, .pointer (some ⟨gb, 0, none⟩)), (5, .pointer (some ⟨bX, 0, none⟩)), (7, ov), (8, .int .i64 n), (9, .int .i64 k)] e ∧ Blk w' bX 40 [.int .i64 a.fg, .int .i64 a.bg, .int .i64 a.fl] ∧ Blk w' gb 85 (GB p v rows cols top) ∧ Sl w' ov 54 1 vs k oc ∧ LinesW w' vs (List.replicate k (blankRow cols a)) ∧ Fresh w ov ∧ Mod (fun _ => False) w w') (n.toNat) ⟨0, _, [], 0, by omega, by omega, ⟨rfl, rfl, rfl, rfl, rfl, trivial⟩, hX, hB, Sl.nil _ _ _, trivial, Fresh.nil _, hG⟩ ?_
 rintro m e wl ⟨k, ov, vs, oc, hk, rfl, hs, hX, hB, hov, hlw, hfr, hG⟩
 refine WC.sub hs ?_; have hsz := hG.size; refine wsr ?_; refine WL.val (OpRun.lss rfl rfl) rfl ?_; refine WL.nil ?_; refine WC.seq ?_; refine WC.condD rfl (fun hq4 => ?_) (fun hq4 => ?_)
 ·refine WC.skip ?_; refine WC.seq ?_; refine WC.block ?_; refine WC.regionD (fun w0 w1 => Mod (fun k => sblk ov = some k) w0 w1) 10 rfl mixed (fun w5 hm5 hz5 => ?_); have hmD4 := hm5; have hX := hX.grow hm5; have hB := hB.grow hm5; have hov := hov.grow hm5; have hG := hG.grow hm5; have hSc := Mod.refl (fun k => sblk ov = some k) w5; have hlw := hlw.grow ‹Grow wl _›; refine WH.take 0 rfl (by kernel_rfl) hSc (fun w1 h1 => OpRun.move rfl) ?_; refine WH.take 1 rfl (by kernel_rfl) hSc (fun w1 h1 => OpRun.move rfl) ?_; refine WH.take 2 rfl (by kernel_rfl) hSc (fun w1 h1 => OpRun.nilCheck rfl) ?_; refine WH.take 3 rfl (by kernel_rfl) hSc (fun _ _ => oF 2 Tryz.runUnderlying85 Tryz.sizeOf3 rfl rfl rfl rfl) ?_
  first | refine WH.take 4 rfl (by kernel_rfl) hSc (fun w1 h1 => OpRun.load rfl ⟨Tryz.isAgg3⟩ (hB.mod h1 (fun h => hov.ne hB rfl _ h rfl)) rfl) ?_ | refine WH.take 4 rfl (by kernel_rfl) hSc (fun w1 h1 => OpRun.load rfl ⟨Tryz.isAgg3⟩ (hX.mod h1 (fun h => hov.ne hX rfl _ h rfl)) rfl) ?_
  first | refine WH.take 5 rfl (by kernel_rfl) hSc (fun w1 h1 => OpRun.loadA (vs := [_, _, _]) rfl ⟨Tryz.isAgg40⟩ ⟨Tryz.sizeOf40⟩ (hB.mod h1 (fun h => hov.ne hB rfl _ h rfl)) ⟨rfl, rfl, rfl, trivial⟩) ?_ | refine WH.take 5 rfl (by kernel_rfl) hSc (fun w1 h1 => OpRun.loadA (vs := [_, _, _]) rfl ⟨Tryz.isAgg40⟩ ⟨Tryz.sizeOf40⟩ (hX.mod h1 (fun h => hov.ne hX rfl _ h rfl)) ⟨rfl, rfl, rfl, trivial⟩) ?_
  refine WH.one 6 rfl (by kernel_rfl) (OpTo.call ⟨Tryz.call85⟩ rfl rfl (linenew_ok cols a (by omega) (by omega)) (fun vL wL hpL => ?_)); obtain ⟨hlv, hmL, hfL⟩ := hpL; have hX := hX.grow hmL; have hB := hB.grow hmL; have hov := hov.grow hmL; have hG := hG.grow hmL; have hSc := hSc.grow hmL; refine ⟨fun _ => hSc, ?_⟩; rw [Int.toNat_natCast] at hlv; obtain ⟨lad, lcap, rfl⟩ := hlv.slice; have hlw := hlw.grow hmL; have hlvo := hlv; refine WH.one 7 rfl (by kernel_rfl) (OpTo.buildSlice (cs := [_]) rfl rfl rfl ⟨Tryz.runUnderlying83⟩ ⟨Tryz.sizeOf54⟩ ⟨Tryz.zeroValue54⟩ (fill_one (vs := [_]) rfl rfl) rfl (fun bE wE hbE hmE hloE hhiE => ?_)); have hX := hX.grow hmE; have hB := hB.grow hmE; have hov := hov.grow hmE; have hG := hG.grow hmE; have hSc := hSc.grow hmE; refine ⟨fun _ => hSc, ?_⟩; have hlw := hlw.grow hmE; have hlv := hlv.grow hmE; refine WH.one 8 rfl (by kernel_rfl) (OpTo.append rfl ⟨Tryz.runUnderlying83⟩ ⟨Tryz.runUnderlying83⟩ (by intro k h; cases h) ⟨Tryz.sizeOf54⟩ hov (Sl.of hbE (cs := [_]) ⟨rfl, trivial⟩ (by simp) rfl (by omega) (by omega)).src (rfl) ⟨Tryz.zeroValue54⟩ rfl (by_ := 24) ⟨fun w => ⟨_, Tryz.typeInfo54 w, rfl⟩⟩ (by omega) (by omega) rfl rfl (fun vA wA hpA => ?_))
  obtain ⟨capA, hSA, hmA, hbkA⟩ := hpA; have hX := hX.mod hmA (fun h => hov.ne hX rfl _ h rfl); have hB := hB.mod hmA (fun h => hov.ne hB rfl _ h rfl); have hfrA : Fresh w vA := fun k hk => hbkA.elim (fun h => hfr k (h ▸ hk)) (fun ⟨b, hb, hlt⟩ => by have h1 := hb.symm.trans hk; cases h1; have := hG.size; omega); have hG := hG.trans hmA (fun _ h => h) (fun x hx hs => absurd hx (by have := hfr x hs; omega)); have hlw := LinesW.modN hmA (NoLine.sl hov rfl) hlw; have hlv := hlv.modN hmA (NoLine.sl hov rfl); have hSc := hSc.trans hmA (fun _ h => h) (fun x hx hs => hs); refine ⟨fun _ => hSc, ?_⟩; refine WH.one 9 rfl (by kernel_rfl) (OpTo.val (OpRun.assign rfl) rfl ?_); refine ⟨fun _ => hSc, ?_⟩; refine WH.done (by kernel_rfl) ?_; refine WC.region ?_; refine WL.val (OpRun.add rfl rfl (In.i64 (by omega))) rfl ?_; refine vm rfl rfl ?_; refine WL.nil ?_; exact ⟨n.toNat - (k + 1), by omega, k + 1, _, _, _, by omega, rfl, ⟨rfl, rfl, rfl, rfl, rfl, trivial⟩, hX, hB, hSA, by rw [List.replicate_succ']; exact hlw.append (us := [.slice lad (List.replicate cols (blank a)).length lcap]) (ms := [blankRow cols a]) ⟨hlv, trivial⟩, hfrA, hG⟩
 ·refine WC.exit ?_; refine wsr ?_; refine vm rfl rfl ?_; refine va rfl rfl ?_; refine WL.nil ?_; refine WC.ret ?_; refine fin_one rfl rfl ?_; obtain rfl : k = n.toNat := by omega
  exact ⟨⟨_, _, hov, hlw⟩, hG, hfr⟩

theorem gclear_ok {w : World} {gb rows cols : Nat} {p v : Value} {top : Int} (hB : Blk w gb 85 (GB p v rows cols top)) (hc : cols ≤ 1000) (hr : rows ≤ 1000) (a : Attr) : Ret Tryz.prog 44 [.pointer (some ⟨gb, 0, none⟩), .agg #[.int .i64 a.fg, .int .i64 a.bg, .int .i64 a.fl]] w (fun r w' => r = .tuple #[] ∧ ∃ v' vs cap, Blk w' gb 85 (GB p v' rows cols top) ∧ Sl w' v' 54 1 vs rows cap ∧ LinesW w' vs (List.replicate rows (blankRow cols a)) ∧ Mod (fun k => k = gb) w w' ∧ Fresh w v') := by
 refine Ret.of Tryz.func44 Tryz.ntmps44 rfl rfl ?_; refine WC.sub (e' := [(0, .pointer (some ⟨gb, 0, none⟩)), (1, .agg #[.int .i64 a.fg, .int .i64 a.bg, .int .i64 a.fl])]) ⟨rfl, rfl, trivial⟩ ?_; have hG : Mod (fun k => k = gb) w w := Mod.refl _ _; refine wsr ?_; refine WL.step (OpTo.box (vs := [_, _, _]) rfl rfl rfl (fun bX wX hX hmX hloX hhiX => ?_)); have hB := hB.grow hmX; have hG := hG.grow hmX; refine WL.nil ?_; refine WC.regionD (fun w0 w1 => Grow w0 w1) 11 rfl mixed (fun w2 hm2 hz2 => ?_); have hmD1 := hm2; have hB := hB.grow hm2; have hX := hX.grow hm2; have hG := hG.grow hm2; have hSc := Mod.refl (fun k => False) w2; refine WH.take 0 rfl (by kernel_rfl) hSc (fun w1 h1 => OpRun.move rfl) ?_; refine WH.take 1 rfl (by kernel_rfl) hSc (fun w1 h1 => OpRun.move rfl) ?_; refine WH.take 2 rfl (by kernel_rfl) hSc (fun w1 h1 => OpRun.move rfl) ?_; refine WH.take 3 rfl (by kernel_rfl) hSc (fun w1 h1 => OpRun.nilCheck rfl) ?_
 refine WH.take 4 rfl (by kernel_rfl) hSc (fun _ _ => oF 1 Tryz.runUnderlying85 Tryz.sizeOf3 rfl rfl rfl rfl) ?_
 first | refine WH.take 5 rfl (by kernel_rfl) hSc (fun w1 h1 => OpRun.load rfl ⟨Tryz.isAgg3⟩ (hX.grow h1) rfl) ?_ | refine WH.take 5 rfl (by kernel_rfl) hSc (fun w1 h1 => OpRun.load rfl ⟨Tryz.isAgg3⟩ (hB.grow h1) rfl) ?_
 first | refine WH.take 6 rfl (by kernel_rfl) hSc (fun w1 h1 => OpRun.loadA (vs := [_, _, _]) rfl ⟨Tryz.isAgg40⟩ ⟨Tryz.sizeOf40⟩ (hX.grow h1) ⟨rfl, rfl, rfl, trivial⟩) ?_ | refine WH.take 6 rfl (by kernel_rfl) hSc (fun w1 h1 => OpRun.loadA (vs := [_, _, _]) rfl ⟨Tryz.isAgg40⟩ ⟨Tryz.sizeOf40⟩ (hB.grow h1) ⟨rfl, rfl, rfl, trivial⟩) ?_
 refine WH.one 7 rfl (by kernel_rfl) (OpTo.call ⟨Tryz.call65⟩ rfl rfl (gblanks_ok hB hc rows (by omega) (by omega) a) (fun vB wB hpB => ?_)); obtain ⟨⟨vs, cap, hsl, hlw⟩, hmB, hfB⟩ := hpB; have hB := hB.grow hmB; have hX := hX.grow hmB; have hG := hG.grow hmB; have hSc := hSc.grow hmB; refine ⟨fun _ => hSc, ?_⟩; rw [Int.toNat_natCast] at hsl hlw; obtain ⟨ad, rfl⟩ := hsl.slice; have hfr : Fresh w (.slice ad rows cap) := fun k hk => by have := hfB k hk; have := hG.size; have := hmB.size; have := hmX.size; omega
 refine WH.one 8 rfl (by kernel_rfl) (OpTo.val (OpRun.nilCheck rfl) rfl ?_); refine ⟨fun _ => hSc, ?_⟩; refine WH.one 9 rfl (by kernel_rfl) (OpTo.val (OpRun.fieldAddr (off := 3) rfl ⟨Tryz.runUnderlying85⟩ rfl ⟨Tryz.sizeOf83⟩ rfl rfl) rfl ?_); refine ⟨fun _ => hSc, ?_⟩; refine WH.one 10 rfl (by kernel_rfl) (OpTo.store rfl rfl ⟨Tryz.sizeOf83⟩ rfl hB rfl (fun w4 hn4 hm4 hz4 => ?_))
 first | simp only [List.set_cons_zero, List.set_cons_succ] at hn4 | dsimp only [putList, List.set] at hn4
 have hX := hX.mod hm4 (by first | exact hX.ne hB rfl | omega); have hsl := hsl.mod hm4 (by first | exact fun k hk => hsl.ne hB rfl k hk | omega); have hG := hG.trans hm4 (fun _ h => h) (fun x hx hs => by (try dsimp only at hs ⊢); omega); refine ⟨fun hl => (by have h2 := hl.symm.trans (show isLast _ _ = true from by kernel_rfl); cases h2), ?_⟩; have hB := hn4; have hlw := LinesW.modN hm4 (NoLine.blk ‹Blk _ gb 85 (GB p v rows cols top)› rfl) hlw; refine WH.done (by kernel_rfl) ?_; refine fin_none rfl ?_; exact ⟨rfl, _, vs, cap, hB, hsl, hlw, hG, hfr⟩

theorem gnew_ok {w : World} (rows cols back : Nat) (hr : 1 ≤ rows ∧ rows ≤ 1000) (hc : 1 ≤ cols ∧ cols ≤ 1000) (hb : back ≤ 16384) : Ret Tryz.prog 22 [.int .i64 rows, .int .i64 cols, .int .i64 back] w (fun r w' => ∃ gb G, r = .tuple #[.pointer (some ⟨gb, 0, none⟩), .int .i64 0] ∧ GridW w' gb G ∧ G.rows = rows ∧ G.cols = cols ∧ G.ring.most = back ∧ G.L = List.replicate rows (blankRow cols ⟨0, 0, 0⟩) ∧ G.ring.vs = [] ∧ Grow w w' ∧ ∀ k, G.own gb k → w.heap.size ≤ k) := by
 refine Ret.of Tryz.func22 Tryz.ntmps22 rfl rfl ?_; refine WC.sub (e' := [(0, .int .i64 rows), (1, .int .i64 cols), (2, .int .i64 back)]) ⟨rfl, rfl, rfl, trivial⟩ ?_; have hG : Mod (fun k => False) w w := Mod.refl _ _; refine wsr ?_; refine va rfl rfl ?_; refine va rfl rfl ?_; refine WL.nil ?_; refine WC.seq ?_; refine wsr ?_; refine vm rfl rfl ?_; refine WL.step (OpTo.call ⟨Tryz.call42⟩ rfl rfl (gsize_ok rows) (fun v1 w1 hp1 => ?_)); obtain ⟨rfl, rfl⟩ := hp1; refine WL.val (OpRun.notD rfl) rfl ?_; refine WL.splitD rfl rfl (fun hq2 => ?_) (fun hq2 => ?_)
 ·refine WL.pass rfl rfl rfl rfl ?_; refine WL.pass rfl rfl rfl rfl ?_; refine WL.pass rfl rfl rfl rfl ?_; refine WL.val (OpRun.pickT rfl rfl) rfl ?_; refine vm rfl rfl ?_; refine WL.pass rfl rfl rfl rfl ?_; refine WL.pass rfl rfl rfl rfl ?_; refine WL.val (OpRun.pickT rfl rfl) rfl ?_; refine vm rfl rfl ?_; refine WL.pass rfl rfl rfl rfl ?_; refine WL.pass rfl rfl rfl rfl ?_; refine WL.val (OpRun.pickT rfl rfl) rfl ?_; refine WL.nil ?_; refine WC.condT rfl ?_; refine wsr ?_; refine va rfl rfl ?_; refine va rfl rfl ?_; refine WL.nil ?_; refine WC.ret ?_; refine fin_two rfl rfl rfl ?_
  first
    | (exfalso; omega)
    | (refine ⟨bG, ⟨rb, _, rows, cols, v2, cap, vs, _, 0⟩, rfl, ⟨hB, hRg, hsl, hlw, fun l hl => ?_, hr, hc, fun k hk h => by cases h⟩, rfl, rfl, rfl, rfl, rfl, hG, fun k hk => ?_⟩
       · rw [List.eq_of_mem_replicate hl]; exact blank_good _ _
       · have := hmR.size
         rcases hk with rfl | hk | rfl | hk
         · omega
         · have := hfC k hk; have := hmG.size; omega
         · exact hlR
         · cases hk)
 ·refine WL.want rfl rfl ?_; refine vm rfl rfl ?_; refine WL.want rfl rfl ?_; refine WL.step (OpTo.call ⟨Tryz.call42⟩ rfl rfl (gsize_ok cols) (fun v3 w3 hp3 => ?_)); obtain ⟨rfl, rfl⟩ := hp3; refine WL.want rfl rfl ?_; refine WL.val (OpRun.notD rfl) rfl ?_; refine WL.val (OpRun.pickF rfl rfl) rfl ?_; refine WL.splitD rfl rfl (fun hq4 => ?_) (fun hq4 => ?_)
  ·refine WL.pass rfl rfl rfl rfl ?_; refine WL.pass rfl rfl rfl rfl ?_; refine WL.val (OpRun.pickT rfl rfl) rfl ?_; refine vm rfl rfl ?_; refine WL.pass rfl rfl rfl rfl ?_; refine WL.pass rfl rfl rfl rfl ?_; refine WL.val (OpRun.pickT rfl rfl) rfl ?_; refine WL.nil ?_; refine WC.condT rfl ?_; refine wsr ?_; refine va rfl rfl ?_; refine va rfl rfl ?_; refine WL.nil ?_; refine WC.ret ?_; refine fin_two rfl rfl rfl ?_
   first
     | (exfalso; omega)
     | (refine ⟨bG, ⟨rb, _, rows, cols, v2, cap, vs, _, 0⟩, rfl, ⟨hB, hRg, hsl, hlw, fun l hl => ?_, hr, hc, fun k hk h => by cases h⟩, rfl, rfl, rfl, rfl, rfl, hG, fun k hk => ?_⟩
        · rw [List.eq_of_mem_replicate hl]; exact blank_good _ _
        · have := hmR.size
          rcases hk with rfl | hk | rfl | hk
          · omega
          · have := hfC k hk; have := hmG.size; omega
          · exact hlR
          · cases hk)
  ·refine WL.want rfl rfl ?_; refine vm rfl rfl ?_; refine WL.want rfl rfl ?_; refine WL.val (OpRun.lss rfl rfl) rfl ?_; refine WL.val (OpRun.pickF rfl rfl) rfl ?_; refine WL.splitD rfl rfl (fun hq5 => ?_) (fun hq5 => ?_)
   ·refine WL.pass rfl rfl rfl rfl ?_; refine WL.pass rfl rfl rfl rfl ?_; refine WL.val (OpRun.pickT rfl rfl) rfl ?_; refine WL.nil ?_; refine WC.condT rfl ?_; refine wsr ?_; refine va rfl rfl ?_; refine va rfl rfl ?_; refine WL.nil ?_; refine WC.ret ?_; refine fin_two rfl rfl rfl ?_
    first
      | (exfalso; omega)
      | (refine ⟨bG, ⟨rb, _, rows, cols, v2, cap, vs, _, 0⟩, rfl, ⟨hB, hRg, hsl, hlw, fun l hl => ?_, hr, hc, fun k hk h => by cases h⟩, rfl, rfl, rfl, rfl, rfl, hG, fun k hk => ?_⟩
         · rw [List.eq_of_mem_replicate hl]; exact blank_good _ _
         · have := hmR.size
           rcases hk with rfl | hk | rfl | hk
           · omega
           · have := hfC k hk; have := hmG.size; omega
           · exact hlR
           · cases hk)
   ·refine WL.want rfl rfl ?_; refine vm rfl rfl ?_; refine WL.want rfl rfl ?_; refine WL.val (OpRun.gtr rfl rfl) rfl ?_; refine WL.val (OpRun.pickF rfl rfl) rfl ?_; refine WL.nil ?_; refine WC.condD rfl (fun hq6 => ?_) (fun hq6 => ?_)
    ·refine wsr ?_; refine va rfl rfl ?_; refine va rfl rfl ?_; refine WL.nil ?_; refine WC.ret ?_; refine fin_two rfl rfl rfl ?_
     first
       | (exfalso; omega)
       | (refine ⟨bG, ⟨rb, _, rows, cols, v2, cap, vs, _, 0⟩, rfl, ⟨hB, hRg, hsl, hlw, fun l hl => ?_, hr, hc, fun k hk h => by cases h⟩, rfl, rfl, rfl, rfl, rfl, hG, fun k hk => ?_⟩
          · rw [List.eq_of_mem_replicate hl]; exact blank_good _ _
          · have := hmR.size
            rcases hk with rfl | hk | rfl | hk
            · omega
            · have := hfC k hk; have := hmG.size; omega
            · exact hlR
            · cases hk)
    ·refine WC.skip ?_; refine wsr ?_; refine vm rfl rfl ?_; refine WL.step (OpTo.call ⟨Tryz.call43⟩ rfl rfl (ringnew_ok back hb) (fun vR wR hpR => ?_)); obtain ⟨rb, rfl, hR, hmR, hlR⟩ := hpR; have hG := hG.grow hmR; have hRl := hR.own_lt (.inl rfl); refine vm rfl rfl ?_; refine WL.val (OpRun.extract rfl rfl) rfl ?_; refine WL.val (OpRun.extract rfl rfl) rfl ?_; refine va rfl rfl ?_; refine va rfl rfl ?_; refine WL.nil ?_; refine wsr ?_; refine vm rfl rfl ?_; refine vm rfl rfl ?_; refine vm rfl rfl ?_; refine WL.val (OpRun.build rfl tb85_0_1_2) rfl ?_; refine WL.step (OpTo.box (vs := [_, _, _, _, _]) rfl rfl rfl (fun bG wG hB hmG hloG hhiG => ?_)); have hR := hR.grow hmG; have hG := hG.grow hmG; refine va rfl rfl ?_
     refine WL.nil ?_; refine wsr ?_; refine vm rfl rfl ?_; refine WL.val (OpRun.build rfl tb40_) rfl ?_; refine WL.step (OpTo.call ⟨Tryz.call44⟩ rfl rfl (gclear_ok hB (by omega) (by omega) ⟨0, 0, 0⟩) (fun vC wC hpC => ?_)); obtain ⟨rfl, v2, vs, cap, hB, hsl, hlw, hmC, hfC⟩ := hpC; have hRg := hR.mod hmC (fun k hk (hkb : k = bG) => by subst hkb; rcases hk with hk | hk; (have := hmR.size; omega); cases hk); have hG := hG.trans hmC (fun _ h => h) (fun x hx (hs : x = bG) => by have := hmR.size; omega); refine WL.nil ?_; refine wsr ?_; refine vm rfl rfl ?_; refine va rfl rfl ?_; refine va rfl rfl ?_; refine WL.nil ?_; refine WC.ret ?_; refine fin_two rfl rfl rfl ?_
     first
       | (exfalso; omega)
       | (refine ⟨bG, ⟨rb, _, rows, cols, v2, cap, vs, _, 0⟩, rfl, ⟨hB, hRg, hsl, hlw, fun l hl => ?_, hr, hc, fun k hk h => by cases h⟩, rfl, rfl, rfl, rfl, rfl, hG, fun k hk => ?_⟩
          · rw [List.eq_of_mem_replicate hl]; exact blank_good _ _
          · have := hmR.size
            rcases hk with rfl | hk | rfl | hk
            · omega
            · have := hfC k hk; have := hmG.size; omega
            · exact hlR
            · cases hk)

theorem getD_mem {α : Type} {l : List α} {k : Nat} {d : α} (hk : k < l.length) : l.getD k d ∈ l := by
  rw [List.getD_eq_getElem?_getD, List.getElem?_eq_getElem hk]; exact List.getElem_mem hk

theorem good_set {c k : Nat} {L : List (List Cell)} {l : List Cell} (h : ∀ x ∈ L, Good c x) (hl : Good c l) : ∀ x ∈ L.set k l, Good c x := fun x hx => by
  rcases List.mem_or_eq_of_mem_set hx with h1 | h1
  · exact h x h1
  · rw [h1]; exact hl

/-- One line is another. -/
def Grid.put (G : Grid) (k : Nat) (v : Value) (l : List Cell) : Grid := { G with vs := G.vs.set k v, L := G.L.set k l }

theorem GridW.put {w w1 w2 : World} {gb : Nat} {G : Grid} {k : Nat} {v : Value} {l : List Cell} {b o : Nat} {blk : List Value}
    (h : GridW w gb G) (hg : Grow w w1) (hb : Blk w1 b 54 blk) (hv : G.v = .slice (some ⟨b, o, none⟩) G.rows G.cap) (hA : At blk o G.vs) (hr : o + G.cap * 1 ≤ blk.length) (hk : k < G.rows)
    (hl : LineV w1 v l) (hgood : Good G.cols l) (hm : Mod (fun k => k = b) w1 w2) (hn : Blk w2 b 54 (blk.set (o + k * 1) v)) : GOp w w2 gb G (G.put k v l) := by
  have hgs := hg.size
  have hbl : b < w.heap.size := h.sl.lt (by rw [hv]; rfl)
  have hnl : NoLine w1 (fun k => k = b) := NoLine.blk hb rfl
  have hvl := h.vlen
  have hle := h.sl.hle
  have h1 := h.grow hg
  refine ⟨⟨h1.blk.mod hm (h1.blk.ne hb rfl), h1.ring.mod hm ?_, ?_, LinesW.modN hm hnl (h1.lines.set hl k), good_set h.good hgood, h.rows, h.cols, h.ne⟩, ?_, fun k hk => .inl hk⟩
  · intro j hj (hjb : j = b)
    subst hjb
    rcases hj with hj | hj
    · exact h1.ring.blk.ne hb rfl hj.symm
    · exact h.ne j (by rw [hv]; rfl) hj
  · show Sl w2 G.v 54 1 (G.vs.set k v) G.rows G.cap
    rw [hv]
    exact Sl.of hn (at_set1 (i := k) (v := v) hA (by omega) (by omega)) (by rw [List.length_set]; exact hr) (by rw [List.length_set]; omega) h.sl.hle h.sl.hcap
  · exact hg.mod (hm.mono (fun x _ (hx : x = b) => by subst hx; exact .inr (.inl (by rw [hv]; rfl))))

theorem Line_ok {w : World} {gb : Nat} {G : Grid} (h : GridW w gb G) (k : Nat) (hk : k < G.rows) : Ret Tryz.prog 17 [.pointer (some ⟨gb, 0, none⟩), .int .i64 k] w (fun r w' => ∃ v', r = .tuple #[v', .bool true] ∧ LineV w' v' (G.L.getD k []) ∧ Grow w w') := by
 have hB := h.blk; have hsl := h.sl; obtain ⟨b, o, vblk, hv, hb, hA, hrm⟩ := hsl.pos (by have := h.rows; omega); rw [hv] at hB hsl; have hvl := h.vlen; have hLl := h.Llen; have hrr := h.rows; have hcc := h.cols; have hle := hsl.hle; have hcp := hsl.hcap; refine Ret.of Tryz.func17 Tryz.ntmps17 rfl rfl ?_; refine WC.sub (e' := [(0, .pointer (some ⟨gb, 0, none⟩)), (1, .int .i64 k)]) ⟨rfl, rfl, trivial⟩ ?_; have hG : Mod (fun k => False) w w := Mod.refl _ _; refine wsr ?_; refine va rfl rfl ?_; refine va rfl rfl ?_; refine WL.nil ?_; refine WC.seq ?_; refine wsr ?_; refine vm rfl rfl ?_; refine vm rfl rfl ?_; refine WL.step (OpTo.call ⟨Tryz.call37⟩ rfl rfl (is_row h k) (fun v1 w1 hp1 => ?_)); obtain ⟨rfl, rfl⟩ := hp1; refine WL.val (OpRun.notD rfl) rfl ?_; refine WL.nil ?_; refine WC.condD rfl (fun hq2 => ?_) (fun hq2 => ?_)
 ·refine wsr ?_; refine va rfl rfl ?_; refine va rfl rfl ?_; refine WL.nil ?_; refine WC.ret ?_; refine fin_two rfl rfl rfl ?_
  first | (exfalso; omega) | exact ⟨_, rfl, hlC, hG⟩
 ·refine WC.skip ?_; refine wsr ?_; refine vm rfl rfl ?_; refine vn rfl rfl ?_; refine vf 3 Tryz.runUnderlying85 Tryz.sizeOf83 rfl rfl rfl rfl rfl ?_
  first | refine WL.val (OpRun.load rfl ⟨Tryz.isAgg83⟩ hb rfl) rfl ?_ | refine WL.val (OpRun.load rfl ⟨Tryz.isAgg83⟩ hB rfl) rfl ?_
  refine vm rfl rfl ?_; refine WL.val (OpRun.indexAddr rfl rfl ⟨Tryz.runUnderlying83⟩ ⟨Tryz.sizeOf54⟩ (by omega) (by omega)) rfl ?_; refine WL.val (OpRun.load rfl ⟨Tryz.isAgg54⟩ hb (at_get1 (i := k) hA (by omega))) rfl ?_; refine WL.step (OpTo.call ⟨Tryz.call38⟩ rfl rfl (clone_ok (h.lines.get k (by omega)) (by rw [(h.good _ (getD_mem (by omega))).1]; omega)) (fun vC wC hpC => ?_)); obtain ⟨hlC, hmC, hfC⟩ := hpC; have hB := hB.grow hmC; have hb := hb.grow hmC; have hG := hG.grow hmC; refine va rfl rfl ?_; refine va rfl rfl ?_; refine WL.nil ?_; refine WC.ret ?_; refine fin_two rfl rfl rfl ?_
  first | (exfalso; omega) | exact ⟨_, rfl, hlC, hG⟩

theorem Set_ok {w : World} {gb : Nat} {G : Grid} (h : GridW w gb G) (k : Nat) (hk : k < G.rows) {v : Value} {l : List Cell} (hl : LineV w v l) (hll : 0 < l.length ∧ l.length ≤ 1048576) : Ret Tryz.prog 86 [.pointer (some ⟨gb, 0, none⟩), .int .i64 k, v] w (fun r w' => r = .bool true ∧ ∃ v', GOp w w' gb G (G.put k v' (resizeB l G.cols))) := by
 have hB := h.blk; have hsl := h.sl; obtain ⟨b, o, vblk, hv, hb, hA, hrm⟩ := hsl.pos (by have := h.rows; omega); rw [hv] at hB hsl; have hvl := h.vlen; have hLl := h.Llen; have hrr := h.rows; have hcc := h.cols; have hle := hsl.hle; have hcp := hsl.hcap; refine Ret.of Tryz.func86 Tryz.ntmps86 rfl rfl ?_; refine WC.sub (e' := [(0, .pointer (some ⟨gb, 0, none⟩)), (1, .int .i64 k), (2, v)]) ⟨rfl, rfl, rfl, trivial⟩ ?_; have hG : Mod (fun k => k = b) w w := Mod.refl _ _; refine wsr ?_; refine va rfl rfl ?_; refine WL.nil ?_; refine WC.seq ?_; refine wsr ?_; refine vm rfl rfl ?_; refine vm rfl rfl ?_; refine WL.step (OpTo.call ⟨Tryz.call37⟩ rfl rfl (is_row h k) (fun v1 w1 hp1 => ?_)); obtain ⟨rfl, rfl⟩ := hp1; refine WL.nil ?_; refine WC.condD rfl (fun hq2 => ?_) (fun hq2 => ?_)
 ·refine WC.regionD (fun w0 w1 => Grow w0 w1) 13 rfl mixed (fun w3 hm3 hz3 => ?_); have hmD2 := hm3; have hB := hB.grow hm3; have hb := hb.grow hm3; have hG := hG.grow hm3; have hSc := Mod.refl (fun k => False) w3; refine WH.take 0 rfl (by kernel_rfl) hSc (fun w1 h1 => OpRun.move rfl) ?_; refine WH.take 1 rfl (by kernel_rfl) hSc (fun w1 h1 => OpRun.nilCheck rfl) ?_; refine WH.take 2 rfl (by kernel_rfl) hSc (fun _ _ => oF 3 Tryz.runUnderlying85 Tryz.sizeOf83 rfl rfl rfl rfl) ?_
  first | refine WH.take 3 rfl (by kernel_rfl) hSc (fun w1 h1 => OpRun.load rfl ⟨Tryz.isAgg83⟩ (hb.grow h1) rfl) ?_ | refine WH.take 3 rfl (by kernel_rfl) hSc (fun w1 h1 => OpRun.load rfl ⟨Tryz.isAgg83⟩ (hB.grow h1) rfl) ?_
  refine WH.take 4 rfl (by kernel_rfl) hSc (fun w1 h1 => OpRun.move rfl) ?_; refine WH.take 5 rfl (by kernel_rfl) hSc (fun w1 h1 => OpRun.move rfl) ?_; refine WH.take 6 rfl (by kernel_rfl) hSc (fun w1 h1 => OpRun.move rfl) ?_; refine WH.take 7 rfl (by kernel_rfl) hSc (fun w1 h1 => OpRun.nilCheck rfl) ?_; refine WH.take 8 rfl (by kernel_rfl) hSc (fun _ _ => oF 2 Tryz.runUnderlying85 Tryz.sizeOf3 rfl rfl rfl rfl) ?_
  first | refine WH.take 9 rfl (by kernel_rfl) hSc (fun w1 h1 => OpRun.load rfl ⟨Tryz.isAgg3⟩ (hb.grow h1) rfl) ?_ | refine WH.take 9 rfl (by kernel_rfl) hSc (fun w1 h1 => OpRun.load rfl ⟨Tryz.isAgg3⟩ (hB.grow h1) rfl) ?_
  refine WH.one 10 rfl (by kernel_rfl) (OpTo.call ⟨Tryz.call62⟩ rfl rfl (lresize_ok (hl.grow ‹Grow w _›) (by omega) (by omega) G.cols) (fun vR wR hpR => ?_)); obtain ⟨hlR, hmR, hfR⟩ := hpR; have hB := hB.grow hmR; have hb := hb.grow hmR; have hG := hG.grow hmR; have hSc := hSc.grow hmR; refine ⟨fun _ => hSc, ?_⟩; obtain ⟨lad, lcap, rfl⟩ := hlR.slice; refine WH.one 11 rfl (by kernel_rfl) (OpTo.val (OpRun.indexAddr rfl rfl ⟨Tryz.runUnderlying83⟩ ⟨Tryz.sizeOf54⟩ (by omega) (by omega)) rfl ?_); refine ⟨fun _ => hSc, ?_⟩; have hgb := hb; have hGg := hG; refine WH.one 12 rfl (by kernel_rfl) (OpTo.storeS rfl rfl ⟨Tryz.sizeOf54⟩ rfl hb (by omega) (fun w5 hn5 hm5 hz5 => ?_)); have hB := hB.mod hm5 (by first | exact hB.ne hb rfl | omega); have hG := hG.trans hm5 (fun _ h => h) (fun x hx hs => by (try dsimp only at hs ⊢); omega); refine ⟨fun hl => (by have h2 := hl.symm.trans (show isLast _ _ = true from by kernel_rfl); cases h2), ?_⟩
  have hb := hn5; refine WH.done (by kernel_rfl) ?_; refine wsr ?_; have hP := GridW.put h (hmD2.trans hmR) hgb hv hA hrm hk hlR (resizeB_good _ _ hcc.2) ‹Mod (fun k => k = b) _ _› hb; refine vm rfl rfl ?_; refine vm rfl rfl ?_; refine WL.step (OpTo.call ⟨Tryz.call37⟩ rfl rfl (is_row hP.to k) (fun v6 w6 hp6 => ?_)); obtain ⟨rfl, rfl⟩ := hp6; refine va rfl rfl ?_; refine WL.nil ?_; refine WC.ret ?_; refine fin_one rfl rfl ?_
  first | (exfalso; omega) | exact ⟨congrArg Value.bool (decide_eq_true ⟨by omega, by show (k : Int) < (G.rows : Int); omega⟩), _, hP⟩
 ·exfalso; omega

/-- What a function value makes of a line. -/
structure LineF (w : World) (fid : FuncId) (fs : List Value) (l : List Cell) (P : List Cell → Prop) : Prop where
  ent : Ent Tryz.prog fid
  pos : ∀ l', P l' → 0 < l'.length ∧ l'.length ≤ 1048576
  ret : ∀ (w1 : World) (v : Value), Grow w w1 → LineV w1 v l → Ret Tryz.prog fid (v :: fs) w1 (fun r w' => ∃ l', P l' ∧ LineV w' r l' ∧ Grow w1 w')

theorem Change_ok {w : World} {gb : Nat} {G : Grid} (h : GridW w gb G) (k : Nat) (hk : k < G.rows) {fid : FuncId} {fs : List Value} {P : List Cell → Prop} (hf : LineF w fid fs (G.L.getD k []) P) : Ret Tryz.prog 79 [.pointer (some ⟨gb, 0, none⟩), .int .i64 k, .func (.func fid) #[] fs.toArray] w (fun r w' => r = .bool true ∧ ∃ v' l', P l' ∧ GOp w w' gb G (G.put k v' (resizeB l' G.cols))) := by
 have hB := h.blk; have hsl := h.sl; obtain ⟨b, o, vblk, hv, hb, hA, hrm⟩ := hsl.pos (by have := h.rows; omega); rw [hv] at hB hsl; have hvl := h.vlen; have hLl := h.Llen; have hrr := h.rows; have hcc := h.cols; have hle := hsl.hle; have hcp := hsl.hcap; refine Ret.of Tryz.func79 Tryz.ntmps79 rfl rfl ?_; refine WC.sub (e' := [(0, .pointer (some ⟨gb, 0, none⟩)), (1, .int .i64 k), (2, .func (.func fid) #[] fs.toArray)]) ⟨rfl, rfl, rfl, trivial⟩ ?_; have hG : Mod (fun k => k = b) w w := Mod.refl _ _; refine wsr ?_; refine va rfl rfl ?_; refine WL.nil ?_; refine WC.seq ?_; refine wsr ?_; refine vm rfl rfl ?_; refine vm rfl rfl ?_; refine WL.step (OpTo.call ⟨Tryz.call37⟩ rfl rfl (is_row h k) (fun v1 w1 hp1 => ?_)); obtain ⟨rfl, rfl⟩ := hp1; refine WL.nil ?_; refine WC.condD rfl (fun hq2 => ?_) (fun hq2 => ?_)
 ·refine WC.regionD (fun w0 w1 => Grow w0 w1) 21 rfl mixed (fun w3 hm3 hz3 => ?_); have hmD2 := hm3; have hB := hB.grow hm3; have hb := hb.grow hm3; have hG := hG.grow hm3; have hSc := Mod.refl (fun k => False) w3; refine WH.take 0 rfl (by kernel_rfl) hSc (fun w1 h1 => OpRun.move rfl) ?_; refine WH.take 1 rfl (by kernel_rfl) hSc (fun w1 h1 => OpRun.nilCheck rfl) ?_; refine WH.take 2 rfl (by kernel_rfl) hSc (fun _ _ => oF 3 Tryz.runUnderlying85 Tryz.sizeOf83 rfl rfl rfl rfl) ?_
  first | refine WH.take 3 rfl (by kernel_rfl) hSc (fun w1 h1 => OpRun.load rfl ⟨Tryz.isAgg83⟩ (hb.grow h1) rfl) ?_ | refine WH.take 3 rfl (by kernel_rfl) hSc (fun w1 h1 => OpRun.load rfl ⟨Tryz.isAgg83⟩ (hB.grow h1) rfl) ?_
  refine WH.take 4 rfl (by kernel_rfl) hSc (fun w1 h1 => OpRun.move rfl) ?_; refine WH.take 5 rfl (by kernel_rfl) hSc (fun w1 h1 => OpRun.move rfl) ?_; refine WH.take 6 rfl (by kernel_rfl) hSc (fun w1 h1 => OpRun.move rfl) ?_; refine WH.take 7 rfl (by kernel_rfl) hSc (fun w1 h1 => OpRun.nilCheck rfl) ?_; refine WH.take 8 rfl (by kernel_rfl) hSc (fun _ _ => oF 3 Tryz.runUnderlying85 Tryz.sizeOf83 rfl rfl rfl rfl) ?_
  first | refine WH.take 9 rfl (by kernel_rfl) hSc (fun w1 h1 => OpRun.load rfl ⟨Tryz.isAgg83⟩ (hb.grow h1) rfl) ?_ | refine WH.take 9 rfl (by kernel_rfl) hSc (fun w1 h1 => OpRun.load rfl ⟨Tryz.isAgg83⟩ (hB.grow h1) rfl) ?_
  refine WH.take 10 rfl (by kernel_rfl) hSc (fun w1 h1 => OpRun.move rfl) ?_; refine WH.take 11 rfl (by kernel_rfl) hSc (fun w1 h1 => OpRun.indexAddr rfl rfl ⟨Tryz.runUnderlying83⟩ ⟨Tryz.sizeOf54⟩ (by omega) (by omega)) ?_; refine WH.take 12 rfl (by kernel_rfl) hSc (fun w1 h1 => OpRun.load rfl ⟨Tryz.isAgg54⟩ (hb.grow h1) (at_get1 (i := k) hA (by omega))) ?_; refine WH.take 14 rfl (by kernel_rfl) hSc (fun w1 h1 => OpRun.move rfl) ?_; refine WH.take 15 rfl (by kernel_rfl) hSc (fun w1 h1 => OpRun.nilCheck rfl) ?_; refine WH.take 16 rfl (by kernel_rfl) hSc (fun _ _ => oF 2 Tryz.runUnderlying85 Tryz.sizeOf3 rfl rfl rfl rfl) ?_
  first | refine WH.take 17 rfl (by kernel_rfl) hSc (fun w1 h1 => OpRun.load rfl ⟨Tryz.isAgg3⟩ (hb.grow h1) rfl) ?_ | refine WH.take 17 rfl (by kernel_rfl) hSc (fun w1 h1 => OpRun.load rfl ⟨Tryz.isAgg3⟩ (hB.grow h1) rfl) ?_
  refine WH.one 13 rfl (by kernel_rfl) (OpTo.callV rfl hf.ent rfl rfl (by simpa using hf.ret _ (G.vs.getD k default) hmD2 ((h.lines.get k (by omega)).grow hmD2)) (fun vF wF hpF => ?_)); obtain ⟨l1, hP1, hl1, hmF⟩ := hpF; have hB := hB.grow hmF; have hb := hb.grow hmF; have hG := hG.grow hmF; have hlp := hf.pos _ hP1; have hSc := hSc.grow hmF; refine ⟨fun _ => hSc, ?_⟩; refine WH.one 18 rfl (by kernel_rfl) (OpTo.call ⟨Tryz.call62⟩ rfl rfl (lresize_ok hl1 hlp.2 hlp.1 G.cols) (fun vR wR hpR => ?_)); obtain ⟨hlR, hmR, hfR⟩ := hpR; have hB := hB.grow hmR; have hb := hb.grow hmR; have hG := hG.grow hmR; have hSc := hSc.grow hmR; refine ⟨fun _ => hSc, ?_⟩; obtain ⟨lad, lcap, rfl⟩ := hlR.slice; refine WH.one 19 rfl (by kernel_rfl) (OpTo.val (OpRun.indexAddr rfl rfl ⟨Tryz.runUnderlying83⟩ ⟨Tryz.sizeOf54⟩ (by omega) (by omega)) rfl ?_); refine ⟨fun _ => hSc, ?_⟩; have hgb := hb; have hGg := hG; refine WH.one 20 rfl (by kernel_rfl) (OpTo.storeS rfl rfl ⟨Tryz.sizeOf54⟩ rfl hb (by omega) (fun w6 hn6 hm6 hz6 => ?_))
  have hB := hB.mod hm6 (by first | exact hB.ne hb rfl | omega); have hG := hG.trans hm6 (fun _ h => h) (fun x hx hs => by (try dsimp only at hs ⊢); omega); refine ⟨fun hl => (by have h2 := hl.symm.trans (show isLast _ _ = true from by kernel_rfl); cases h2), ?_⟩; have hb := hn6; refine WH.done (by kernel_rfl) ?_; refine wsr ?_; have hP := GridW.put h ((hmD2.trans hmF).trans hmR) hgb hv hA hrm hk hlR (resizeB_good _ _ hcc.2) ‹Mod (fun k => k = b) _ _› hb; refine vm rfl rfl ?_; refine vm rfl rfl ?_; refine WL.step (OpTo.call ⟨Tryz.call37⟩ rfl rfl (is_row hP.to k) (fun v7 w7 hp7 => ?_)); obtain ⟨rfl, rfl⟩ := hp7; refine va rfl rfl ?_; refine WL.nil ?_; refine WC.ret ?_; refine fin_one rfl rfl ?_
  first | (exfalso; omega) | exact ⟨congrArg Value.bool (decide_eq_true ⟨by omega, by show (k : Int) < (G.rows : Int); omega⟩), _, _, hP1, hP⟩
 ·exfalso; omega

theorem fill1_ok {w : World} {v : Value} {l : List Cell} {p q r : Nat} {f t : Int} {a : Attr} (hv : LineV w v l) (hl : l.length ≤ 1000) (hp : Blk w p 3 [.int .i64 f]) (hq : Blk w q 3 [.int .i64 t]) (hr : Blk w r 40 [.int .i64 a.fg, .int .i64 a.bg, .int .i64 a.fl]) : Ret Tryz.prog 159 [v, .pointer (some ⟨p, 0, none⟩), .pointer (some ⟨q, 0, none⟩), .pointer (some ⟨r, 0, none⟩)] w (fun r w' => LineV w' r (eraseB l f t a) ∧ Grow w w') := by
 refine Ret.of Tryz.func159 Tryz.ntmps159 rfl rfl ?_; refine WC.sub (e' := [(0, v), (1, .pointer (some ⟨p, 0, none⟩)), (2, .pointer (some ⟨q, 0, none⟩)), (3, .pointer (some ⟨r, 0, none⟩))]) ⟨rfl, rfl, rfl, rfl, trivial⟩ ?_; have hG : Mod (fun k => False) w w := Mod.refl _ _; refine wsr ?_; refine va rfl rfl ?_; refine WL.nil ?_; refine wsr ?_; refine vm rfl rfl ?_; refine WL.val (OpRun.load rfl ⟨Tryz.isAgg3⟩ hp rfl) rfl ?_; refine WL.val (OpRun.load rfl ⟨Tryz.isAgg3⟩ hq rfl) rfl ?_; refine WL.val (OpRun.loadA (vs := [_, _, _]) rfl ⟨Tryz.isAgg40⟩ ⟨Tryz.sizeOf40⟩ hr ⟨rfl, rfl, rfl, trivial⟩) rfl ?_; refine WL.step (OpTo.call ⟨Tryz.call160⟩ rfl rfl (erase_ok hv (by omega) f t a) (fun vE wE hpE => ?_)); obtain ⟨hlE, hmE, hfE⟩ := hpE; have hp := hp.grow hmE; have hq := hq.grow hmE; have hr := hr.grow hmE; have hG := hG.grow hmE
 refine va rfl rfl ?_; refine WL.nil ?_; refine WC.ret ?_; refine fin_one rfl rfl ?_; exact ⟨hlE, hG⟩

theorem eraseB_length (l : List Cell) (f t : Int) (a : Attr) : (eraseB l f t a).length = l.length := by
  unfold eraseB; dsimp only; split
  · exact mend_length l
  · rw [halves_length, eraseUpto_length, mend_length]

/-- A grid with its lines' place another. -/
theorem GOp.good {w w' : World} {gb : Nat} {G G' : Grid} (h : GOp w w' gb G G') : GridW w' gb G' := h.to

theorem Fill_ok {w : World} {gb : Nat} {G : Grid} (h : GridW w gb G) (k : Nat) (hk : k < G.rows) (f t : Int) (a : Attr) : Ret Tryz.prog 146 [.pointer (some ⟨gb, 0, none⟩), .int .i64 k, .int .i64 f, .int .i64 t, .agg #[.int .i64 a.fg, .int .i64 a.bg, .int .i64 a.fl]] w (fun r w' => ∃ v' l', GOp w w' gb G (G.put k v' l')) := by
 refine Ret.of Tryz.func146 Tryz.ntmps146 rfl rfl ?_; refine WC.sub (e' := [(0, .pointer (some ⟨gb, 0, none⟩)), (1, .int .i64 k), (2, .int .i64 f), (3, .int .i64 t), (4, .agg #[.int .i64 a.fg, .int .i64 a.bg, .int .i64 a.fl])]) ⟨rfl, rfl, rfl, rfl, rfl, trivial⟩ ?_; have hG : Mod (fun k => False) w w := Mod.refl _ _; refine wsr ?_; refine WL.step (OpTo.box  rfl rfl rfl (fun bP wP hp hmP hloP hhiP => ?_)); have hG := hG.grow hmP; refine WL.step (OpTo.box  rfl rfl rfl (fun bQ wQ hq hmQ hloQ hhiQ => ?_)); have hp := hp.grow hmQ; have hG := hG.grow hmQ; refine WL.step (OpTo.box (vs := [_, _, _]) rfl rfl rfl (fun bR wR hr hmR hloR hhiR => ?_)); have hp := hp.grow hmR; have hq := hq.grow hmR; have hG := hG.grow hmR; refine va rfl rfl ?_; refine WL.nil ?_; refine wsr ?_; refine vm rfl rfl ?_; refine vm rfl rfl ?_
 refine WL.val (OpRun.makeFunc rfl rfl) rfl ?_; refine WL.step (OpTo.call ⟨Tryz.call79⟩ rfl rfl (Change_ok (h.grow ((hmP.trans hmQ).trans hmR)) k hk (fs := [_, _, _]) (P := fun l' => l' = eraseB (G.L.getD k []) f t a) ⟨⟨Tryz.call159⟩, by rintro _ rfl; rw [eraseB_length, (h.good _ (getD_mem (by rw [h.Llen]; exact hk))).1]; have := h.cols; omega, fun w1 v hg hv => (fill1_ok hv (by rw [(h.good _ (getD_mem (by rw [h.Llen]; exact hk))).1]; exact h.cols.2) (hp.grow hg) (hq.grow hg) (hr.grow hg)).mono (fun r w' hh => ⟨_, rfl, hh.1, hh.2⟩)⟩) (fun vC wC hpC => ?_)); obtain ⟨rfl, v2, l2, hP2, hO⟩ := hpC; have hO := GOp.growL ((hmP.trans hmQ).trans hmR) hO; refine va rfl rfl ?_; refine WL.nil ?_; refine WC.ret ?_; refine fin_one rfl rfl ?_; exact ⟨_, _, hO⟩

theorem GOp.ring {w w' : World} {gb : Nat} {G : Grid} (h : GridW w gb G) {R' : Ring} (k : ROp w w' G.rb G.ring R') : GOp w w' gb G { G with ring := R' } := by
  have hnl : NoLine w (G.ring.own G.rb) := fun j hj cs hb => by
    obtain ⟨T, cs', hT, hb'⟩ := h.ring.own_typ hj
    have := hb'.typ_eq hb
    rcases hT with rfl | rfl <;> exact absurd this (by decide)
  have hgr : ∀ j, G.ring.own G.rb j → j ≠ gb := fun j hj hg => by
    subst hg
    obtain ⟨T, cs', hT, hb'⟩ := h.ring.own_typ hj
    have := hb'.typ_eq h.blk
    rcases hT with rfl | rfl <;> exact absurd this (by decide)
  have hgv : ∀ j, sblk G.v = some j → ¬ G.ring.own G.rb j := fun j hj hg => by
    rcases hg with rfl | hg
    · obtain ⟨blk, hb⟩ := h.sl.typ hj
      exact absurd (hb.typ_eq h.ring.blk) (by decide)
    · exact h.ne j hj hg
  refine ⟨⟨h.blk.mod k.mod (fun hj => hgr _ hj rfl), k.to, h.sl.mod k.mod hgv, LinesW.modN k.mod hnl h.lines, h.good, h.rows, h.cols, fun j hj hj2 => ?_⟩, k.mod.mono (fun x _ hx => .inr (.inr hx)), fun j hj => ?_⟩
  · rcases k.own j (.inr hj2) with h1 | h1
    · exact hgv j hj h1
    · have := h.sl.lt hj; omega
  · rcases hj with hj | hj | hj
    · exact .inl (.inl hj)
    · exact .inl (.inr (.inl hj))
    · exact (k.own j hj).imp (fun h => .inr (.inr h)) id

theorem Forget_ok {w : World} {gb : Nat} {G : Grid} (h : GridW w gb G) : Ret Tryz.prog 123 [.pointer (some ⟨gb, 0, none⟩)] w (fun r w' => r = .tuple #[] ∧ ∃ R', GOp w w' gb G { G with ring := R' } ∧ R'.most = G.ring.most) := by
 have hB := h.blk; refine Ret.of Tryz.func123 Tryz.ntmps123 rfl rfl ?_; refine WC.sub (e' := [(0, .pointer (some ⟨gb, 0, none⟩))]) ⟨rfl, trivial⟩ ?_; have hG : Mod (fun k => False) w w := Mod.refl _ _; refine WC.region ?_; refine vm rfl rfl ?_; refine vn rfl rfl ?_; refine vf 0 Tryz.runUnderlying85 Tryz.sizeOf82 rfl rfl rfl rfl rfl ?_; refine WL.val (OpRun.load rfl ⟨Tryz.isAgg82⟩ hB rfl) rfl ?_; refine WL.step (OpTo.call ⟨Tryz.call145⟩ rfl rfl (ringclear_ok h.ring) (fun vC wC hpC => ?_)); obtain ⟨rfl, R2, hR, hR0⟩ := hpC; have hO := GOp.ring h hR; refine WL.nil ?_; refine fin_none rfl ?_; exact ⟨rfl, R2, hO, hR.most⟩

theorem Twin_ok {w : World} {gb : Nat} {G : Grid} (h : GridW w gb G) : Ret Tryz.prog 35 [.pointer (some ⟨gb, 0, none⟩)] w (fun r w' => ∃ gb' G', r = .pointer (some ⟨gb', 0, none⟩) ∧ GridW w' gb' G' ∧ G'.rows = G.rows ∧ G'.cols = G.cols ∧ G'.L = G.L ∧ G'.ring.vs = G.ring.vs ∧ G'.ring.most = G.ring.most ∧ Grow w w') := by
 have hB := h.blk; have hsl := h.sl; obtain ⟨ad, hv⟩ := hsl.slice; rw [hv] at hB hsl; have hvl := h.vlen; have hrr := h.rows; have hlt := hB.lt; have hlw := h.lines; have hrg := h.ring; have hsv : ∀ k, sblk (Value.slice ad G.rows G.cap) = some k → k < w.heap.size := fun k hk => hsl.lt hk; refine Ret.of Tryz.func35 Tryz.ntmps35 rfl rfl ?_; refine WC.sub (e' := [(0, .pointer (some ⟨gb, 0, none⟩))]) ⟨rfl, trivial⟩ ?_; have hG : Mod (fun k => False) w w := Mod.refl _ _; refine wsr ?_; refine va rfl rfl ?_; refine WL.nil ?_; refine wsr ?_; refine vm rfl rfl ?_; refine vn rfl rfl ?_; refine WL.val (OpRun.loadA (vs := [_, _, _, _, _]) rfl ⟨Tryz.isAgg85⟩ ⟨Tryz.sizeOf85⟩ hB ⟨rfl, rfl, rfl, rfl, rfl, trivial⟩) rfl ?_; refine WL.step (OpTo.alloc (vs := [_, _, _, _, _]) ⟨Tryz.zeroValue85⟩ rfl rfl (fun bX wX hX hmX hloX hhiX => ?_))
 have hB := hB.grow hmX; have hsl := hsl.grow hmX; have hrg := hrg.grow hmX; have hG := hG.grow hmX; refine WL.step (OpTo.storeA (vs := [_, _, _, _, _]) rfl rfl ⟨Tryz.sizeOf85⟩ rfl hX rfl (fun w2 hn2 hm2 hz2 => ?_))
 first | simp only [putList, List.set_cons_zero, List.set_cons_succ] at hn2 | dsimp only [putList, List.set] at hn2
 have hB := hB.mod hm2 (by first | exact hB.ne hX rfl | omega); have hsl := hsl.mod hm2 (fun k hk (h : k = _) => by have := hsv k hk; omega); have hrg := hrg.mod hm2 (fun k hk (h2 : k = _) => by have := h.ring.own_lt hk; omega); have hG := hG.trans hm2 (fun _ h => h) (fun x hx hs => by (try dsimp only at hs ⊢); omega); have hX := hn2; refine WL.nil ?_; refine wsr ?_; refine vm rfl rfl ?_; refine vn rfl rfl ?_; refine vf 0 Tryz.runUnderlying85 Tryz.sizeOf82 rfl rfl rfl rfl rfl ?_
 first | refine WL.val (OpRun.load rfl ⟨Tryz.isAgg82⟩ hX rfl) rfl ?_ | refine WL.val (OpRun.load rfl ⟨Tryz.isAgg82⟩ hB rfl) rfl ?_
 refine WL.step (OpTo.call ⟨Tryz.call68⟩ rfl rfl (ringtwin_ok hrg) (fun vR wR hpR => ?_)); obtain ⟨rb2, v2, cap2, rfl, hR2, hmR, hlR, hfR⟩ := hpR; have hB := hB.grow hmR; have hX := hX.grow hmR; have hsl := hsl.grow hmR; have hrg := hrg.grow hmR; have hG := hG.grow hmR; have hXl := hX.lt; have hR2f : ∀ k, sblk v2 = some k → k < wR.heap.size := fun k hk => hR2.own_lt (.inr hk); refine vf 0 Tryz.runUnderlying85 Tryz.sizeOf82 rfl rfl rfl rfl rfl ?_; refine WL.step (OpTo.store rfl rfl ⟨Tryz.sizeOf82⟩ rfl hX rfl (fun w4 hn4 hm4 hz4 => ?_))
 first | simp only [List.set_cons_zero, List.set_cons_succ] at hn4 | dsimp only [putList, List.set] at hn4
 have hB := hB.mod hm4 (by first | exact hB.ne hX rfl | omega); have hsl := hsl.mod hm4 (fun k hk (h : k = _) => by have := hsv k hk; omega); have hrg := hrg.mod hm4 (fun k hk (h2 : k = _) => by have := h.ring.own_lt hk; omega); have hR2 := hR2.mod hm4 (fun k hk (h2 : k = _) => by subst h2; obtain ⟨T, cs, hT, hb⟩ := hR2.own_typ hk; exact absurd (hb.typ_eq hX) (by rcases hT with rfl | rfl <;> decide)); have hG := hG.trans hm4 (fun _ h => h) (fun x hx hs => by (try dsimp only at hs ⊢); omega); have hX := hn4; refine WL.nil ?_; refine wsr ?_; refine vm rfl rfl ?_; refine vn rfl rfl ?_; refine vf 3 Tryz.runUnderlying85 Tryz.sizeOf83 rfl rfl rfl rfl rfl ?_
 first | refine WL.val (OpRun.load rfl ⟨Tryz.isAgg83⟩ hX rfl) rfl ?_ | refine WL.val (OpRun.load rfl ⟨Tryz.isAgg83⟩ hB rfl) rfl ?_
 refine WL.step (OpTo.call ⟨Tryz.call69⟩ rfl rfl (clone1_ok hsl (by omega) h.lines.one) (fun vC wC hpC => ?_)); obtain ⟨⟨cap3, hC⟩, hmC, hfC⟩ := hpC; have hB := hB.grow hmC; have hX := hX.grow hmC; have hsl := hsl.grow hmC; have hrg := hrg.grow hmC; have hR2 := hR2.grow hmC; have hG := hG.grow hmC; obtain ⟨cad, rfl⟩ := hC.slice; refine vf 3 Tryz.runUnderlying85 Tryz.sizeOf83 rfl rfl rfl rfl rfl ?_; refine WL.step (OpTo.store rfl rfl ⟨Tryz.sizeOf83⟩ rfl hX rfl (fun w6 hn6 hm6 hz6 => ?_))
 first | simp only [List.set_cons_zero, List.set_cons_succ] at hn6 | dsimp only [putList, List.set] at hn6
 have hB := hB.mod hm6 (by first | exact hB.ne hX rfl | omega); have hsl := hsl.mod hm6 (fun k hk (h : k = _) => by have := hsv k hk; omega); have hrg := hrg.mod hm6 (fun k hk (h2 : k = _) => by have := h.ring.own_lt hk; omega); have hR2 := hR2.mod hm6 (fun k hk (h2 : k = _) => by subst h2; obtain ⟨T, cs, hT, hb⟩ := hR2.own_typ hk; exact absurd (hb.typ_eq hX) (by rcases hT with rfl | rfl <;> decide)); have hC := hC.mod hm6 (fun k hk => hC.ne hX rfl k hk); have hG := hG.trans hm6 (fun _ h => h) (fun x hx hs => by (try dsimp only at hs ⊢); omega); have hX := hn6; refine WL.nil ?_; refine wsr ?_; refine va rfl rfl ?_; refine WL.nil ?_; refine WC.ret ?_; refine fin_one rfl rfl ?_; refine ⟨_, ⟨rb2, _, G.rows, G.cols, _, cap3, G.vs, G.L, G.top⟩, rfl, ⟨hX, hR2, hC, LinesW.grow hlw hG, h.good, h.rows, h.cols, fun k hk hk2 => ?_⟩, rfl, rfl, rfl, rfl, rfl, hG⟩
 have h1 := hfC k hk; have h2 := hR2f k hk2
 omega

end Go.Eng
