/-
  A part of a proof (Line0 Line1 Line2 Line3 Line4): lemmas on what the program's functions do. No condition but those that each lemma states.
-/
import Derived.Test.YtdnhcimmbbcajaaGreatDoorChecked
import Derived.Test.YtdnhcimmbbcajaaGreatDoorP02
set_option maxRecDepth 8000
set_option linter.all false
namespace Go.Eng
open Go

/-! ### Lines: the plain part -/
structure Cell where
  r : Int
  kind : Int
  fg : Int
  bg : Int
  fl : Int
  deriving DecidableEq, Inhabited

structure Attr where
  fg : Int
  bg : Int
  fl : Int
  deriving DecidableEq, Inhabited

def Cell.a (c : Cell) : Attr := ⟨c.fg, c.bg, c.fl⟩
def blank (a : Attr) : Cell := ⟨0, 0, a.fg, a.bg, a.fl⟩

def Attr.vals (a : Attr) : List Value := [.int .i64 a.fg, .int .i64 a.bg, .int .i64 a.fl]
def Cell.vals (c : Cell) : List Value := [.int .i32 c.r, .int .i64 c.kind, .int .i64 c.fg, .int .i64 c.bg, .int .i64 c.fl]
def lineCells (l : List Cell) : List Value := l.flatMap Cell.vals

theorem lineCells_length (l : List Cell) : (lineCells l).length = l.length * 5 := by
  induction l with
  | nil => rfl
  | cons c l ih => simp only [lineCells, List.flatMap_cons, List.length_append, List.length_cons] at ih ⊢; rw [ih]; simp [Cell.vals]; omega

theorem lineCells_append (l m : List Cell) : lineCells (l ++ m) = lineCells l ++ lineCells m := by simp [lineCells]
theorem lineCells_one (c : Cell) : lineCells [c] = c.vals := by simp [lineCells]

theorem lineCells_all (l : List Cell) : (lineCells l).all Value.one = true := by
  induction l with
  | nil => rfl
  | cons c l ih => simp only [lineCells, List.flatMap_cons, List.all_append] at ih ⊢; rw [ih]; rfl

theorem lc_get (l : List Cell) : ∀ (i k : Nat), i < l.length → k < 5 → (lineCells l)[i * 5 + k]? = (l.getD i default).vals[k]? := by
  induction l with
  | nil => intro i k h; simp at h
  | cons c l ih =>
    intro i k hi hk
    simp only [lineCells, List.flatMap_cons]
    cases i with
    | zero => rw [List.getElem?_append_left (by simp [Cell.vals]; omega)]; simp
    | succ i =>
      rw [List.getElem?_append_right (by simp [Cell.vals]; omega)]
      have := ih i k (by simpa using hi) hk
      simp only [lineCells] at this
      rw [show (i + 1) * 5 + k - c.vals.length = i * 5 + k from by simp [Cell.vals]; omega, this]
      simp

theorem at_get {blk : List Value} {o : Nat} {l : List Cell} (h : At blk o (lineCells l)) {i k : Nat} (hi : i < l.length) (hk : k < 5) : blk[o + i * 5 + k]? = (l.getD i default).vals[k]? := by
  have := h.get (i * 5 + k) (by rw [lineCells_length]; omega)
  rw [← Nat.add_assoc] at this
  rw [this, lc_get l i k hi hk]

theorem at_r {blk : List Value} {o : Nat} {l : List Cell} (h : At blk o (lineCells l)) {i : Nat} (hi : i < l.length) : blk[o + i * 5 + 0]? = some (.int .i32 (l.getD i default).r) := at_get h hi (by omega)
theorem at_kind {blk : List Value} {o : Nat} {l : List Cell} (h : At blk o (lineCells l)) {i : Nat} (hi : i < l.length) : blk[o + i * 5 + 1]? = some (.int .i64 (l.getD i default).kind) := at_get h hi (by omega)

theorem at_cell {blk : List Value} {o : Nat} {l : List Cell} (h : At blk o (lineCells l)) {i : Nat} (hi : i < l.length) : At blk (o + i * 5) (l.getD i default).vals :=
  At.of fun j hj => at_get h hi hj

/-- v is the line l. -/
def LineV (w : World) (v : Value) (l : List Cell) : Prop := ∃ cap, Sl w v 89 5 (lineCells l) l.length cap

theorem LineV.grow {w w' : World} {v : Value} {l : List Cell} (h : LineV w v l) (hm : Grow w w') : LineV w' v l := let ⟨c, h⟩ := h; ⟨c, h.grow hm⟩
theorem LineV.mod {S : Nat → Prop} {w w' : World} {v : Value} {l : List Cell} (h : LineV w v l) (hm : Mod S w w') (hs : ∀ k, sblk v = some k → ¬ S k) : LineV w' v l := let ⟨c, h⟩ := h; ⟨c, h.mod hm hs⟩

theorem LineV.lt {w : World} {v : Value} {l : List Cell} (h : LineV w v l) : ∀ k, sblk v = Option.some k → k < w.heap.size := fun _ hk => let ⟨_, h⟩ := h; h.lt hk

theorem LineV.nil_of {w : World} {n cap : Nat} {l : List Cell} (h : LineV w (.slice none n cap) l) : l = [] := by
  obtain ⟨c, h⟩ := h
  rcases h.shape with ⟨h1, _, h2, _⟩ | ⟨b, o, blk, h1, _⟩
  · exact List.length_eq_zero_iff.1 h2
  · cases h1

theorem LineV.nil (w : World) : LineV w (.slice none 0 0) [] := ⟨0, Sl.nil _ _ _⟩
theorem LineV.src {w : World} {v : Value} {l : List Cell} (h : LineV w v l) : Src w v 5 (lineCells l) l.length := let ⟨_, h⟩ := h; h.src

/-- New memory. -/
def Fresh (w : World) (v : Value) : Prop := ∀ k, sblk v = some k → w.heap.size ≤ k
theorem Fresh.nil (w : World) : Fresh w (.slice none 0 0) := fun _ h => by cases h

theorem LineV.slice {w : World} {v : Value} {l : List Cell} (h : LineV w v l) : ∃ ad cap, v = .slice ad l.length cap := by
  obtain ⟨c, h⟩ := h
  rcases h.shape with ⟨rfl, _, h2, rfl⟩ | ⟨b, o, blk, rfl, _⟩
  · exact ⟨none, 0, by rw [h2]⟩
  · exact ⟨_, _, rfl⟩

theorem LineV.some {w : World} {ad : Option Addr} {n cap : Nat} {l : List Cell} (h : LineV w (.slice ad n cap) l) (hl : 0 < l.length) :
    ∃ b o blk, ad = Option.some ⟨b, o, none⟩ ∧ Blk w b 89 blk ∧ At blk o (lineCells l) ∧ o + l.length * 5 ≤ blk.length := by
  obtain ⟨c, h⟩ := h
  rcases h.shape with ⟨h1, _, h2, _⟩ | ⟨b, o, blk, h1, h2, h3, h4⟩
  · omega
  · cases h1
    exact ⟨b, o, blk, rfl, h2, h3, Nat.le_trans (Nat.add_le_add_left (Nat.mul_le_mul_right 5 h.hle) o) h4⟩

theorem LineV.len {w : World} {ad : Option Addr} {n cap : Nat} {l : List Cell} (h : LineV w (.slice ad n cap) l) : n = l.length := by
  obtain ⟨c, h⟩ := h
  rcases h.shape with ⟨h1, _, h2, _⟩ | ⟨b, o, blk, h1, _⟩
  · cases h1; exact h2.symm
  · cases h1; rfl

theorem LineV.open {w : World} {ad : Option Addr} {n cap : Nat} {l : List Cell} (h : LineV w (.slice ad n cap) l) (hl : 0 < l.length) :
    ∃ b o blk, ad = Option.some ⟨b, o, none⟩ ∧ Blk w b 89 blk ∧ At blk o (lineCells l) ∧ o + cap * 5 ≤ blk.length ∧ l.length ≤ cap ∧ cap ≤ 9223372036854775807 ∧ n = l.length := by
  obtain ⟨c, h⟩ := h
  have h5 := h.hle
  have h6 := h.hcap
  rcases h.shape with ⟨h1, _, h2, _⟩ | ⟨b, o, blk, h1, h2, h3, h4⟩
  · omega
  · cases h1
    exact ⟨b, o, blk, rfl, h2, h3, h4, h5, h6, rfl⟩

theorem LineV.mk {w : World} {b o cap n : Nat} {blk : List Value} {l : List Cell} (hB : Blk w b 89 blk) (hA : At blk o (lineCells l)) (hr : o + cap * 5 ≤ blk.length) (h1 : l.length ≤ cap) (h2 : cap ≤ 9223372036854775807) (hn : n = l.length) :
    LineV w (.slice (Option.some ⟨b, o, none⟩) n cap) l := by
  subst hn
  exact ⟨cap, Sl.of hB hA hr (lineCells_length l) h1 h2⟩

theorem lineCells_set (l : List Cell) : ∀ (i : Nat) (c : Cell) (k : Nat), i < l.length → (lineCells (l.set i c))[k]? = if i * 5 ≤ k ∧ k < i * 5 + 5 then c.vals[k - i * 5]? else (lineCells l)[k]? := by
  induction l with
  | nil => intro i c k h; simp at h
  | cons d l ih =>
    intro i c k hi
    cases i with
    | zero =>
      simp only [List.set_cons_zero, lineCells, List.flatMap_cons]
      by_cases hk : k < 5
      · rw [if_pos (by omega), List.getElem?_append_left (by simp [Cell.vals]; omega)]; simp
      · rw [if_neg (by omega), List.getElem?_append_right (by simp [Cell.vals]; omega), List.getElem?_append_right (by simp [Cell.vals]; omega)]
        simp [Cell.vals]
    | succ i =>
      simp only [List.set_cons_succ, lineCells, List.flatMap_cons]
      by_cases hk : k < 5
      · rw [if_neg (by omega), List.getElem?_append_left (by simp [Cell.vals]; omega), List.getElem?_append_left (by simp [Cell.vals]; omega)]
      · rw [List.getElem?_append_right (by simp [Cell.vals]; omega), List.getElem?_append_right (by simp [Cell.vals]; omega)]
        have := ih i c (k - 5) (by simpa using hi)
        simp only [lineCells] at this
        have e1 : d.vals.length = 5 := rfl
        rw [e1, this]
        by_cases h2 : i * 5 ≤ k - 5 ∧ k - 5 < i * 5 + 5
        · rw [if_pos h2, if_pos (by omega)]; congr 1; omega
        · rw [if_neg h2, if_neg (by omega)]

theorem at_put {blk : List Value} {o : Nat} {l : List Cell} (h : At blk o (lineCells l)) {i : Nat} (hi : i < l.length) (c : Cell) (hr : o + l.length * 5 ≤ blk.length) : At (putList blk (o + i * 5) c.vals) o (lineCells (l.set i c)) := by
  refine At.of fun j hj => ?_
  rw [lineCells_length, List.length_set] at hj
  rw [lineCells_set l i c j hi]
  have e1 : c.vals.length = 5 := rfl
  by_cases h2 : i * 5 ≤ j ∧ j < i * 5 + 5
  · rw [if_pos h2]
    have := (putList_at c.vals blk (o + i * 5) (by rw [e1]; omega)).get (j - i * 5) (by rw [e1]; omega)
    rw [← this]; congr 1; omega
  · rw [if_neg h2, putList_other _ _ _ _ (by rw [e1]; omega)]
    exact h.get j (by rw [lineCells_length]; omega)

theorem at_set {blk : List Value} {o : Nat} {l : List Cell} (h : At blk o (lineCells l)) {i k : Nat} (hi : i < l.length) (hk : k < 5) (c : Cell) (v : Value) (hc : c.vals = (l.getD i default).vals.set k v) (hr : o + l.length * 5 ≤ blk.length) :
    At (blk.set (o + i * 5 + k) v) o (lineCells (l.set i c)) := by
  refine At.of fun j hj => ?_
  rw [lineCells_length, List.length_set] at hj
  rw [lineCells_set l i c j hi, List.getElem?_set]
  have e1 : (l.getD i default).vals.length = 5 := rfl
  by_cases h2 : i * 5 ≤ j ∧ j < i * 5 + 5
  · rw [if_pos h2, hc, List.getElem?_set]
    by_cases h3 : k = j - i * 5
    · rw [if_pos (by omega), if_pos h3, if_pos (by omega), if_pos (by rw [e1]; omega)]
    · rw [if_neg (by omega), if_neg h3]
      have := at_get h (i := i) (k := j - i * 5) hi (by omega)
      rw [← this]; congr 1; omega
  · rw [if_neg h2, if_neg (by omega)]
    exact h.get j (by rw [lineCells_length]; omega)

theorem LineV.of_sl {w : World} {v : Value} {l : List Cell} {len cap : Nat} (h : Sl w v 89 5 (lineCells l) len cap) : LineV w v l := by
  have := h.hlen
  rw [lineCells_length] at this
  obtain rfl : len = l.length := by omega
  exact ⟨cap, h⟩

theorem At.take {blk : List Value} {o : Nat} {l : List Cell} (h : At blk o (lineCells l)) (i j : Nat) (hj : i + j ≤ l.length) : At blk (o + i * 5) (lineCells ((l.drop i).take j)) := by
  have e : lineCells l = lineCells (l.take i) ++ (lineCells ((l.drop i).take j) ++ lineCells ((l.drop i).drop j)) := by
    rw [← lineCells_append, List.take_append_drop, ← lineCells_append, List.take_append_drop]
  refine At.of fun k hk => ?_
  have hl1 : (lineCells (l.take i)).length = i * 5 := by rw [lineCells_length, List.length_take, Nat.min_eq_left (by omega)]
  have := h.get (i * 5 + k) (by rw [e, List.length_append, List.length_append, hl1]; omega)
  rw [← Nat.add_assoc] at this
  rw [this, e, List.getElem?_append_right (by omega), hl1, Nat.add_sub_cancel_left, List.getElem?_append_left hk]

theorem LineV.sub {w : World} {b o n cap : Nat} {l : List Cell} (h : LineV w (.slice (Option.some ⟨b, o, none⟩) n cap) l) (i j : Nat) (hij : i + j ≤ l.length) :
    LineV w (.slice (Option.some ⟨b, subo o i 5 cap, none⟩) j (cap - i)) ((l.drop i).take j) := by
  obtain ⟨c, h⟩ := h
  have hle := h.hle
  have hcp := h.hcap
  have hjl : ((l.drop i).take j).length = j := by rw [List.length_take, List.length_drop]; omega
  rcases h.shape with ⟨h1, _⟩ | ⟨b', o', blk, h1, h2, h3, h4⟩
  · cases h1
  · cases h1
    refine ⟨cap - i, ?_⟩
    rw [hjl]
    unfold subo
    by_cases hc : cap = i
    · have hj0 : j = 0 := by omega
      subst hj0; subst hc
      rw [if_pos rfl, List.take_zero]
      exact Sl.of h2 trivial (by omega) (by simp [lineCells]) (by omega) (by omega)
    · rw [if_neg hc]
      refine Sl.of h2 (h3.take i j hij) ?_ (by rw [lineCells_length, hjl]) (by omega) (by omega)
      rw [Nat.sub_mul]; have : i * 5 ≤ cap * 5 := Nat.mul_le_mul_right 5 (by omega)
      omega

theorem LineV.take {w : World} {b o n cap : Nat} {l : List Cell} (h : LineV w (.slice (Option.some ⟨b, o, none⟩) n cap) l) (j : Nat) (hj : j ≤ l.length) :
    LineV w (.slice (Option.some ⟨b, o, none⟩) j cap) (l.take j) := by
  obtain ⟨c, h⟩ := h
  have hle := h.hle
  have hcp := h.hcap
  have hjl : (l.take j).length = j := by rw [List.length_take]; omega
  rcases h.shape with ⟨h1, _⟩ | ⟨b', o', blk, h1, h2, h3, h4⟩
  · cases h1
  · cases h1
    refine ⟨cap, ?_⟩
    rw [hjl]
    have := h3.take 0 j (by omega)
    simp only [Nat.zero_mul, Nat.add_zero, List.drop_zero] at this
    exact Sl.of h2 this h4 (by rw [lineCells_length, hjl]) (by omega) hcp

theorem parts3 {w : World} {v1 v2 v3 : Value} {l1 l2 l3 : List Cell} (h1 : LineV w v1 l1) (h2 : LineV w v2 l2) (h3 : LineV w v3 l3) : Parts w 89 5 [v1, v2, v3] [lineCells l1, lineCells l2, lineCells l3] :=
  ⟨⟨_, h1⟩, lineCells_all _, ⟨_, h2⟩, lineCells_all _, ⟨_, h3⟩, lineCells_all _, trivial⟩
theorem parts2 {w : World} {v1 v2 : Value} {l1 l2 : List Cell} (h1 : LineV w v1 l1) (h2 : LineV w v2 l2) : Parts w 89 5 [v1, v2] [lineCells l1, lineCells l2] :=
  ⟨⟨_, h1⟩, lineCells_all _, ⟨_, h2⟩, lineCells_all _, trivial⟩
theorem flat3 (l1 l2 l3 : List Cell) : [lineCells l1, lineCells l2, lineCells l3].flatten = lineCells (l1 ++ l2 ++ l3) := by simp [lineCells_append]
theorem flat2 (l1 l2 : List Cell) : [lineCells l1, lineCells l2].flatten = lineCells (l1 ++ l2) := by simp [lineCells_append]

def isB (l : List Cell) (col kind : Int) : Bool := decide (0 ≤ col ∧ col < l.length ∧ (l.getD col.toNat default).kind = kind)

def fitsB (l : List Cell) (col : Nat) : Bool :=
  let k := (l.getD col default).kind
  if k = 0 then true else if k = 1 then isB l (col + 1) 2 else if k = 2 then isB l (col - 1) 1 else false

def mendCell (l : List Cell) (i : Nat) : Cell :=
  let c := l.getD i default
  if c.kind ≠ 0 ∧ c.kind ≠ 1 ∧ c.kind ≠ 2 then { c with kind := 0 }
  else if fitsB l i = false then blank c.a
  else if c.kind = 2 then { c with r := 0 } else c

def mend (l : List Cell) : List Cell := (List.range l.length).map (mendCell l)

theorem mendCell_bad {l : List Cell} {i : Nat} {c : Cell} (hc : c = l.getD i default) (h : c.kind ≠ 0 ∧ c.kind ≠ 1 ∧ c.kind ≠ 2) : mendCell l i = { c with kind := 0 } := by
  subst hc; unfold mendCell; dsimp only; rw [if_pos h]
theorem mendCell_blank {l : List Cell} {i : Nat} {c : Cell} (hc : c = l.getD i default) (h : c.kind = 0 ∨ c.kind = 1 ∨ c.kind = 2) (hf : fitsB l i = false) : mendCell l i = blank c.a := by
  subst hc; unfold mendCell; dsimp only; rw [if_neg (by omega), if_pos hf]
theorem mendCell_tail {l : List Cell} {i : Nat} {c : Cell} (hc : c = l.getD i default) (h : c.kind = 2) (hf : fitsB l i = true) : mendCell l i = { c with r := 0 } := by
  subst hc; unfold mendCell; dsimp only; rw [if_neg (by omega), if_neg (by simp [hf]), if_pos h]
theorem mendCell_same {l : List Cell} {i : Nat} {c : Cell} (hc : c = l.getD i default) (h : c.kind = 0 ∨ c.kind = 1) (hf : fitsB l i = true) : mendCell l i = c := by
  subst hc; unfold mendCell; dsimp only; rw [if_neg (by omega), if_neg (by simp [hf]), if_neg (by omega)]

def mendUpto (l : List Cell) (k : Nat) : List Cell := (List.range l.length).map fun i => if i < k then mendCell l i else l.getD i default

theorem mendUpto_length (l : List Cell) (k : Nat) : (mendUpto l k).length = l.length := by simp [mendUpto]
theorem mendUpto_zero (l : List Cell) : mendUpto l 0 = l := by
  apply List.ext_getElem
  · simp [mendUpto]
  · intro i h1 h2; simp [mendUpto, h2]
theorem mendUpto_all (l : List Cell) : mendUpto l l.length = mend l := by
  apply List.ext_getElem
  · simp [mendUpto, mend]
  · intro i h1 h2
    have : i < l.length := by simpa [mend] using h2
    simp [mendUpto, mend, this]
theorem mendUpto_get (l : List Cell) (k : Nat) (hk : k < l.length) : (mendUpto l k).getD k default = l.getD k default := by
  simp [mendUpto, List.getD_eq_getElem?_getD, hk]
theorem mendUpto_succ (l : List Cell) (k : Nat) (hk : k < l.length) : (mendUpto l k).set k (mendCell l k) = mendUpto l (k + 1) := by
  apply List.ext_getElem
  · simp [mendUpto]
  · intro i h1 h2
    have hi : i < l.length := by simpa [mendUpto] using h2
    rw [List.getElem_set]
    by_cases hik : k = i
    · subst hik; simp [mendUpto]
    · rw [if_neg hik]
      simp only [mendUpto, List.getElem_map, List.getElem_range]
      by_cases h3 : i < k
      · rw [if_pos h3, if_pos (by omega)]
      · rw [if_neg h3, if_neg (by omega)]
theorem mendUpto_same (l : List Cell) (k : Nat) (hk : k < l.length) (h : mendCell l k = l.getD k default) : mendUpto l k = mendUpto l (k + 1) := by
  rw [← mendUpto_succ l k hk, h]
  apply List.ext_getElem
  · simp
  · intro i h1 h2
    rw [List.getElem_set]
    by_cases hik : k = i
    · subst hik; rw [if_pos rfl]
      simp [mendUpto, List.getD_eq_getElem?_getD, hk]
    · rw [if_neg hik]

theorem mend_length (l : List Cell) : (mend l).length = l.length := by simp [mend]

def manyB (l : List Cell) (col n : Int) : Int := if n < 1 ∨ col < 0 ∨ (l.length : Int) ≤ col then 0 else min n (l.length - col)

theorem manyB_pos {l : List Cell} {col n : Int} (h : manyB l col n ≠ 0) : 0 ≤ col ∧ 1 ≤ n ∧ 1 ≤ manyB l col n ∧ manyB l col n ≤ l.length - col := by
  unfold manyB at h ⊢
  split at h
  · exact absurd rfl h
  · rename_i h2; rw [if_neg h2]; omega

/-- What was half overwritten at a column is a blank. -/
def halfAt (l : List Cell) (col : Int) : List Cell := if 0 ≤ col ∧ col < l.length ∧ fitsB l col.toNat = false then l.set col.toNat (blank (l.getD col.toNat default).a) else l
def halves (l : List Cell) (f t : Int) : List Cell := halfAt (halfAt l (f - 1)) t
def colAt (f t : Int) (k : Nat) : Int := if k = 0 then f - 1 else t
def halvesUpto (l : List Cell) (f t : Int) : Nat → List Cell
  | 0 => l
  | k + 1 => halfAt (halvesUpto l f t k) (colAt f t k)

theorem halfAt_length (l : List Cell) (col : Int) : (halfAt l col).length = l.length := by unfold halfAt; split <;> simp
theorem halves_length (l : List Cell) (f t : Int) : (halves l f t).length = l.length := by simp [halves, halfAt_length]
theorem halvesUpto_length (l : List Cell) (f t : Int) : ∀ k, (halvesUpto l f t k).length = l.length
  | 0 => rfl
  | k + 1 => by simp [halvesUpto, halfAt_length, halvesUpto_length l f t k]

theorem halvesUpto_hit {l : List Cell} {f t : Int} {k j : Nat} (hc : (j : Int) = colAt f t k) (hj : j < l.length) (hf : fitsB (halvesUpto l f t k) j = false) :
    halvesUpto l f t (k + 1) = (halvesUpto l f t k).set j (blank ((halvesUpto l f t k).getD j default).a) := by
  show halfAt (halvesUpto l f t k) (colAt f t k) = _
  unfold halfAt
  rw [← hc, halvesUpto_length, if_pos ⟨by omega, by omega, hf⟩]
  rfl
theorem halvesUpto_out {l : List Cell} {f t : Int} {k : Nat} (h : colAt f t k < 0 ∨ (l.length : Int) ≤ colAt f t k) : halvesUpto l f t (k + 1) = halvesUpto l f t k := by
  show halfAt (halvesUpto l f t k) (colAt f t k) = _
  unfold halfAt
  rw [halvesUpto_length, if_neg (fun h2 => by have := h2.1; have := h2.2.1; omega)]
theorem halvesUpto_fits {l : List Cell} {f t : Int} {k j : Nat} (hc : (j : Int) = colAt f t k) (hf : fitsB (halvesUpto l f t k) j = true) : halvesUpto l f t (k + 1) = halvesUpto l f t k := by
  show halfAt (halvesUpto l f t k) (colAt f t k) = _
  unfold halfAt
  rw [← hc, if_neg (fun h2 => by have := h2.2.2; simp at this; rw [hf] at this; cases this)]

/-- Put. -/
def putB (l : List Cell) (col r width : Int) (a : Attr) : List Cell × Bool :=
  let out := mend l
  if width < 1 ∨ 2 < width ∨ col < 0 ∨ l.length - width < col then (out, false)
  else
    let o1 := out.set col.toNat ⟨r, 0, a.fg, a.bg, a.fl⟩
    let o2 := if width = 2 then (out.set col.toNat ⟨r, 1, a.fg, a.bg, a.fl⟩).set (col + 1).toNat ⟨0, 2, a.fg, a.bg, a.fl⟩ else o1
    (halves o2 col (col + width), true)

def insertB (l : List Cell) (col n : Int) (a : Attr) : List Cell :=
  let out := mend l
  let m := manyB l col n
  if m = 0 then out else mend (out.take col.toNat ++ List.replicate m.toNat (blank a) ++ (out.drop col.toNat).take ((l.length - m : Int).toNat - col.toNat))
def deleteB (l : List Cell) (col n : Int) (a : Attr) : List Cell :=
  let out := mend l
  let m := manyB l col n
  if m = 0 then out else mend (out.take col.toNat ++ out.drop (col + m).toNat ++ List.replicate m.toNat (blank a))
def eraseUpto (l : List Cell) (f t : Nat) (a : Attr) : List Cell := (List.range l.length).map fun i => if f ≤ i ∧ i < t then blank a else l.getD i default
def eraseB (l : List Cell) (f t : Int) (a : Attr) : List Cell :=
  let out := mend l
  let f := max f 0
  let t := min t l.length
  if t ≤ f then out else halves (eraseUpto out f.toNat t.toNat a) f t
def resizeB (l : List Cell) (cols : Int) : List Cell :=
  let c := min (max cols 0) 1000
  let out := mend l
  if c ≤ l.length then mend (out.take c.toNat) else out ++ List.replicate (c - l.length).toNat (blank ⟨0, 0, 0⟩)
def rightB (l : List Cell) : Bool := (List.range l.length).all fun i => fitsB l i && !(decide ((l.getD i default).kind = 2) && decide ((l.getD i default).r ≠ 0))

theorem eraseUpto_length (l : List Cell) (f t : Nat) (a : Attr) : (eraseUpto l f t a).length = l.length := by simp [eraseUpto]
theorem eraseUpto_zero (l : List Cell) (f : Nat) (a : Attr) : eraseUpto l f f a = l := by
  apply List.ext_getElem
  · simp [eraseUpto]
  · intro i h1 h2
    simp only [eraseUpto, List.getElem_map, List.getElem_range]
    rw [if_neg (by omega)]; simp [List.getD_eq_getElem?_getD, h2]
theorem eraseUpto_succ (l : List Cell) (f k : Nat) (a : Attr) (hf : f ≤ k) (hk : k < l.length) : (eraseUpto l f k a).set k (blank a) = eraseUpto l f (k + 1) a := by
  apply List.ext_getElem
  · simp [eraseUpto]
  · intro i h1 h2
    rw [List.getElem_set]
    by_cases hik : k = i
    · subst hik; rw [if_pos rfl]
      simp only [eraseUpto, List.getElem_map, List.getElem_range]
      rw [if_pos (by omega)]
    · rw [if_neg hik]
      simp only [eraseUpto, List.getElem_map, List.getElem_range]
      by_cases h3 : f ≤ i ∧ i < k
      · rw [if_pos h3, if_pos (by omega)]
      · rw [if_neg h3, if_neg (by omega)]

end Go.Eng
namespace Go.Eng
open Go Go.Proofs
theorem mixed : Tryz.prog.follows .mixedOrders = true := Tryz.checked.mixed

theorem pl89 : ∀ w, ((#[{ name := "R", type := 21, offset := 0, embedded := false, tag := "", pkgPath := "", byteOffset := 0 }, { name := "Kind", type := 3, offset := 1, embedded := false, tag := "", pkgPath := "", byteOffset := 8 },
    { name := "A", type := 40, offset := 2, embedded := false, tag := "", pkgPath := "", byteOffset := 16 }] : Array Field).mapM fun f => do pure (f.offset, ← sizeOf f.type) : Sem (Array (Nat × Nat))).run Tryz.prog w = .ok #[(0, 1), (1, 1), (2, 3)] w := fun w => by
  simp [Tryz.sizeOf21, Tryz.sizeOf3, Tryz.sizeOf40]

theorem is_ok {w : World} {v : Value} {l : List Cell} (hv : LineV w v l) (col kind : Int) (hl : l.length ≤ 1048576) : Ret Tryz.prog 70 [v, .int .i64 col, .int .i64 kind] w (fun r w' => r = .bool (isB l col kind) ∧ Grow w w') := by
 obtain ⟨ad, cap, rfl⟩ := hv.slice; refine Ret.of Tryz.func70 Tryz.ntmps70 rfl rfl ?_; refine WC.sub (e' := [(0, .slice ad l.length cap), (1, .int .i64 col), (2, .int .i64 kind)]) ⟨rfl, rfl, rfl, trivial⟩ ?_; have hG : Mod (fun k => False) w w := Mod.refl _ _; refine wsr ?_; refine va rfl rfl ?_; refine WL.nil ?_; refine wsr ?_; refine vm rfl rfl ?_; refine WL.val (OpRun.geq rfl rfl) rfl ?_; refine WL.splitD rfl rfl (fun hq1 => ?_) (fun hq1 => ?_)
 ·refine WL.want rfl rfl ?_; refine vm rfl rfl ?_; refine WL.want rfl rfl ?_; refine vm rfl rfl ?_; refine WL.want rfl rfl ?_; refine WL.val (OpRun.lenS rfl ⟨Tryz.runUnderlying54⟩) rfl ?_; refine WL.want rfl rfl ?_; refine WL.val (OpRun.lss rfl rfl) rfl ?_; refine WL.val (OpRun.pickT rfl rfl) rfl ?_; refine WL.splitD rfl rfl (fun hq2 => ?_) (fun hq2 => ?_)
  ·refine WL.want rfl rfl ?_; refine vm rfl rfl ?_; refine WL.want rfl rfl ?_; refine vm rfl rfl ?_; obtain ⟨b, o, blk, rfl, hB, hA, hr⟩ := hv.some (by omega); refine WL.want rfl rfl ?_; refine WL.val (OpRun.indexAddr rfl rfl ⟨Tryz.runUnderlying54⟩ ⟨Tryz.sizeOf89⟩ (by omega) (by omega)) rfl ?_; refine WL.want rfl rfl ?_; refine vf 1 Tryz.runUnderlying89 Tryz.sizeOf3 rfl rfl rfl rfl rfl ?_; refine WL.want rfl rfl ?_; refine WL.val (OpRun.load rfl ⟨Tryz.isAgg3⟩ hB (at_kind hA (by omega))) rfl ?_; refine WL.want rfl rfl ?_; refine vm rfl rfl ?_; refine WL.want rfl rfl ?_; refine WL.val (OpRun.eql rfl rfl) rfl ?_; refine WL.val (OpRun.pickT rfl rfl) rfl ?_; refine va rfl rfl ?_; refine WL.nil ?_; refine WC.ret ?_; refine fin_one rfl rfl ?_; refine ⟨?_, hG⟩
   first | exact congrArg Value.bool (decide_eq_false (by omega)).symm | exact congrArg Value.bool (decide_eq_decide.2 (by omega))
  ·refine WL.pass rfl rfl rfl rfl ?_; refine WL.pass rfl rfl rfl rfl ?_; refine WL.pass rfl rfl rfl rfl ?_; refine WL.pass rfl rfl rfl rfl ?_; refine WL.pass rfl rfl rfl rfl ?_; refine WL.pass rfl rfl rfl rfl ?_; refine WL.pass rfl rfl rfl rfl ?_; refine WL.val (OpRun.pickF rfl rfl) rfl ?_; refine va rfl rfl ?_; refine WL.nil ?_; refine WC.ret ?_; refine fin_one rfl rfl ?_; refine ⟨?_, hG⟩
   first | exact congrArg Value.bool (decide_eq_false (by omega)).symm | exact congrArg Value.bool (decide_eq_decide.2 (by omega))
 ·refine WL.pass rfl rfl rfl rfl ?_; refine WL.pass rfl rfl rfl rfl ?_; refine WL.pass rfl rfl rfl rfl ?_; refine WL.pass rfl rfl rfl rfl ?_; refine WL.val (OpRun.pickF rfl rfl) rfl ?_; refine vm rfl rfl ?_; refine WL.pass rfl rfl rfl rfl ?_; refine WL.pass rfl rfl rfl rfl ?_; refine WL.pass rfl rfl rfl rfl ?_; refine WL.pass rfl rfl rfl rfl ?_; refine WL.pass rfl rfl rfl rfl ?_; refine WL.pass rfl rfl rfl rfl ?_; refine WL.pass rfl rfl rfl rfl ?_; refine WL.val (OpRun.pickF rfl rfl) rfl ?_; refine va rfl rfl ?_; refine WL.nil ?_; refine WC.ret ?_; refine fin_one rfl rfl ?_; refine ⟨?_, hG⟩
  first | exact congrArg Value.bool (decide_eq_false (by omega)).symm | exact congrArg Value.bool (decide_eq_decide.2 (by omega))

theorem fits_ok {w : World} {v : Value} {l : List Cell} (hv : LineV w v l) (i : Nat) (hi : i < l.length) (hl : l.length ≤ 1048576) : Ret Tryz.prog 39 [v, .int .i64 i] w (fun r w' => r = .bool (fitsB l i) ∧ Grow w w') := by
 obtain ⟨ad, cap, rfl⟩ := hv.slice; obtain ⟨b, o, blk, rfl, hB, hA, hr⟩ := hv.some (by omega); refine Ret.of Tryz.func39 Tryz.ntmps39 rfl rfl ?_; refine WC.sub (e' := [(0, .slice (some ⟨b, o, none⟩) l.length cap), (1, .int .i64 i)]) ⟨rfl, rfl, trivial⟩ ?_; have hG : Mod (fun k => False) w w := Mod.refl _ _; refine wsr ?_; refine va rfl rfl ?_; refine WL.nil ?_; refine WC.seq ?_; refine wsr ?_; refine vm rfl rfl ?_; refine vm rfl rfl ?_; refine WL.val (OpRun.indexAddr rfl rfl ⟨Tryz.runUnderlying54⟩ ⟨Tryz.sizeOf89⟩ (by omega) (by omega)) rfl ?_; refine vf 1 Tryz.runUnderlying89 Tryz.sizeOf3 rfl rfl rfl rfl rfl ?_; refine WL.val (OpRun.load rfl ⟨Tryz.isAgg3⟩ hB (at_kind (i := i) hA hi)) rfl ?_; refine WL.nil ?_; refine WC.block ?_; refine wsr ?_
 refine WL.val (OpRun.eql rfl rfl) rfl ?_; refine va rfl rfl ?_; refine WL.nil ?_; refine WC.condD rfl (fun hq1 => ?_) (fun hq1 => ?_)
 ·refine wsr ?_; refine va rfl rfl ?_; refine WL.nil ?_; refine WC.ret ?_; refine fin_one rfl rfl ?_; refine ⟨congrArg Value.bool ?_, hG⟩; unfold fitsB; dsimp only
  first | rw [if_pos ‹_›] | rw [if_neg ‹_›, if_pos ‹_›] | rw [if_neg ‹_›, if_neg ‹_›, if_pos ‹_›] | rw [if_neg ‹_›, if_neg ‹_›, if_neg ‹_›]
 ·refine wsr ?_; refine WL.val (OpRun.eql rfl rfl) rfl ?_; refine va rfl rfl ?_; refine WL.nil ?_; refine WC.condD rfl (fun hq2 => ?_) (fun hq2 => ?_)
  ·refine wsr ?_; refine vm rfl rfl ?_; refine vm rfl rfl ?_; refine WL.val (OpRun.add rfl rfl (In.i64 (by omega))) rfl ?_; refine WL.step (OpTo.call ⟨Tryz.call70⟩ rfl rfl (is_ok hv _ _ hl) (fun v3 w3 hp3 => ?_)); obtain ⟨rfl, hm3⟩ := hp3; have hB := hB.grow hm3; have hv := hv.grow hm3; have hG := hG.grow hm3; refine va rfl rfl ?_; refine WL.nil ?_; refine WC.ret ?_; refine fin_one rfl rfl ?_; refine ⟨congrArg Value.bool ?_, hG⟩; unfold fitsB; dsimp only
   first | rw [if_pos ‹_›] | rw [if_neg ‹_›, if_pos ‹_›] | rw [if_neg ‹_›, if_neg ‹_›, if_pos ‹_›] | rw [if_neg ‹_›, if_neg ‹_›, if_neg ‹_›]
  ·refine wsr ?_; refine WL.val (OpRun.eql rfl rfl) rfl ?_; refine va rfl rfl ?_; refine WL.nil ?_; refine WC.condD rfl (fun hq3 => ?_) (fun hq3 => ?_)
   ·refine wsr ?_; refine vm rfl rfl ?_; refine vm rfl rfl ?_; refine WL.val (OpRun.sub rfl rfl (In.i64 (by omega))) rfl ?_; refine WL.step (OpTo.call ⟨Tryz.call70⟩ rfl rfl (is_ok hv _ _ hl) (fun v4 w4 hp4 => ?_)); obtain ⟨rfl, hm4⟩ := hp4; have hB := hB.grow hm4; have hv := hv.grow hm4; have hG := hG.grow hm4; refine va rfl rfl ?_; refine WL.nil ?_; refine WC.ret ?_; refine fin_one rfl rfl ?_; refine ⟨congrArg Value.bool ?_, hG⟩; unfold fitsB; dsimp only
    first | rw [if_pos ‹_›] | rw [if_neg ‹_›, if_pos ‹_›] | rw [if_neg ‹_›, if_neg ‹_›, if_pos ‹_›] | rw [if_neg ‹_›, if_neg ‹_›, if_neg ‹_›]
   ·refine WC.skip ?_; refine wsr ?_; refine va rfl rfl ?_; refine WL.nil ?_; refine WC.ret ?_; refine fin_one rfl rfl ?_; refine ⟨congrArg Value.bool ?_, hG⟩; unfold fitsB; dsimp only
    first | rw [if_pos ‹_›] | rw [if_neg ‹_›, if_pos ‹_›] | rw [if_neg ‹_›, if_neg ‹_›, if_pos ‹_›] | rw [if_neg ‹_›, if_neg ‹_›, if_neg ‹_›]

theorem clone_ok {w : World} {v : Value} {l : List Cell} (hv : LineV w v l) (hl : l.length ≤ 1048576) : Ret Tryz.prog 38 [v] w (fun r w' => LineV w' r l ∧ Grow w w' ∧ Fresh w r) := by
 obtain ⟨ad, cap, rfl⟩ := hv.slice; have hvb := hv.lt; refine Ret.of Tryz.func38 Tryz.ntmps38 rfl rfl ?_; refine WC.sub (e' := [(0, .slice ad l.length cap)]) ⟨rfl, trivial⟩ ?_; have hG : Mod (fun k => False) w w := Mod.refl _ _; refine wsr ?_; refine va rfl rfl ?_; refine WL.nil ?_; refine WC.seq ?_; refine wsr ?_; refine vm rfl rfl ?_; refine WL.val (OpRun.eqlNil rfl rfl ⟨Tryz.runUnderlying54⟩) rfl ?_; refine WL.nil ?_; refine WC.cond rfl (fun hq1 => ?_) (fun hq1 => ?_)
 ·refine wsr ?_; refine va rfl rfl ?_; refine WL.nil ?_; refine WC.ret ?_; refine fin_one rfl rfl ?_
  cases ad with
  | some a => cases hq1
  | none => obtain rfl := hv.nil_of; exact ⟨LineV.nil _, hG, Fresh.nil _⟩
 ·refine WC.skip ?_; refine wsr ?_; refine WL.step (OpTo.buildSlice0 rfl ⟨Tryz.runUnderlying54⟩ ⟨Tryz.sizeOf89⟩ rfl (fun b2 w2 hbE hm2 hlo2 hhi2 => ?_)); have hv := hv.grow hm2; have hG := hG.grow hm2; have hfrE : Fresh w (.slice (some ⟨b2, 0, none⟩) 0 0) := fun k hk => by cases hk; omega
  refine vm rfl rfl ?_; refine WL.step (OpTo.append rfl ⟨Tryz.runUnderlying54⟩ ⟨Tryz.runUnderlying54⟩ (by intro k h; cases h) ⟨Tryz.sizeOf89⟩ (Sl.of hbE (cs := []) trivial (by simp) (by simp) (by omega) (by omega)) hv.src (lineCells_all _) ⟨Tryz.zeroValue89⟩ rfl (by_ := 40) ⟨fun w => ⟨_, Tryz.typeInfo89 w, rfl⟩⟩ (by omega) (by omega) rfl rfl (fun vA wA hpA => ?_)); obtain ⟨capA, hSA, hmA, hbkA⟩ := hpA; have hv := hv.mod hmA (fun k hk h => absurd (hvb k hk) (by have := hfrE k h; omega)); have hfrA : Fresh w vA := fun k hk => hbkA.elim (fun h => hfrE k (h ▸ hk)) (fun ⟨b, hb, hlt⟩ => by have h1 := hb.symm.trans hk; cases h1; have := hG.size; omega); have hG := hG.trans hmA (fun _ h => h) (fun x hx hs => absurd hx (by have := hfrE x hs; omega)); refine va rfl rfl ?_; refine WL.nil ?_; refine WC.ret ?_; refine fin_one rfl rfl ?_; exact ⟨⟨_, by simpa using hSA⟩, hG, hfrA⟩

theorem tb89_2 {a b c : Value} : TBuild Tryz.prog 89 [(2, .agg #[a, b, c])] (.agg #[.int .i32 0, .int .i64 0, a, b, c]) :=
  TBuild.struct (cs := [.int .i32 0, .int .i64 0, a, b, c]) ⟨Tryz.zeroValue89⟩ ⟨Tryz.runUnderlying89⟩ pl89 rfl
theorem tb89_0_2 {k : IntKind} {r : Int} {a b c : Value} : TBuild Tryz.prog 89 [(0, .int k r), (2, .agg #[a, b, c])] (.agg #[.int k r, .int .i64 0, a, b, c]) :=
  TBuild.struct (cs := [.int k r, .int .i64 0, a, b, c]) ⟨Tryz.zeroValue89⟩ ⟨Tryz.runUnderlying89⟩ pl89 rfl
theorem tb89_1_2 {k : IntKind} {r : Int} {a b c : Value} : TBuild Tryz.prog 89 [(1, .int k r), (2, .agg #[a, b, c])] (.agg #[.int .i32 0, .int k r, a, b, c]) :=
  TBuild.struct (cs := [.int .i32 0, .int k r, a, b, c]) ⟨Tryz.zeroValue89⟩ ⟨Tryz.runUnderlying89⟩ pl89 rfl

theorem mend_ok {w : World} {v : Value} {l : List Cell} (hv : LineV w v l) (hl : l.length ≤ 1048576) : Ret Tryz.prog 71 [v] w (fun r w' => LineV w' r (mend l) ∧ Grow w w' ∧ Fresh w r) := by
 obtain ⟨ad, cap, rfl⟩ := hv.slice; have hvb := hv.lt; refine Ret.of Tryz.func71 Tryz.ntmps71 rfl rfl ?_; refine WC.sub (e' := [(0, .slice ad l.length cap)]) ⟨rfl, trivial⟩ ?_; have hG : Mod (fun k => False) w w := Mod.refl _ _; refine wsr ?_; refine va rfl rfl ?_; refine WL.nil ?_; refine wsr ?_; refine vm rfl rfl ?_; refine WL.step (OpTo.call ⟨Tryz.call38⟩ rfl rfl (clone_ok hv hl) (fun v1 w1 hp1 => ?_)); obtain ⟨hov, hm1, hfr⟩ := hp1; have hv := hv.grow hm1; have hG := hG.grow hm1; obtain ⟨oad, ocap, rfl⟩ := hov.slice; refine va rfl rfl ?_; refine WL.nil ?_; refine WC.seq ?_; refine wsr ?_; refine vm rfl rfl ?_; refine WL.val (OpRun.lenS rfl ⟨Tryz.runUnderlying54⟩) rfl ?_; refine vm rfl rfl ?_; refine WL.nil ?_; refine WC.block ?_
 refine WC.loop (fun m e w' => ∃ k : Nat, k ≤ l.length ∧ m = l.length - k ∧ Sub [(0, .slice ad l.length cap), (3, .slice oad l.length ocap), (8, .slice ad l.length cap), (9, .int .i64 l.length), (10, .int .i64 k)] e ∧ LineV w' (.slice ad l.length cap) l ∧ LineV w' (.slice oad l.length ocap) (mendUpto l k) ∧ Mod (fun _ => False) w w') (l.length) ⟨0, by omega, by omega, ⟨rfl, rfl, rfl, rfl, rfl, trivial⟩, hv, by rw [mendUpto_zero]; exact hov, hG⟩ ?_
 rintro m e wl ⟨k, hk, rfl, hs, hv, hov, hG⟩
 refine WC.sub hs ?_; refine wsr ?_; refine WL.val (OpRun.lss rfl rfl) rfl ?_; refine WL.nil ?_; refine WC.seq ?_; refine WC.condD rfl (fun hq4 => ?_) (fun hq4 => ?_)
 ·refine WC.skip ?_; refine WC.seq ?_; refine WC.block ?_; refine wsr ?_; obtain ⟨b, o, blk, rfl, hB, hA, hr⟩ := hv.some (by omega); obtain ⟨ob, oo, oblk, rfl, hOB, hOA, hOr, hOc, hOm, -⟩ := hov.open (by rw [mendUpto_length]; omega); have hb1 := hvb b rfl; have ho1 := hfr ob rfl; have ho2 := hOB.lt; rw [mendUpto_length] at hOc; obtain ⟨c, hc⟩ : ∃ c, c = l.getD k default := ⟨_, rfl⟩; have hC : At blk (o + k * 5) [.int .i32 c.r, .int .i64 c.kind, .int .i64 c.fg, .int .i64 c.bg, .int .i64 c.fl] := by rw [hc]; exact at_cell hA (by omega)
  have hum := mendUpto_get l k (by omega); refine vm rfl rfl ?_; refine WL.val (OpRun.indexAddr rfl rfl ⟨Tryz.runUnderlying54⟩ ⟨Tryz.sizeOf89⟩ (by omega) (by omega)) rfl ?_; refine WL.val (OpRun.loadA (vs := [.int .i32 c.r, .int .i64 c.kind, .int .i64 c.fg, .int .i64 c.bg, .int .i64 c.fl]) rfl ⟨Tryz.isAgg89⟩ ⟨Tryz.sizeOf89⟩ hB hC) rfl ?_; refine WL.step (OpTo.alloc (vs := [_, _, _, _, _]) ⟨Tryz.zeroValue89⟩ rfl rfl (fun b5 w5 hX hm5 hlo5 hhi5 => ?_)); have hB := hB.grow hm5; have hOB := hOB.grow hm5; have hv := hv.grow hm5; have hG := hG.grow hm5; refine va rfl rfl ?_; refine WL.step (OpTo.storeA (vs := [_, _, _, _, _]) rfl rfl ⟨Tryz.sizeOf89⟩ rfl hX rfl (fun w6 hn6 hm6 hz6 => ?_))
  first | simp only [putList, List.set_cons_zero, List.set_cons_succ] at hn6 | dsimp only [putList, List.set] at hn6
  have hB := hB.mod hm6 (by first | exact hB.ne hX rfl | omega); have hOB := hOB.mod hm6 (by first | exact hOB.ne hX rfl | omega); have hv := hv.mod hm6 (fun k hk (h : k = _) => by have := hvb k hk; omega); have hG := hG.trans hm6 (fun _ h => h) (fun x hx hs => by (try dsimp only at hs ⊢); omega); have hX := hn6; refine WL.nil ?_; refine WC.block ?_; refine wsr ?_; refine vf 1 Tryz.runUnderlying89 Tryz.sizeOf3 rfl rfl rfl rfl rfl ?_
  first | refine WL.val (OpRun.load rfl ⟨Tryz.isAgg3⟩ hX rfl) rfl ?_ | refine WL.val (OpRun.load rfl ⟨Tryz.isAgg3⟩ hOB rfl) rfl ?_ | refine WL.val (OpRun.load rfl ⟨Tryz.isAgg3⟩ hB rfl) rfl ?_
  refine WL.val (OpRun.neq rfl rfl) rfl ?_; refine WL.splitD rfl rfl (fun hq7 => ?_) (fun hq7 => ?_)
  ·refine WL.want rfl rfl ?_; refine vf 1 Tryz.runUnderlying89 Tryz.sizeOf3 rfl rfl rfl rfl rfl ?_; refine WL.want rfl rfl ?_
   first | refine WL.val (OpRun.load rfl ⟨Tryz.isAgg3⟩ hX rfl) rfl ?_ | refine WL.val (OpRun.load rfl ⟨Tryz.isAgg3⟩ hOB rfl) rfl ?_ | refine WL.val (OpRun.load rfl ⟨Tryz.isAgg3⟩ hB rfl) rfl ?_
   refine WL.want rfl rfl ?_; refine WL.val (OpRun.neq rfl rfl) rfl ?_; refine WL.val (OpRun.pickT rfl rfl) rfl ?_; refine WL.splitD rfl rfl (fun hq8 => ?_) (fun hq8 => ?_)
   ·refine WL.want rfl rfl ?_; refine vf 1 Tryz.runUnderlying89 Tryz.sizeOf3 rfl rfl rfl rfl rfl ?_; refine WL.want rfl rfl ?_
    first | refine WL.val (OpRun.load rfl ⟨Tryz.isAgg3⟩ hX rfl) rfl ?_ | refine WL.val (OpRun.load rfl ⟨Tryz.isAgg3⟩ hOB rfl) rfl ?_ | refine WL.val (OpRun.load rfl ⟨Tryz.isAgg3⟩ hB rfl) rfl ?_
    refine WL.want rfl rfl ?_; refine WL.val (OpRun.neq rfl rfl) rfl ?_; refine WL.val (OpRun.pickT rfl rfl) rfl ?_; refine va rfl rfl ?_; refine WL.nil ?_; refine WC.condD rfl (fun hq9 => ?_) (fun hq9 => ?_)
    ·refine WC.region ?_; refine vm rfl rfl ?_; refine vm rfl rfl ?_; refine WL.val (OpRun.indexAddr rfl rfl ⟨Tryz.runUnderlying54⟩ ⟨Tryz.sizeOf89⟩ (by omega) (by omega)) rfl ?_; refine vf 1 Tryz.runUnderlying89 Tryz.sizeOf3 rfl rfl rfl rfl rfl ?_; refine WL.step (OpTo.storeS rfl rfl ⟨Tryz.sizeOf3⟩ rfl hOB (by omega) (fun w10 hn10 hm10 hz10 => ?_)); have hB := hB.mod hm10 (by first | exact hB.ne hOB rfl | omega); have hX := hX.mod hm10 (by first | exact hX.ne hOB rfl | omega); have hv := hv.mod hm10 (fun k hk (h : k = _) => by have := hvb k hk; omega); have hG := hG.trans hm10 (fun _ h => h) (fun x hx hs => by (try dsimp only at hs ⊢); omega); have hOB := hn10; have hov2 : LineV w10 (.slice (some ⟨ob, oo, none⟩) l.length ocap) (mendUpto l (k + 1)) := LineV.mk hOB (by rw [← mendUpto_succ l k (by omega), mendCell_bad hc ⟨by assumption, by assumption, by assumption⟩]; exact at_set (i := k) hOA (by rw [mendUpto_length]; omega) (by omega) _ _ (by rw [hum, ← hc]; rfl) (by rw [mendUpto_length]; omega)) (by rw [List.length_set]; exact hOr) (by rw [mendUpto_length]; exact hOc) hOm (by rw [mendUpto_length])
     refine WL.nil ?_; refine WC.region ?_; refine WL.val (OpRun.add rfl rfl (In.i64 (by omega))) rfl ?_; refine vm rfl rfl ?_; refine WL.nil ?_; exact ⟨l.length - (k + 1), by omega, k + 1, by omega, rfl, ⟨rfl, rfl, rfl, rfl, rfl, trivial⟩, hv, hov2, hG⟩
    ·refine wsr ?_; refine vm rfl rfl ?_; refine vm rfl rfl ?_; refine WL.step (OpTo.call ⟨Tryz.call39⟩ rfl rfl (fits_ok hv k (by omega) hl) (fun v10 w10 hp10 => ?_)); obtain ⟨rfl, hm10⟩ := hp10; have hB := hB.grow hm10; have hOB := hOB.grow hm10; have hX := hX.grow hm10; have hv := hv.grow hm10; have hG := hG.grow hm10; refine WL.val (OpRun.not rfl) rfl ?_; refine va rfl rfl ?_; refine WL.nil ?_; refine WC.cond rfl (fun hq11 => ?_) (fun hq11 => ?_)
     ·refine WC.region ?_; refine vm rfl rfl ?_; refine vm rfl rfl ?_; refine vf 2 Tryz.runUnderlying89 Tryz.sizeOf40 rfl rfl rfl rfl rfl ?_
      first | refine WL.val (OpRun.loadA (vs := [_, _, _]) rfl ⟨Tryz.isAgg40⟩ ⟨Tryz.sizeOf40⟩ hX ⟨rfl, rfl, rfl, trivial⟩) rfl ?_ | refine WL.val (OpRun.loadA (vs := [_, _, _]) rfl ⟨Tryz.isAgg40⟩ ⟨Tryz.sizeOf40⟩ hOB ⟨rfl, rfl, rfl, trivial⟩) rfl ?_ | refine WL.val (OpRun.loadA (vs := [_, _, _]) rfl ⟨Tryz.isAgg40⟩ ⟨Tryz.sizeOf40⟩ hB ⟨rfl, rfl, rfl, trivial⟩) rfl ?_
      refine WL.val (OpRun.build rfl tb89_2) rfl ?_; refine WL.val (OpRun.indexAddr rfl rfl ⟨Tryz.runUnderlying54⟩ ⟨Tryz.sizeOf89⟩ (by omega) (by omega)) rfl ?_; refine WL.step (OpTo.storeAS (vs := [_, _, _, _, _]) rfl rfl ⟨Tryz.sizeOf89⟩ rfl hOB (by simp only [List.length_cons, List.length_nil]; omega) (fun w12 hn12 hm12 hz12 => ?_)); have hB := hB.mod hm12 (by first | exact hB.ne hOB rfl | omega); have hX := hX.mod hm12 (by first | exact hX.ne hOB rfl | omega); have hv := hv.mod hm12 (fun k hk (h : k = _) => by have := hvb k hk; omega); have hG := hG.trans hm12 (fun _ h => h) (fun x hx hs => by (try dsimp only at hs ⊢); omega); have hOB := hn12; have hov2 : LineV w12 (.slice (some ⟨ob, oo, none⟩) l.length ocap) (mendUpto l (k + 1)) := LineV.mk hOB (by rw [← mendUpto_succ l k (by omega), mendCell_blank hc (by omega) (by simpa using ‹(!fitsB l k) = true›)]; exact at_put (i := k) hOA (by rw [mendUpto_length]; omega) (blank c.a) (by rw [mendUpto_length]; omega)) (by rw [putList_length]; exact hOr) (by rw [mendUpto_length]; exact hOc) hOm (by rw [mendUpto_length])
      refine WL.nil ?_; refine WC.region ?_; refine WL.val (OpRun.add rfl rfl (In.i64 (by omega))) rfl ?_; refine vm rfl rfl ?_; refine WL.nil ?_; exact ⟨l.length - (k + 1), by omega, k + 1, by omega, rfl, ⟨rfl, rfl, rfl, rfl, rfl, trivial⟩, hv, hov2, hG⟩
     ·refine wsr ?_; refine vf 1 Tryz.runUnderlying89 Tryz.sizeOf3 rfl rfl rfl rfl rfl ?_
      first | refine WL.val (OpRun.load rfl ⟨Tryz.isAgg3⟩ hX rfl) rfl ?_ | refine WL.val (OpRun.load rfl ⟨Tryz.isAgg3⟩ hOB rfl) rfl ?_ | refine WL.val (OpRun.load rfl ⟨Tryz.isAgg3⟩ hB rfl) rfl ?_
      refine WL.val (OpRun.eql rfl rfl) rfl ?_; refine va rfl rfl ?_; refine WL.nil ?_; refine WC.condD rfl (fun hq12 => ?_) (fun hq12 => ?_)
      ·refine WC.region ?_; refine vm rfl rfl ?_; refine vm rfl rfl ?_; refine WL.val (OpRun.indexAddr rfl rfl ⟨Tryz.runUnderlying54⟩ ⟨Tryz.sizeOf89⟩ (by omega) (by omega)) rfl ?_; refine vf 0 Tryz.runUnderlying89 Tryz.sizeOf21 rfl rfl rfl rfl rfl ?_; refine WL.step (OpTo.storeS rfl rfl ⟨Tryz.sizeOf21⟩ rfl hOB (by omega) (fun w13 hn13 hm13 hz13 => ?_)); have hB := hB.mod hm13 (by first | exact hB.ne hOB rfl | omega); have hX := hX.mod hm13 (by first | exact hX.ne hOB rfl | omega); have hv := hv.mod hm13 (fun k hk (h : k = _) => by have := hvb k hk; omega); have hG := hG.trans hm13 (fun _ h => h) (fun x hx hs => by (try dsimp only at hs ⊢); omega); have hOB := hn13; have hov2 : LineV w13 (.slice (some ⟨ob, oo, none⟩) l.length ocap) (mendUpto l (k + 1)) := LineV.mk hOB (by rw [← mendUpto_succ l k (by omega), mendCell_tail hc (by omega) (by simpa using ‹(!fitsB l k) = false›)]; exact at_set (i := k) hOA (by rw [mendUpto_length]; omega) (by omega) _ _ (by rw [hum, ← hc]; rfl) (by rw [mendUpto_length]; omega)) (by rw [List.length_set]; exact hOr) (by rw [mendUpto_length]; exact hOc) hOm (by rw [mendUpto_length])
       refine WL.nil ?_; refine WC.region ?_; refine WL.val (OpRun.add rfl rfl (In.i64 (by omega))) rfl ?_; refine vm rfl rfl ?_; refine WL.nil ?_; exact ⟨l.length - (k + 1), by omega, k + 1, by omega, rfl, ⟨rfl, rfl, rfl, rfl, rfl, trivial⟩, hv, hov2, hG⟩
      ·have hov2 : LineV w10 (.slice (some ⟨ob, oo, none⟩) l.length ocap) (mendUpto l (k + 1)) := LineV.mk hOB (by rw [← mendUpto_same l k (by omega) ((mendCell_same hc (by omega) (by simpa using ‹(!fitsB l k) = false›)).trans hc)]; exact hOA) hOr (by rw [mendUpto_length]; exact hOc) hOm (by rw [mendUpto_length]); refine WC.skip ?_; refine WC.region ?_; refine WL.val (OpRun.add rfl rfl (In.i64 (by omega))) rfl ?_; refine vm rfl rfl ?_; refine WL.nil ?_; exact ⟨l.length - (k + 1), by omega, k + 1, by omega, rfl, ⟨rfl, rfl, rfl, rfl, rfl, trivial⟩, hv, hov2, hG⟩
   ·refine WL.pass rfl rfl rfl rfl ?_; refine WL.pass rfl rfl rfl rfl ?_; refine WL.pass rfl rfl rfl rfl ?_; refine WL.val (OpRun.pickF rfl rfl) rfl ?_; refine va rfl rfl ?_; refine WL.nil ?_; refine WC.condF rfl ?_; refine wsr ?_; refine vm rfl rfl ?_; refine vm rfl rfl ?_; refine WL.step (OpTo.call ⟨Tryz.call39⟩ rfl rfl (fits_ok hv k (by omega) hl) (fun v9 w9 hp9 => ?_)); obtain ⟨rfl, hm9⟩ := hp9; have hB := hB.grow hm9; have hOB := hOB.grow hm9; have hX := hX.grow hm9; have hv := hv.grow hm9; have hG := hG.grow hm9; refine WL.val (OpRun.not rfl) rfl ?_; refine va rfl rfl ?_; refine WL.nil ?_; refine WC.cond rfl (fun hq10 => ?_) (fun hq10 => ?_)
    ·refine WC.region ?_; refine vm rfl rfl ?_; refine vm rfl rfl ?_; refine vf 2 Tryz.runUnderlying89 Tryz.sizeOf40 rfl rfl rfl rfl rfl ?_
     first | refine WL.val (OpRun.loadA (vs := [_, _, _]) rfl ⟨Tryz.isAgg40⟩ ⟨Tryz.sizeOf40⟩ hX ⟨rfl, rfl, rfl, trivial⟩) rfl ?_ | refine WL.val (OpRun.loadA (vs := [_, _, _]) rfl ⟨Tryz.isAgg40⟩ ⟨Tryz.sizeOf40⟩ hOB ⟨rfl, rfl, rfl, trivial⟩) rfl ?_ | refine WL.val (OpRun.loadA (vs := [_, _, _]) rfl ⟨Tryz.isAgg40⟩ ⟨Tryz.sizeOf40⟩ hB ⟨rfl, rfl, rfl, trivial⟩) rfl ?_
     refine WL.val (OpRun.build rfl tb89_2) rfl ?_; refine WL.val (OpRun.indexAddr rfl rfl ⟨Tryz.runUnderlying54⟩ ⟨Tryz.sizeOf89⟩ (by omega) (by omega)) rfl ?_; refine WL.step (OpTo.storeAS (vs := [_, _, _, _, _]) rfl rfl ⟨Tryz.sizeOf89⟩ rfl hOB (by simp only [List.length_cons, List.length_nil]; omega) (fun w11 hn11 hm11 hz11 => ?_)); have hB := hB.mod hm11 (by first | exact hB.ne hOB rfl | omega); have hX := hX.mod hm11 (by first | exact hX.ne hOB rfl | omega); have hv := hv.mod hm11 (fun k hk (h : k = _) => by have := hvb k hk; omega); have hG := hG.trans hm11 (fun _ h => h) (fun x hx hs => by (try dsimp only at hs ⊢); omega); have hOB := hn11; have hov2 : LineV w11 (.slice (some ⟨ob, oo, none⟩) l.length ocap) (mendUpto l (k + 1)) := LineV.mk hOB (by rw [← mendUpto_succ l k (by omega), mendCell_blank hc (by omega) (by simpa using ‹(!fitsB l k) = true›)]; exact at_put (i := k) hOA (by rw [mendUpto_length]; omega) (blank c.a) (by rw [mendUpto_length]; omega)) (by rw [putList_length]; exact hOr) (by rw [mendUpto_length]; exact hOc) hOm (by rw [mendUpto_length])
     refine WL.nil ?_; refine WC.region ?_; refine WL.val (OpRun.add rfl rfl (In.i64 (by omega))) rfl ?_; refine vm rfl rfl ?_; refine WL.nil ?_; exact ⟨l.length - (k + 1), by omega, k + 1, by omega, rfl, ⟨rfl, rfl, rfl, rfl, rfl, trivial⟩, hv, hov2, hG⟩
    ·refine wsr ?_; refine vf 1 Tryz.runUnderlying89 Tryz.sizeOf3 rfl rfl rfl rfl rfl ?_
     first | refine WL.val (OpRun.load rfl ⟨Tryz.isAgg3⟩ hX rfl) rfl ?_ | refine WL.val (OpRun.load rfl ⟨Tryz.isAgg3⟩ hOB rfl) rfl ?_ | refine WL.val (OpRun.load rfl ⟨Tryz.isAgg3⟩ hB rfl) rfl ?_
     refine WL.val (OpRun.eql rfl rfl) rfl ?_; refine va rfl rfl ?_; refine WL.nil ?_; refine WC.condD rfl (fun hq11 => ?_) (fun hq11 => ?_)
     ·refine WC.region ?_; refine vm rfl rfl ?_; refine vm rfl rfl ?_; refine WL.val (OpRun.indexAddr rfl rfl ⟨Tryz.runUnderlying54⟩ ⟨Tryz.sizeOf89⟩ (by omega) (by omega)) rfl ?_; refine vf 0 Tryz.runUnderlying89 Tryz.sizeOf21 rfl rfl rfl rfl rfl ?_; refine WL.step (OpTo.storeS rfl rfl ⟨Tryz.sizeOf21⟩ rfl hOB (by omega) (fun w12 hn12 hm12 hz12 => ?_)); have hB := hB.mod hm12 (by first | exact hB.ne hOB rfl | omega); have hX := hX.mod hm12 (by first | exact hX.ne hOB rfl | omega); have hv := hv.mod hm12 (fun k hk (h : k = _) => by have := hvb k hk; omega); have hG := hG.trans hm12 (fun _ h => h) (fun x hx hs => by (try dsimp only at hs ⊢); omega); have hOB := hn12; have hov2 : LineV w12 (.slice (some ⟨ob, oo, none⟩) l.length ocap) (mendUpto l (k + 1)) := LineV.mk hOB (by rw [← mendUpto_succ l k (by omega), mendCell_tail hc (by omega) (by simpa using ‹(!fitsB l k) = false›)]; exact at_set (i := k) hOA (by rw [mendUpto_length]; omega) (by omega) _ _ (by rw [hum, ← hc]; rfl) (by rw [mendUpto_length]; omega)) (by rw [List.length_set]; exact hOr) (by rw [mendUpto_length]; exact hOc) hOm (by rw [mendUpto_length])
      refine WL.nil ?_; refine WC.region ?_; refine WL.val (OpRun.add rfl rfl (In.i64 (by omega))) rfl ?_; refine vm rfl rfl ?_; refine WL.nil ?_; exact ⟨l.length - (k + 1), by omega, k + 1, by omega, rfl, ⟨rfl, rfl, rfl, rfl, rfl, trivial⟩, hv, hov2, hG⟩
     ·have hov2 : LineV w9 (.slice (some ⟨ob, oo, none⟩) l.length ocap) (mendUpto l (k + 1)) := LineV.mk hOB (by rw [← mendUpto_same l k (by omega) ((mendCell_same hc (by omega) (by simpa using ‹(!fitsB l k) = false›)).trans hc)]; exact hOA) hOr (by rw [mendUpto_length]; exact hOc) hOm (by rw [mendUpto_length]); refine WC.skip ?_; refine WC.region ?_; refine WL.val (OpRun.add rfl rfl (In.i64 (by omega))) rfl ?_; refine vm rfl rfl ?_; refine WL.nil ?_; exact ⟨l.length - (k + 1), by omega, k + 1, by omega, rfl, ⟨rfl, rfl, rfl, rfl, rfl, trivial⟩, hv, hov2, hG⟩
  ·refine WL.pass rfl rfl rfl rfl ?_; refine WL.pass rfl rfl rfl rfl ?_; refine WL.pass rfl rfl rfl rfl ?_; refine WL.val (OpRun.pickF rfl rfl) rfl ?_; refine vm rfl rfl ?_; refine WL.pass rfl rfl rfl rfl ?_; refine WL.pass rfl rfl rfl rfl ?_; refine WL.pass rfl rfl rfl rfl ?_; refine WL.val (OpRun.pickF rfl rfl) rfl ?_; refine va rfl rfl ?_; refine WL.nil ?_; refine WC.condF rfl ?_; refine wsr ?_; refine vm rfl rfl ?_; refine vm rfl rfl ?_; refine WL.step (OpTo.call ⟨Tryz.call39⟩ rfl rfl (fits_ok hv k (by omega) hl) (fun v8 w8 hp8 => ?_)); obtain ⟨rfl, hm8⟩ := hp8; have hB := hB.grow hm8; have hOB := hOB.grow hm8; have hX := hX.grow hm8; have hv := hv.grow hm8; have hG := hG.grow hm8; refine WL.val (OpRun.not rfl) rfl ?_; refine va rfl rfl ?_; refine WL.nil ?_; refine WC.cond rfl (fun hq9 => ?_) (fun hq9 => ?_)
   ·refine WC.region ?_; refine vm rfl rfl ?_; refine vm rfl rfl ?_; refine vf 2 Tryz.runUnderlying89 Tryz.sizeOf40 rfl rfl rfl rfl rfl ?_
    first | refine WL.val (OpRun.loadA (vs := [_, _, _]) rfl ⟨Tryz.isAgg40⟩ ⟨Tryz.sizeOf40⟩ hX ⟨rfl, rfl, rfl, trivial⟩) rfl ?_ | refine WL.val (OpRun.loadA (vs := [_, _, _]) rfl ⟨Tryz.isAgg40⟩ ⟨Tryz.sizeOf40⟩ hOB ⟨rfl, rfl, rfl, trivial⟩) rfl ?_ | refine WL.val (OpRun.loadA (vs := [_, _, _]) rfl ⟨Tryz.isAgg40⟩ ⟨Tryz.sizeOf40⟩ hB ⟨rfl, rfl, rfl, trivial⟩) rfl ?_
    refine WL.val (OpRun.build rfl tb89_2) rfl ?_; refine WL.val (OpRun.indexAddr rfl rfl ⟨Tryz.runUnderlying54⟩ ⟨Tryz.sizeOf89⟩ (by omega) (by omega)) rfl ?_; refine WL.step (OpTo.storeAS (vs := [_, _, _, _, _]) rfl rfl ⟨Tryz.sizeOf89⟩ rfl hOB (by simp only [List.length_cons, List.length_nil]; omega) (fun w10 hn10 hm10 hz10 => ?_)); have hB := hB.mod hm10 (by first | exact hB.ne hOB rfl | omega); have hX := hX.mod hm10 (by first | exact hX.ne hOB rfl | omega); have hv := hv.mod hm10 (fun k hk (h : k = _) => by have := hvb k hk; omega); have hG := hG.trans hm10 (fun _ h => h) (fun x hx hs => by (try dsimp only at hs ⊢); omega); have hOB := hn10; have hov2 : LineV w10 (.slice (some ⟨ob, oo, none⟩) l.length ocap) (mendUpto l (k + 1)) := LineV.mk hOB (by rw [← mendUpto_succ l k (by omega), mendCell_blank hc (by omega) (by simpa using ‹(!fitsB l k) = true›)]; exact at_put (i := k) hOA (by rw [mendUpto_length]; omega) (blank c.a) (by rw [mendUpto_length]; omega)) (by rw [putList_length]; exact hOr) (by rw [mendUpto_length]; exact hOc) hOm (by rw [mendUpto_length])
    refine WL.nil ?_; refine WC.region ?_; refine WL.val (OpRun.add rfl rfl (In.i64 (by omega))) rfl ?_; refine vm rfl rfl ?_; refine WL.nil ?_; exact ⟨l.length - (k + 1), by omega, k + 1, by omega, rfl, ⟨rfl, rfl, rfl, rfl, rfl, trivial⟩, hv, hov2, hG⟩
   ·refine wsr ?_; refine vf 1 Tryz.runUnderlying89 Tryz.sizeOf3 rfl rfl rfl rfl rfl ?_
    first | refine WL.val (OpRun.load rfl ⟨Tryz.isAgg3⟩ hX rfl) rfl ?_ | refine WL.val (OpRun.load rfl ⟨Tryz.isAgg3⟩ hOB rfl) rfl ?_ | refine WL.val (OpRun.load rfl ⟨Tryz.isAgg3⟩ hB rfl) rfl ?_
    refine WL.val (OpRun.eql rfl rfl) rfl ?_; refine va rfl rfl ?_; refine WL.nil ?_; refine WC.condD rfl (fun hq10 => ?_) (fun hq10 => ?_)
    ·refine WC.region ?_; refine vm rfl rfl ?_; refine vm rfl rfl ?_; refine WL.val (OpRun.indexAddr rfl rfl ⟨Tryz.runUnderlying54⟩ ⟨Tryz.sizeOf89⟩ (by omega) (by omega)) rfl ?_; refine vf 0 Tryz.runUnderlying89 Tryz.sizeOf21 rfl rfl rfl rfl rfl ?_; refine WL.step (OpTo.storeS rfl rfl ⟨Tryz.sizeOf21⟩ rfl hOB (by omega) (fun w11 hn11 hm11 hz11 => ?_)); have hB := hB.mod hm11 (by first | exact hB.ne hOB rfl | omega); have hX := hX.mod hm11 (by first | exact hX.ne hOB rfl | omega); have hv := hv.mod hm11 (fun k hk (h : k = _) => by have := hvb k hk; omega); have hG := hG.trans hm11 (fun _ h => h) (fun x hx hs => by (try dsimp only at hs ⊢); omega); have hOB := hn11; have hov2 : LineV w11 (.slice (some ⟨ob, oo, none⟩) l.length ocap) (mendUpto l (k + 1)) := LineV.mk hOB (by rw [← mendUpto_succ l k (by omega), mendCell_tail hc (by omega) (by simpa using ‹(!fitsB l k) = false›)]; exact at_set (i := k) hOA (by rw [mendUpto_length]; omega) (by omega) _ _ (by rw [hum, ← hc]; rfl) (by rw [mendUpto_length]; omega)) (by rw [List.length_set]; exact hOr) (by rw [mendUpto_length]; exact hOc) hOm (by rw [mendUpto_length])
     refine WL.nil ?_; refine WC.region ?_; refine WL.val (OpRun.add rfl rfl (In.i64 (by omega))) rfl ?_; refine vm rfl rfl ?_; refine WL.nil ?_; exact ⟨l.length - (k + 1), by omega, k + 1, by omega, rfl, ⟨rfl, rfl, rfl, rfl, rfl, trivial⟩, hv, hov2, hG⟩
    ·have hov2 : LineV w8 (.slice (some ⟨ob, oo, none⟩) l.length ocap) (mendUpto l (k + 1)) := LineV.mk hOB (by rw [← mendUpto_same l k (by omega) ((mendCell_same hc (by omega) (by simpa using ‹(!fitsB l k) = false›)).trans hc)]; exact hOA) hOr (by rw [mendUpto_length]; exact hOc) hOm (by rw [mendUpto_length]); refine WC.skip ?_; refine WC.region ?_; refine WL.val (OpRun.add rfl rfl (In.i64 (by omega))) rfl ?_; refine vm rfl rfl ?_; refine WL.nil ?_; exact ⟨l.length - (k + 1), by omega, k + 1, by omega, rfl, ⟨rfl, rfl, rfl, rfl, rfl, trivial⟩, hv, hov2, hG⟩
 ·refine WC.exit ?_; refine wsr ?_; refine vm rfl rfl ?_; refine va rfl rfl ?_; refine WL.nil ?_; refine WC.ret ?_; refine fin_one rfl rfl ?_; obtain rfl : k = l.length := by omega
  rw [mendUpto_all] at hov; exact ⟨hov, hG, hfr⟩

end Go.Eng
namespace Go.Eng
open Go Go.Proofs

theorem grow5_ok {w : World} (k : Nat) (hk : k ≤ 16777216) : Ret Tryz.prog 136 [.slice none 0 0, .int .i64 k] w (fun r w' => (∃ cap, Sl w' r 89 5 [] 0 cap) ∧ Grow w w' ∧ Fresh w r) := by
 refine Ret.of Tryz.func136 Tryz.ntmps136 rfl rfl ?_; refine WC.sub (e' := [(0, .slice none 0 0), (1, .int .i64 k)]) ⟨rfl, rfl, trivial⟩ ?_; have hG : Mod (fun k => False) w w := Mod.refl _ _; refine wsr ?_; refine va rfl rfl ?_; refine WL.nil ?_; refine WC.seq ?_; refine wsr ?_; refine vm rfl rfl ?_; refine WL.val (OpRun.lss rfl rfl) rfl ?_; refine WL.nil ?_; refine WC.condD rfl (fun hq1 => ?_) (fun hq1 => ?_)
 ·exfalso; omega
 ·refine WC.skip ?_; refine WC.seq ?_; refine wsr ?_; refine vm rfl rfl ?_; refine vm rfl rfl ?_; refine WL.val (OpRun.capS rfl ⟨Tryz.runUnderlying54⟩) rfl ?_; refine vm rfl rfl ?_; refine WL.val (OpRun.lenS rfl ⟨Tryz.runUnderlying54⟩) rfl ?_; refine WL.val (OpRun.sub rfl rfl (In.i64 (by omega))) rfl ?_; refine WL.val (OpRun.sub rfl rfl (In.i64 (by omega))) rfl ?_; refine va rfl rfl ?_; refine WL.nil ?_; refine wsr ?_; refine vm rfl rfl ?_; refine WL.val (OpRun.gtr rfl rfl) rfl ?_; refine WL.nil ?_; refine WC.condD rfl (fun hq2 => ?_) (fun hq2 => ?_)
  ·refine WC.region ?_; refine vm rfl rfl ?_; refine vm rfl rfl ?_; refine WL.val (OpRun.capS rfl ⟨Tryz.runUnderlying54⟩) rfl ?_; refine WL.val (OpRun.sliceNilH rfl rfl ⟨Tryz.runUnderlying54⟩ ⟨Tryz.sizeOf89⟩) rfl ?_; refine vm rfl rfl ?_; refine WL.step (OpTo.appendZ (k := k) rfl (by omega) ⟨Tryz.runUnderlying54⟩ ⟨Tryz.runUnderlying3⟩ ⟨Tryz.sizeOf89⟩ (Sl.nil _ 89 5) ⟨Tryz.zeroValue89⟩ rfl rfl (by_ := 40) ⟨fun w => ⟨_, Tryz.typeInfo89 w, rfl⟩⟩ (by omega) (by omega) rfl rfl (by omega) rfl (fun vA wA hpA => ?_)); obtain ⟨capA, hSA, hmA, hbkA⟩ := hpA; have hfrA : Fresh w vA := fun k hk => hbkA.elim (fun h => (Fresh.nil w) k (h ▸ hk)) (fun ⟨b, hb, hlt⟩ => by have h1 := hb.symm.trans hk; cases h1; have := hG.size; omega); have hG := hG.trans hmA (fun _ h => h) (fun x hx hs => absurd hx (by have := (Fresh.nil w) x hs; omega)); obtain ⟨b, o, blk, rfl, hB, hA, hr⟩ := hSA.pos (by omega)
   have hcp := hSA.hcap; refine vm rfl rfl ?_; refine WL.val (OpRun.lenS rfl ⟨Tryz.runUnderlying54⟩) rfl ?_; refine WL.val (OpRun.sliceH rfl rfl ⟨Tryz.runUnderlying54⟩ ⟨Tryz.sizeOf89⟩ (by omega) (by omega)) rfl ?_; refine va rfl rfl ?_; refine WL.nil ?_; refine wsr ?_; refine vm rfl rfl ?_; refine va rfl rfl ?_; refine WL.nil ?_; refine WC.ret ?_; refine fin_one rfl rfl ?_
   first | exact ⟨⟨_, Sl.nil _ _ _⟩, hG, Fresh.nil w⟩ | exact ⟨⟨_, Sl.of hB (cs := []) trivial hr rfl (Nat.zero_le _) hcp⟩, hG, fun k hk => hfrA k hk⟩
  ·refine WC.skip ?_; refine wsr ?_; refine vm rfl rfl ?_; refine va rfl rfl ?_; refine WL.nil ?_; refine WC.ret ?_; refine fin_one rfl rfl ?_
   first | exact ⟨⟨_, Sl.nil _ _ _⟩, hG, Fresh.nil w⟩ | exact ⟨⟨_, Sl.of hB (cs := []) trivial hr rfl (Nat.zero_le _) hcp⟩, hG, fun k hk => hfrA k hk⟩

theorem concat5_ok {w : World} {b m : Nat} {vs : List Value} {cs : List (List Value)} (hB : Blk w b 54 vs) (hm : vs.length = m) (hp : Parts w 89 5 vs cs) (hb : cs.flatten.length ≤ 16777216) (hn : m ≤ 1000) : Ret Tryz.prog 106 [.slice (some ⟨b, 0, none⟩) m m] w (fun r w' => (∃ len cap, Sl w' r 89 5 cs.flatten len cap) ∧ Grow w w' ∧ Fresh w r) := by
 subst hm; have hpl := hp.lt; have hcl := hp.length; refine Ret.of Tryz.func106 Tryz.ntmps106 rfl rfl ?_; refine WC.sub (e' := [(0, .slice (some ⟨b, 0, none⟩) vs.length vs.length)]) ⟨rfl, trivial⟩ ?_; have hG : Mod (fun k => False) w w := Mod.refl _ _; refine wsr ?_; refine va rfl rfl ?_; refine WL.nil ?_; refine wsr ?_; refine va rfl rfl ?_; refine WL.nil ?_; refine WC.seq ?_; refine wsr ?_; refine vm rfl rfl ?_; refine WL.val (OpRun.lenS rfl ⟨Tryz.runUnderlying83⟩) rfl ?_; refine vm rfl rfl ?_; refine WL.nil ?_; refine WC.block ?_; refine WC.loop (fun mm e w' => ∃ k s : Nat, k ≤ vs.length ∧ mm = vs.length - k ∧ Sub [(0, .slice (some ⟨b, 0, none⟩) vs.length vs.length), (3, .int .i64 s), (9, .slice (some ⟨b, 0, none⟩) vs.length vs.length), (10, .int .i64 vs.length), (11, .int .i64 k)] e ∧ s * 5 = (cs.take k).flatten.length ∧ w = w') (vs.length) ⟨0, 0, by omega, by omega, ⟨rfl, rfl, rfl, rfl, rfl, trivial⟩, by simp, rfl⟩ ?_
 rintro mm e w' ⟨k, s, hk, rfl, hs, hsum, rfl⟩
 refine WC.sub hs ?_; refine wsr ?_; refine WL.val (OpRun.lss rfl rfl) rfl ?_; refine WL.nil ?_; refine WC.seq ?_; refine WC.condD rfl (fun hq3 => ?_) (fun hq3 => ?_)
 ·refine WC.skip ?_; refine WC.seq ?_; refine WC.block ?_; refine wsr ?_; obtain ⟨⟨len1, cap1, hp1⟩, hone⟩ := hp.get k (by omega); obtain ⟨ad1, had⟩ := hp1.slice; have hfl := take_flat cs k (by omega); have hfe := take_flat_le cs (k + 1); have hl1 := hp1.hlen; have hfl2 := congrArg List.length hfl; rw [List.length_append] at hfl2; refine WL.val (OpRun.indexAddr rfl rfl ⟨Tryz.runUnderlying83⟩ ⟨Tryz.sizeOf54⟩ (by omega) (by omega)) rfl ?_; refine WL.val (OpRun.load rfl ⟨Tryz.isAgg54⟩ hB (v := .slice ad1 len1 cap1) (by rw [← had]; exact get1 (by omega))) rfl ?_; refine va rfl rfl ?_; refine WL.nil ?_; refine wsr ?_; refine vm rfl rfl ?_; refine vm rfl rfl ?_; refine WL.val (OpRun.lenS rfl ⟨Tryz.runUnderlying54⟩) rfl ?_; refine WL.val (OpRun.add rfl rfl (In.i64 (by omega))) rfl ?_; refine va rfl rfl ?_
  refine WL.nil ?_; refine wsr ?_; refine vm rfl rfl ?_; refine WL.val (OpRun.lss rfl rfl) rfl ?_; refine WL.nil ?_; refine WC.condD rfl (fun hq4 => ?_) (fun hq4 => ?_)
  ·exfalso; omega
  ·refine WC.skip ?_; refine WC.region ?_; refine WL.val (OpRun.add rfl rfl (In.i64 (by omega))) rfl ?_; refine vm rfl rfl ?_; refine WL.nil ?_; exact ⟨vs.length - (k + 1), by omega, k + 1, s + len1, by omega, rfl, ⟨rfl, rfl, rfl, rfl, rfl, trivial⟩, by omega, rfl⟩
 ·refine WC.exit ?_; refine wsr ?_; obtain rfl : k = vs.length := by omega
  have hfe := take_flat_le cs vs.length; refine vm rfl rfl ?_; refine WL.step (OpTo.call ⟨Tryz.call136⟩ rfl rfl (grow5_ok s (by omega)) (fun vN wN hpN => ?_)); obtain ⟨⟨capN, hSN⟩, hmN, hfr⟩ := hpN; have hB := hB.grow hmN; have hp := hp.grow hmN; have hG := hG.grow hmN; refine va rfl rfl ?_; refine WL.nil ?_; refine WC.seq ?_; refine wsr ?_; refine vm rfl rfl ?_; refine WL.val (OpRun.lenS rfl ⟨Tryz.runUnderlying83⟩) rfl ?_; refine vm rfl rfl ?_; refine WL.nil ?_; refine WC.block ?_; refine WC.loop (fun mm e w' => ∃ (k s : Nat) (nv : Value), k ≤ vs.length ∧ mm = vs.length - k ∧ Sub [(6, nv), (25, .slice (some ⟨b, 0, none⟩) vs.length vs.length), (26, .int .i64 vs.length), (27, .int .i64 k)] e ∧ Blk w' b 54 vs ∧ Parts w' 89 5 vs cs ∧ (∃ cap, Sl w' nv 89 5 ((cs.take k).flatten) s cap) ∧ Fresh w nv ∧ Mod (fun _ => False) w w') (vs.length) ⟨0, 0, _, by omega, by omega, ⟨rfl, rfl, rfl, rfl, trivial⟩, hB, hp, ⟨capN, by simpa using hSN⟩, hfr, hG⟩ ?_
  rintro mm e wl ⟨k, s', nv, hk, rfl, hs, hB, hp, ⟨capK, hSK⟩, hfr, hG⟩
  refine WC.sub hs ?_; refine wsr ?_; refine WL.val (OpRun.lss rfl rfl) rfl ?_; refine WL.nil ?_; refine WC.seq ?_; refine WC.condD rfl (fun hq7 => ?_) (fun hq7 => ?_)
  ·refine WC.skip ?_; refine WC.seq ?_; refine WC.block ?_; refine wsr ?_; obtain ⟨⟨len1, cap1, hp1⟩, hone⟩ := hp.get k (by omega); obtain ⟨ad1, had⟩ := hp1.slice; have hfl := take_flat cs k (by omega); have hfe := take_flat_le cs (k + 1); have hl1 := hp1.hlen; have hl2 := hSK.hlen; have hfl2 := congrArg List.length hfl; rw [List.length_append] at hfl2; refine WL.val (OpRun.indexAddr rfl rfl ⟨Tryz.runUnderlying83⟩ ⟨Tryz.sizeOf54⟩ (by omega) (by omega)) rfl ?_; refine WL.val (OpRun.load rfl ⟨Tryz.isAgg54⟩ hB (v := .slice ad1 len1 cap1) (by rw [← had]; exact get1 (by omega))) rfl ?_; refine va rfl rfl ?_; refine WL.nil ?_; refine WC.region ?_; refine vm rfl rfl ?_; refine vm rfl rfl ?_; refine WL.step (OpTo.append rfl ⟨Tryz.runUnderlying54⟩ ⟨Tryz.runUnderlying54⟩ (by intro k h; cases h) ⟨Tryz.sizeOf89⟩ hSK (had ▸ hp1.src) (hone) ⟨Tryz.zeroValue89⟩ rfl (by_ := 40) ⟨fun w => ⟨_, Tryz.typeInfo89 w, rfl⟩⟩ (by omega) (by omega) rfl rfl (fun vA wA hpA => ?_))
   obtain ⟨capA, hSA, hmA, hbkA⟩ := hpA; have hB := hB.mod hmA (fun h => hSK.ne hB rfl _ h rfl); have hp := hp.mod hmA (fun v hv k hk h => absurd (hpl v hv k hk) (by have := hfr k h; omega)); have hfrA : Fresh w vA := fun k hk => hbkA.elim (fun h => hfr k (h ▸ hk)) (fun ⟨b, hb, hlt⟩ => by have h1 := hb.symm.trans hk; cases h1; have := hG.size; omega); have hG := hG.trans hmA (fun _ h => h) (fun x hx hs => absurd hx (by have := hfr x hs; omega)); refine va rfl rfl ?_; refine WL.nil ?_; refine WC.region ?_; refine WL.val (OpRun.add rfl rfl (In.i64 (by omega))) rfl ?_; refine vm rfl rfl ?_; refine WL.nil ?_; exact ⟨vs.length - (k + 1), by omega, k + 1, _, _, by omega, rfl, ⟨rfl, rfl, rfl, rfl, trivial⟩, hB, hp, ⟨_, by rw [hfl]; exact hSA⟩, hfrA, hG⟩
  ·refine WC.exit ?_; refine wsr ?_; refine vm rfl rfl ?_; refine va rfl rfl ?_; refine WL.nil ?_; refine WC.ret ?_; refine fin_one rfl rfl ?_; obtain rfl : k = vs.length := by omega
   rw [hcl, flat_take_all] at hSK; exact ⟨⟨_, _, hSK⟩, hG, hfr⟩

theorem grow1_ok {w : World} (k : Nat) (hk : k ≤ 16777216) : Ret Tryz.prog 109 [.slice none 0 0, .int .i64 k] w (fun r w' => (∃ cap, Sl w' r 54 1 [] 0 cap) ∧ Grow w w' ∧ Fresh w r) := by
 refine Ret.of Tryz.func109 Tryz.ntmps109 rfl rfl ?_; refine WC.sub (e' := [(0, .slice none 0 0), (1, .int .i64 k)]) ⟨rfl, rfl, trivial⟩ ?_; have hG : Mod (fun k => False) w w := Mod.refl _ _; refine wsr ?_; refine va rfl rfl ?_; refine WL.nil ?_; refine WC.seq ?_; refine wsr ?_; refine vm rfl rfl ?_; refine WL.val (OpRun.lss rfl rfl) rfl ?_; refine WL.nil ?_; refine WC.condD rfl (fun hq1 => ?_) (fun hq1 => ?_)
 ·exfalso; omega
 ·refine WC.skip ?_; refine WC.seq ?_; refine wsr ?_; refine vm rfl rfl ?_; refine vm rfl rfl ?_; refine WL.val (OpRun.capS rfl ⟨Tryz.runUnderlying83⟩) rfl ?_; refine vm rfl rfl ?_; refine WL.val (OpRun.lenS rfl ⟨Tryz.runUnderlying83⟩) rfl ?_; refine WL.val (OpRun.sub rfl rfl (In.i64 (by omega))) rfl ?_; refine WL.val (OpRun.sub rfl rfl (In.i64 (by omega))) rfl ?_; refine va rfl rfl ?_; refine WL.nil ?_; refine wsr ?_; refine vm rfl rfl ?_; refine WL.val (OpRun.gtr rfl rfl) rfl ?_; refine WL.nil ?_; refine WC.condD rfl (fun hq2 => ?_) (fun hq2 => ?_)
  ·refine WC.region ?_; refine vm rfl rfl ?_; refine vm rfl rfl ?_; refine WL.val (OpRun.capS rfl ⟨Tryz.runUnderlying83⟩) rfl ?_; refine WL.val (OpRun.sliceNilH rfl rfl ⟨Tryz.runUnderlying83⟩ ⟨Tryz.sizeOf54⟩) rfl ?_; refine vm rfl rfl ?_; refine WL.step (OpTo.appendZ (k := k) rfl (by omega) ⟨Tryz.runUnderlying83⟩ ⟨Tryz.runUnderlying3⟩ ⟨Tryz.sizeOf54⟩ (Sl.nil _ 54 1) ⟨Tryz.zeroValue54⟩ rfl rfl (by_ := 24) ⟨fun w => ⟨_, Tryz.typeInfo54 w, rfl⟩⟩ (by omega) (by omega) rfl rfl (by omega) rfl (fun vA wA hpA => ?_)); obtain ⟨capA, hSA, hmA, hbkA⟩ := hpA; have hfrA : Fresh w vA := fun k hk => hbkA.elim (fun h => (Fresh.nil w) k (h ▸ hk)) (fun ⟨b, hb, hlt⟩ => by have h1 := hb.symm.trans hk; cases h1; have := hG.size; omega); have hG := hG.trans hmA (fun _ h => h) (fun x hx hs => absurd hx (by have := (Fresh.nil w) x hs; omega)); obtain ⟨b, o, blk, rfl, hB, hA, hr⟩ := hSA.pos (by omega)
   have hcp := hSA.hcap; refine vm rfl rfl ?_; refine WL.val (OpRun.lenS rfl ⟨Tryz.runUnderlying83⟩) rfl ?_; refine WL.val (OpRun.sliceH rfl rfl ⟨Tryz.runUnderlying83⟩ ⟨Tryz.sizeOf54⟩ (by omega) (by omega)) rfl ?_; refine va rfl rfl ?_; refine WL.nil ?_; refine wsr ?_; refine vm rfl rfl ?_; refine va rfl rfl ?_; refine WL.nil ?_; refine WC.ret ?_; refine fin_one rfl rfl ?_
   first | exact ⟨⟨_, Sl.nil _ _ _⟩, hG, Fresh.nil w⟩ | exact ⟨⟨_, Sl.of hB (cs := []) trivial hr rfl (Nat.zero_le _) hcp⟩, hG, fun k hk => hfrA k hk⟩
  ·refine WC.skip ?_; refine wsr ?_; refine vm rfl rfl ?_; refine va rfl rfl ?_; refine WL.nil ?_; refine WC.ret ?_; refine fin_one rfl rfl ?_
   first | exact ⟨⟨_, Sl.nil _ _ _⟩, hG, Fresh.nil w⟩ | exact ⟨⟨_, Sl.of hB (cs := []) trivial hr rfl (Nat.zero_le _) hcp⟩, hG, fun k hk => hfrA k hk⟩

theorem concat1_ok {w : World} {b m : Nat} {vs : List Value} {cs : List (List Value)} (hB : Blk w b 83 vs) (hm : vs.length = m) (hp : Parts w 54 1 vs cs) (hb : cs.flatten.length ≤ 16777216) (hn : m ≤ 1000) : Ret Tryz.prog 64 [.slice (some ⟨b, 0, none⟩) m m] w (fun r w' => (∃ len cap, Sl w' r 54 1 cs.flatten len cap) ∧ Grow w w' ∧ Fresh w r) := by
 subst hm; have hpl := hp.lt; have hcl := hp.length; refine Ret.of Tryz.func64 Tryz.ntmps64 rfl rfl ?_; refine WC.sub (e' := [(0, .slice (some ⟨b, 0, none⟩) vs.length vs.length)]) ⟨rfl, trivial⟩ ?_; have hG : Mod (fun k => False) w w := Mod.refl _ _; refine wsr ?_; refine va rfl rfl ?_; refine WL.nil ?_; refine wsr ?_; refine va rfl rfl ?_; refine WL.nil ?_; refine WC.seq ?_; refine wsr ?_; refine vm rfl rfl ?_; refine WL.val (OpRun.lenS rfl ⟨Tryz.runUnderlying145⟩) rfl ?_; refine vm rfl rfl ?_; refine WL.nil ?_; refine WC.block ?_; refine WC.loop (fun mm e w' => ∃ k s : Nat, k ≤ vs.length ∧ mm = vs.length - k ∧ Sub [(0, .slice (some ⟨b, 0, none⟩) vs.length vs.length), (3, .int .i64 s), (9, .slice (some ⟨b, 0, none⟩) vs.length vs.length), (10, .int .i64 vs.length), (11, .int .i64 k)] e ∧ s * 1 = (cs.take k).flatten.length ∧ w = w') (vs.length) ⟨0, 0, by omega, by omega, ⟨rfl, rfl, rfl, rfl, rfl, trivial⟩, by simp, rfl⟩ ?_
 rintro mm e w' ⟨k, s, hk, rfl, hs, hsum, rfl⟩
 refine WC.sub hs ?_; refine wsr ?_; refine WL.val (OpRun.lss rfl rfl) rfl ?_; refine WL.nil ?_; refine WC.seq ?_; refine WC.condD rfl (fun hq3 => ?_) (fun hq3 => ?_)
 ·refine WC.skip ?_; refine WC.seq ?_; refine WC.block ?_; refine wsr ?_; obtain ⟨⟨len1, cap1, hp1⟩, hone⟩ := hp.get k (by omega); obtain ⟨ad1, had⟩ := hp1.slice; have hfl := take_flat cs k (by omega); have hfe := take_flat_le cs (k + 1); have hl1 := hp1.hlen; have hfl2 := congrArg List.length hfl; rw [List.length_append] at hfl2; refine WL.val (OpRun.indexAddr rfl rfl ⟨Tryz.runUnderlying145⟩ ⟨Tryz.sizeOf83⟩ (by omega) (by omega)) rfl ?_; refine WL.val (OpRun.load rfl ⟨Tryz.isAgg83⟩ hB (v := .slice ad1 len1 cap1) (by rw [← had]; exact get1 (by omega))) rfl ?_; refine va rfl rfl ?_; refine WL.nil ?_; refine wsr ?_; refine vm rfl rfl ?_; refine vm rfl rfl ?_; refine WL.val (OpRun.lenS rfl ⟨Tryz.runUnderlying83⟩) rfl ?_; refine WL.val (OpRun.add rfl rfl (In.i64 (by omega))) rfl ?_; refine va rfl rfl ?_
  refine WL.nil ?_; refine wsr ?_; refine vm rfl rfl ?_; refine WL.val (OpRun.lss rfl rfl) rfl ?_; refine WL.nil ?_; refine WC.condD rfl (fun hq4 => ?_) (fun hq4 => ?_)
  ·exfalso; omega
  ·refine WC.skip ?_; refine WC.region ?_; refine WL.val (OpRun.add rfl rfl (In.i64 (by omega))) rfl ?_; refine vm rfl rfl ?_; refine WL.nil ?_; exact ⟨vs.length - (k + 1), by omega, k + 1, s + len1, by omega, rfl, ⟨rfl, rfl, rfl, rfl, rfl, trivial⟩, by omega, rfl⟩
 ·refine WC.exit ?_; refine wsr ?_; obtain rfl : k = vs.length := by omega
  have hfe := take_flat_le cs vs.length; refine vm rfl rfl ?_; refine WL.step (OpTo.call ⟨Tryz.call109⟩ rfl rfl (grow1_ok s (by omega)) (fun vN wN hpN => ?_)); obtain ⟨⟨capN, hSN⟩, hmN, hfr⟩ := hpN; have hB := hB.grow hmN; have hp := hp.grow hmN; have hG := hG.grow hmN; refine va rfl rfl ?_; refine WL.nil ?_; refine WC.seq ?_; refine wsr ?_; refine vm rfl rfl ?_; refine WL.val (OpRun.lenS rfl ⟨Tryz.runUnderlying145⟩) rfl ?_; refine vm rfl rfl ?_; refine WL.nil ?_; refine WC.block ?_; refine WC.loop (fun mm e w' => ∃ (k s : Nat) (nv : Value), k ≤ vs.length ∧ mm = vs.length - k ∧ Sub [(6, nv), (25, .slice (some ⟨b, 0, none⟩) vs.length vs.length), (26, .int .i64 vs.length), (27, .int .i64 k)] e ∧ Blk w' b 83 vs ∧ Parts w' 54 1 vs cs ∧ (∃ cap, Sl w' nv 54 1 ((cs.take k).flatten) s cap) ∧ Fresh w nv ∧ Mod (fun _ => False) w w') (vs.length) ⟨0, 0, _, by omega, by omega, ⟨rfl, rfl, rfl, rfl, trivial⟩, hB, hp, ⟨capN, by simpa using hSN⟩, hfr, hG⟩ ?_
  rintro mm e wl ⟨k, s', nv, hk, rfl, hs, hB, hp, ⟨capK, hSK⟩, hfr, hG⟩
  refine WC.sub hs ?_; refine wsr ?_; refine WL.val (OpRun.lss rfl rfl) rfl ?_; refine WL.nil ?_; refine WC.seq ?_; refine WC.condD rfl (fun hq7 => ?_) (fun hq7 => ?_)
  ·refine WC.skip ?_; refine WC.seq ?_; refine WC.block ?_; refine wsr ?_; obtain ⟨⟨len1, cap1, hp1⟩, hone⟩ := hp.get k (by omega); obtain ⟨ad1, had⟩ := hp1.slice; have hfl := take_flat cs k (by omega); have hfe := take_flat_le cs (k + 1); have hl1 := hp1.hlen; have hl2 := hSK.hlen; have hfl2 := congrArg List.length hfl; rw [List.length_append] at hfl2; refine WL.val (OpRun.indexAddr rfl rfl ⟨Tryz.runUnderlying145⟩ ⟨Tryz.sizeOf83⟩ (by omega) (by omega)) rfl ?_; refine WL.val (OpRun.load rfl ⟨Tryz.isAgg83⟩ hB (v := .slice ad1 len1 cap1) (by rw [← had]; exact get1 (by omega))) rfl ?_; refine va rfl rfl ?_; refine WL.nil ?_; refine WC.region ?_; refine vm rfl rfl ?_; refine vm rfl rfl ?_; refine WL.step (OpTo.append rfl ⟨Tryz.runUnderlying83⟩ ⟨Tryz.runUnderlying83⟩ (by intro k h; cases h) ⟨Tryz.sizeOf54⟩ hSK (had ▸ hp1.src) (hone) ⟨Tryz.zeroValue54⟩ rfl (by_ := 24) ⟨fun w => ⟨_, Tryz.typeInfo54 w, rfl⟩⟩ (by omega) (by omega) rfl rfl (fun vA wA hpA => ?_))
   obtain ⟨capA, hSA, hmA, hbkA⟩ := hpA; have hB := hB.mod hmA (fun h => hSK.ne hB rfl _ h rfl); have hp := hp.mod hmA (fun v hv k hk h => absurd (hpl v hv k hk) (by have := hfr k h; omega)); have hfrA : Fresh w vA := fun k hk => hbkA.elim (fun h => hfr k (h ▸ hk)) (fun ⟨b, hb, hlt⟩ => by have h1 := hb.symm.trans hk; cases h1; have := hG.size; omega); have hG := hG.trans hmA (fun _ h => h) (fun x hx hs => absurd hx (by have := hfr x hs; omega)); refine va rfl rfl ?_; refine WL.nil ?_; refine WC.region ?_; refine WL.val (OpRun.add rfl rfl (In.i64 (by omega))) rfl ?_; refine vm rfl rfl ?_; refine WL.nil ?_; exact ⟨vs.length - (k + 1), by omega, k + 1, _, _, by omega, rfl, ⟨rfl, rfl, rfl, rfl, trivial⟩, hB, hp, ⟨_, by rw [hfl]; exact hSA⟩, hfrA, hG⟩
  ·refine WC.exit ?_; refine wsr ?_; refine vm rfl rfl ?_; refine va rfl rfl ?_; refine WL.nil ?_; refine WC.ret ?_; refine fin_one rfl rfl ?_; obtain rfl : k = vs.length := by omega
   rw [hcl, flat_take_all] at hSK; exact ⟨⟨_, _, hSK⟩, hG, hfr⟩

end Go.Eng
namespace Go.Eng
open Go Go.Proofs

theorem LineV.fresh_eq {w : World} {v : Value} {l l' : List Cell} (h : LineV w v l) (e : l = l') : LineV w v l' := e ▸ h

theorem repl_cells (k : Nat) (a : Attr) : lineCells (List.replicate k (blank a)) ++ (blank a).vals = lineCells (List.replicate (k + 1) (blank a)) := by
  rw [List.replicate_succ', lineCells_append, lineCells_one]

theorem colAt_get (f t : Int) {k : Nat} (h : k < 2) : [Value.int .i64 (f - 1), .int .i64 t][0 + k * 1]? = some (.int .i64 (colAt f t k)) := by
  have : k = 0 ∨ k = 1 := by omega
  rcases this with rfl | rfl <;> rfl

theorem LineV.ne_nil {w : World} {ad : Option Addr} {n cap : Nat} {l : List Cell} (h : LineV w (.slice ad n cap) l) (hl : 0 < l.length) : ad ≠ none := by
  rintro rfl; have := h.nil_of; subst this; simp at hl

theorem blanks_ok {w : World} (n : Int) (a : Attr) (hn : n ≤ 1048576) (hn0 : -1048576 ≤ n) : Ret Tryz.prog 107 [.int .i64 n, .agg #[.int .i64 a.fg, .int .i64 a.bg, .int .i64 a.fl]] w (fun r w' => LineV w' r (List.replicate n.toNat (blank a)) ∧ Grow w w' ∧ Fresh w r) := by
 refine Ret.of Tryz.func107 Tryz.ntmps107 rfl rfl ?_; refine WC.sub (e' := [(0, .int .i64 n), (1, .agg #[.int .i64 a.fg, .int .i64 a.bg, .int .i64 a.fl])]) ⟨rfl, rfl, trivial⟩ ?_; have hG : Mod (fun k => False) w w := Mod.refl _ _; refine wsr ?_; refine WL.step (OpTo.box (vs := [_, _, _]) rfl rfl rfl (fun bX wX hX hmX hloX hhiX => ?_)); have hG := hG.grow hmX; refine va rfl rfl ?_; refine WL.nil ?_; refine wsr ?_; refine va rfl rfl ?_; refine WL.nil ?_; refine WC.seq ?_; refine wsr ?_; refine vm rfl rfl ?_; refine vm rfl rfl ?_; refine WL.nil ?_; refine WC.block ?_; refine WC.loop (fun m e w' => ∃ (k : Nat) (ov : Value), k ≤ n.toNat ∧ m = n.toNat - k ∧ Sub [(3, .pointer (some ⟨bX, 0, none⟩)), (5, ov), (6, .int .i64 n), (7, .int .i64 k)] e ∧ Blk w' bX 40 [.int .i64 a.fg, .int .i64 a.bg, .int .i64 a.fl] ∧ LineV w' ov (List.replicate k (blank a)) ∧ Fresh w ov ∧ Mod (fun _ => False) w w') (n.toNat) ⟨0, _, by omega, by omega, ⟨rfl, rfl, rfl, rfl, trivial⟩, hX, LineV.nil _, Fresh.nil _, hG⟩ ?_
 rintro m e wl ⟨k, ov, hk, rfl, hs, hX, ⟨oc, hov⟩, hfr, hG⟩
 refine WC.sub hs ?_; rw [List.length_replicate] at hov; refine wsr ?_; refine WL.val (OpRun.lss rfl rfl) rfl ?_; refine WL.nil ?_; refine WC.seq ?_; refine WC.condD rfl (fun hq4 => ?_) (fun hq4 => ?_)
 ·refine WC.skip ?_; refine WC.seq ?_; refine WC.block ?_; refine WC.region ?_; refine vm rfl rfl ?_; refine WL.val (OpRun.loadA (vs := [_, _, _]) rfl ⟨Tryz.isAgg40⟩ ⟨Tryz.sizeOf40⟩ hX ⟨rfl, rfl, rfl, trivial⟩) rfl ?_; refine WL.val (OpRun.build rfl tb89_2) rfl ?_; refine WL.step (OpTo.buildSlice (cs := [_, _, _, _, _]) rfl rfl rfl ⟨Tryz.runUnderlying54⟩ ⟨Tryz.sizeOf89⟩ ⟨Tryz.zeroValue89⟩ fill5 rfl (fun bE wE hbE hmE hloE hhiE => ?_)); have hX := hX.grow hmE; have hG := hG.grow hmE; have hov := hov.grow hmE; refine WL.step (OpTo.append rfl ⟨Tryz.runUnderlying54⟩ ⟨Tryz.runUnderlying54⟩ (by intro k h; cases h) ⟨Tryz.sizeOf89⟩ hov (Sl.of hbE (cs := (blank a).vals) ⟨rfl, rfl, rfl, rfl, rfl, trivial⟩ (by simp) rfl (by omega) (by omega)).src (rfl) ⟨Tryz.zeroValue89⟩ rfl (by_ := 40) ⟨fun w => ⟨_, Tryz.typeInfo89 w, rfl⟩⟩ (by omega) (by omega) rfl rfl (fun vA wA hpA => ?_)); obtain ⟨capA, hSA, hmA, hbkA⟩ := hpA
  have hX := hX.mod hmA (fun h => hov.ne hX rfl _ h rfl); have hfrA : Fresh w vA := fun k hk => hbkA.elim (fun h => hfr k (h ▸ hk)) (fun ⟨b, hb, hlt⟩ => by have h1 := hb.symm.trans hk; cases h1; have := hG.size; omega); have hG := hG.trans hmA (fun _ h => h) (fun x hx hs => absurd hx (by have := hfr x hs; omega)); refine va rfl rfl ?_; refine WL.nil ?_; refine WC.region ?_; refine WL.val (OpRun.add rfl rfl (In.i64 (by omega))) rfl ?_; refine vm rfl rfl ?_; refine WL.nil ?_; exact ⟨n.toNat - (k + 1), by omega, k + 1, _, by omega, rfl, ⟨rfl, rfl, rfl, rfl, trivial⟩, hX, ⟨_, by rw [← repl_cells, List.length_replicate]; exact hSA⟩, hfrA, hG⟩
 ·refine WC.exit ?_; refine wsr ?_; refine vm rfl rfl ?_; refine va rfl rfl ?_; refine WL.nil ?_; refine WC.ret ?_; refine fin_one rfl rfl ?_; obtain rfl : k = n.toNat := by omega
  exact ⟨⟨oc, by rw [List.length_replicate]; exact hov⟩, hG, hfr⟩

theorem linenew_ok {w : World} (n : Int) (a : Attr) (hn : n ≤ 1000) (hn0 : 0 ≤ n) : Ret Tryz.prog 85 [.int .i64 n, .agg #[.int .i64 a.fg, .int .i64 a.bg, .int .i64 a.fl]] w (fun r w' => LineV w' r (List.replicate n.toNat (blank a)) ∧ Grow w w' ∧ Fresh w r) := by
 refine Ret.of Tryz.func85 Tryz.ntmps85 rfl rfl ?_; refine WC.sub (e' := [(0, .int .i64 n), (1, .agg #[.int .i64 a.fg, .int .i64 a.bg, .int .i64 a.fl])]) ⟨rfl, rfl, trivial⟩ ?_; have hG : Mod (fun k => False) w w := Mod.refl _ _; refine wsr ?_; refine WL.step (OpTo.box (vs := [_, _, _]) rfl rfl rfl (fun bX wX hX hmX hloX hhiX => ?_)); have hG := hG.grow hmX; refine va rfl rfl ?_; refine WL.nil ?_; refine WC.seq ?_; refine wsr ?_; refine vm rfl rfl ?_; refine WL.val (OpRun.lss rfl rfl) rfl ?_; refine WL.splitD rfl rfl (fun hq2 => ?_) (fun hq2 => ?_)
 ·refine WL.pass rfl rfl rfl rfl ?_; refine WL.pass rfl rfl rfl rfl ?_; refine WL.val (OpRun.pickT rfl rfl) rfl ?_; refine WL.nil ?_; refine WC.condT rfl ?_; refine wsr ?_; refine va rfl rfl ?_; refine WL.nil ?_; refine WC.ret ?_; refine fin_one rfl rfl ?_
  first | (exfalso; omega) | exact ⟨hlB, hG, fun k hk => by have := hfB k hk; omega⟩
 ·refine WL.want rfl rfl ?_; refine vm rfl rfl ?_; refine WL.want rfl rfl ?_; refine WL.val (OpRun.gtr rfl rfl) rfl ?_; refine WL.val (OpRun.pickF rfl rfl) rfl ?_; refine WL.nil ?_; refine WC.condD rfl (fun hq3 => ?_) (fun hq3 => ?_)
  ·exfalso; omega
  ·refine WC.skip ?_; refine wsr ?_; refine vm rfl rfl ?_; refine WL.val (OpRun.loadA (vs := [_, _, _]) rfl ⟨Tryz.isAgg40⟩ ⟨Tryz.sizeOf40⟩ hX ⟨rfl, rfl, rfl, trivial⟩) rfl ?_; refine WL.step (OpTo.call ⟨Tryz.call107⟩ rfl rfl (blanks_ok n a (by omega) (by omega)) (fun vB wB hpB => ?_)); obtain ⟨hlB, hmB, hfB⟩ := hpB; have hX := hX.grow hmB; have hG := hG.grow hmB; refine va rfl rfl ?_; refine WL.nil ?_; refine WC.ret ?_; refine fin_one rfl rfl ?_
   first | (exfalso; omega) | exact ⟨hlB, hG, fun k hk => by have := hfB k hk; omega⟩

theorem many_ok {w : World} {v : Value} {l : List Cell} (hv : LineV w v l) (hl : l.length ≤ 1048576) (col n : Int) : Ret Tryz.prog 121 [v, .int .i64 col, .int .i64 n] w (fun r w' => r = .int .i64 (manyB l col n) ∧ w = w') := by
 obtain ⟨ad, cap, rfl⟩ := hv.slice; refine Ret.of Tryz.func121 Tryz.ntmps121 rfl rfl ?_; refine WC.sub (e' := [(0, .slice ad l.length cap), (1, .int .i64 col), (2, .int .i64 n)]) ⟨rfl, rfl, rfl, trivial⟩ ?_; have hG : Mod (fun k => False) w w := Mod.refl _ _; refine wsr ?_; refine va rfl rfl ?_; refine WL.nil ?_; refine WC.seq ?_; refine wsr ?_; refine vm rfl rfl ?_; refine WL.val (OpRun.lss rfl rfl) rfl ?_; refine WL.splitD rfl rfl (fun hq1 => ?_) (fun hq1 => ?_)
 ·refine WL.pass rfl rfl rfl rfl ?_; refine WL.pass rfl rfl rfl rfl ?_; refine WL.val (OpRun.pickT rfl rfl) rfl ?_; refine vm rfl rfl ?_; refine WL.pass rfl rfl rfl rfl ?_; refine WL.pass rfl rfl rfl rfl ?_; refine WL.pass rfl rfl rfl rfl ?_; refine WL.pass rfl rfl rfl rfl ?_; refine WL.val (OpRun.pickT rfl rfl) rfl ?_; refine WL.nil ?_; refine WC.condT rfl ?_; refine wsr ?_; refine va rfl rfl ?_; refine WL.nil ?_; refine WC.ret ?_; refine fin_one rfl rfl ?_; refine ⟨congrArg (Value.int .i64) ?_, rfl⟩; unfold manyB
  first | rw [if_pos (by omega)] | rw [if_neg (by omega)]
 ·refine WL.want rfl rfl ?_; refine vm rfl rfl ?_; refine WL.want rfl rfl ?_; refine WL.val (OpRun.lss rfl rfl) rfl ?_; refine WL.val (OpRun.pickF rfl rfl) rfl ?_; refine WL.splitD rfl rfl (fun hq2 => ?_) (fun hq2 => ?_)
  ·refine WL.pass rfl rfl rfl rfl ?_; refine WL.pass rfl rfl rfl rfl ?_; refine WL.pass rfl rfl rfl rfl ?_; refine WL.pass rfl rfl rfl rfl ?_; refine WL.val (OpRun.pickT rfl rfl) rfl ?_; refine WL.nil ?_; refine WC.condT rfl ?_; refine wsr ?_; refine va rfl rfl ?_; refine WL.nil ?_; refine WC.ret ?_; refine fin_one rfl rfl ?_; refine ⟨congrArg (Value.int .i64) ?_, rfl⟩; unfold manyB
   first | rw [if_pos (by omega)] | rw [if_neg (by omega)]
  ·refine WL.want rfl rfl ?_; refine vm rfl rfl ?_; refine WL.want rfl rfl ?_; refine vm rfl rfl ?_; refine WL.want rfl rfl ?_; refine WL.val (OpRun.lenS rfl ⟨Tryz.runUnderlying54⟩) rfl ?_; refine WL.want rfl rfl ?_; refine WL.val (OpRun.geq rfl rfl) rfl ?_; refine WL.val (OpRun.pickF rfl rfl) rfl ?_; refine WL.nil ?_; refine WC.condD rfl (fun hq3 => ?_) (fun hq3 => ?_)
   ·refine wsr ?_; refine va rfl rfl ?_; refine WL.nil ?_; refine WC.ret ?_; refine fin_one rfl rfl ?_; refine ⟨congrArg (Value.int .i64) ?_, rfl⟩; unfold manyB
    first | rw [if_pos (by omega)] | rw [if_neg (by omega)]
   ·refine WC.skip ?_; refine wsr ?_; refine vm rfl rfl ?_; refine vm rfl rfl ?_; refine WL.val (OpRun.lenS rfl ⟨Tryz.runUnderlying54⟩) rfl ?_; refine vm rfl rfl ?_; refine WL.val (OpRun.sub rfl rfl (In.i64 (by omega))) rfl ?_; refine WL.val (OpRun.bmin rfl) rfl ?_; refine va rfl rfl ?_; refine WL.nil ?_; refine WC.ret ?_; refine fin_one rfl rfl ?_; refine ⟨congrArg (Value.int .i64) ?_, rfl⟩; unfold manyB
    first | rw [if_pos (by omega)] | rw [if_neg (by omega)]

theorem halves_ok {w : World} {v : Value} {l : List Cell} (hv : LineV w v l) (hl : l.length ≤ 1048576) (f t : Int) (hf : 0 ≤ f) (hf2 : f ≤ 1048576) (ht : 0 ≤ t) (ht2 : t ≤ 1048578) : Ret Tryz.prog 122 [v, .int .i64 f, .int .i64 t] w (fun r w' => r = v ∧ LineV w' v (halves l f t) ∧ Mod (fun k => sblk v = some k) w w') := by
 obtain ⟨ad, cap, rfl⟩ := hv.slice; have hvb := hv.lt; refine Ret.of Tryz.func122 Tryz.ntmps122 rfl rfl ?_; refine WC.sub (e' := [(0, .slice ad l.length cap), (1, .int .i64 f), (2, .int .i64 t)]) ⟨rfl, rfl, rfl, trivial⟩ ?_; have hG : Mod (fun k => sblk (.slice ad l.length cap) = some k) w w := Mod.refl _ _; refine wsr ?_; refine va rfl rfl ?_; refine WL.nil ?_; refine WC.seq ?_; refine wsr ?_; refine vm rfl rfl ?_; refine WL.val (OpRun.sub rfl rfl (In.i64 (by omega))) rfl ?_; refine vm rfl rfl ?_; refine WL.step (OpTo.buildSlice (cs := [_, _]) rfl rfl rfl ⟨Tryz.runUnderlying32⟩ ⟨Tryz.sizeOf3⟩ ⟨Tryz.zeroValue3⟩ (fill_one (vs := [_, _]) rfl rfl) rfl (fun bE wE hE hmE hloE hhiE => ?_)); have hv := hv.grow hmE; have hG := hG.grow hmE; refine WL.val (OpRun.lenS rfl ⟨Tryz.runUnderlying32⟩) rfl ?_
 refine vm rfl rfl ?_; refine WL.nil ?_; refine WC.block ?_; refine WC.loop (fun m e w' => ∃ (k : Nat), k ≤ 2 ∧ m = 2 - k ∧ Sub [(0, .slice ad l.length cap), (12, .slice (some ⟨bE, 0, none⟩) 2 2), (13, .int .i64 2), (14, .int .i64 k)] e ∧ Blk w' bE 3 [.int .i64 (f - 1), .int .i64 t] ∧ LineV w' (.slice ad l.length cap) (halvesUpto l f t k) ∧ Mod (fun k => sblk (.slice ad l.length cap) = some k) w w') (2) ⟨0, by omega, by omega, ⟨rfl, rfl, rfl, rfl, trivial⟩, hE, hv, hG⟩ ?_
 rintro m e wl ⟨k, hk, rfl, hs, hE, hv, hG⟩
 refine WC.sub hs ?_; have hll := halvesUpto_length l f t k; refine wsr ?_; refine WL.val (OpRun.lss rfl rfl) rfl ?_; refine WL.nil ?_; refine WC.seq ?_; refine WC.condD rfl (fun hq4 => ?_) (fun hq4 => ?_)
 ·refine WC.skip ?_; refine WC.seq ?_; refine WC.block ?_; refine wsr ?_; obtain ⟨c, hc⟩ : ∃ c, c = colAt f t k := ⟨_, rfl⟩; have hcr : c ≤ 1048578 ∧ -1 ≤ c := by rw [hc]; unfold colAt; split <;> omega
  refine WL.val (OpRun.indexAddr rfl rfl ⟨Tryz.runUnderlying32⟩ ⟨Tryz.sizeOf3⟩ (by omega) (by omega)) rfl ?_; refine WL.val (OpRun.load rfl ⟨Tryz.isAgg3⟩ hE (v := .int .i64 c) (by rw [hc]; exact colAt_get f t (by omega))) rfl ?_; refine va rfl rfl ?_; refine WL.nil ?_; refine wsr ?_; refine vm rfl rfl ?_; refine WL.val (OpRun.geq rfl rfl) rfl ?_; refine WL.splitD rfl rfl (fun hq5 => ?_) (fun hq5 => ?_)
  ·refine WL.want rfl rfl ?_; refine vm rfl rfl ?_; refine WL.want rfl rfl ?_; refine vm rfl rfl ?_; refine WL.want rfl rfl ?_; refine WL.val (OpRun.lenS rfl ⟨Tryz.runUnderlying54⟩) rfl ?_; refine WL.want rfl rfl ?_; refine WL.val (OpRun.lss rfl rfl) rfl ?_; refine WL.val (OpRun.pickT rfl rfl) rfl ?_; refine WL.splitD rfl rfl (fun hq6 => ?_) (fun hq6 => ?_)
   ·obtain ⟨j, rfl⟩ : ∃ j : Nat, c = j := ⟨c.toNat, by omega⟩; refine WL.want rfl rfl ?_; refine vm rfl rfl ?_; refine WL.want rfl rfl ?_; refine vm rfl rfl ?_; refine WL.want rfl rfl ?_; refine WL.step (OpTo.call ⟨Tryz.call39⟩ rfl rfl (fits_ok hv j (by omega) (by omega)) (fun v7 w7 hp7 => ?_)); obtain ⟨rfl, hm7⟩ := hp7; have hE := hE.grow hm7; have hv := hv.grow hm7; have hG := hG.grow hm7; refine WL.want rfl rfl ?_; refine WL.val (OpRun.not rfl) rfl ?_; refine WL.val (OpRun.pickT rfl rfl) rfl ?_; refine WL.nil ?_; refine WC.cond rfl (fun hq8 => ?_) (fun hq8 => ?_)
    ·refine WC.region ?_; obtain ⟨b, o, blk, rfl, hB, hA, hr, hr2, hr3, -⟩ := hv.open (by omega); have hb1 := hvb b rfl; have ho2 := hB.lt; refine vm rfl rfl ?_; refine vm rfl rfl ?_; refine vm rfl rfl ?_; refine vm rfl rfl ?_; refine WL.val (OpRun.indexAddr rfl rfl ⟨Tryz.runUnderlying54⟩ ⟨Tryz.sizeOf89⟩ (by omega) (by omega)) rfl ?_; refine vf 2 Tryz.runUnderlying89 Tryz.sizeOf40 rfl rfl rfl rfl rfl ?_; refine WL.val (OpRun.loadA (vs := [.int .i64 ((halvesUpto l f t k).getD j default).fg, .int .i64 ((halvesUpto l f t k).getD j default).bg, .int .i64 ((halvesUpto l f t k).getD j default).fl]) rfl ⟨Tryz.isAgg40⟩ ⟨Tryz.sizeOf40⟩ hB ⟨at_get (i := j) (k := 2) hA (by omega) (by omega), at_get (i := j) (k := 3) hA (by omega) (by omega), at_get (i := j) (k := 4) hA (by omega) (by omega), trivial⟩) rfl ?_
     skip
     refine WL.val (OpRun.build rfl tb89_2) rfl ?_; refine WL.val (OpRun.indexAddr rfl rfl ⟨Tryz.runUnderlying54⟩ ⟨Tryz.sizeOf89⟩ (by omega) (by omega)) rfl ?_; refine WL.step (OpTo.storeAS (vs := [_, _, _, _, _]) rfl rfl ⟨Tryz.sizeOf89⟩ rfl hB (by simp only [List.length_cons, List.length_nil]; omega) (fun w9 hn9 hm9 hz9 => ?_)); have hE := hE.mod hm9 (by first | exact hE.ne hB rfl | omega); have hG := hG.trans hm9 (fun _ h => h) (fun x hx hs => by (try dsimp only at hs ⊢); subst hs; rfl); have hB := hn9; have hv2 : LineV w9 (.slice (some ⟨b, o, none⟩) l.length cap) (halvesUpto l f t (k + 1)) := LineV.mk hB (by rw [halvesUpto_hit hc (by omega) (by simpa using ‹(!fitsB (halvesUpto l f t k) j) = true›)]; exact at_put (i := j) hA (by omega) (blank ((halvesUpto l f t k).getD j default).a) (by omega)) (by rw [putList_length]; exact hr) (by rw [halvesUpto_length]; omega) hr3 (by rw [halvesUpto_length])
     refine WL.nil ?_; refine WC.region ?_; refine WL.val (OpRun.add rfl rfl (In.i64 (by omega))) rfl ?_; refine vm rfl rfl ?_; refine WL.nil ?_; exact ⟨2 - (k + 1), by omega, k + 1, by omega, rfl, ⟨rfl, rfl, rfl, rfl, trivial⟩, hE, by first | exact hv2 | (rw [halvesUpto_out (by rw [← hc]; omega)]; exact hv) | (rw [halvesUpto_fits hc (by simpa using ‹(!fitsB (halvesUpto l f t k) j) = false›)]; exact hv), hG⟩
    ·refine WC.skip ?_; refine WC.region ?_; refine WL.val (OpRun.add rfl rfl (In.i64 (by omega))) rfl ?_; refine vm rfl rfl ?_; refine WL.nil ?_; exact ⟨2 - (k + 1), by omega, k + 1, by omega, rfl, ⟨rfl, rfl, rfl, rfl, trivial⟩, hE, by first | exact hv2 | (rw [halvesUpto_out (by rw [← hc]; omega)]; exact hv) | (rw [halvesUpto_fits hc (by simpa using ‹(!fitsB (halvesUpto l f t k) j) = false›)]; exact hv), hG⟩
   ·refine WL.pass rfl rfl rfl rfl ?_; refine WL.pass rfl rfl rfl rfl ?_; refine WL.pass rfl rfl rfl rfl ?_; refine WL.pass rfl rfl rfl rfl ?_; refine WL.val (OpRun.pickF rfl rfl) rfl ?_; refine WL.nil ?_; refine WC.condF rfl ?_; refine WC.skip ?_; refine WC.region ?_; refine WL.val (OpRun.add rfl rfl (In.i64 (by omega))) rfl ?_; refine vm rfl rfl ?_; refine WL.nil ?_; exact ⟨2 - (k + 1), by omega, k + 1, by omega, rfl, ⟨rfl, rfl, rfl, rfl, trivial⟩, hE, by first | exact hv2 | (rw [halvesUpto_out (by rw [← hc]; omega)]; exact hv) | (rw [halvesUpto_fits hc (by simpa using ‹(!fitsB (halvesUpto l f t k) j) = false›)]; exact hv), hG⟩
  ·refine WL.pass rfl rfl rfl rfl ?_; refine WL.pass rfl rfl rfl rfl ?_; refine WL.pass rfl rfl rfl rfl ?_; refine WL.pass rfl rfl rfl rfl ?_; refine WL.val (OpRun.pickF rfl rfl) rfl ?_; refine vm rfl rfl ?_; refine WL.pass rfl rfl rfl rfl ?_; refine WL.pass rfl rfl rfl rfl ?_; refine WL.pass rfl rfl rfl rfl ?_; refine WL.pass rfl rfl rfl rfl ?_; refine WL.val (OpRun.pickF rfl rfl) rfl ?_; refine WL.nil ?_; refine WC.condF rfl ?_; refine WC.skip ?_; refine WC.region ?_; refine WL.val (OpRun.add rfl rfl (In.i64 (by omega))) rfl ?_; refine vm rfl rfl ?_; refine WL.nil ?_; exact ⟨2 - (k + 1), by omega, k + 1, by omega, rfl, ⟨rfl, rfl, rfl, rfl, trivial⟩, hE, by first | exact hv2 | (rw [halvesUpto_out (by rw [← hc]; omega)]; exact hv) | (rw [halvesUpto_fits hc (by simpa using ‹(!fitsB (halvesUpto l f t k) j) = false›)]; exact hv), hG⟩
 ·refine WC.exit ?_; refine wsr ?_; refine vm rfl rfl ?_; refine va rfl rfl ?_; refine WL.nil ?_; refine WC.ret ?_; refine fin_one rfl rfl ?_; obtain rfl : k = 2 := by omega
  exact ⟨rfl, hv, hG⟩

end Go.Eng
namespace Go.Eng
open Go Go.Proofs

theorem insert_ok {w : World} {v : Value} {l : List Cell} (hv : LineV w v l) (hl : l.length ≤ 1048576) (col n : Int) (a : Attr) : Ret Tryz.prog 81 [v, .int .i64 col, .int .i64 n, .agg #[.int .i64 a.fg, .int .i64 a.bg, .int .i64 a.fl]] w (fun r w' => LineV w' r (insertB l col n a) ∧ Grow w w' ∧ Fresh w r) := by
 obtain ⟨ad, cap, rfl⟩ := hv.slice; have hvb := hv.lt; refine Ret.of Tryz.func81 Tryz.ntmps81 rfl rfl ?_; refine WC.sub (e' := [(0, .slice ad l.length cap), (1, .int .i64 col), (2, .int .i64 n), (3, .agg #[.int .i64 a.fg, .int .i64 a.bg, .int .i64 a.fl])]) ⟨rfl, rfl, rfl, rfl, trivial⟩ ?_; have hG : Mod (fun k => False) w w := Mod.refl _ _; refine wsr ?_; refine WL.step (OpTo.box (vs := [_, _, _]) rfl rfl rfl (fun bX wX hX hmX hloX hhiX => ?_)); have hv := hv.grow hmX; have hG := hG.grow hmX; refine va rfl rfl ?_; refine WL.nil ?_; refine wsr ?_; refine vm rfl rfl ?_; refine WL.step (OpTo.call ⟨Tryz.call71⟩ rfl rfl (mend_ok hv hl) (fun vM wM hpM => ?_)); obtain ⟨hov, hmM, hfr⟩ := hpM; have hX := hX.grow hmM; have hv := hv.grow hmM; have hG := hG.grow hmM; have hfrM : Fresh w vM := fun k hk => by have := hfr k hk; have := hG.size; omega
 obtain ⟨oad, ocap, rfl⟩ := hov.slice; rw [mend_length] at hov hfrM ⊢; refine va rfl rfl ?_; refine WL.nil ?_; refine WC.seq ?_; refine wsr ?_; refine vm rfl rfl ?_; refine vm rfl rfl ?_; refine vm rfl rfl ?_; refine WL.step (OpTo.call ⟨Tryz.call121⟩ rfl rfl (many_ok hv hl col n) (fun v3 w3 hp3 => ?_)); obtain ⟨rfl, rfl⟩ := hp3; refine va rfl rfl ?_; refine WL.nil ?_; refine wsr ?_; refine vm rfl rfl ?_; refine WL.val (OpRun.eql rfl rfl) rfl ?_; refine WL.nil ?_; refine WC.condD rfl (fun hq4 => ?_) (fun hq4 => ?_)
 ·refine wsr ?_; refine vm rfl rfl ?_; refine va rfl rfl ?_; refine WL.nil ?_; refine WC.ret ?_; refine fin_one rfl rfl ?_; refine ⟨?_, hG, hfrM⟩; unfold insertB; dsimp only; rw [if_pos (by assumption)]; exact hov
 ·refine WC.skip ?_; refine WC.seq ?_; refine WC.regionD (fun w0 w1 => Grow w0 w1) 17 rfl mixed (fun w5 hm5 hz5 => ?_); have hmD5 := hm5; have hX := hX.grow hm5; have hv := hv.grow hm5; have hov := hov.grow hm5; have hG := hG.grow hm5; have hSc := Mod.refl (fun k => False) w5; obtain ⟨h0, h1, h2, h3⟩ := manyB_pos ‹manyB l col n ≠ 0›; obtain ⟨b, o, blk, rfl, hB, hA, hr, hc1, hc2, -⟩ := hov.open (by rw [mend_length]; omega); rw [mend_length] at hc1; have hml := mend_length l; have hT := hov.take col.toNat (by omega); have hD := hov.sub col.toNat ((↑l.length - manyB l col n).toNat - col.toNat) (by omega); refine WH.take 0 rfl (by kernel_rfl) hSc (fun w1 h1 => OpRun.move rfl) ?_; refine WH.take 1 rfl (by kernel_rfl) hSc (fun w1 h1 => OpRun.move rfl) ?_; refine WH.take 2 rfl (by kernel_rfl) hSc (fun w1 h1 => OpRun.sliceH rfl rfl ⟨Tryz.runUnderlying54⟩ ⟨Tryz.sizeOf89⟩ (by omega) (by omega)) ?_
  refine WH.take 3 rfl (by kernel_rfl) hSc (fun w1 h1 => OpRun.move rfl) ?_; refine WH.take 4 rfl (by kernel_rfl) hSc (fun w1 h1 => OpRun.loadA (vs := [_, _, _]) rfl ⟨Tryz.isAgg40⟩ ⟨Tryz.sizeOf40⟩ (hX.grow h1) ⟨rfl, rfl, rfl, trivial⟩) ?_; refine WH.take 6 rfl (by kernel_rfl) hSc (fun w1 h1 => OpRun.move rfl) ?_; refine WH.take 7 rfl (by kernel_rfl) hSc (fun w1 h1 => OpRun.move rfl) ?_; refine WH.take 8 rfl (by kernel_rfl) hSc (fun w1 h1 => OpRun.move rfl) ?_; refine WH.take 9 rfl (by kernel_rfl) hSc (fun w1 h1 => OpRun.lenS rfl ⟨Tryz.runUnderlying54⟩) ?_; refine WH.take 10 rfl (by kernel_rfl) hSc (fun w1 h1 => OpRun.move rfl) ?_; refine WH.take 11 rfl (by kernel_rfl) hSc (fun w1 h1 => OpRun.sub rfl rfl (In.i64 (by omega))) ?_; refine WH.take 12 rfl (by kernel_rfl) hSc (fun w1 h1 => OpRun.sliceLH rfl rfl rfl ⟨Tryz.runUnderlying54⟩ ⟨Tryz.sizeOf89⟩ (by omega) (by omega) (by omega)) ?_; refine WH.one 5 rfl (by kernel_rfl) (OpTo.call ⟨Tryz.call107⟩ rfl rfl (blanks_ok (manyB l col n) a (by omega) (by omega)) (fun vB wB hpB => ?_))
  obtain ⟨hlB, hmB, hfB⟩ := hpB; have hX := hX.grow hmB; have hv := hv.grow hmB; have hT := hT.grow hmB; have hD := hD.grow hmB; have hG := hG.grow hmB; have hSc := hSc.grow hmB; refine ⟨fun _ => hSc, ?_⟩; obtain ⟨bad, bcap, rfl⟩ := hlB.slice; rw [List.length_replicate] at hlB ⊢; refine WH.one 13 rfl (by kernel_rfl) (OpTo.buildSlice (cs := [_, _, _]) rfl rfl rfl ⟨Tryz.runUnderlying83⟩ ⟨Tryz.sizeOf54⟩ ⟨Tryz.zeroValue54⟩ (fill_one (vs := [_, _, _]) rfl rfl) rfl (fun bE wE hbE hmE hloE hhiE => ?_)); have hX := hX.grow hmE; have hv := hv.grow hmE; have hT := hT.grow hmE; have hD := hD.grow hmE; have hlB := hlB.grow hmE; have hG := hG.grow hmE; have hSc := hSc.grow hmE; refine ⟨fun _ => hSc, ?_⟩; refine WH.one 14 rfl (by kernel_rfl) (OpTo.call ⟨Tryz.call106⟩ rfl rfl (concat5_ok hbE rfl (parts3 hT hlB hD) (by rw [flat3, lineCells_length]; simp only [List.length_append, List.length_take, List.length_drop, List.length_replicate]; omega) (by omega)) (fun vC wC hpC => ?_))
  obtain ⟨⟨len1, cap1, hC⟩, hmC, hfC⟩ := hpC; have hX := hX.grow hmC; have hv := hv.grow hmC; have hT := hT.grow hmC; have hD := hD.grow hmC; have hlB := hlB.grow hmC; have hG := hG.grow hmC; have hSc := hSc.grow hmC; refine ⟨fun _ => hSc, ?_⟩; rw [flat3] at hC; have hC := LineV.of_sl hC; have hGC := hG; refine WH.one 15 rfl (by kernel_rfl) (OpTo.call ⟨Tryz.call71⟩ rfl rfl (mend_ok hC (by simp only [List.length_append, List.length_take, List.length_drop, List.length_replicate]; omega)) (fun vR wR hpR => ?_)); obtain ⟨hR, hmR, hfR⟩ := hpR; have hX := hX.grow hmR; have hv := hv.grow hmR; have hT := hT.grow hmR; have hD := hD.grow hmR; have hlB := hlB.grow hmR; have hG := hG.grow hmR; have hSc := hSc.grow hmR; refine ⟨fun _ => hSc, ?_⟩; have hfrR : Fresh w vR := fun k hk => by have := hfR k hk; have := hGC.size; omega
  refine WH.one 16 rfl (by kernel_rfl) (OpTo.val (OpRun.assign rfl) rfl ?_); refine ⟨fun _ => hSc, ?_⟩; refine WH.done (by kernel_rfl) ?_; refine WC.ret ?_; refine fin_one rfl rfl ?_; refine ⟨?_, hG, hfrR⟩; unfold insertB; dsimp only; rw [if_neg (by assumption)]; exact hR

theorem delete_ok {w : World} {v : Value} {l : List Cell} (hv : LineV w v l) (hl : l.length ≤ 1048576) (col n : Int) (a : Attr) : Ret Tryz.prog 130 [v, .int .i64 col, .int .i64 n, .agg #[.int .i64 a.fg, .int .i64 a.bg, .int .i64 a.fl]] w (fun r w' => LineV w' r (deleteB l col n a) ∧ Grow w w' ∧ Fresh w r) := by
 obtain ⟨ad, cap, rfl⟩ := hv.slice; have hvb := hv.lt; refine Ret.of Tryz.func130 Tryz.ntmps130 rfl rfl ?_; refine WC.sub (e' := [(0, .slice ad l.length cap), (1, .int .i64 col), (2, .int .i64 n), (3, .agg #[.int .i64 a.fg, .int .i64 a.bg, .int .i64 a.fl])]) ⟨rfl, rfl, rfl, rfl, trivial⟩ ?_; have hG : Mod (fun k => False) w w := Mod.refl _ _; refine wsr ?_; refine WL.step (OpTo.box (vs := [_, _, _]) rfl rfl rfl (fun bX wX hX hmX hloX hhiX => ?_)); have hv := hv.grow hmX; have hG := hG.grow hmX; refine va rfl rfl ?_; refine WL.nil ?_; refine wsr ?_; refine vm rfl rfl ?_; refine WL.step (OpTo.call ⟨Tryz.call71⟩ rfl rfl (mend_ok hv hl) (fun vM wM hpM => ?_)); obtain ⟨hov, hmM, hfr⟩ := hpM; have hX := hX.grow hmM; have hv := hv.grow hmM; have hG := hG.grow hmM; have hfrM : Fresh w vM := fun k hk => by have := hfr k hk; have := hG.size; omega
 obtain ⟨oad, ocap, rfl⟩ := hov.slice; rw [mend_length] at hov hfrM ⊢; refine va rfl rfl ?_; refine WL.nil ?_; refine WC.seq ?_; refine wsr ?_; refine vm rfl rfl ?_; refine vm rfl rfl ?_; refine vm rfl rfl ?_; refine WL.step (OpTo.call ⟨Tryz.call121⟩ rfl rfl (many_ok hv hl col n) (fun v3 w3 hp3 => ?_)); obtain ⟨rfl, rfl⟩ := hp3; refine va rfl rfl ?_; refine WL.nil ?_; refine wsr ?_; refine vm rfl rfl ?_; refine WL.val (OpRun.eql rfl rfl) rfl ?_; refine WL.nil ?_; refine WC.condD rfl (fun hq4 => ?_) (fun hq4 => ?_)
 ·refine wsr ?_; refine vm rfl rfl ?_; refine va rfl rfl ?_; refine WL.nil ?_; refine WC.ret ?_; refine fin_one rfl rfl ?_; refine ⟨?_, hG, hfrM⟩; unfold deleteB; dsimp only; rw [if_pos (by assumption)]; exact hov
 ·refine WC.skip ?_; refine WC.seq ?_; refine WC.regionD (fun w0 w1 => Grow w0 w1) 15 rfl mixed (fun w5 hm5 hz5 => ?_); have hmD5 := hm5; have hX := hX.grow hm5; have hv := hv.grow hm5; have hov := hov.grow hm5; have hG := hG.grow hm5; have hSc := Mod.refl (fun k => False) w5; obtain ⟨h0, h1, h2, h3⟩ := manyB_pos ‹manyB l col n ≠ 0›; obtain ⟨b, o, blk, rfl, hB, hA, hr, hc1, hc2, -⟩ := hov.open (by rw [mend_length]; omega); rw [mend_length] at hc1; have hml := mend_length l; have hT := hov.take col.toNat (by omega); have hD := hov.sub (col + manyB l col n).toNat (l.length - (col + manyB l col n).toNat) (by omega); refine WH.take 0 rfl (by kernel_rfl) hSc (fun w1 h1 => OpRun.move rfl) ?_; refine WH.take 1 rfl (by kernel_rfl) hSc (fun w1 h1 => OpRun.move rfl) ?_; refine WH.take 2 rfl (by kernel_rfl) hSc (fun w1 h1 => OpRun.sliceH rfl rfl ⟨Tryz.runUnderlying54⟩ ⟨Tryz.sizeOf89⟩ (by omega) (by omega)) ?_
  refine WH.take 3 rfl (by kernel_rfl) hSc (fun w1 h1 => OpRun.move rfl) ?_; refine WH.take 4 rfl (by kernel_rfl) hSc (fun w1 h1 => OpRun.move rfl) ?_; refine WH.take 5 rfl (by kernel_rfl) hSc (fun w1 h1 => OpRun.move rfl) ?_; refine WH.take 6 rfl (by kernel_rfl) hSc (fun w1 h1 => OpRun.add rfl rfl (In.i64 (by omega))) ?_; refine WH.take 7 rfl (by kernel_rfl) hSc (fun w1 h1 => OpRun.sliceL rfl rfl ⟨Tryz.runUnderlying54⟩ ⟨Tryz.sizeOf89⟩ (by omega) (by omega)) ?_; refine WH.take 8 rfl (by kernel_rfl) hSc (fun w1 h1 => OpRun.move rfl) ?_; refine WH.take 9 rfl (by kernel_rfl) hSc (fun w1 h1 => OpRun.loadA (vs := [_, _, _]) rfl ⟨Tryz.isAgg40⟩ ⟨Tryz.sizeOf40⟩ (hX.grow h1) ⟨rfl, rfl, rfl, trivial⟩) ?_; refine WH.one 10 rfl (by kernel_rfl) (OpTo.call ⟨Tryz.call107⟩ rfl rfl (blanks_ok (manyB l col n) a (by omega) (by omega)) (fun vB wB hpB => ?_)); obtain ⟨hlB, hmB, hfB⟩ := hpB; have hX := hX.grow hmB
  have hv := hv.grow hmB; have hT := hT.grow hmB; have hD := hD.grow hmB; have hG := hG.grow hmB; have hSc := hSc.grow hmB; refine ⟨fun _ => hSc, ?_⟩; obtain ⟨bad, bcap, rfl⟩ := hlB.slice; rw [List.length_replicate] at hlB ⊢; refine WH.one 11 rfl (by kernel_rfl) (OpTo.buildSlice (cs := [_, _, _]) rfl rfl rfl ⟨Tryz.runUnderlying83⟩ ⟨Tryz.sizeOf54⟩ ⟨Tryz.zeroValue54⟩ (fill_one (vs := [_, _, _]) rfl rfl) rfl (fun bE wE hbE hmE hloE hhiE => ?_)); have hX := hX.grow hmE; have hv := hv.grow hmE; have hT := hT.grow hmE; have hD := hD.grow hmE; have hlB := hlB.grow hmE; have hG := hG.grow hmE; have hSc := hSc.grow hmE; refine ⟨fun _ => hSc, ?_⟩; refine WH.one 12 rfl (by kernel_rfl) (OpTo.call ⟨Tryz.call106⟩ rfl rfl (concat5_ok hbE rfl (parts3 hT hD hlB) (by rw [flat3, lineCells_length]; simp only [List.length_append, List.length_take, List.length_drop, List.length_replicate]; omega) (by omega)) (fun vC wC hpC => ?_))
  obtain ⟨⟨len1, cap1, hC⟩, hmC, hfC⟩ := hpC; have hX := hX.grow hmC; have hv := hv.grow hmC; have hT := hT.grow hmC; have hD := hD.grow hmC; have hlB := hlB.grow hmC; have hG := hG.grow hmC; have hSc := hSc.grow hmC; refine ⟨fun _ => hSc, ?_⟩; rw [flat3] at hC; have hC := LineV.of_sl hC; have hGC := hG; refine WH.one 13 rfl (by kernel_rfl) (OpTo.call ⟨Tryz.call71⟩ rfl rfl (mend_ok hC (by simp only [List.length_append, List.length_take, List.length_drop, List.length_replicate]; omega)) (fun vR wR hpR => ?_)); obtain ⟨hR, hmR, hfR⟩ := hpR; have hX := hX.grow hmR; have hv := hv.grow hmR; have hT := hT.grow hmR; have hD := hD.grow hmR; have hlB := hlB.grow hmR; have hG := hG.grow hmR; have hSc := hSc.grow hmR; refine ⟨fun _ => hSc, ?_⟩; have hfrR : Fresh w vR := fun k hk => by have := hfR k hk; have := hGC.size; omega
  refine WH.one 14 rfl (by kernel_rfl) (OpTo.val (OpRun.assign rfl) rfl ?_); refine ⟨fun _ => hSc, ?_⟩; refine WH.done (by kernel_rfl) ?_; refine WC.ret ?_; refine fin_one rfl rfl ?_; refine ⟨?_, hG, hfrR⟩; unfold deleteB; dsimp only; rw [if_neg (by assumption)]; rw [show List.take (l.length - (col + manyB l col n).toNat) (List.drop (col + manyB l col n).toNat (mend l)) = List.drop (col + manyB l col n).toNat (mend l) from List.take_of_length_le (by rw [List.length_drop]; omega)] at hR; exact hR

theorem erase_ok {w : World} {v : Value} {l : List Cell} (hv : LineV w v l) (hl : l.length ≤ 1048576) (f t : Int) (a : Attr) : Ret Tryz.prog 160 [v, .int .i64 f, .int .i64 t, .agg #[.int .i64 a.fg, .int .i64 a.bg, .int .i64 a.fl]] w (fun r w' => LineV w' r (eraseB l f t a) ∧ Grow w w' ∧ Fresh w r) := by
 obtain ⟨ad, cap, rfl⟩ := hv.slice; have hvb := hv.lt; refine Ret.of Tryz.func160 Tryz.ntmps160 rfl rfl ?_; refine WC.sub (e' := [(0, .slice ad l.length cap), (1, .int .i64 f), (2, .int .i64 t), (3, .agg #[.int .i64 a.fg, .int .i64 a.bg, .int .i64 a.fl])]) ⟨rfl, rfl, rfl, rfl, trivial⟩ ?_; have hG : Mod (fun k => False) w w := Mod.refl _ _; refine wsr ?_; refine WL.step (OpTo.box (vs := [_, _, _]) rfl rfl rfl (fun bX wX hX hmX hloX hhiX => ?_)); have hv := hv.grow hmX; have hG := hG.grow hmX; refine va rfl rfl ?_; refine WL.nil ?_; refine wsr ?_; refine vm rfl rfl ?_; refine WL.step (OpTo.call ⟨Tryz.call71⟩ rfl rfl (mend_ok hv hl) (fun vM wM hpM => ?_)); obtain ⟨hov, hmM, hfr⟩ := hpM; have hX := hX.grow hmM; have hv := hv.grow hmM; have hG := hG.grow hmM; have hfrM : Fresh w vM := fun k hk => by have := hfr k hk; have := hG.size; omega
 obtain ⟨oad, ocap, rfl⟩ := hov.slice; rw [mend_length] at hov hfrM ⊢; refine va rfl rfl ?_; refine WL.nil ?_; refine wsr ?_; refine vm rfl rfl ?_; refine WL.val (OpRun.bmax rfl) rfl ?_; refine vm rfl rfl ?_; refine vm rfl rfl ?_; refine WL.val (OpRun.lenS rfl ⟨Tryz.runUnderlying54⟩) rfl ?_; refine WL.val (OpRun.bmin rfl) rfl ?_; refine va rfl rfl ?_; refine va rfl rfl ?_; refine WL.nil ?_; refine WC.seq ?_; refine wsr ?_; obtain ⟨F, hF⟩ : ∃ F, F = max f 0 := ⟨_, rfl⟩; obtain ⟨U, hU⟩ : ∃ U, U = min t l.length := ⟨_, rfl⟩; rw [← hF, ← hU]; have hF0 : 0 ≤ F := by omega
 have hU0 : U ≤ l.length := by omega
 refine vm rfl rfl ?_; refine vm rfl rfl ?_; refine WL.val (OpRun.geq rfl rfl) rfl ?_; refine WL.nil ?_; refine WC.condD rfl (fun hq3 => ?_) (fun hq3 => ?_)
 ·refine wsr ?_; refine vm rfl rfl ?_; refine va rfl rfl ?_; refine WL.nil ?_; refine WC.ret ?_; refine fin_one rfl rfl ?_; refine ⟨?_, hG, hfrM⟩; unfold eraseB; dsimp only; rw [← hF, ← hU, if_pos (by omega)]; exact hov
 ·refine WC.skip ?_; refine WC.seq ?_; refine wsr ?_; refine vm rfl rfl ?_; refine va rfl rfl ?_; refine WL.nil ?_; refine WC.block ?_; refine WC.loop (fun m e w' => ∃ (k : Nat), F ≤ k ∧ k ≤ U ∧ m = U.toNat - k ∧ Sub [(1, .int .i64 F), (2, .int .i64 U), (7, .pointer (some ⟨bX, 0, none⟩)), (9, .slice oad l.length ocap), (10, .int .i64 k)] e ∧ Blk w' bX 40 [.int .i64 a.fg, .int .i64 a.bg, .int .i64 a.fl] ∧ LineV w' (.slice oad l.length ocap) (eraseUpto (mend l) F.toNat k a) ∧ Mod (fun _ => False) w w') (U.toNat - F.toNat) ⟨F.toNat, by omega, by omega, by omega, ⟨rfl, rfl, rfl, rfl, by show some _ = some _; rw [show ((F.toNat : Nat) : Int) = F from by omega], trivial⟩, hX, by rw [eraseUpto_zero]; exact hov, hG⟩ ?_
  rintro m e wl ⟨k, hk, hk2, rfl, hs, hX, hov, hG⟩
  refine WC.sub hs ?_; have hel : (eraseUpto (mend l) F.toNat k a).length = l.length := by rw [eraseUpto_length, mend_length]
  refine WC.seq ?_; refine wsr ?_; refine vm rfl rfl ?_; refine vm rfl rfl ?_; refine WL.val (OpRun.lss rfl rfl) rfl ?_; refine WL.nil ?_; refine WC.condD rfl (fun hq6 => ?_) (fun hq6 => ?_)
  ·refine WC.skip ?_; refine WC.seq ?_; refine WC.block ?_; refine WC.region ?_; obtain ⟨b, o, blk, rfl, hB, hA, hr, hc1, hc2, -⟩ := hov.open (by omega); have hb1 := hfrM b rfl; rw [hel] at hc1; refine vm rfl rfl ?_; refine vm rfl rfl ?_; refine WL.val (OpRun.loadA (vs := [_, _, _]) rfl ⟨Tryz.isAgg40⟩ ⟨Tryz.sizeOf40⟩ hX ⟨rfl, rfl, rfl, trivial⟩) rfl ?_; refine WL.val (OpRun.build rfl tb89_2) rfl ?_; refine WL.val (OpRun.indexAddr rfl rfl ⟨Tryz.runUnderlying54⟩ ⟨Tryz.sizeOf89⟩ (by omega) (by omega)) rfl ?_; refine WL.step (OpTo.storeAS (vs := [_, _, _, _, _]) rfl rfl ⟨Tryz.sizeOf89⟩ rfl hB (by simp only [List.length_cons, List.length_nil]; omega) (fun w7 hn7 hm7 hz7 => ?_)); have hX := hX.mod hm7 (by first | exact hX.ne hB rfl | omega); have hG := hG.trans hm7 (fun _ h => h) (fun x hx hs => by (try dsimp only at hs ⊢); omega); have hB := hn7; have hov2 : LineV w7 (.slice (some ⟨b, o, none⟩) l.length ocap) (eraseUpto (mend l) F.toNat (k + 1) a) := LineV.mk hB (by rw [← eraseUpto_succ _ _ _ _ (by omega) (by rw [mend_length]; omega)]; exact at_put (i := k) hA (by omega) (blank a) (by omega)) (by rw [putList_length]; exact hr) (by rw [eraseUpto_length, mend_length]; omega) hc2 (by rw [eraseUpto_length, mend_length])
   refine WL.nil ?_; refine WC.region ?_; refine vm rfl rfl ?_; refine WL.val (OpRun.add rfl rfl (In.i64 (by omega))) rfl ?_; refine va rfl rfl ?_; refine WL.nil ?_; exact ⟨U.toNat - (k + 1), by omega, k + 1, by omega, by omega, rfl, ⟨rfl, rfl, rfl, rfl, rfl, trivial⟩, hX, hov2, hG⟩
  ·refine WC.exit ?_; refine wsr ?_; obtain rfl : k = U.toNat := by omega
   refine vm rfl rfl ?_; refine vm rfl rfl ?_; refine vm rfl rfl ?_; refine WL.step (OpTo.call ⟨Tryz.call122⟩ rfl rfl (halves_ok hov (by omega) F U (by omega) (by omega) (by omega) (by omega)) (fun vR wR hpR => ?_)); obtain ⟨rfl, hR, hmR⟩ := hpR; have hG := hG.trans hmR (fun _ h => h) (fun x hx hs => absurd hx (by have := hfrM x hs; omega)); refine va rfl rfl ?_; refine WL.nil ?_; refine WC.ret ?_; refine fin_one rfl rfl ?_; refine ⟨?_, hG, hfrM⟩; unfold eraseB; dsimp only; rw [← hF, ← hU, if_neg (by omega)]; exact hR

end Go.Eng
