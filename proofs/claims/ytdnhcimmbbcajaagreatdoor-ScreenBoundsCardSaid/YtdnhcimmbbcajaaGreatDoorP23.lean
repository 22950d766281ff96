/-
  A part of a proof (TxtA TxtB Txt1 Txt2 Txt3): lemmas on what the program's functions do. No condition but those that each lemma states.
-/
import Derived.Shelf.Strings.Builder1
import Derived.Shelf.Strings.Trim
import Derived.Shelf.Abstract
import Derived.Shelf.SlGeneric
import Derived.Ground.NamesProg
import Derived.Test.YtdnhcimmbbcajaaGreatDoorP22
import Derived.Test.YtdnhcimmbbcajaaGreatDoorShelf
set_option maxRecDepth 8000
set_option linter.all false
namespace Go.Proofs
open Go.Shelf
theorem Kz.xBStr : Builder.Extra Tryz.prog Kz.lBStr_ren := ⟨⟨by kernel_rfl, by kernel_rfl⟩, Tryz.underlying5, Tryz.isAgg5, Tryz.sizeOf5, Tryz.zeroValue5, by kernel_rfl, by kernel_rfl, by kernel_rfl, by decide⟩
theorem Kz.builder_String (B b : Nat) (l : List UInt8) (w : World) (h : Lib.IsBuilder 119 5 B b (Lib.byteCells l) w) (hBw : B ≤ w.heap.size) :
    Calls Tryz.prog 76 #[.pointer (some ⟨b, 0, none⟩)] w fun e w' => e = .returned (.string ⟨l.toArray⟩) ∧ RowKit.Below B w w' := Any.Builder_String_any Kz.lBStr Kz.xBStr B b l w h hBw
theorem Kz.trimRight (s : ByteArray) (c : UInt8) (hc : c.toNat < 128) (w : World) (hs : s.size ≤ 9223372036854775807) :
    Calls Tryz.prog 75 #[.string s, .string ⟨#[c]⟩] w fun e w' => e = .returned (.string ⟨(Lib.trimRightB s.data.toList c).toArray⟩) ∧ w' = w := Any.strings_TrimRight_one Kz.lTrim s c hc w hs

theorem Kz.sizeB : (Tryz.prog.info? 119).map (·.size) = some 2 := by kernel_rfl
theorem Kz.liesB : liesAt Tryz.prog Tryz.prog.depth 119 (2 / Tryz.prog.cellsOf 119) 0 119 1 = true := by kernel_rfl

set_option maxHeartbeats 1000000 in
set_option maxRecDepth 100000 in
theorem Kz.copyCheck_used (b : Nat) (w : World) (h0 : w.cell? ⟨b, 0, none⟩ = some (.pointer (some ⟨b, 0, none⟩))) :
    Calls Tryz.prog 112 #[.pointer (some ⟨b, 0, none⟩)] w fun e w' => e = .returned (.tuple #[]) ∧ w' = w := by
  obtain ⟨j, hj, _⟩ := Option.map_eq_some_iff.1 Kz.sizeB
  go_enter Tryz.func112, Tryz.ntmps112
  go_wp2
  rw [Lib.run_neq_ptr_same w _ Tryz.underlying117 hj]
  go_wp2
  go_end0
  exact ⟨rfl, rfl⟩

set_option maxHeartbeats 1000000 in
set_option maxRecDepth 100000 in
theorem Kz.copyCheck_fresh (b : Nat) (w : World) (h0 : w.cell? ⟨b, 0, none⟩ = some (.pointer none)) (hsh : w.shape? b = some (119, 2)) (hfz : w.frozen? ⟨b, 0, none⟩ = false) :
    Calls Tryz.prog 112 #[.pointer (some ⟨b, 0, none⟩)] w fun e w' => e = .returned (.tuple #[]) ∧ w' = w.setCell ⟨b, 0, none⟩ (.pointer (some ⟨b, 0, none⟩)) := by
  obtain ⟨j, hj, hjs⟩ := Option.map_eq_some_iff.1 Kz.sizeB
  go_enter Tryz.func112, Tryz.ntmps112
  go_wp2
  rw [Lib.run_to_unsafe w ⟨b, 0, none⟩ Tryz.underlying117 Tryz.underlying173 hj (by rw [hjs]; decide) hsh (Nat.zero_lt_succ 1)]
  simp only [Result.andThen]
  rw [Oper.upon_value]
  go_wp2
  rw [run_callFunc_extern Tryz.func141 (by kernel_rfl) (by kernel_rfl) (by kernel_rfl) (e := Extern.AbiNoEscape.same) (by kernel_rfl)]
  rw [Lib.run_noEscape]
  simp only [Result.andThen]
  rw [Oper.upon_value]
  go_wp2
  rw [Lib.run_from_unsafe w ⟨b, 0, none⟩ Tryz.underlying173 Tryz.underlying117 hj hsh Kz.liesB]
  simp only [Result.andThen]
  rw [Oper.upon_value]
  go_wp2
  go_end0
  exact ⟨rfl, rfl⟩
end Go.Proofs
namespace Go.Proofs
open Go.Shelf Go.RowKit Go.Eng

/-- A strings.Builder that holds the bytes l. -/
structure Bld (w : World) (B b : Nat) (v : Value) (l : List UInt8) : Prop where
  le : B ≤ b
  blk : ∃ p, (p = .pointer none ∨ p = .pointer (some ⟨b, 0, none⟩)) ∧ w.heap[b]? = some (.cells #[p, v] 119 (0, 0))
  own : w.ownsRow B 5 1 v l.length (Lib.byteCells l)
  ne : v.ownBlock ≠ some b

theorem Bld.lt {w : World} {B b : Nat} {v : Value} {l : List UInt8} (h : Bld w B b v l) : b < w.heap.size := by
  obtain ⟨p, _, hb⟩ := h.blk
  exact (Array.getElem?_eq_some_iff.1 hb).1
theorem Bld.own_ge {w : World} {B b : Nat} {v : Value} {l : List UInt8} (h : Bld w B b v l) {k : Nat} (hk : v.ownBlock = some k) : B ≤ k ∧ ∃ cs, Blk w k 5 cs := by
  rcases h.own.2 with ⟨rfl, _⟩ | ⟨g, cap, cur, rfl, hg, hc, _⟩
  · cases hk
  · cases hk; exact ⟨hg, cur.toList, ⟨by simpa using hc⟩⟩
theorem Bld.mod {S : Nat → Prop} {w w' : World} {B b : Nat} {v : Value} {l : List UInt8} (h : Bld w B b v l) (hm : Mod S w w') (hs : ∀ k, k = b ∨ v.ownBlock = some k → ¬ S k) : Bld w' B b v l := by
  obtain ⟨p, hp, hb⟩ := h.blk
  refine ⟨h.le, ⟨p, hp, (hm.block b h.lt (hs b (.inl rfl))).trans hb⟩, ⟨h.own.1, ?_⟩, h.ne⟩
  rcases h.own.2 with h0 | ⟨g, cap, cur, rfl, hg, hc, hr⟩
  · exact .inl h0
  · exact .inr ⟨g, cap, cur, rfl, hg, (hm.block g (Array.getElem?_eq_some_iff.1 hc).1 (hs g (.inr rfl))).trans hc, hr⟩
theorem Bld.grow {w w' : World} {B b : Nat} {v : Value} {l : List UInt8} (h : Bld w B b v l) (hm : Grow w w') : Bld w' B b v l := h.mod hm fun _ _ h => h
theorem mod_of_grownBy {w w' : World} {row : Option Nat} (h : w.grownBy w' row) : Mod (fun k => row = some k) w w' := ⟨h.os, h.tape, h.output, h.size, fun k hk hn => h.block k hk (fun e => hn e.symm)⟩
theorem mod_setCell0 (w : World) (b o : Nat) (v : Value) : Mod (fun k => k = b) w (w.setCell ⟨b, o, none⟩ v) := ⟨rfl, rfl, rfl, by simp [World.setCell], fun k _ hn => Below.heap_setCell _ _ _ _ hn⟩

/-- .. used. -/
theorem Kz.copyCheck {w : World} {B b : Nat} {v : Value} {l : List UInt8} (h : Bld w B b v l) :
    Calls Tryz.prog 112 #[.pointer (some ⟨b, 0, none⟩)] w fun e w' => e = .returned (.tuple #[]) ∧ Bld w' B b v l ∧ w'.heap[b]? = some (.cells #[.pointer (some ⟨b, 0, none⟩), v] 119 (0, 0)) ∧ Mod (fun k => k = b) w w' := by
  obtain ⟨p, hp, hb⟩ := h.blk
  have hB : Blk w b 119 [p, v] := ⟨by simpa using hb⟩
  rcases hp with rfl | rfl
  · refine (Kz.copyCheck_fresh b w (hB.cell rfl) (by simpa using hB.shape) (hB.frozen 0)).mono ?_
    rintro e w' ⟨rfl, rfl⟩
    have h2 := hB.setCell (o := 0) (.pointer (some ⟨b, 0, none⟩))
    have h3 : (w.setCell ⟨b, 0, none⟩ (.pointer (some ⟨b, 0, none⟩))).heap[b]? = some (.cells #[.pointer (some ⟨b, 0, none⟩), v] 119 (0, 0)) := by simpa using h2.out
    have hm := mod_setCell0 w b 0 (.pointer (some ⟨b, 0, none⟩))
    refine ⟨rfl, ⟨h.le, ⟨_, .inr rfl, h3⟩, ⟨h.own.1, ?_⟩, h.ne⟩, h3, hm⟩
    rcases h.own.2 with h0 | ⟨g, cap, cur, rfl, hg, hc, hr⟩
    · exact .inl h0
    · exact .inr ⟨g, cap, cur, rfl, hg, (hm.block g (Array.getElem?_eq_some_iff.1 hc).1 (fun e => h.ne (by rw [e]; rfl))).trans hc, hr⟩
  · refine (Kz.copyCheck_used b w (hB.cell rfl)).mono ?_
    rintro e w' ⟨rfl, rfl⟩
    exact ⟨rfl, h, hb, Mod.refl _ _⟩

theorem Kz.info5 : (Tryz.prog.info? 5).map (fun i => (i.zero, i.size, i.bytes)) = some (some (.int .u8 0), 1, 1) := by kernel_rfl

/-- What a write leaves. -/
def Wrote (w w' : World) (B b : Nat) (v : Value) (l : List UInt8) : Prop := ∃ v', Bld w' B b v' l ∧ Mod (fun k => k = b ∨ v.ownBlock = some k) w w'

theorem Wrote.of {w w1 w2 w3 : World} {B b : Nat} {v v' : Value} {l l' : List UInt8} (h : Bld w1 B b v l) (h1 : w1.heap[b]? = some (.cells #[.pointer (some ⟨b, 0, none⟩), v] 119 (0, 0))) (hm : Mod (fun k => k = b) w w1) (hg : Grow w1 w2) (hgb : w2.grownBy w3 v.ownBlock)
    (hown : w3.ownsRow B 5 1 v' l'.length (Lib.byteCells l')) : Wrote w (w3.setCell ⟨b, 1, none⟩ v') B b v l' := by
  have hb2 : w2.heap[b]? = _ := (hg.block b h.lt (fun h => h)).trans h1
  have hb3 : w3.heap[b]? = some (.cells #[.pointer (some ⟨b, 0, none⟩), v] 119 (0, 0)) := (hgb.block b (Array.getElem?_eq_some_iff.1 hb2).1 (fun e => h.ne e.symm)).trans hb2
  have hB3 : Blk w3 b 119 [.pointer (some ⟨b, 0, none⟩), v] := ⟨by simpa using hb3⟩
  have h4 := hB3.setCell (o := 1) v'
  have hm4 := mod_setCell0 w3 b 1 v'
  have hne : v'.ownBlock ≠ some b := by
    intro e
    rcases hown.2 with ⟨rfl, _⟩ | ⟨g, cap, cur, rfl, hg, hc, hr⟩
    · cases e
    · cases e
      rw [hb3] at hc; cases hc
  refine ⟨v', ⟨h.le, ⟨_, .inr rfl, by simpa using h4.out⟩, ⟨hown.1, ?_⟩, hne⟩, ?_⟩
  · rcases hown.2 with h0 | ⟨g, cap, cur, rfl, hg, hc, hr⟩
    · exact .inl h0
    · exact .inr ⟨g, cap, cur, rfl, hg, (hm4.block g (Array.getElem?_eq_some_iff.1 hc).1 (fun e => hne (by rw [e]; rfl))).trans hc, hr⟩
  · refine (((hm.grow hg).trans (mod_of_grownBy hgb) (S'' := fun k => k = b ∨ v.ownBlock = some k) (fun _ h => .inl h) (fun _ _ h => .inr h))).trans hm4 (fun _ h => h) (fun _ _ h => .inl h)

set_option maxHeartbeats 1000000 in
set_option maxRecDepth 100000 in
theorem Kz.writeByte {w : World} {B b : Nat} {v : Value} {l : List UInt8} (h : Bld w B b v l) (hlen : l.length ≤ 1000000) (hBw : B ≤ w.heap.size) (c : UInt8) :
    Calls Tryz.prog 72 #[.pointer (some ⟨b, 0, none⟩), .int .u8 (c.toNat : Int)] w fun e w' => e = .returned .nilIface ∧ Wrote w w' B b v (l ++ [c]) := by
  obtain ⟨i0, hi, hz0, hz1, hz2⟩ := info_parts Kz.info5
  go_enter Tryz.func72, Tryz.ntmps72
  go_wp2_with (go_at_call 112; refine (Kz.copyCheck h).mono ?_)
  rintro e w1 ⟨rfl, h1, hbk, hm1⟩
  have c0 : w1.cell? ⟨b, 0, none⟩ = some (.pointer (some ⟨b, 0, none⟩)) := by rw [Lib.cell_of_heap hbk]; rfl
  have c1 : w1.cell? ⟨b, 1, none⟩ = some v := by rw [Lib.cell_of_heap hbk]; rfl
  go_wp2_with (at_builtin; refine wpList_append_own _ rfl _ _ 33 rfl B 5 i0 (.int .u8 0) 1 1 Tryz.underlying33 hi hz0 hz1 hz2 rfl (by decide) _ _ _ rfl (h1.own.alloc _) ⟨w1.heap.size, 0, none⟩ 1 1 [.int .u8 (c.toNat : Int)] rfl rfl ?c1 ?c2 ?c3 ?c4 ?c5 ?_)
  case c1 =>
    intro j u hj
    match j, hj with
    | 0, hj => simp at hj; subst hj; simp [Addr.add]
  case c2 => intro u hu; simp at hu; subst hu; rfl
  case c3 => unfold maxLen; omega
  case c4 => omega
  case c5 => have := hm1.size; simp; omega
  intro v' w2 hown' hgrow _
  have hW : Wrote w (w2.setCell ⟨b, 1, none⟩ v') B b v (l ++ [c]) := Wrote.of h1 hbk hm1 (grow_alloc _) hgrow (by simpa [Lib.byteCells] using hown')
  have hb2 : w2.heap[b]? = some (.cells #[.pointer (some ⟨b, 0, none⟩), v] 119 (0, 0)) := by
    rw [hgrow.block b (by have := h1.lt; simp; omega) (fun e => h1.ne e.symm), Lib.alloc_old w1 _ b h1.lt]
    exact hbk
  have d0 : w2.cell? ⟨b, 0, none⟩ = some (.pointer (some ⟨b, 0, none⟩)) := by rw [Lib.cell_of_heap hb2]; rfl
  have d1 : w2.cell? ⟨b, 1, none⟩ = some v := by rw [Lib.cell_of_heap hb2]; rfl
  have f1 : w2.frozen? ⟨b, 1, none⟩ = false := Lib.frozen_of_heap hb2 1
  obtain ⟨g, cap, rfl⟩ : ∃ g cap, v' = .slice (some ⟨g, 0, none⟩) (l.length + 1) cap := by
    rcases hown'.2 with ⟨_, h0⟩ | ⟨g, cap, cur, hv, _⟩
    · omega
    · exact ⟨g, cap, hv⟩
  go_wp2
  go_ret
  exact ⟨rfl, hW⟩

set_option maxHeartbeats 1000000 in
set_option maxRecDepth 100000 in
theorem Kz.write {w : World} {B b : Nat} {v : Value} {l : List UInt8} (h : Bld w B b v l) (hlen : l.length ≤ 1000000) (hBw : B ≤ w.heap.size) (xs : List UInt8) (hx0 : 0 < xs.length) (hxs : xs.length ≤ 1000) (g0 o0 cap0 : Nat) (cs0 : List Value)
    (hX : Blk w g0 5 cs0) (hat : At cs0 o0 (Lib.byteCells xs)) :
    Calls Tryz.prog 73 #[.pointer (some ⟨b, 0, none⟩), .slice (some ⟨g0, o0, none⟩) xs.length cap0] w fun e w' => (∃ r, e = .returned r) ∧ Wrote w w' B b v (l ++ xs) := by
  obtain ⟨i0, hi, hz0, hz1, hz2⟩ := info_parts Kz.info5
  go_enter Tryz.func73, Tryz.ntmps73
  go_wp2_with (go_at_call 112; refine (Kz.copyCheck h).mono ?_)
  rintro e w1 ⟨rfl, h1, hbk, hm1⟩
  have c0 : w1.cell? ⟨b, 0, none⟩ = some (.pointer (some ⟨b, 0, none⟩)) := by rw [Lib.cell_of_heap hbk]; rfl
  have c1 : w1.cell? ⟨b, 1, none⟩ = some v := by rw [Lib.cell_of_heap hbk]; rfl
  have hX1 : Blk w1 g0 5 cs0 := hX.mod hm1 (fun e => by
    subst e
    obtain ⟨p, _, hb⟩ := h.blk
    have := hX.out
    rw [hb] at this; cases this)
  go_wp2_with (at_builtin; refine wpList_append_own _ rfl _ _ 33 rfl B 5 i0 (.int .u8 0) 1 1 Tryz.underlying33 hi hz0 hz1 hz2 rfl (by decide) _ _ _ rfl h1.own ⟨g0, o0, none⟩ xs.length cap0 (Lib.byteCells xs) rfl (by simp [Lib.byteCells]) ?c1 ?c2 ?c3 ?c4 ?c5 ?_)
  case c1 =>
    intro j u hj
    have hj' : j < (Lib.byteCells xs).length := (List.getElem?_eq_some_iff.1 hj).1
    have e1 : (⟨g0, o0, none⟩ : Addr).add j = ⟨g0, o0 + j, none⟩ := by unfold Addr.add; by_cases h0 : j = 0 <;> simp [h0]
    rw [e1]
    have := hat.get j hj'
    exact hX1.cell (this.trans hj)
  case c2 => intro u hu; simp [Lib.byteCells] at hu; obtain ⟨x, _, rfl⟩ := hu; rfl
  case c3 => unfold maxLen; omega
  case c4 => omega
  case c5 => have := hm1.size; omega
  intro v' w2 hown' hgrow _
  have hW : Wrote w (w2.setCell ⟨b, 1, none⟩ v') B b v (l ++ xs) := Wrote.of h1 hbk hm1 (Mod.refl _ _) hgrow (by simpa [Lib.byteCells] using hown')
  have hb2 : w2.heap[b]? = some (.cells #[.pointer (some ⟨b, 0, none⟩), v] 119 (0, 0)) := by
    rw [hgrow.block b h1.lt (fun e => h1.ne e.symm)]
    exact hbk
  have d0 : w2.cell? ⟨b, 0, none⟩ = some (.pointer (some ⟨b, 0, none⟩)) := by rw [Lib.cell_of_heap hb2]; rfl
  have d1 : w2.cell? ⟨b, 1, none⟩ = some v := by rw [Lib.cell_of_heap hb2]; rfl
  have f1 : w2.frozen? ⟨b, 1, none⟩ = false := Lib.frozen_of_heap hb2 1
  obtain ⟨g, cap, rfl⟩ : ∃ g cap, v' = .slice (some ⟨g, 0, none⟩) (l.length + xs.length) cap := by
    rcases hown'.2 with ⟨_, h0⟩ | ⟨g, cap, cur, hv, _⟩
    · omega
    · exact ⟨g, cap, hv⟩
  go_wp2
  go_ret2
  exact ⟨⟨_, rfl⟩, hW⟩
end Go.Proofs
namespace Go.Eng
open Go Go.Proofs Go.Shelf

section
variable {P : Program} {n : Nat} {e : Env} {w : World} {K : Env → World → Prop} {ty : TypeId} {ps : String} {af : Array Edge} {g : Option (Nat × Bool)} {d : Nat} {dst : Option Tmp} {x y : Operand} {k k' : IntKind} {a : Int} {t u : TypeId}
theorem OpRun.shr0 (hx : oval e x = some (.int k a)) (hy : oval e y = some (.int k' 0)) :
    OpRun P n e w { dst, op := .binOp .shr t x y u, type := ty, pos := ps, after := af, guard := g } (.int k a) w := by
  constructor
  intro ac ha
  simp only [execOp, ha.eval hx, ha.eval hy]
  have hg : (eqGuard .shr t x y (.int k a) (.int k' 0)).run P w = .ok () w := rfl
  have hb : (binOp .shr t (.int k a) (.int k' 0)).run P w = .ok (.int k a) w := by
    have : a.fdiv 1 = a := by simp
    simp [binOp, Op.shift, this]
  rw [run_bind, run_bind, hg]
  dsimp only
  rw [hb]
  rfl
end

theorem or0 {r : Int} (h : 0 ≤ r ∧ r < 128) : Value.int .i32 (IntKind.i32.wrap ((BitVec.ofInt IntKind.i32.bits 0 ||| BitVec.ofInt IntKind.i32.bits r).toNat)) = .int .i32 r := by
  obtain ⟨n, rfl⟩ : ∃ n : Nat, r = n := ⟨r.toNat, by omega⟩
  have e1 : (BitVec.ofInt IntKind.i32.bits 0 ||| BitVec.ofInt IntKind.i32.bits (n : Int)).toNat = n := by
    show (BitVec.ofInt 32 0 ||| BitVec.ofInt 32 (n : Int)).toNat = n
    have : BitVec.ofInt 32 0 = 0#32 := rfl
    rw [this, BitVec.zero_or, BitVec.ofInt_natCast, BitVec.toNat_ofNat]
    omega
  rw [e1]
  exact congrArg _ (wrap_in (k := .i32) (In.i32 (by omega)))

theorem encode_ok {w : World} {rb : Nat} {r : Int} (hR : Blk w rb 21 [.int .i32 r]) (hr : 0 < r ∧ r < 128) : Ret Tryz.prog 74 [.slice (some ⟨rb, 0, none⟩) 1 1] w (fun v w' => ∃ c, Sl w' v 5 1 [.int .u8 r] 1 c ∧ Grow w w') := by
 have hir : isR r = true := by unfold isR; simp; omega
 refine Ret.of Tryz.func74 Tryz.ntmps74 rfl rfl ?_; refine WC.sub (e' := [(0, .slice (some ⟨rb, 0, none⟩) 1 1)]) ⟨rfl, trivial⟩ ?_; have hG : Mod (fun k => False) w w := Mod.refl _ _; refine wsr ?_; refine va rfl rfl ?_; refine WL.nil ?_; refine wsr ?_; refine va rfl rfl ?_; refine WL.nil ?_; refine WC.seq ?_; refine wsr ?_; refine vm rfl rfl ?_; refine WL.val (OpRun.lenS rfl ⟨Tryz.runUnderlying128⟩) rfl ?_; refine vm rfl rfl ?_; refine WL.nil ?_; refine WC.block ?_; refine WC.loop (fun m e w' => ∃ (k : Nat) (ov : Value), k ≤ 1 ∧ m = 1 - k ∧ Sub [(8, .slice (some ⟨rb, 0, none⟩) 1 1), (9, .int .i64 1), (10, .int .i64 k), (3, ov)] e ∧ Blk w' rb 21 [.int .i32 r] ∧ (k = 0 → ov = .slice none 0 0) ∧ (k = 1 → ∃ c, Sl w' ov 5 1 [.int .u8 r] 1 c) ∧ Grow w w') (1) ⟨0, _, by omega, by omega, ⟨rfl, rfl, rfl, rfl, trivial⟩, hR, fun _ => rfl, fun h => by omega, hG⟩ ?_
 rintro m e wl ⟨k, ov, hk, rfl, hs, hR, hov0, hov1, hG⟩
 refine WC.sub hs ?_; refine wsr ?_; refine WL.val (OpRun.lss rfl rfl) rfl ?_; refine WL.nil ?_; refine WC.seq ?_; refine WC.condD rfl (fun hq3 => ?_) (fun hq3 => ?_)
 ·obtain rfl : k = 0 := by omega
  obtain rfl := hov0 rfl; refine WC.skip ?_; refine WC.seq ?_; refine WC.block ?_; refine wsr ?_; refine WL.val (OpRun.indexAddr rfl rfl ⟨Tryz.runUnderlying128⟩ ⟨Tryz.sizeOf21⟩ (by omega) (by omega)) rfl ?_; refine WL.val (OpRun.load rfl ⟨Tryz.isAgg21⟩ hR rfl) rfl ?_; refine va rfl rfl ?_; refine WL.nil ?_; refine WC.seq ?_; refine wsr ?_; refine vm rfl rfl ?_; refine WL.step (OpTo.call ⟨Tryz.call113⟩ rfl rfl (is_r_ok r) (fun v4 w4 hp4 => ?_)); obtain ⟨rfl, rfl⟩ := hp4; refine WL.val (OpRun.not rfl) rfl ?_; refine WL.nil ?_; refine WC.cond rfl (fun hq5 => ?_) (fun hq5 => ?_)
  ·simp [hir] at hq5
  ·refine WC.skip ?_; refine wsr ?_; refine va rfl rfl ?_; refine va rfl rfl ?_; refine WL.nil ?_; refine WC.seq ?_; refine WC.block ?_; refine WC.seq ?_; refine WC.block ?_; refine WC.seq ?_; refine WC.block ?_; refine WC.seq ?_; refine WC.block ?_; refine WC.seq ?_; refine WC.seq ?_; refine wsr ?_; refine vm rfl rfl ?_; refine WL.val (OpRun.geq rfl rfl) rfl ?_; refine va rfl rfl ?_; refine WL.nil ?_; refine WC.condD rfl (fun hq6 => ?_) (fun hq6 => ?_)
   ·exfalso; omega
   ·refine WC.skip ?_; refine WC.seq ?_; refine wsr ?_; refine vm rfl rfl ?_; refine WL.val (OpRun.geq rfl rfl) rfl ?_; refine va rfl rfl ?_; refine WL.nil ?_; refine WC.condD rfl (fun hq7 => ?_) (fun hq7 => ?_)
    ·exfalso; omega
    ·refine WC.skip ?_; refine wsr ?_; refine vm rfl rfl ?_; refine WL.val (OpRun.geq rfl rfl) rfl ?_; refine va rfl rfl ?_; refine WL.nil ?_; refine WC.condD rfl (fun hq8 => ?_) (fun hq8 => ?_)
     ·exfalso; omega
     ·refine WC.skip ?_; refine WC.exit ?_; refine wsr ?_; refine vm rfl rfl ?_; refine vm rfl rfl ?_; refine vm rfl rfl ?_; refine vm rfl rfl ?_; refine WL.val (OpRun.mul rfl rfl (In.i64 (by omega))) rfl ?_; refine WL.val (OpRun.shr0 rfl rfl) rfl ?_; refine WL.val (OpRun.eqv (OpRun.bor rfl rfl) (or0 (r := r) (by omega))) rfl ?_; refine WL.val (OpRun.conv rfl ⟨Tryz.runUnderlying21⟩ ⟨Tryz.runUnderlying5⟩ (In.u8 (by omega))) rfl ?_; refine WL.step (OpTo.buildSlice (cs := [_]) rfl rfl rfl ⟨Tryz.runUnderlying33⟩ ⟨Tryz.sizeOf5⟩ ⟨Tryz.zeroValue5⟩ (fill_one (vs := [_]) rfl rfl) rfl (fun bE wE hbE hmE hloE hhiE => ?_)); have hR := hR.grow hmE; have hG := hG.grow hmE; refine WL.step (OpTo.append rfl ⟨Tryz.runUnderlying33⟩ ⟨Tryz.runUnderlying33⟩ (by intro k h; cases h) ⟨Tryz.sizeOf5⟩ (Sl.nil _ 5 1) (Sl.of hbE (cs := [_]) ⟨rfl, trivial⟩ (by simp) rfl (by omega) (by omega)).src (rfl) ⟨Tryz.zeroValue5⟩ rfl (by_ := 1) ⟨fun w => ⟨_, Tryz.typeInfo5 w, rfl⟩⟩ (by omega) (by omega) rfl rfl (fun vA wA hpA => ?_))
      obtain ⟨capA, hSA, hmA, hbkA⟩ := hpA; have hR := hR.mod hmA (fun h => by cases h); have hfrA : Fresh w vA := fun k hk => hbkA.elim (fun h => (Fresh.nil w) k (h ▸ hk)) (fun ⟨b, hb, hlt⟩ => by have h1 := hb.symm.trans hk; cases h1; have := hG.size; omega); have hG := hG.trans hmA (fun _ h => h) (fun x hx hs => absurd hx (by have := (Fresh.nil w) x hs; omega)); refine va rfl rfl ?_; refine WL.nil ?_; refine wsr ?_; refine vm rfl rfl ?_; refine WL.val (OpRun.sub rfl rfl (In.i64 (by omega))) rfl ?_; refine va rfl rfl ?_; refine WL.nil ?_; refine WC.block ?_; refine WC.loop (fun m e w' => w' = wA ∧ Sub [(8, .slice (some ⟨rb, 0, none⟩) 1 1), (9, .int .i64 1), (10, .int .i64 (0 : Nat)), (3, vA), (6, .int .i64 (-1))] e) (0) ⟨rfl, ⟨rfl, rfl, rfl, rfl, rfl, trivial⟩⟩ ?_
      rintro m e wl ⟨rfl, hs⟩
      refine WC.sub hs ?_; refine WC.seq ?_; refine wsr ?_; refine vm rfl rfl ?_; refine WL.val (OpRun.geq rfl rfl) rfl ?_; refine WL.nil ?_; refine WC.condD rfl (fun hq13 => ?_) (fun hq13 => ?_)
      ·exfalso; omega
      ·refine WC.exit ?_; refine WC.region ?_; refine WL.val (OpRun.add rfl rfl (In.i64 (by omega))) rfl ?_; refine vm rfl rfl ?_; refine WL.nil ?_; exact ⟨0, by omega, 1, _, by omega, by omega, ⟨rfl, rfl, rfl, rfl, trivial⟩, hR, fun h => by omega, fun _ => ⟨_, hSA⟩, hG⟩
 ·refine WC.exit ?_; refine wsr ?_; refine vm rfl rfl ?_; refine va rfl rfl ?_; refine WL.nil ?_; refine WC.ret ?_; refine fin_one rfl rfl ?_; obtain rfl : k = 1 := by omega
  obtain ⟨c, hc⟩ := hov1 rfl; exact ⟨c, hc, hG⟩

end Go.Eng
namespace Go.Eng
open Go Go.Proofs Go.Shelf

theorem wbyte_ok {w : World} {B b : Nat} {v : Value} {l : List UInt8} (h : Bld w B b v l) (hlen : l.length ≤ 1000000) (hBw : B ≤ w.heap.size) (c : UInt8) {cv : Value} (hc : cv = .int .u8 (c.toNat : Int)) :
    Ret Tryz.prog 72 [.pointer (some ⟨b, 0, none⟩), cv] w (fun r w' => r = .nilIface ∧ Wrote w w' B b v (l ++ [c])) := by
  subst hc
  exact ⟨Calls.mono (Kz.writeByte h hlen hBw c) (by rintro e w' ⟨rfl, hw⟩; exact ⟨_, rfl, rfl, hw⟩)⟩
theorem write_ok {w : World} {B b : Nat} {v : Value} {l : List UInt8} (h : Bld w B b v l) (hlen : l.length ≤ 1000000) (hBw : B ≤ w.heap.size) {r : Int} (hr : 0 < r ∧ r < 128) {pv : Value} {cp : Nat} (hp : Sl w pv 5 1 [.int .u8 r] 1 cp) :
    Ret Tryz.prog 73 [.pointer (some ⟨b, 0, none⟩), pv] w (fun _ w' => Wrote w w' B b v (l ++ [UInt8.ofNat r.toNat])) := by
  obtain ⟨g0, o0, cs0, rfl, hb, hA, _⟩ := hp.pos (by omega)
  have e1 : (UInt8.ofNat r.toNat).toNat = r.toNat := by simp; omega
  refine ⟨Calls.mono (Kz.write h hlen hBw [UInt8.ofNat r.toNat] (by simp) (by simp) g0 o0 cp cs0 hb ?_) (by rintro e w' ⟨⟨v, rfl⟩, hw⟩; exact ⟨_, rfl, hw⟩)⟩
  have e2 : (r.toNat : Int) = r := by omega
  refine ⟨?_, trivial⟩
  have := hA.1
  rw [this]
  show some (Value.int .u8 r) = some (Value.int .u8 (((UInt8.ofNat r.toNat).toNat : Nat) : Int))
  rw [e1, e2]
theorem string_ok {w : World} {B b : Nat} {v : Value} {l : List UInt8} (h : Bld w B b v l) (hBw : B ≤ w.heap.size) :
    Ret Tryz.prog 76 [.pointer (some ⟨b, 0, none⟩)] w (fun r w' => r = .string ⟨l.toArray⟩ ∧ Mod (fun k => B ≤ k) w w') := by
  obtain ⟨p, hp, hb⟩ := h.blk
  have hat : Lib.BuilderAt 119 5 B b p (Lib.byteCells l) w := ⟨h.le, v, hb, by rw [Lib.byteCells_length]; exact h.own, h.ne⟩
  have hI : Lib.IsBuilder 119 5 B b (Lib.byteCells l) w := by
    rcases hp with rfl | rfl
    · exact .inl hat
    · exact .inr hat
  refine ⟨Calls.mono (Kz.builder_String B b l w hI hBw) ?_⟩
  rintro e w' ⟨rfl, hB⟩
  exact ⟨_, rfl, rfl, ⟨hB.os, hB.tape, hB.output, hB.size, fun k _ hk => hB.block k (by omega)⟩⟩
theorem trim_ok {w : World} (s : ByteArray) (hs : s.size ≤ 9223372036854775807) {cv : Value} (hc : cv = .string ⟨#[32]⟩) : Ret Tryz.prog 75 [.string s, cv] w (fun r w' => r = .string ⟨(Lib.trimRightB s.data.toList 32).toArray⟩ ∧ w = w') := by
  subst hc
  exact ⟨Calls.mono (Kz.trimRight s 32 (by decide) w hs) (by rintro e w' ⟨rfl, rfl⟩; exact ⟨_, rfl, rfl, rfl⟩)⟩

def txU (c : Cell) : UInt8 := if c.r = 0 then 32 else UInt8.ofNat c.r.toNat
def textB (l : List Cell) : ByteArray := ⟨(Lib.trimRightB (l.map txU) 32).toArray⟩
theorem take_txU {l : List Cell} {k : Nat} (hk : k < l.length) : (l.take (k + 1)).map txU = (l.take k).map txU ++ [txU (l.getD k default)] := by
  rw [List.take_add_one, List.map_append]
  simp [hk, List.getD_eq_getElem?_getD]
theorem Wrote.to {w w' : World} {B b : Nat} {v : Value} {l l' : List UInt8} (h : Wrote w w' B b v l) (e : l = l') : Wrote w w' B b v l' := e ▸ h
/-- A line is no builder's. -/
theorem line_bld {w : World} {lv v : Value} {l : List Cell} {B b : Nat} {bs : List UInt8} (hv : LineV w lv l) (h : Bld w B b v bs) : ∀ k, sblk lv = some k → ¬ (k = b ∨ v.ownBlock = some k) := by
  obtain ⟨cap, hs⟩ := hv
  intro k hk hn
  obtain ⟨blk, hb⟩ := hs.typ hk
  rcases hn with rfl | hn
  · obtain ⟨p, _, h2⟩ := h.blk
    have := hb.out; rw [h2] at this; cases this
  · obtain ⟨_, cs, h2⟩ := h.own_ge hn
    exact absurd (hb.typ_eq h2) (by decide)

set_option maxHeartbeats 1000000 in
theorem text_ok {w : World} {v : Value} {l : List Cell} (hv : LineV w v l) (hl : l.length ≤ 1000) (hm : mend l = l) (hk : ∀ c ∈ l, c.kind ≠ 2 ∧ 0 ≤ c.r ∧ c.r < 128) : Ret Tryz.prog 40 [v] w (fun r w' => r = .string (textB l) ∧ Grow w w') := by
 obtain ⟨ad, cap, rfl⟩ := hv.slice; have hvb := hv.lt; refine Ret.of Tryz.func40 Tryz.ntmps40 rfl rfl ?_; refine WC.sub (e' := [(0, .slice ad l.length cap)]) ⟨rfl, trivial⟩ ?_; have hG : Mod (fun k => False) w w := Mod.refl _ _; refine wsr ?_; refine va rfl rfl ?_; refine WL.nil ?_; refine wsr ?_; refine WL.step (OpTo.alloc (vs := [_, _]) ⟨Tryz.zeroValue119⟩ rfl rfl (fun bB wB hBd hmB hloB hhiB => ?_)); have hv := hv.grow hmB; have hG := hG.grow hmB; have hD : Bld wB w.heap.size bB (.slice none 0 0) [] := ⟨hloB, ⟨_, .inl rfl, by simpa using hBd.out⟩, World.ownsRow_nil _ _ _ _, by simp [Value.ownBlock]⟩; refine WL.nil ?_; refine WC.seq ?_; refine wsr ?_
 skip
 refine vm rfl rfl ?_; refine WL.step (OpTo.call ⟨Tryz.call71⟩ rfl rfl (mend_ok hv (by omega)) (fun vM wM hpM => ?_)); obtain ⟨hlv, hmM, hfr⟩ := hpM; have hv := hv.grow hmM; have hG := hG.grow hmM; rw [hm] at hlv; have hv := hlv; obtain ⟨lad, lcap, rfl⟩ := hv.slice; have hD := hD.grow hmM; refine WL.val (OpRun.lenS rfl ⟨Tryz.runUnderlying54⟩) rfl ?_; refine vm rfl rfl ?_; refine WL.nil ?_; refine WC.block ?_; refine WC.loop (fun m e w' => ∃ (k : Nat) (bv : Value), k ≤ l.length ∧ m = l.length - k ∧ Sub [(3, .pointer (some ⟨bB, 0, none⟩)), (7, .slice lad l.length lcap), (8, .int .i64 l.length), (9, .int .i64 k)] e ∧ LineV w' (.slice lad l.length lcap) l ∧ Bld w' w.heap.size bB bv ((l.take k).map txU) ∧ Mod (fun _ => False) w w') (l.length) ⟨0, _, by omega, by omega, ⟨rfl, rfl, rfl, rfl, trivial⟩, hv, hD, hG⟩ ?_
 rintro m e wl ⟨k, bv, hkl, rfl, hs, hv, hD, hG⟩
 refine WC.sub hs ?_; have hgs := hG.size; have htl : ((l.take k).map txU).length ≤ 1000 := by simp; omega
 refine wsr ?_; refine WL.val (OpRun.lss rfl rfl) rfl ?_; refine WL.nil ?_; refine WC.seq ?_; refine WC.condD rfl (fun hq5 => ?_) (fun hq5 => ?_)
 ·refine WC.skip ?_; refine WC.seq ?_; refine WC.block ?_; refine wsr ?_; obtain ⟨b, o, blk, rfl, hb, hA, hr⟩ := hv.some (by omega); obtain ⟨c, hc⟩ : ∃ c, c = l.getD k default := ⟨_, rfl⟩; obtain ⟨hc2, hc0, hc1⟩ := hk c (by rw [hc]; exact getD_mem (by omega)); have hC : At blk (o + k * 5) [.int .i32 c.r, .int .i64 c.kind, .int .i64 c.fg, .int .i64 c.bg, .int .i64 c.fl] := by rw [hc]; exact at_cell hA (by omega)
  refine WL.val (OpRun.indexAddr rfl rfl ⟨Tryz.runUnderlying54⟩ ⟨Tryz.sizeOf89⟩ (by omega) (by omega)) rfl ?_; refine WL.val (OpRun.loadA (vs := [.int .i32 c.r, .int .i64 c.kind, .int .i64 c.fg, .int .i64 c.bg, .int .i64 c.fl]) rfl ⟨Tryz.isAgg89⟩ ⟨Tryz.sizeOf89⟩ hb hC) rfl ?_; have hvl := hv.lt
  have hDl : ∀ k, k = bB ∨ bv.ownBlock = some k → k < wl.heap.size := fun k hk => by
    rcases hk with rfl | hk
    · exact hD.lt
    · obtain ⟨_, cs, h2⟩ := hD.own_ge hk
      exact h2.lt
  refine WL.step (OpTo.alloc (vs := [_, _, _, _, _]) ⟨Tryz.zeroValue89⟩ rfl rfl (fun bX wX hX hmX hloX hhiX => ?_)); have hb := hb.grow hmX; have hv := hv.grow hmX; have hD := hD.grow hmX; have hG := hG.grow hmX; refine WL.step (OpTo.storeA (vs := [_, _, _, _, _]) rfl rfl ⟨Tryz.sizeOf89⟩ rfl hX rfl (fun w7 hn7 hm7 hz7 => ?_))
  first | simp only [putList, List.set_cons_zero, List.set_cons_succ] at hn7 | dsimp only [putList, List.set] at hn7
  have hv := hv.mod hm7 (fun k hk (h : k = _) => by have := hvl k hk; omega); have hD := hD.mod hm7 (fun k hk (h : k = _) => by have := hDl k hk; omega); have hG := hG.trans hm7 (fun _ h => h) (fun x hx (hs : x = _) => by have := hG.size; omega); have hX := hn7; refine WL.nil ?_; refine WC.block ?_; refine wsr ?_; refine vf 1 Tryz.runUnderlying89 Tryz.sizeOf3 rfl rfl rfl rfl rfl ?_; refine WL.val (OpRun.load rfl ⟨Tryz.isAgg3⟩ hX rfl) rfl ?_; refine WL.val (OpRun.eql rfl rfl) rfl ?_; refine va rfl rfl ?_; refine WL.nil ?_; refine WC.condD rfl (fun hq8 => ?_) (fun hq8 => ?_)
  ·exfalso; omega
  ·refine wsr ?_; refine vf 0 Tryz.runUnderlying89 Tryz.sizeOf21 rfl rfl rfl rfl rfl ?_; refine WL.val (OpRun.load rfl ⟨Tryz.isAgg21⟩ hX rfl) rfl ?_; refine WL.val (OpRun.eql rfl rfl) rfl ?_; refine va rfl rfl ?_; refine WL.nil ?_; refine WC.condD rfl (fun hq9 => ?_) (fun hq9 => ?_)
   ·refine WC.region ?_; refine WL.step (OpTo.call ⟨Tryz.call72⟩ rfl rfl (wbyte_ok hD (by omega) (by have := hG.size; omega) 32 rfl) (fun v10 w10 hp10 => ?_)); obtain ⟨rfl, bv2, hD1, hmW⟩ := hp10; have hD0 := hD; have hD := hD1; have hv := hv.mod hmW (line_bld hv hD0)
    have hG := hG.trans hmW (fun _ h => h) (fun x hx hs => absurd hx (by
      rcases hs with rfl | hs
      · have := hD0.le; omega
      · have := (hD0.own_ge hs).1; omega))
    have hD : Bld w10 w.heap.size bB bv2 ((l.take k).map txU ++ [txU (l.getD k default)]) := by
      rw [← hc]; unfold txU; rw [if_pos (by omega)]; exact hD
    refine WL.nil ?_; refine WC.region ?_; refine WL.val (OpRun.add rfl rfl (In.i64 (by omega))) rfl ?_; refine vm rfl rfl ?_; refine WL.nil ?_; exact ⟨l.length - (k + 1), by omega, k + 1, _, by omega, rfl, ⟨rfl, rfl, rfl, rfl, trivial⟩, hv, by rw [take_txU (by omega)]; exact hD, hG⟩
   ·refine WC.region ?_; refine vf 0 Tryz.runUnderlying89 Tryz.sizeOf21 rfl rfl rfl rfl rfl ?_; refine WL.val (OpRun.load rfl ⟨Tryz.isAgg21⟩ hX rfl) rfl ?_; refine WL.step (OpTo.buildSlice (cs := [_]) rfl rfl rfl ⟨Tryz.runUnderlying128⟩ ⟨Tryz.sizeOf21⟩ ⟨Tryz.zeroValue21⟩ (fill_one (vs := [_]) rfl rfl) rfl (fun bE wE hbE hmE hloE hhiE => ?_)); have hX := hX.grow hmE; have hv := hv.grow hmE; have hD := hD.grow hmE; have hG := hG.grow hmE; refine WL.step (OpTo.call ⟨Tryz.call74⟩ rfl rfl (encode_ok hbE (by omega)) (fun vC wC hpC => ?_)); obtain ⟨ecap, hes, hmC⟩ := hpC; have hX := hX.grow hmC; have hbE := hbE.grow hmC; have hv := hv.grow hmC; have hD := hD.grow hmC; have hG := hG.grow hmC; refine WL.step (OpTo.call ⟨Tryz.call73⟩ rfl rfl (write_ok hD (by omega) (by have := hG.size; omega) (by omega) hes) (fun v12 w12 hp12 => ?_)); obtain ⟨bv2, hD1, hmW⟩ := hp12
    have hD0 := hD; have hD := hD1; have hv := hv.mod hmW (line_bld hv hD0)
    have hG := hG.trans hmW (fun _ h => h) (fun x hx hs => absurd hx (by
      rcases hs with rfl | hs
      · have := hD0.le; omega
      · have := (hD0.own_ge hs).1; omega))
    have hD : Bld w12 w.heap.size bB bv2 ((l.take k).map txU ++ [txU (l.getD k default)]) := by
      rw [← hc]; unfold txU; rw [if_neg (by omega)]; exact hD
    refine WL.nil ?_; refine WC.region ?_; refine WL.val (OpRun.add rfl rfl (In.i64 (by omega))) rfl ?_; refine vm rfl rfl ?_; refine WL.nil ?_; exact ⟨l.length - (k + 1), by omega, k + 1, _, by omega, rfl, ⟨rfl, rfl, rfl, rfl, trivial⟩, hv, by rw [take_txU (by omega)]; exact hD, hG⟩
 ·refine WC.exit ?_; refine wsr ?_; refine WL.step (OpTo.call ⟨Tryz.call76⟩ rfl rfl (string_ok hD (by have := hG.size; omega)) (fun v6 w6 hp6 => ?_)); obtain ⟨rfl, hmS⟩ := hp6; have hG := hG.trans hmS (fun _ h => h) (fun x hx hs => absurd hx (by omega)); refine WL.step (OpTo.call ⟨Tryz.call75⟩ rfl rfl (trim_ok _ (by show (l.take k).map txU |>.length |> (· ≤ 9223372036854775807); omega) rfl) (fun v7 w7 hp7 => ?_)); obtain ⟨rfl, rfl⟩ := hp7; refine va rfl rfl ?_; refine WL.nil ?_; refine WC.ret ?_; refine fin_one rfl rfl ?_; obtain rfl : k = l.length := by omega
  rw [List.take_length]; exact ⟨rfl, hG⟩

end Go.Eng
namespace Go.Eng
open Go Go.Proofs Go.Shelf

abbrev textV (l : List Cell) : Value := .string (textB l)
/-- A line of plain characters. -/
def PlainL (l : List Cell) : Prop := l.length ≤ 1000 ∧ mend l = l ∧ ∀ c ∈ l, c.kind ≠ 2 ∧ 0 ≤ c.r ∧ c.r < 128
theorem take_text {L : List (List Cell)} {k : Nat} (hk : k < L.length) : (L.take (k + 1)).map textV = (L.take k).map textV ++ [textV (L.getD k [])] := by
  rw [List.take_add_one, List.map_append]
  simp [hk, List.getD_eq_getElem?_getD]
theorem all_text (L : List (List Cell)) : (L.map textV).all Value.one = true := by
  rw [List.all_eq_true]; intro v hv; obtain ⟨l, _, rfl⟩ := List.mem_map.1 hv; rfl

set_option maxHeartbeats 1000000 in
theorem gtext_ok {w : World} {gb : Nat} {G : Grid} (h : GridW w gb G) (hP : ∀ l ∈ G.L, PlainL l) : Ret Tryz.prog 19 [.pointer (some ⟨gb, 0, none⟩)] w (fun r w' => (∃ cap, Sl w' r 9 1 (G.L.map textV) G.rows cap) ∧ Grow w w') := by
 have hB := h.blk; have hsl := h.sl; obtain ⟨b, o, vblk, hv, hb, hA, hrm⟩ := hsl.pos (by have := h.rows; omega); rw [hv] at hB hsl; have hvl := h.vlen; have hLl := h.Llen; have hrr := h.rows; have hcc := h.cols; have hle := hsl.hle; have hcp := hsl.hcap; have hlw := h.lines; refine Ret.of Tryz.func19 Tryz.ntmps19 rfl rfl ?_; refine WC.sub (e' := [(0, .pointer (some ⟨gb, 0, none⟩))]) ⟨rfl, trivial⟩ ?_; have hG : Mod (fun k => False) w w := Mod.refl _ _; refine wsr ?_; refine va rfl rfl ?_; refine WL.nil ?_; refine wsr ?_; refine va rfl rfl ?_; refine WL.nil ?_; refine WC.seq ?_; refine wsr ?_; refine vm rfl rfl ?_; refine vn rfl rfl ?_; refine vf 3 Tryz.runUnderlying85 Tryz.sizeOf83 rfl rfl rfl rfl rfl ?_
 first | refine WL.val (OpRun.load rfl ⟨Tryz.isAgg83⟩ hb rfl) rfl ?_ | refine WL.val (OpRun.load rfl ⟨Tryz.isAgg83⟩ hB rfl) rfl ?_
 refine WL.val (OpRun.lenS rfl ⟨Tryz.runUnderlying83⟩) rfl ?_; refine vm rfl rfl ?_; refine WL.nil ?_; refine WC.block ?_; refine WC.loop (fun m e w' => ∃ (k : Nat) (ov : Value) (oc : Nat), k ≤ G.rows ∧ m = G.rows - k ∧ Sub [(9, .slice (some ⟨b, o, none⟩) G.rows G.cap), (10, .int .i64 G.rows), (11, .int .i64 k), (3, ov)] e ∧ Blk w' b 54 vblk ∧ LinesW w' G.vs G.L ∧ Sl w' ov 9 1 ((G.L.take k).map textV) k oc ∧ Fresh w ov ∧ Mod (fun _ => False) w w') (G.rows) ⟨0, _, 0, by omega, by omega, ⟨rfl, rfl, rfl, rfl, trivial⟩, hb, hlw, Sl.nil _ _ _, Fresh.nil _, hG⟩ ?_
 rintro m e wl ⟨k, ov, oc, hk, rfl, hs, hb, hlw, hov, hfr, hG⟩
 refine WC.sub hs ?_; have hsz := hG.size; have hoc := hov.hle; refine wsr ?_; refine WL.val (OpRun.lss rfl rfl) rfl ?_; refine WL.nil ?_; refine WC.seq ?_; refine WC.condD rfl (fun hq3 => ?_) (fun hq3 => ?_)
 ·refine WC.skip ?_; refine WC.seq ?_; refine WC.block ?_; refine wsr ?_; refine WL.val (OpRun.indexAddr rfl rfl ⟨Tryz.runUnderlying83⟩ ⟨Tryz.sizeOf54⟩ (by omega) (by omega)) rfl ?_; refine WL.val (OpRun.load rfl ⟨Tryz.isAgg54⟩ hb (at_get1 (i := k) hA (by omega))) rfl ?_; refine va rfl rfl ?_; refine WL.nil ?_; refine WC.region ?_; refine vm rfl rfl ?_; refine vm rfl rfl ?_; refine WL.step (OpTo.call ⟨Tryz.call40⟩ rfl rfl (text_ok (hlw.get k (by omega)) (hP _ (getD_mem (by omega))).1 (hP _ (getD_mem (by omega))).2.1 (hP _ (getD_mem (by omega))).2.2) (fun vT wT hpT => ?_)); obtain ⟨rfl, hmT⟩ := hpT; have hb := hb.grow hmT; have hov := hov.grow hmT; have hG := hG.grow hmT; have hlw := hlw.grow hmT; refine WL.step (OpTo.buildSlice (cs := [_]) rfl rfl rfl ⟨Tryz.runUnderlying58⟩ ⟨Tryz.sizeOf9⟩ ⟨Tryz.zeroValue9⟩ (fill_one (vs := [_]) rfl rfl) rfl (fun bE wE hbE hmE hloE hhiE => ?_))
  have hb := hb.grow hmE; have hov := hov.grow hmE; have hG := hG.grow hmE; have hlw := hlw.grow hmE; refine WL.step (OpTo.append rfl ⟨Tryz.runUnderlying58⟩ ⟨Tryz.runUnderlying58⟩ (by intro k h; cases h) ⟨Tryz.sizeOf9⟩ hov (Sl.of hbE (cs := [_]) ⟨rfl, trivial⟩ (by simp) rfl (by omega) (by omega)).src (rfl) ⟨Tryz.zeroValue9⟩ rfl (by_ := 16) ⟨fun w => ⟨_, Tryz.typeInfo9 w, rfl⟩⟩ (by omega) (by omega) rfl rfl (fun vA wA hpA => ?_)); obtain ⟨capA, hSA, hmA, hbkA⟩ := hpA; have hb := hb.mod hmA (fun h => hov.ne hb rfl _ h rfl); have hfrA : Fresh w vA := fun k hk => hbkA.elim (fun h => hfr k (h ▸ hk)) (fun ⟨b, hb, hlt⟩ => by have h1 := hb.symm.trans hk; cases h1; have := hG.size; omega); have hG := hG.trans hmA (fun _ h => h) (fun x hx hs => absurd hx (by have := hfr x hs; omega)); have hlw := LinesW.modN hmA (NoLine.sl hov rfl) hlw; refine va rfl rfl ?_; refine WL.nil ?_; refine WC.region ?_
  refine WL.val (OpRun.add rfl rfl (In.i64 (by omega))) rfl ?_; refine vm rfl rfl ?_; refine WL.nil ?_; exact ⟨G.rows - (k + 1), by omega, k + 1, _, _, by omega, rfl, ⟨rfl, rfl, rfl, rfl, trivial⟩, hb, hlw, by rw [take_text (by omega)]; exact hSA, hfrA, hG⟩
 ·refine WC.exit ?_; refine wsr ?_; refine vm rfl rfl ?_; refine va rfl rfl ?_; refine WL.nil ?_; refine WC.ret ?_; refine fin_one rfl rfl ?_; obtain rfl : k = G.rows := by omega
  rw [← hLl, List.take_length] at hov; exact ⟨⟨oc, by rw [← hLl]; exact hov⟩, hG⟩

end Go.Eng
