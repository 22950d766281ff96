/-
  A part of a proof (Eng10 Str1): lemmas on what the program's functions do. No condition but those that each lemma states.
-/
import Derived.Laws.IdiomStrings
import Derived.Laws.Strings
import Derived.Shelf.Strconv.Itoa3
import Derived.Ground.NamesProg
import Derived.Test.YtdnhcimmbbcajaaGreatDoorP12
import Derived.Test.YtdnhcimmbbcajaaGreatDoorShelf
set_option maxRecDepth 8000
set_option linter.all false
namespace Go.Proofs
open Go.RowKit Go.Sort Go.Shelf
end Go.Proofs
namespace Go.Eng
open Go Go.Proofs

variable {n : Nat} {e : Env} {w : World} {K : Env → World → Prop} {ty : TypeId} {ps : String} {af : Array Edge} {g : Option (Nat × Bool)} {d : Nat} {dst : Option Tmp} {x y : Operand}

theorem run_str {op : BinOp} {t u : TypeId} {a b : ByteArray} {v : Value} (hop : op ≠ .shl ∧ op ≠ .shr) (hx : oval e x = some (.string a)) (hy : oval e y = some (.string b)) (h : (binOp op t (.string a) (.string b)).run Tryz.prog w = .ok v w) :
    OpRun Tryz.prog n e w { dst, op := .binOp op t x y u, type := ty, pos := ps, after := af, guard := g } v w := by
  constructor
  intro ac ha
  simp only [execOp, ha.eval hx, ha.eval hy]
  have hg : (eqGuard op t x y (.string a) (.string b)).run Tryz.prog w = .ok () w := by
    unfold eqGuard
    cases op <;> rfl
  rw [run_bind, run_bind, hg]
  dsimp only
  rw [h]
  rfl

theorem OpRun.seql {t u : TypeId} {a b : ByteArray} (hx : oval e x = some (.string a)) (hy : oval e y = some (.string b)) :
    OpRun Tryz.prog n e w { dst, op := .binOp .eql t x y u, type := ty, pos := ps, after := af, guard := g } (.bool (decide (a.data.toList = b.data.toList))) w :=
  run_str (by simp) hx hy (by rw [binOp_string_eql, show (a.toList == b.toList) = decide (a.data.toList = b.data.toList) from by rw [Bool.eq_iff_iff, ByteArray.toList_eq, ByteArray.toList_eq]; simp]; rfl)
theorem OpRun.sneq {t u : TypeId} {a b : ByteArray} (hx : oval e x = some (.string a)) (hy : oval e y = some (.string b)) :
    OpRun Tryz.prog n e w { dst, op := .binOp .neq t x y u, type := ty, pos := ps, after := af, guard := g } (.bool (decide (¬ a.data.toList = b.data.toList))) w :=
  run_str (by simp) hx hy (by rw [binOp_string_neq, show (!(a.toList == b.toList)) = decide (¬ a.data.toList = b.data.toList) from by rw [Bool.eq_iff_iff, ByteArray.toList_eq, ByteArray.toList_eq]; simp]; rfl)
theorem OpRun.sadd {t u : TypeId} {a b : ByteArray} (hx : oval e x = some (.string a)) (hy : oval e y = some (.string b)) (hs : a.size + b.size ≤ 4611686018427387904) :
    OpRun Tryz.prog n e w { dst, op := .binOp .add t x y u, type := ty, pos := ps, after := af, guard := g } (.string (a ++ b)) w :=
  run_str (by simp) hx hy (by
    rw [binOp_string_add]
    unfold Op.stringOp
    dsimp only
    have hmax : IntKind.i64.max = 9223372036854775807 := by decide
    rw [if_neg (by rw [hmax]; omega)]; rfl)

theorem OpRun.convStr {k : IntKind} {t : TypeId} {a : Int} (hx : oval e x = some (.int k a)) (ht : TIs Tryz.prog t (.int k)) :
    OpRun Tryz.prog n e w { dst, op := .convert t 9 x, type := ty, pos := ps, after := af, guard := g } (.string (Utf8.encode a)) w :=
  ⟨fun ac ha => by
    have h1 : (convert t 9 (.int k a)).run Tryz.prog w = .ok (.string (Utf8.encode a)) w := by
      unfold convert
      rw [run_bind, ht.out]; dsimp only
      rw [run_bind, Tryz.runUnderlying9]; rfl
    simp only [execOp, ha.eval hx]
    rw [run_bind, h1]; rfl⟩

theorem OpRun.indexS {a : ByteArray} {k : IntKind} {i : Int} (hx : oval e x = some (.string a)) (hy : oval e y = some (.int k i)) (h0 : 0 ≤ i) (h1 : i.toNat < a.size) :
    OpRun Tryz.prog n e w { dst, op := .index 9 x y, type := ty, pos := ps, after := af, guard := g } (.int .u8 (a[i.toNat]'h1).toNat) w :=
  ⟨fun ac ha => by
    have h2 : (Instr.index 9 (.string a) (.int k i)).run Tryz.prog w = .ok (.int .u8 (a[i.toNat]'h1).toNat) w := by
      unfold Instr.index
      simp only [asIntOf]
      rw [run_bind, run_pure]; dsimp only
      rw [run_bind, Tryz.runUnderlying9]; dsimp only
      rw [if_pos h0, getElem?_pos a i.toNat h1]
      rfl
    simp only [execOp, ha.eval hx, ha.eval hy]
    rw [run_bind, h2]; rfl⟩

/-- Bytes in memory, as a string is turned into them. -/
def BytesV (w : World) (v : Value) (s : ByteArray) : Prop := ∃ b cap, v = .slice (some ⟨b, 0, none⟩) s.size cap ∧ b < w.heap.size ∧ ∀ j (hj : j < s.data.toList.length), w.cell? ⟨b, j, none⟩ = some (.int .u8 (s.data.toList[j].toNat : Int))
theorem BytesV.grow {w' : World} {v : Value} {s : ByteArray} (h : BytesV w v s) (hm : Grow w w') : BytesV w' v s := by
  obtain ⟨b, cap, hv, hb, hc⟩ := h
  refine ⟨b, cap, hv, Nat.lt_of_lt_of_le hb hm.size, fun j hj => ?_⟩
  rw [← hc j hj]
  unfold World.cell?
  rw [hm.block b hb (fun h => h)]

theorem OpTo.strBytes {s : ByteArray} (hx : oval e x = some (.string s)) (hd : Nat.blt d n = true) (kk : ∀ v w', BytesV w' v s → Grow w w' → K ((d, v) :: e) w') :
    OpTo Tryz.prog n e w { dst := some d, op := .convert 9 33 x, type := ty, pos := ps, after := af, guard := g } K := by
  have h1 := run_bytes_of_string (P := Tryz.prog) w 9 33 5 s Tryz.underlying9 Tryz.underlying33 Tryz.underlying5
  refine OpTo.val (v := .slice (some ⟨w.heap.size, 0, none⟩) s.size (grownCap w s.size 0 5)) (w' := w.drew.alloc (.cells (bytesRow s (grownCap w s.size 0 5)) 5 ((bytesRow s (grownCap w s.size 0 5)).size, (bytesRow s (grownCap w s.size 0 5)).size + 1))) ⟨fun ac ha => ?_⟩ hd (kk _ _ ⟨w.heap.size, _, rfl, ?_, fun j hj => ?_⟩ ?_)
  · simp only [execOp, ha.eval hx]
    rw [run_bind, h1]; rfl
  · show w.heap.size < (w.heap.push _).size
    simp
  · have hj' : j < s.data.size := by simpa using hj
    unfold World.cell?
    have hh : (w.drew.alloc (.cells (bytesRow s (grownCap w s.size 0 5)) 5 ((bytesRow s (grownCap w s.size 0 5)).size, (bytesRow s (grownCap w s.size 0 5)).size + 1))).heap[w.heap.size]? = some (.cells (bytesRow s (grownCap w s.size 0 5)) 5 ((bytesRow s (grownCap w s.size 0 5)).size, (bytesRow s (grownCap w s.size 0 5)).size + 1)) := by
      show (w.heap.push _)[w.heap.size]? = _
      simp
    rw [hh]
    dsimp only
    rw [if_neg (by simp)]
    unfold bytesRow
    rw [Array.getElem?_append_left (by simpa using hj')]
    simp
    exact ⟨_, Array.getElem?_eq_getElem hj', rfl⟩
  · exact ⟨rfl, rfl, rfl, by simp, fun k hk _ => RowKit.Below.heap_alloc _ _ _ hk⟩

theorem Itoa_ok {w : World} (z : Nat) (hz : z < 100) : Ret Tryz.prog 59 [.int .i64 z] w (fun r w' => r = .string ⟨(Lib.decDigits z).toArray⟩ ∧ w = w') :=
  ⟨Calls.mono (Any.strconv_Itoa_small Kz.lItoa0 z hz w) (fun _ _ h => ⟨_, h.1, rfl, h.2.symm⟩)⟩
end Go.Eng
namespace Go.Eng
open Go Go.Proofs
def itoaB (n : Int) : ByteArray := ⟨(Lib.itoa n).toArray⟩
abbrev Tab (w : World) : Prop := Lib.TabIs Tryz.prog w "internal/strconv.uint64pow10" .u64 Lib.pow10Tab

theorem dec_len : ∀ (k u : Nat), 1 ≤ k → u < 10 ^ k → (Lib.decDigits u).length ≤ k := by
  intro k
  induction k with
  | zero => intro u h; omega
  | succ k ih =>
    intro u _ h
    rw [Lib.decDigits]
    split
    · simp
    · rename_i h10
      rw [List.length_append]
      by_cases hk : k = 0
      · subst hk; simp at h; omega
      · have := ih (u / 10) (by omega) (by rw [Nat.pow_succ] at h; omega)
        simp; omega
theorem itoaB_size {n : Int} (h : -9223372036854775808 ≤ n ∧ n ≤ 9223372036854775807) : (itoaB n).size ≤ 21 := by
  show (Lib.itoa n).toArray.size ≤ 21
  unfold Lib.itoa
  split
  · have := dec_len 20 n.natAbs (by omega) (by omega)
    simp; omega
  · have := dec_len 20 n.toNat (by omega) (by omega)
    simp; omega
theorem grow_of {w : World} {k : Nat} {os : Array Obj} : Grow w (Sort.grow (w.drewN k) os) :=
  ⟨rfl, rfl, rfl, by simp [Sort.grow], fun j hj _ => by
    show ((w.drewN k).heap ++ os)[j]? = _
    have hj' : j < (w.drewN k).heap.size := hj
    rw [Array.getElem?_append_left hj']; rfl⟩
theorem Tab.mod {S : Nat → Prop} {w w' : World} (h : Tab w) (hm : Mod S w w') (hs : ∀ g, Tryz.prog.globalNamed "internal/strconv.uint64pow10" = some g → ¬ S g) : Tab w' := by
  unfold Tab Lib.TabIs World.var? at h ⊢
  rw [← h]
  cases hg : Tryz.prog.globalNamed "internal/strconv.uint64pow10" with
  | none => rfl
  | some g =>
    rw [hg] at h
    simp only [Option.bind_some] at h ⊢
    by_cases hlt : g < w.heap.size
    · rw [hm.block g hlt (hs g hg)]
    · rw [Array.getElem?_eq_none (by omega)] at h; cases h
theorem Tab.grow {w w' : World} (h : Tab w) (hm : Grow w w') : Tab w' := h.mod hm fun _ _ h => h
theorem ItoaT_ok {w : World} (ht : Tab w) (n : Int) (h : -9223372036854775808 ≤ n ∧ n ≤ 9223372036854775807) : Ret Tryz.prog 59 [.int .i64 n] w (fun r w' => r = .string (itoaB n) ∧ (itoaB n).size ≤ 21 ∧ Grow w w') :=
  ⟨Calls.mono (Any.strconv_Itoa Kz.lItoa n h.1 h.2 w ht) (fun _ _ hh => by
    obtain ⟨he, k, os, rfl⟩ := hh
    exact ⟨_, he, rfl, itoaB_size h, grow_of⟩)⟩

theorem reply_ok {w : World} (s : ByteArray) (hs : s.size ≤ 1048576) : Ret Tryz.prog 57 [.string s] w (fun r w' => BytesV w' r ((⟨#[27, 91]⟩ : ByteArray) ++ s) ∧ Grow w w') := by
 refine Ret.of Tryz.func57 Tryz.ntmps57 rfl rfl ?_; refine WC.sub (e' := [(0, .string s)]) ⟨rfl, trivial⟩ ?_; have hG : Mod (fun k => False) w w := Mod.refl _ _; refine wsr ?_; refine va rfl rfl ?_; refine WL.nil ?_; refine wsr ?_; refine vm rfl rfl ?_; refine WL.val (OpRun.sadd rfl rfl (by show (2 : Nat) + s.size ≤ _; omega)) rfl ?_; refine WL.step (OpTo.strBytes rfl rfl (fun vS wS hS hmS => ?_)); have hG := hG.grow hmS; refine va rfl rfl ?_; refine WL.nil ?_; refine WC.ret ?_; refine fin_one rfl rfl ?_; exact ⟨hS, hG⟩

def placeB (S : Scr) : ByteArray := itoaB ((if S.c.origin = true then max ((S.c.row : Int) - S.top) 0 else (S.c.row : Int)) + 1) ++ (⟨#[59]⟩ : ByteArray) ++ itoaB ((S.c.col : Int) + 1)
theorem placeB_size {S : Scr} (h1 : S.c.row < 1000) (h2 : S.c.col < 1000) : (placeB S).size ≤ 100 := by
  unfold placeB
  rw [ByteArray.size_append', ByteArray.size_append']
  have a := itoaB_size (n := (if S.c.origin = true then max ((S.c.row : Int) - S.top) 0 else (S.c.row : Int)) + 1) (by split <;> omega)
  have b := itoaB_size (n := (S.c.col : Int) + 1) (by omega)
  have c : (⟨#[59]⟩ : ByteArray).size = 1 := rfl
  omega

theorem place_ok {w : World} {sb : Nat} {S : Scr} (h : ScrW w sb S) (ht : Tab w) : Ret Tryz.prog 58 [.pointer (some ⟨sb, 0, none⟩)] w (fun r w' => r = .string (placeB S) ∧ Grow w w') := by
 have hB := h.blk; unfold Scr.vals at hB; obtain ⟨hR1, hR2, hC1, hC2, hGr, hGc, hcr, hcc, hcs, htp, hpr⟩ := Scr.dims h; refine Ret.of Tryz.func58 Tryz.ntmps58 rfl rfl ?_; refine WC.sub (e' := [(0, .pointer (some ⟨sb, 0, none⟩))]) ⟨rfl, trivial⟩ ?_; have hG : Mod (fun k => False) w w := Mod.refl _ _; refine wsr ?_; refine va rfl rfl ?_; refine WL.nil ?_; refine wsr ?_; refine vm rfl rfl ?_; refine vn rfl rfl ?_; refine vf 3 Tryz.runUnderlying70 Tryz.sizeOf43 rfl rfl rfl rfl rfl ?_; refine vf 0 Tryz.runUnderlying43 Tryz.sizeOf3 rfl rfl rfl rfl rfl ?_; refine WL.val (OpRun.load rfl ⟨Tryz.isAgg3⟩ hB rfl) rfl ?_; refine va rfl rfl ?_; refine WL.nil ?_; refine WC.seq ?_; refine wsr ?_
 refine vm rfl rfl ?_; refine vn rfl rfl ?_; refine vf 3 Tryz.runUnderlying70 Tryz.sizeOf43 rfl rfl rfl rfl rfl ?_; refine vf 6 Tryz.runUnderlying43 Tryz.sizeOf4 rfl rfl rfl rfl rfl ?_; refine WL.val (OpRun.load rfl ⟨Tryz.isAgg4⟩ hB rfl) rfl ?_; refine WL.nil ?_; refine WC.cond rfl (fun hq1 => ?_) (fun hq1 => ?_)
 ·refine WC.region ?_; refine vm rfl rfl ?_; refine vm rfl rfl ?_; refine vn rfl rfl ?_; refine vf 37 Tryz.runUnderlying70 Tryz.sizeOf3 rfl rfl rfl rfl rfl ?_; refine WL.val (OpRun.load rfl ⟨Tryz.isAgg3⟩ hB rfl) rfl ?_; refine WL.val (OpRun.sub rfl rfl (In.i64 (by omega))) rfl ?_; refine WL.val (OpRun.bmax rfl) rfl ?_; refine va rfl rfl ?_; refine WL.nil ?_; refine WC.seq ?_; refine WC.regionD (fun w0 w1 => Grow w0 w1) 13 rfl mixed (fun w2 hm2 hz2 => ?_); have hmD4 := hm2; have hB := hB.grow hm2; have ht := ht.grow hm2; have hG := hG.grow hm2; have hSc := Mod.refl (fun k => False) w2; refine WH.take 0 rfl (by kernel_rfl) hSc (fun w1 h1 => OpRun.move rfl) ?_; refine WH.take 1 rfl (by kernel_rfl) hSc (fun w1 h1 => OpRun.add rfl rfl (In.i64 (by omega))) ?_; refine WH.take 4 rfl (by kernel_rfl) hSc (fun w1 h1 => OpRun.move rfl) ?_
  refine WH.take 5 rfl (by kernel_rfl) hSc (fun w1 h1 => OpRun.nilCheck rfl) ?_; refine WH.take 6 rfl (by kernel_rfl) hSc (fun _ _ => oF 3 Tryz.runUnderlying70 Tryz.sizeOf43 rfl rfl rfl rfl) ?_; refine WH.take 7 rfl (by kernel_rfl) hSc (fun _ _ => oF 1 Tryz.runUnderlying43 Tryz.sizeOf3 rfl rfl rfl rfl) ?_; refine WH.take 8 rfl (by kernel_rfl) hSc (fun w1 h1 => OpRun.load rfl ⟨Tryz.isAgg3⟩ (hB.grow h1) rfl) ?_; refine WH.take 9 rfl (by kernel_rfl) hSc (fun w1 h1 => OpRun.add rfl rfl (In.i64 (by omega))) ?_; refine WH.one 2 rfl (by kernel_rfl) (OpTo.call ⟨Tryz.call59⟩ rfl rfl (ItoaT_ok ht _ (by omega)) (fun v3 w3 hp3 => ?_)); obtain ⟨rfl, hz1, hm3⟩ := hp3; have hB := hB.grow hm3; have ht := ht.grow hm3; have hG := hG.grow hm3; have hSc := hSc.grow hm3; refine ⟨fun _ => hSc, ?_⟩; refine WH.take 3 rfl (by kernel_rfl) hSc (fun w1 h1 => OpRun.sadd rfl rfl (by show _ + 1 ≤ _; omega)) ?_
  refine WH.one 10 rfl (by kernel_rfl) (OpTo.call ⟨Tryz.call59⟩ rfl rfl (ItoaT_ok ht _ (by omega)) (fun v4 w4 hp4 => ?_)); obtain ⟨rfl, hz2, hm4⟩ := hp4; have hB := hB.grow hm4; have ht := ht.grow hm4; have hG := hG.grow hm4; have hSc := hSc.grow hm4; refine ⟨fun _ => hSc, ?_⟩; refine WH.one 11 rfl (by kernel_rfl) (OpTo.val (OpRun.sadd rfl rfl (by rw [ByteArray.size_append']; show _ + 1 + _ ≤ _; omega)) rfl ?_); refine ⟨fun _ => hSc, ?_⟩; refine WH.one 12 rfl (by kernel_rfl) (OpTo.val (OpRun.assign rfl) rfl ?_); refine ⟨fun _ => hSc, ?_⟩; refine WH.done (by kernel_rfl) ?_; refine WC.ret ?_; refine fin_one rfl rfl ?_; refine ⟨?_, hG⟩; unfold placeB
  first | rw [if_pos (by assumption)] | rw [if_neg (by simp_all)]
 ·refine WC.skip ?_; refine WC.seq ?_; refine WC.regionD (fun w0 w1 => Grow w0 w1) 13 rfl mixed (fun w2 hm2 hz2 => ?_); have hmD4 := hm2; have hB := hB.grow hm2; have ht := ht.grow hm2; have hG := hG.grow hm2; have hSc := Mod.refl (fun k => False) w2; refine WH.take 0 rfl (by kernel_rfl) hSc (fun w1 h1 => OpRun.move rfl) ?_; refine WH.take 1 rfl (by kernel_rfl) hSc (fun w1 h1 => OpRun.add rfl rfl (In.i64 (by omega))) ?_; refine WH.take 4 rfl (by kernel_rfl) hSc (fun w1 h1 => OpRun.move rfl) ?_; refine WH.take 5 rfl (by kernel_rfl) hSc (fun w1 h1 => OpRun.nilCheck rfl) ?_; refine WH.take 6 rfl (by kernel_rfl) hSc (fun _ _ => oF 3 Tryz.runUnderlying70 Tryz.sizeOf43 rfl rfl rfl rfl) ?_; refine WH.take 7 rfl (by kernel_rfl) hSc (fun _ _ => oF 1 Tryz.runUnderlying43 Tryz.sizeOf3 rfl rfl rfl rfl) ?_; refine WH.take 8 rfl (by kernel_rfl) hSc (fun w1 h1 => OpRun.load rfl ⟨Tryz.isAgg3⟩ (hB.grow h1) rfl) ?_
  refine WH.take 9 rfl (by kernel_rfl) hSc (fun w1 h1 => OpRun.add rfl rfl (In.i64 (by omega))) ?_; refine WH.one 2 rfl (by kernel_rfl) (OpTo.call ⟨Tryz.call59⟩ rfl rfl (ItoaT_ok ht _ (by omega)) (fun v3 w3 hp3 => ?_)); obtain ⟨rfl, hz1, hm3⟩ := hp3; have hB := hB.grow hm3; have ht := ht.grow hm3; have hG := hG.grow hm3; have hSc := hSc.grow hm3; refine ⟨fun _ => hSc, ?_⟩; refine WH.take 3 rfl (by kernel_rfl) hSc (fun w1 h1 => OpRun.sadd rfl rfl (by show _ + 1 ≤ _; omega)) ?_; refine WH.one 10 rfl (by kernel_rfl) (OpTo.call ⟨Tryz.call59⟩ rfl rfl (ItoaT_ok ht _ (by omega)) (fun v4 w4 hp4 => ?_)); obtain ⟨rfl, hz2, hm4⟩ := hp4; have hB := hB.grow hm4; have ht := ht.grow hm4; have hG := hG.grow hm4; have hSc := hSc.grow hm4; refine ⟨fun _ => hSc, ?_⟩; refine WH.one 11 rfl (by kernel_rfl) (OpTo.val (OpRun.sadd rfl rfl (by rw [ByteArray.size_append']; show _ + 1 + _ ≤ _; omega)) rfl ?_); refine ⟨fun _ => hSc, ?_⟩
  refine WH.one 12 rfl (by kernel_rfl) (OpTo.val (OpRun.assign rfl) rfl ?_); refine ⟨fun _ => hSc, ?_⟩; refine WH.done (by kernel_rfl) ?_; refine WC.ret ?_; refine fin_one rfl rfl ?_; refine ⟨?_, hG⟩; unfold placeB
  first | rw [if_pos (by assumption)] | rw [if_neg (by simp_all)]

end Go.Eng
