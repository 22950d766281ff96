/-
  A part of a proof (Kn1 Kn2): lemmas on what the program's functions do. No condition but those that each lemma states.
-/
import Derived.Test.YtdnhcimmbbcajaaGreatDoorP23
set_option maxRecDepth 8000
set_option linter.all false
namespace Go.Eng
open Go Go.Proofs Go.Shelf

/-! ### The play of the guard: what its screen holds -/
def kB : Cell := blank ⟨0, 0, 0⟩
def kC (r : Int) : Cell := ⟨r, 0, 16777217, 0, 0⟩
def kL : Nat → List (List Cell)
  | 0 => [[kB, kB, kB, kB], [kB, kB, kB, kB], [kB, kB, kB, kB]]
  | 1 => [[kC 97, kB, kB, kB], [kB, kB, kB, kB], [kB, kB, kB, kB]]
  | 2 => [[kC 97, kC 98, kB, kB], [kB, kB, kB, kB], [kB, kB, kB, kB]]
  | 3 => [[kC 97, kC 98, kC 99, kB], [kB, kB, kB, kB], [kB, kB, kB, kB]]
  | 4 => [[kC 97, kC 98, kC 99, kC 100], [kB, kB, kB, kB], [kB, kB, kB, kB]]
  | _ => [[kC 97, kC 98, kC 99, kC 100], [kC 101, kB, kB, kB], [kB, kB, kB, kB]]
def kcur : Nat → Cur
  | 0 => ⟨0, 0, false, ⟨16777217, 0, 0⟩, false, 66, 66, 0⟩
  | 1 => ⟨0, 1, false, ⟨16777217, 0, 0⟩, false, 66, 66, 0⟩
  | 2 => ⟨0, 2, false, ⟨16777217, 0, 0⟩, false, 66, 66, 0⟩
  | 3 => ⟨0, 3, false, ⟨16777217, 0, 0⟩, false, 66, 66, 0⟩
  | 4 => ⟨0, 3, true, ⟨16777217, 0, 0⟩, false, 66, 66, 0⟩
  | _ => ⟨1, 1, false, ⟨16777217, 0, 0⟩, false, 66, 66, 0⟩

structure KnS (i : Nat) (S : Scr) : Prop where
  now : S.now = 0
  rows : S.G0.rows = 3
  cols : S.G0.cols = 4
  L : S.G0.L = kL i
  c : S.c = kcur i
  mf : S.mf = fun _ => false
  pf : S.pf = fun x => if x = 25 then true else if x = 7 then true else false
  top : S.top = 0
  past : S.past = 3

theorem KnS.layK {i : Nat} {S : Scr} (h : KnS i S) (hi : i < 5) : LayK S (97 + i) := by
  refine ⟨by rw [h.pf]; rfl, by rw [h.mf], ?_, ?_⟩
  · match i, hi with
    | 0, _ => decide
    | 1, _ => decide
    | 2, _ => decide
    | 3, _ => decide
    | 4, _ => decide
  · intro _
    rw [h.c, h.past]
    match i, hi with
    | 0, _ => decide
    | 1, _ => decide
    | 2, _ => decide
    | 3, _ => decide
    | 4, _ => decide
theorem KnS.step {i : Nat} {S : Scr} (h : KnS i S) (hi : i < 5) (v : Value) : KnS (i + 1) (S.lay4 (97 + i) v) := by
  obtain ⟨g0, g1, now, c, v0, i0, v1, i1, mm, pm, top, past, tb, char, av, G0, G1, mf, pf, T, avs, an, acap⟩ := S
  obtain ⟨rb, ring, rows, cols, gv, cap, vs, L, gtop⟩ := G0
  obtain ⟨h1, h2, h3, h4, h5, h6, h7, h8, h9⟩ := h
  dsimp only at h1 h2 h3 h4 h5 h6 h7 h8 h9
  subst h1 h2 h3 h4 h5 h6 h7 h8 h9
  match i, hi with
  | 0, _ => exact ⟨by kernel_rfl, by kernel_rfl, by kernel_rfl, by kernel_rfl, by kernel_rfl, by kernel_rfl, by kernel_rfl, by kernel_rfl, by kernel_rfl⟩
  | 1, _ => exact ⟨by kernel_rfl, by kernel_rfl, by kernel_rfl, by kernel_rfl, by kernel_rfl, by kernel_rfl, by kernel_rfl, by kernel_rfl, by kernel_rfl⟩
  | 2, _ => exact ⟨by kernel_rfl, by kernel_rfl, by kernel_rfl, by kernel_rfl, by kernel_rfl, by kernel_rfl, by kernel_rfl, by kernel_rfl, by kernel_rfl⟩
  | 3, _ => exact ⟨by kernel_rfl, by kernel_rfl, by kernel_rfl, by kernel_rfl, by kernel_rfl, by kernel_rfl, by kernel_rfl, by kernel_rfl, by kernel_rfl⟩
  | 4, _ => exact ⟨by kernel_rfl, by kernel_rfl, by kernel_rfl, by kernel_rfl, by kernel_rfl, by kernel_rfl, by kernel_rfl, by kernel_rfl, by kernel_rfl⟩
theorem kn_plain : ∀ l ∈ kL 5, PlainL l := by
  intro l hl
  have hl : l = [kC 97, kC 98, kC 99, kC 100] ∨ l = [kC 101, kB, kB, kB] ∨ l = [kB, kB, kB, kB] := by simpa [kL] using hl
  rcases hl with rfl | rfl | rfl
  · exact ⟨by decide, by kernel_rfl, by decide⟩
  · exact ⟨by decide, by kernel_rfl, by decide⟩
  · exact ⟨by decide, by kernel_rfl, by decide⟩
theorem kn_text : (kL 5).map textV = [.string ⟨#[97, 98, 99, 100]⟩, .string ⟨#[101]⟩, .string ⟨#[]⟩] := by kernel_rfl
theorem kn_place {S : Scr} (h : KnS 5 S) : (⟨#[27, 91]⟩ : ByteArray) ++ (placeB S ++ (⟨#[82]⟩ : ByteArray)) = ⟨#[27, 91, 50, 59, 50, 82]⟩ := by
  have e : placeB S = ⟨#[50, 59, 50]⟩ := by
    unfold placeB
    rw [h.c]
    kernel_rfl
  rw [e]; rfl
end Go.Eng
namespace Go.Eng
open Go Go.Proofs Go.Shelf

theorem tb35_0_5_2 {k b : Int} {a : Option Addr} {l c : Nat} : TBuild Tryz.prog 35 [(0, .int .i64 k), (5, .slice a l c), (2, .int .u8 b)] (.agg #[.int .i64 k, .int .i32 0, .int .u8 b, .int .u8 0, .string .empty, .slice a l c, .slice none 0 0]) :=
  TBuild.struct (cs := [.int .i64 k, .int .i32 0, .int .u8 b, .int .u8 0, .string .empty, .slice a l c, .slice none 0 0]) ⟨Tryz.zeroValue35⟩ ⟨Tryz.runUnderlying35⟩ (places := #[(0, 1), (1, 1), (2, 1), (3, 1), (4, 1), (5, 1), (6, 1)]) (fun w => by simp [Tryz.sizeOf3, Tryz.sizeOf21, Tryz.sizeOf5, Tryz.sizeOf9, Tryz.sizeOf32, Tryz.sizeOf33]) rfl
theorem tb35_0_1 {k r : Int} : TBuild Tryz.prog 35 [(0, .int .i64 k), (1, .int .i32 r)] (.agg #[.int .i64 k, .int .i32 r, .int .u8 0, .int .u8 0, .string .empty, .slice none 0 0, .slice none 0 0]) :=
  TBuild.struct (cs := [.int .i64 k, .int .i32 r, .int .u8 0, .int .u8 0, .string .empty, .slice none 0 0, .slice none 0 0]) ⟨Tryz.zeroValue35⟩ ⟨Tryz.runUnderlying35⟩ (places := #[(0, 1), (1, 1), (2, 1), (3, 1), (4, 1), (5, 1), (6, 1)]) (fun w => by simp [Tryz.sizeOf3, Tryz.sizeOf21, Tryz.sizeOf5, Tryz.sizeOf9, Tryz.sizeOf32, Tryz.sizeOf33]) rfl
theorem tb35_0_2 {k b : Int} : TBuild Tryz.prog 35 [(0, .int .i64 k), (2, .int .u8 b)] (.agg #[.int .i64 k, .int .i32 0, .int .u8 b, .int .u8 0, .string .empty, .slice none 0 0, .slice none 0 0]) :=
  TBuild.struct (cs := [.int .i64 k, .int .i32 0, .int .u8 b, .int .u8 0, .string .empty, .slice none 0 0, .slice none 0 0]) ⟨Tryz.zeroValue35⟩ ⟨Tryz.runUnderlying35⟩ (places := #[(0, 1), (1, 1), (2, 1), (3, 1), (4, 1), (5, 1), (6, 1)]) (fun w => by simp [Tryz.sizeOf3, Tryz.sizeOf21, Tryz.sizeOf5, Tryz.sizeOf9, Tryz.sizeOf32, Tryz.sizeOf33]) rfl

theorem tb23_0_1_2_3 {a b c d : Int} : TBuild Tryz.prog 23 [(0, .int .i64 a), (1, .int .i64 b), (2, .int .i64 c), (3, .int .i64 d)] (.agg #[.int .i64 a, .int .i64 b, .int .i64 c, .int .i64 d, .int .i64 0, .int .i64 0]) :=
  TBuild.struct (cs := [.int .i64 a, .int .i64 b, .int .i64 c, .int .i64 d, .int .i64 0, .int .i64 0]) ⟨Tryz.zeroValue23⟩ ⟨Tryz.runUnderlying23⟩ (places := #[(0, 1), (1, 1), (2, 1), (3, 1), (4, 1), (5, 1)]) (fun w => by simp [Tryz.sizeOf3]) rfl

/-- From the call's start on: what was there stays, what is the screen's is new. -/
theorem FinK.next {w wl wl' : World} {sb n : Nat} {S S' : Scr} (h : FinK wl wl' sb S S' n) (hG : Mod (fun _ => False) w wl) (hown : ∀ k, S.own sb k → w.heap.size ≤ k) : Mod (fun _ => False) w wl' ∧ ∀ k, S'.own sb k → w.heap.size ≤ k :=
  ⟨hG.trans h.op.mod (fun _ h => h) (fun x hx hs => absurd hx (by have := hown x hs; omega)), fun k hk => (h.op.own k hk).elim (hown k) (fun h => by have := hG.size; omega)⟩

theorem kcfg : CfgOk 3 4 1 1 0 0 := ⟨by omega, by omega, by omega, by omega, by omega, by omega⟩
theorem KnS.s0 {i : Nat} {S : Scr} (h : KnS i S) : S.c.s0 ≠ 48 ∧ S.c.s1 ≠ 48 := by
  rw [h.c]
  unfold kcur
  split <;> decide

section
variable {n : Nat} {e : Env} {w : World} {K : Env → World → Prop} {ty : TypeId} {ps : String} {af : Array Edge} {g : Option (Nat × Bool)} {d : Nat} {dst : Option Tmp} {x y : Operand}
/-- string(b) -/
theorem OpRun.convBytes {s : ByteArray} {v : Value} (hx : oval e x = some v) (h : BytesV w v s) (hs : s.size ≤ 1000000) :
    OpRun Tryz.prog n e w { dst, op := .convert 33 9 x, type := ty, pos := ps, after := af, guard := g } (.string s) w := by
  obtain ⟨b, cap, rfl, hb, hc⟩ := h
  constructor
  intro ac ha
  have hl : s.size = s.data.toList.length := by simp
  have hr := run_convert_bytes_back (P := Tryz.prog) w 33 9 5 ⟨b, 0, none⟩ cap s.data.toList Tryz.underlying33 Tryz.underlying5 Tryz.underlying9 (fun j hj => by
    have e1 : (⟨b, 0, none⟩ : Addr).add j = ⟨b, j, none⟩ := by unfold Addr.add; by_cases h0 : j = 0 <;> simp [h0]
    rw [e1]; exact hc j hj)
  simp only [execOp, ha.eval hx]
  rw [run_bind, hl, hr]
  rfl
theorem BytesV.lt {s : ByteArray} {v : Value} (h : BytesV w v s) : ∀ k, sblk v = some k → k < w.heap.size := by
  obtain ⟨b, cap, rfl, hb, hc⟩ := h
  intro k hk; cases hk; exact hb
theorem BytesV.mod {S : Nat → Prop} {w' : World} {s : ByteArray} {v : Value} (h : BytesV w v s) (hm : Mod S w w') (hs : ∀ k, sblk v = some k → ¬ S k) : BytesV w' v s := by
  obtain ⟨b, cap, rfl, hb, hc⟩ := h
  refine ⟨b, cap, rfl, Nat.lt_of_lt_of_le hb hm.size, fun j hj => ?_⟩
  rw [← hc j hj]
  unfold World.cell?
  rw [hm.block b hb (hs b rfl)]
end

set_option maxHeartbeats 1000000 in
theorem known_ok {w : World} (ht : Tab w) : Ret Tryz.prog 5 [] w (fun r w' => r = .bool true ∧ Grow w w') := by
 refine Ret.of Tryz.func5 Tryz.ntmps5 rfl rfl ?_; refine WC.sub (e' := []) trivial ?_; have hG : Mod (fun k => False) w w := Mod.refl _ _; refine wsr ?_; refine va rfl rfl ?_; refine WL.nil ?_; refine wsr ?_; refine WL.val (OpRun.build rfl tb23_0_1_2_3) rfl ?_; refine WL.step (OpTo.call ⟨Tryz.call8⟩ rfl rfl (new_ok (r := 3) (c := 4) (bk := 0) (cw := 1) (ch := 1) (q := 0) kcfg) (fun vN wN hpN => ?_)); obtain ⟨sb, S0, rfl, hW, hc, hnow, hr, hcl, -, -, hL, han, htop, hpast, hmf, hpf, hmN, hown⟩ := hpN; have hG := hG.grow hmN; refine vm rfl rfl ?_; refine WL.val (OpRun.extract rfl rfl) rfl ?_; refine WL.val (OpRun.extract rfl rfl) rfl ?_; refine va rfl rfl ?_; refine va rfl rfl ?_; refine WL.nil ?_; refine WC.seq ?_; refine wsr ?_; refine vm rfl rfl ?_
 refine WL.val (OpRun.neq rfl rfl) rfl ?_; refine WL.splitD rfl rfl (fun hq2 => ?_) (fun hq2 => ?_)
 ·refine WL.pass rfl rfl rfl rfl ?_; refine WL.pass rfl rfl rfl rfl ?_; refine WL.val (OpRun.pickT rfl rfl) rfl ?_; refine WL.nil ?_; refine WC.condT rfl ?_; refine wsr ?_; refine va rfl rfl ?_; refine WL.nil ?_; refine WC.ret ?_; refine fin_one rfl rfl ?_
  exfalso; first | omega | (cases ‹Option.isNone _ = true›)
 ·refine WL.want rfl rfl ?_; refine vm rfl rfl ?_; refine WL.want rfl rfl ?_; refine WL.val (OpRun.eqlNilP rfl rfl ⟨Tryz.runUnderlying28⟩) rfl ?_; refine WL.val (OpRun.pickF rfl rfl) rfl ?_; refine WL.nil ?_; refine WC.cond rfl (fun hq3 => ?_) (fun hq3 => ?_)
  ·refine wsr ?_; refine va rfl rfl ?_; refine WL.nil ?_; refine WC.ret ?_; refine fin_one rfl rfl ?_
   exfalso; first | omega | (cases ‹Option.isNone _ = true›)
  ·refine WC.skip ?_; refine wsr ?_; refine vm rfl rfl ?_; refine WL.step (OpTo.buildSlice (cs := [_]) rfl rfl rfl ⟨Tryz.runUnderlying32⟩ ⟨Tryz.sizeOf3⟩ ⟨Tryz.zeroValue3⟩ (fill_one (vs := [_]) rfl rfl) rfl (fun bP wP hP hmP hloP hhiP => ?_)); have hW := hW.grow hmP; have hG := hG.grow hmP; refine WL.val (OpRun.build rfl tb35_0_5_2) rfl ?_; refine WL.step (OpTo.call ⟨Tryz.call9⟩ rfl rfl (do_ok hW (ht.grow hG) (v := .slice (some ⟨bP, 0, none⟩) 1 1) (ps := [31]) ⟨1, RI.of (ps := [31]) (Sl.of hP (cs := [_]) ⟨rfl, trivial⟩ (by simp) rfl (by omega) (by omega))⟩ (by simp) (by simp) (fun k hk hs => by cases hk; exact hW.toScrM.not_own hP rfl hs) (by omega) (by omega) (by decide) (by simp; omega)) (fun vM wM hpM => ?_)); obtain ⟨S1, hF, -, -, -, -, h31, -⟩ := hpM; have hS1 := h31 rfl rfl rfl rfl rfl; obtain ⟨hG, hown⟩ := hF.next hG hown; have hW := hF.w; have han1 := hF.an
   have hK : KnS 0 S1 := by
     subst hS1; exact ⟨hnow, hr, hcl, hL, by show ({ S0.c with a := _ } : Cur) = _; rw [hc]; rfl, hmf, hpf, htop, hpast⟩
   have han2 : S1.an ≤ 10 := by rw [han] at han1; simpa using Nat.le_trans han1 (by decide)
   refine WL.nil ?_; refine WC.seq ?_; refine wsr ?_; refine va rfl rfl ?_; refine WL.nil ?_; refine WC.block ?_; refine WC.loop (fun m e w' => ∃ (i : Nat) (S : Scr), i ≤ 5 ∧ m = 5 - i ∧ Sub [(1, .pointer (some ⟨sb, 0, none⟩)), (3, .int .i64 i)] e ∧ ScrW w' sb S ∧ KnS i S ∧ S.an ≤ 10 + 3 * i ∧ (∀ k, S.own sb k → w.heap.size ≤ k) ∧ Mod (fun _ => False) w w') (5) ⟨0, S1, by omega, by omega, ⟨rfl, rfl, trivial⟩, hW, hK, han2, hown, hG⟩ ?_
   rintro m e wl ⟨i, S, hi, rfl, hs, hW, hK, han, hown, hG⟩
   refine WC.sub hs ?_; refine WC.seq ?_; refine wsr ?_; refine vm rfl rfl ?_; refine WL.val (OpRun.lss rfl rfl) rfl ?_; refine WL.nil ?_; refine WC.condD rfl (fun hq8 => ?_) (fun hq8 => ?_)
   ·refine WC.skip ?_; refine WC.seq ?_; refine WC.block ?_; refine WC.region ?_; refine vm rfl rfl ?_; refine vm rfl rfl ?_; refine WL.val (OpRun.add rfl rfl (In.i64 (by omega))) rfl ?_; refine WL.val (OpRun.conv rfl ⟨Tryz.runUnderlying3⟩ ⟨Tryz.runUnderlying21⟩ (In.i32 (by omega))) rfl ?_; refine WL.val (OpRun.build rfl tb35_0_1) rfl ?_; refine WL.step (OpTo.call ⟨Tryz.call9⟩ rfl rfl (do_ok hW (ht.grow hG) (v := .slice none 0 0) (ps := []) ⟨0, RI.nil _⟩ (by simp) (by simp) (fun k hk => by cases hk) (by omega) (by omega) (by decide) (by simp; omega)) (fun vD wD hpD => ?_)); obtain ⟨S2, hF, -, hlay, -⟩ := hpD; obtain ⟨v2, hS2⟩ := hlay rfl (hK.layK (by omega)) hK.s0.1 hK.s0.2; obtain ⟨hG, hown⟩ := hF.next hG hown; have hW := hF.w; have han1 := hF.an; have hK := hK.step (by omega) v2; rw [← hS2] at hK; rw [List.length_nil] at han1; refine WL.nil ?_; refine WC.region ?_
    refine vm rfl rfl ?_; refine WL.val (OpRun.add rfl rfl (In.i64 (by omega))) rfl ?_; refine va rfl rfl ?_; refine WL.nil ?_; exact ⟨5 - (i + 1), by omega, i + 1, _, by omega, rfl, ⟨rfl, rfl, trivial⟩, hW, hK, by omega, hown, hG⟩
   ·refine WC.exit ?_; refine wsr ?_; obtain rfl : i = 5 := by omega
    refine vm rfl rfl ?_; refine WL.step (OpTo.buildSlice (cs := [_]) rfl rfl rfl ⟨Tryz.runUnderlying32⟩ ⟨Tryz.sizeOf3⟩ ⟨Tryz.zeroValue3⟩ (fill_one (vs := [_]) rfl rfl) rfl (fun bP wP hP hmP hloP hhiP => ?_)); have hW := hW.grow hmP; have hG := hG.grow hmP; refine WL.val (OpRun.build rfl tb35_0_5_2) rfl ?_; refine WL.step (OpTo.call ⟨Tryz.call9⟩ rfl rfl (do_ok hW (ht.grow hG) (v := .slice (some ⟨bP, 0, none⟩) 1 1) (ps := [6]) ⟨1, RI.of (ps := [6]) (Sl.of hP (cs := [_]) ⟨rfl, trivial⟩ (by simp) rfl (by omega) (by omega))⟩ (by simp) (by simp) (fun k hk hs => by cases hk; exact hW.toScrM.not_own hP rfl hs) (by omega) (by omega) (by decide) (by simp; omega)) (fun vR wR hpR => ?_)); obtain ⟨S2, hF, -, -, -, -, -, h6⟩ := hpR; obtain ⟨rfl, hby⟩ := h6 rfl rfl rfl rfl rfl; rw [kn_place hK] at hby; obtain ⟨hG, hown⟩ := hF.next hG hown; have hW := hF.w; refine va rfl rfl ?_
    refine WL.nil ?_; refine wsr ?_; refine vm rfl rfl ?_; refine WL.step (OpTo.call ⟨Tryz.call13⟩ rfl rfl (grid_ok hW) (fun vG wG hpG => ?_)); obtain ⟨gb, G, rfl, hGW, hgr, hgc, hgL, -, -, hmG⟩ := hpG; have hW := hW.grow hmG; have hby := hby.grow hmG; have hG := hG.grow hmG; have hgr : G.rows = 3 := hgr.trans ((Scr.G_rows hW.ok).trans hK.rows); have hgL : G.L = kL 5 := by rw [hgL]; unfold Scr.G; rw [if_pos hK.now]; exact hK.L
    refine va rfl rfl ?_; refine WL.nil ?_; refine WC.seq ?_; refine wsr ?_; refine vm rfl rfl ?_; refine WL.val (OpRun.eqlNilP rfl rfl ⟨Tryz.runUnderlying48⟩) rfl ?_; refine WL.nil ?_; refine WC.cond rfl (fun hq12 => ?_) (fun hq12 => ?_)
    ·cases hq12
    ·refine WC.skip ?_; refine wsr ?_; refine vm rfl rfl ?_; refine WL.step (OpTo.call ⟨Tryz.call19⟩ rfl rfl (gtext_ok hGW (by rw [hgL]; exact kn_plain)) (fun vT wT hpT => ?_)); obtain ⟨⟨tcap, htx⟩, hmT⟩ := hpT; have hW := hW.grow hmT; have hby := hby.grow hmT; have hGW := hGW.grow hmT; have hG := hG.grow hmT; rw [hgL, kn_text, hgr] at htx; obtain ⟨tb, to, tblk, hv, htb, htA, -⟩ := htx.pos (by omega); subst hv; refine va rfl rfl ?_; refine WL.nil ?_; refine wsr ?_; refine vm rfl rfl ?_; refine WL.step (OpTo.call ⟨Tryz.call10⟩ rfl rfl (Cursor_ok hW) (fun vC wC hpC => ?_)); obtain ⟨rfl, hmC⟩ := hpC; have htb := htb.grow hmC; have hW := hW.grow hmC; have hby := hby.grow hmC; have hGW := hGW.grow hmC; have hG := hG.grow hmC; rw [hK.c]; have hbl := hby.lt; have hgs := hG.size; refine WL.step (OpTo.alloc (vs := [_, _, _, _, _, _, _, _, _, _]) ⟨Tryz.zeroValue43⟩ rfl rfl (fun bC2 wC2 hC hmC2 hloC2 hhiC2 => ?_))
     have htb := htb.grow hmC2; have hW := hW.grow hmC2; have hby := hby.grow hmC2; have hGW := hGW.grow hmC2; have hG := hG.grow hmC2; refine WL.step (OpTo.storeA (vs := (kcur 5).vals) rfl rfl ⟨Tryz.sizeOf43⟩ rfl hC rfl (fun w16 hn16 hm16 hz16 => ?_))
     replace hn16 : Blk _ _ 43 (kcur 5).vals := hn16
     have htb := htb.mod hm16 (by first | exact htb.ne hC rfl | omega); have hby := hby.mod hm16 (fun k hk (hh : k = _) => by have := hbl k hk; omega); have hG := hG.trans hm16 (fun _ h => h) (fun x hx (hs : x = _) => by have := hG.size; omega); have hC := hn16; refine WL.nil ?_; refine wsr ?_; refine vm rfl rfl ?_; refine WL.val (OpRun.lenS rfl ⟨Tryz.runUnderlying58⟩) rfl ?_; refine WL.val (OpRun.eql rfl rfl) rfl ?_; refine WL.splitD rfl rfl (fun hq17 => ?_) (fun hq17 => ?_)
     ·refine WL.want rfl rfl ?_; refine vm rfl rfl ?_; refine WL.want rfl rfl ?_; refine WL.val (OpRun.indexAddr rfl rfl ⟨Tryz.runUnderlying58⟩ ⟨Tryz.sizeOf9⟩ (by omega) (by omega)) rfl ?_; refine WL.want rfl rfl ?_; refine WL.val (OpRun.load rfl ⟨Tryz.isAgg9⟩ htb htA.1) rfl ?_; refine WL.want rfl rfl ?_; refine WL.val (OpRun.seql rfl rfl) rfl ?_; refine WL.val (OpRun.pickT rfl rfl) rfl ?_; refine WL.splitD rfl rfl (fun hq18 => ?_) (fun hq18 => ?_)
      ·refine WL.want rfl rfl ?_; refine vm rfl rfl ?_; refine WL.want rfl rfl ?_; refine WL.val (OpRun.indexAddr rfl rfl ⟨Tryz.runUnderlying58⟩ ⟨Tryz.sizeOf9⟩ (by omega) (by omega)) rfl ?_; refine WL.want rfl rfl ?_; refine WL.val (OpRun.load rfl ⟨Tryz.isAgg9⟩ htb htA.2.1) rfl ?_; refine WL.want rfl rfl ?_; refine WL.val (OpRun.seql rfl rfl) rfl ?_; refine WL.val (OpRun.pickT rfl rfl) rfl ?_; refine WL.splitD rfl rfl (fun hq19 => ?_) (fun hq19 => ?_)
       ·refine WL.want rfl rfl ?_; refine vm rfl rfl ?_; refine WL.want rfl rfl ?_; refine WL.val (OpRun.convBytes rfl hby (by decide)) rfl ?_; refine WL.want rfl rfl ?_; refine WL.val (OpRun.seql rfl rfl) rfl ?_; refine WL.val (OpRun.pickT rfl rfl) rfl ?_; refine WL.splitD rfl rfl (fun hq20 => ?_) (fun hq20 => ?_)
        ·refine WL.want rfl rfl ?_; refine vf 0 Tryz.runUnderlying43 Tryz.sizeOf3 rfl rfl rfl rfl rfl ?_; refine WL.want rfl rfl ?_
         first | refine WL.val (OpRun.load rfl ⟨Tryz.isAgg3⟩ hC rfl) rfl ?_ | refine WL.val (OpRun.load rfl ⟨Tryz.isAgg3⟩ htb rfl) rfl ?_
         refine WL.want rfl rfl ?_; refine WL.val (OpRun.eql rfl rfl) rfl ?_; refine WL.val (OpRun.pickT rfl rfl) rfl ?_; refine WL.splitD rfl rfl (fun hq21 => ?_) (fun hq21 => ?_)
         ·refine WL.want rfl rfl ?_; refine vf 1 Tryz.runUnderlying43 Tryz.sizeOf3 rfl rfl rfl rfl rfl ?_; refine WL.want rfl rfl ?_
          first | refine WL.val (OpRun.load rfl ⟨Tryz.isAgg3⟩ hC rfl) rfl ?_ | refine WL.val (OpRun.load rfl ⟨Tryz.isAgg3⟩ htb rfl) rfl ?_
          refine WL.want rfl rfl ?_; refine WL.val (OpRun.eql rfl rfl) rfl ?_; refine WL.val (OpRun.pickT rfl rfl) rfl ?_; refine WL.splitD rfl rfl (fun hq22 => ?_) (fun hq22 => ?_)
          ·refine WL.want rfl rfl ?_; refine vf 3 Tryz.runUnderlying43 Tryz.sizeOf40 rfl rfl rfl rfl rfl ?_; refine WL.want rfl rfl ?_; refine vf 0 Tryz.runUnderlying40 Tryz.sizeOf3 rfl rfl rfl rfl rfl ?_; refine WL.want rfl rfl ?_
           first | refine WL.val (OpRun.load rfl ⟨Tryz.isAgg3⟩ hC rfl) rfl ?_ | refine WL.val (OpRun.load rfl ⟨Tryz.isAgg3⟩ htb rfl) rfl ?_
           refine WL.want rfl rfl ?_; refine WL.val (OpRun.eql rfl rfl) rfl ?_; refine WL.val (OpRun.pickT rfl rfl) rfl ?_; refine va rfl rfl ?_; refine WL.nil ?_; refine WC.ret ?_; refine fin_one rfl rfl ?_
           first | (exfalso; omega) | exact ⟨rfl, hG⟩ | exact absurd rfl ‹¬ ((kcur 5).col : Int) = 1› | exact absurd rfl ‹¬ ((kcur 5).row : Int) = 1› | exact absurd rfl ‹¬ (_ : List UInt8) = _›
          ·refine WL.pass rfl rfl rfl rfl ?_; refine WL.pass rfl rfl rfl rfl ?_; refine WL.pass rfl rfl rfl rfl ?_; refine WL.pass rfl rfl rfl rfl ?_; refine WL.val (OpRun.pickF rfl rfl) rfl ?_; refine va rfl rfl ?_; refine WL.nil ?_; refine WC.ret ?_; refine fin_one rfl rfl ?_
           first | (exfalso; omega) | exact ⟨rfl, hG⟩ | exact absurd rfl ‹¬ ((kcur 5).col : Int) = 1› | exact absurd rfl ‹¬ ((kcur 5).row : Int) = 1› | exact absurd rfl ‹¬ (_ : List UInt8) = _›
         ·refine WL.pass rfl rfl rfl rfl ?_; refine WL.pass rfl rfl rfl rfl ?_; refine WL.pass rfl rfl rfl rfl ?_; refine WL.val (OpRun.pickF rfl rfl) rfl ?_; refine vm rfl rfl ?_; refine WL.pass rfl rfl rfl rfl ?_; refine WL.pass rfl rfl rfl rfl ?_; refine WL.pass rfl rfl rfl rfl ?_; refine WL.pass rfl rfl rfl rfl ?_; refine WL.val (OpRun.pickF rfl rfl) rfl ?_; refine va rfl rfl ?_; refine WL.nil ?_; refine WC.ret ?_; refine fin_one rfl rfl ?_
          first | (exfalso; omega) | exact ⟨rfl, hG⟩ | exact absurd rfl ‹¬ ((kcur 5).col : Int) = 1› | exact absurd rfl ‹¬ ((kcur 5).row : Int) = 1› | exact absurd rfl ‹¬ (_ : List UInt8) = _›
        ·refine WL.pass rfl rfl rfl rfl ?_; refine WL.pass rfl rfl rfl rfl ?_; refine WL.pass rfl rfl rfl rfl ?_; refine WL.val (OpRun.pickF rfl rfl) rfl ?_; refine vm rfl rfl ?_; refine WL.pass rfl rfl rfl rfl ?_; refine WL.pass rfl rfl rfl rfl ?_; refine WL.pass rfl rfl rfl rfl ?_; refine WL.val (OpRun.pickF rfl rfl) rfl ?_; refine vm rfl rfl ?_; refine WL.pass rfl rfl rfl rfl ?_; refine WL.pass rfl rfl rfl rfl ?_; refine WL.pass rfl rfl rfl rfl ?_; refine WL.pass rfl rfl rfl rfl ?_; refine WL.val (OpRun.pickF rfl rfl) rfl ?_; refine va rfl rfl ?_; refine WL.nil ?_; refine WC.ret ?_; refine fin_one rfl rfl ?_
         first | (exfalso; omega) | exact ⟨rfl, hG⟩ | exact absurd rfl ‹¬ ((kcur 5).col : Int) = 1› | exact absurd rfl ‹¬ ((kcur 5).row : Int) = 1› | exact absurd rfl ‹¬ (_ : List UInt8) = _›
       ·refine WL.pass rfl rfl rfl rfl ?_; refine WL.pass rfl rfl rfl rfl ?_; refine WL.pass rfl rfl rfl rfl ?_; refine WL.val (OpRun.pickF rfl rfl) rfl ?_; refine vm rfl rfl ?_; refine WL.pass rfl rfl rfl rfl ?_; refine WL.pass rfl rfl rfl rfl ?_; refine WL.pass rfl rfl rfl rfl ?_; refine WL.val (OpRun.pickF rfl rfl) rfl ?_; refine vm rfl rfl ?_; refine WL.pass rfl rfl rfl rfl ?_; refine WL.pass rfl rfl rfl rfl ?_; refine WL.pass rfl rfl rfl rfl ?_; refine WL.val (OpRun.pickF rfl rfl) rfl ?_; refine vm rfl rfl ?_; refine WL.pass rfl rfl rfl rfl ?_; refine WL.pass rfl rfl rfl rfl ?_; refine WL.pass rfl rfl rfl rfl ?_; refine WL.pass rfl rfl rfl rfl ?_; refine WL.val (OpRun.pickF rfl rfl) rfl ?_; refine va rfl rfl ?_; refine WL.nil ?_; refine WC.ret ?_; refine fin_one rfl rfl ?_
        first | (exfalso; omega) | exact ⟨rfl, hG⟩ | exact absurd rfl ‹¬ ((kcur 5).col : Int) = 1› | exact absurd rfl ‹¬ ((kcur 5).row : Int) = 1› | exact absurd rfl ‹¬ (_ : List UInt8) = _›
      ·refine WL.pass rfl rfl rfl rfl ?_; refine WL.pass rfl rfl rfl rfl ?_; refine WL.pass rfl rfl rfl rfl ?_; refine WL.pass rfl rfl rfl rfl ?_; refine WL.val (OpRun.pickF rfl rfl) rfl ?_; refine vm rfl rfl ?_; refine WL.pass rfl rfl rfl rfl ?_; refine WL.pass rfl rfl rfl rfl ?_; refine WL.pass rfl rfl rfl rfl ?_; refine WL.val (OpRun.pickF rfl rfl) rfl ?_; refine vm rfl rfl ?_; refine WL.pass rfl rfl rfl rfl ?_; refine WL.pass rfl rfl rfl rfl ?_; refine WL.pass rfl rfl rfl rfl ?_; refine WL.val (OpRun.pickF rfl rfl) rfl ?_; refine vm rfl rfl ?_; refine WL.pass rfl rfl rfl rfl ?_; refine WL.pass rfl rfl rfl rfl ?_; refine WL.pass rfl rfl rfl rfl ?_; refine WL.val (OpRun.pickF rfl rfl) rfl ?_; refine vm rfl rfl ?_; refine WL.pass rfl rfl rfl rfl ?_; refine WL.pass rfl rfl rfl rfl ?_; refine WL.pass rfl rfl rfl rfl ?_; refine WL.pass rfl rfl rfl rfl ?_
       refine WL.val (OpRun.pickF rfl rfl) rfl ?_; refine va rfl rfl ?_; refine WL.nil ?_; refine WC.ret ?_; refine fin_one rfl rfl ?_
       first | (exfalso; omega) | exact ⟨rfl, hG⟩ | exact absurd rfl ‹¬ ((kcur 5).col : Int) = 1› | exact absurd rfl ‹¬ ((kcur 5).row : Int) = 1› | exact absurd rfl ‹¬ (_ : List UInt8) = _›
     ·refine WL.pass rfl rfl rfl rfl ?_; refine WL.pass rfl rfl rfl rfl ?_; refine WL.pass rfl rfl rfl rfl ?_; refine WL.pass rfl rfl rfl rfl ?_; refine WL.val (OpRun.pickF rfl rfl) rfl ?_; refine vm rfl rfl ?_; refine WL.pass rfl rfl rfl rfl ?_; refine WL.pass rfl rfl rfl rfl ?_; refine WL.pass rfl rfl rfl rfl ?_; refine WL.pass rfl rfl rfl rfl ?_; refine WL.val (OpRun.pickF rfl rfl) rfl ?_; refine vm rfl rfl ?_; refine WL.pass rfl rfl rfl rfl ?_; refine WL.pass rfl rfl rfl rfl ?_; refine WL.pass rfl rfl rfl rfl ?_; refine WL.val (OpRun.pickF rfl rfl) rfl ?_; refine vm rfl rfl ?_; refine WL.pass rfl rfl rfl rfl ?_; refine WL.pass rfl rfl rfl rfl ?_; refine WL.pass rfl rfl rfl rfl ?_; refine WL.val (OpRun.pickF rfl rfl) rfl ?_; refine vm rfl rfl ?_; refine WL.pass rfl rfl rfl rfl ?_; refine WL.pass rfl rfl rfl rfl ?_; refine WL.pass rfl rfl rfl rfl ?_
      refine WL.val (OpRun.pickF rfl rfl) rfl ?_; refine vm rfl rfl ?_; refine WL.pass rfl rfl rfl rfl ?_; refine WL.pass rfl rfl rfl rfl ?_; refine WL.pass rfl rfl rfl rfl ?_; refine WL.pass rfl rfl rfl rfl ?_; refine WL.val (OpRun.pickF rfl rfl) rfl ?_; refine va rfl rfl ?_; refine WL.nil ?_; refine WC.ret ?_; refine fin_one rfl rfl ?_
      first | (exfalso; omega) | exact ⟨rfl, hG⟩ | exact absurd rfl ‹¬ ((kcur 5).col : Int) = 1› | exact absurd rfl ‹¬ ((kcur 5).row : Int) = 1› | exact absurd rfl ‹¬ (_ : List UInt8) = _›

end Go.Eng
