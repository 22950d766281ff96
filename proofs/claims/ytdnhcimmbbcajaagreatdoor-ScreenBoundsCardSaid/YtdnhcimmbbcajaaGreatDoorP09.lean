/-
  A part of a proof (Scr0 Scr1 Scr2 Scr3): lemmas on what the program's functions do. No condition but those that each lemma states.
-/
import Derived.Test.YtdnhcimmbbcajaaGreatDoorP08
set_option maxRecDepth 8000
set_option linter.all false
namespace Go.Eng
open Go Go.Proofs

structure Cur where
  row : Nat
  col : Nat
  wrap : Bool
  a : Attr
  origin : Bool
  s0 : Int
  s1 : Int
  shift : Nat

abbrev Cur.vals (c : Cur) : List Value := [.int .i64 c.row, .int .i64 c.col, .bool c.wrap, .int .i64 c.a.fg, .int .i64 c.a.bg, .int .i64 c.a.fl, .bool c.origin, .int .u8 c.s0, .int .u8 c.s1, .int .i64 c.shift]

structure Scr where
  g0 : Nat
  g1 : Nat
  now : Nat
  c : Cur
  v0 : Cur
  i0 : Bool
  v1 : Cur
  i1 : Bool
  mm : Nat
  pm : Nat
  top : Nat
  past : Nat
  tb : Nat
  char : Int
  av : Value
  G0 : Grid
  G1 : Grid
  mf : Int → Bool
  pf : Int → Bool
  T : Tabs
  avs : List Value
  an : Nat
  acap : Nat

abbrev Scr.vals (S : Scr) : List Value :=
  Value.pointer (some ⟨S.g0, 0, none⟩) :: Value.pointer (some ⟨S.g1, 0, none⟩) :: Value.int .i64 S.now :: Value.int .i64 S.c.row :: Value.int .i64 S.c.col :: Value.bool S.c.wrap :: Value.int .i64 S.c.a.fg :: Value.int .i64 S.c.a.bg :: Value.int .i64 S.c.a.fl :: Value.bool S.c.origin :: Value.int .u8 S.c.s0 :: Value.int .u8 S.c.s1 :: Value.int .i64 S.c.shift :: Value.int .i64 S.v0.row :: Value.int .i64 S.v0.col :: Value.bool S.v0.wrap :: Value.int .i64 S.v0.a.fg :: Value.int .i64 S.v0.a.bg :: Value.int .i64 S.v0.a.fl :: Value.bool S.v0.origin :: Value.int .u8 S.v0.s0 :: Value.int .u8 S.v0.s1 :: Value.int .i64 S.v0.shift :: Value.bool S.i0 :: Value.int .i64 S.v1.row :: Value.int .i64 S.v1.col :: Value.bool S.v1.wrap :: Value.int .i64 S.v1.a.fg :: Value.int .i64 S.v1.a.bg :: Value.int .i64 S.v1.a.fl :: Value.bool S.v1.origin :: Value.int .u8 S.v1.s0 :: Value.int .u8 S.v1.s1 :: Value.int .i64 S.v1.shift :: Value.bool S.i1 :: Value.map (some S.mm) :: Value.map (some S.pm) :: Value.int .i64 S.top :: Value.int .i64 S.past :: Value.pointer (some ⟨S.tb, 0, none⟩) :: Value.int .i32 S.char :: S.av :: []

def Scr.own (sb : Nat) (S : Scr) (k : Nat) : Prop :=
  k = sb ∨ S.G0.own S.g0 k ∨ S.G1.own S.g1 k ∨ k = S.mm ∨ k = S.pm ∨ S.T.own S.tb k ∨ sblk S.av = some k

/-- What memory holds of a screen. -/
structure ScrM (w : World) (sb : Nat) (S : Scr) : Prop where
  blk : Blk w sb 70 S.vals
  ga : GridW w S.g0 S.G0
  gb : GridW w S.g1 S.G1
  mods : MapK w S.mm S.mf
  priv : MapK w S.pm S.pf
  tabs : TabsW w S.tb S.T
  areas : Sl w S.av 166 5 S.avs S.an S.acap
  aone : S.avs.all Value.one = true
  disG : ∀ k, S.G0.own S.g0 k → ¬ S.G1.own S.g1 k
  dis1 : S.mm ≠ S.pm
  dis2 : S.mm ≠ S.T.mb
  dis3 : S.pm ≠ S.T.mb

def CurOk (c : Cur) (R C : Nat) : Prop := c.row < R ∧ c.col < C ∧ c.shift ≤ 1

/-- What holds of a screen between two calls. -/
structure ScrK (S : Scr) : Prop where
  now : S.now ≤ 1
  rows : S.G1.rows = S.G0.rows
  cols : S.G1.cols = S.G0.cols
  tcols : S.T.cols ≤ 1000
  cur : CurOk S.c S.G0.rows S.G0.cols
  v0 : CurOk S.v0 1000 1000
  v1 : CurOk S.v1 1000 1000
  top : S.top < S.past ∧ S.past ≤ S.G0.rows ∧ (1 < S.G0.rows → S.top + 2 ≤ S.past)

structure ScrW (w : World) (sb : Nat) (S : Scr) : Prop extends ScrM w sb S where
  ok : ScrK S

/-- Which grid is shown. -/
def Scr.gb (S : Scr) : Nat := if S.now = 0 then S.g0 else S.g1
def Scr.G (S : Scr) : Grid := if S.now = 0 then S.G0 else S.G1
def Scr.put (S : Scr) (G : Grid) : Scr := if S.now = 0 then { S with G0 := G } else { S with G1 := G }

/-- A block that is neither of the screen's kinds. -/
theorem ScrM.own_lt {w : World} {sb : Nat} {S : Scr} (h : ScrM w sb S) {k : Nat} (hk : S.own sb k) : k < w.heap.size := by
  rcases hk with rfl | hk | hk | rfl | rfl | hk | hk
  · exact h.blk.lt
  · exact h.ga.own_lt hk
  · exact h.gb.own_lt hk
  · exact h.mods.lt
  · exact h.priv.lt
  · exact h.tabs.own_lt hk
  · exact h.areas.lt hk

/-- What kind of block each is. -/
def BK (w : World) (k : Nat) (T : Nat) : Prop := (∃ cs, Blk w k T cs) ∨ (T = 0 ∧ ∃ f, MapK w k f)

theorem BK.uniq {w : World} {k a b : Nat} (h : BK w k a) (h' : BK w k b) (ha : a ≠ 0 ∨ b ≠ 0) : a = b := by
  rcases h with ⟨cs, hb⟩ | ⟨rfl, f, hf⟩
  · rcases h' with ⟨cs', hb'⟩ | ⟨rfl, f, hf⟩
    · exact hb.typ_eq hb'
    · exact absurd rfl (hf.nblk hb)
  · rcases h' with ⟨cs', hb'⟩ | ⟨rfl, f', hf'⟩
    · exact absurd rfl (hf.nblk hb')
    · omega

theorem bk_grid {w : World} {gb : Nat} {G : Grid} (h : GridW w gb G) {k : Nat} (hk : G.own gb k) : ∃ T, (T = 85 ∨ T = 115 ∨ T = 54) ∧ BK w k T := by
  obtain ⟨T, cs, hT, hb⟩ := h.own_typ hk
  exact ⟨T, hT, .inl ⟨_, hb⟩⟩
theorem bk_tabs {w : World} {tb : Nat} {T : Tabs} (h : TabsW w tb T) {k : Nat} (hk : T.own tb k) : (k = tb ∧ BK w k 109) ∨ (k = T.mb ∧ BK w k 0) := by
  rcases hk with rfl | rfl
  · exact .inl ⟨rfl, .inl ⟨_, h.blk⟩⟩
  · exact .inr ⟨rfl, .inr ⟨rfl, _, h.map⟩⟩
theorem bk_areas {w : World} {v : Value} {cs : List Value} {n c : Nat} (h : Sl w v 166 5 cs n c) {k : Nat} (hk : sblk v = some k) : BK w k 166 := by
  obtain ⟨blk, hb⟩ := h.typ hk
  exact .inl ⟨_, hb⟩

/-- What an operation on a screen leaves. -/
structure SOp (w w' : World) (sb : Nat) (S S' : Scr) : Prop where
  to : ScrM w' sb S'
  mod : Mod (S.own sb) w w'
  own : ∀ k, S'.own sb k → S.own sb k ∨ w.heap.size ≤ k

theorem SOp.refl {w : World} {sb : Nat} {S : Scr} (h : ScrM w sb S) : SOp w w sb S S := ⟨h, Mod.refl _ _, fun _ h => .inl h⟩
theorem SOp.trans {a b c : World} {sb : Nat} {S S' S'' : Scr} (h : SOp a b sb S S') (k : SOp b c sb S' S'') : SOp a c sb S S'' :=
  ⟨k.to, h.mod.trans k.mod (fun _ h => h) (fun x hx hs => (h.own x hs).resolve_right (by omega)), fun x hx => by
    rcases k.own x hx with h1 | h1
    · exact h.own x h1
    · exact .inr (Nat.le_trans h.mod.size h1)⟩

theorem ScrM.mod {X : Nat → Prop} {w w' : World} {sb : Nat} {S : Scr} (h : ScrM w sb S) (hm : Mod X w w') (hx : ∀ k, S.own sb k → ¬ X k) (hn : NoLine w X) : ScrM w' sb S :=
  ⟨h.blk.mod hm (hx _ (.inl rfl)), h.ga.mod hm (fun k hk => hx k (.inr (.inl hk))) hn, h.gb.mod hm (fun k hk => hx k (.inr (.inr (.inl hk)))) hn,
   h.mods.mod hm (hx _ (.inr (.inr (.inr (.inl rfl))))), h.priv.mod hm (hx _ (.inr (.inr (.inr (.inr (.inl rfl)))))), h.tabs.mod hm (fun k hk => hx k (.inr (.inr (.inr (.inr (.inr (.inl hk))))))),
   h.areas.mod hm (fun k hk => hx k (.inr (.inr (.inr (.inr (.inr (.inr hk))))))), h.aone, h.disG, h.dis1, h.dis2, h.dis3⟩
theorem ScrM.grow {w w' : World} {sb : Nat} {S : Scr} (h : ScrM w sb S) (hm : Grow w w') : ScrM w' sb S := h.mod hm (fun _ _ h => h) (fun _ h => h.elim)

theorem SOp.growL {a b c : World} {sb : Nat} {S S' : Scr} (h : Grow a b) (k : SOp b c sb S S') : SOp a c sb S S' :=
  ⟨k.to, h.mod k.mod, fun x hx => (k.own x hx).imp id (fun h1 => Nat.le_trans h.size h1)⟩
theorem SOp.growR {a b c : World} {sb : Nat} {S S' : Scr} (h : SOp a b sb S S') (k : Grow b c) : SOp a c sb S S' :=
  ⟨h.to.grow k, h.mod.grow k, h.own⟩

/-- The screen's own cells are others: the parts stay. -/
theorem SOp.cells {w w' : World} {sb : Nat} {S : Scr} (h : ScrM w sb S) (S' : Scr) (hg0 : S'.g0 = S.g0) (hg1 : S'.g1 = S.g1) (hG0 : S'.G0 = S.G0) (hG1 : S'.G1 = S.G1) (hmm : S'.mm = S.mm) (hpm : S'.pm = S.pm) (hmf : S'.mf = S.mf) (hpf : S'.pf = S.pf)
    (htb : S'.tb = S.tb) (hT : S'.T = S.T) (hav : S'.av = S.av) (havs : S'.avs = S.avs) (han : S'.an = S.an) (hac : S'.acap = S.acap)
    (hm : Mod (fun k => k = sb) w w') (hb : Blk w' sb 70 S'.vals) : SOp w w' sb S S' := by
  have hsb : ∀ k, (S.G0.own S.g0 k ∨ S.G1.own S.g1 k ∨ k = S.mm ∨ k = S.pm ∨ S.T.own S.tb k ∨ sblk S.av = some k) → k ≠ sb := by
    rintro k hk rfl
    have b0 : BK w k 70 := .inl ⟨_, h.blk⟩
    rcases hk with hk | hk | rfl | rfl | hk | hk
    · obtain ⟨T, hT, bk⟩ := bk_grid h.ga hk
      have := b0.uniq bk (by omega); omega
    · obtain ⟨T, hT, bk⟩ := bk_grid h.gb hk
      have := b0.uniq bk (by omega); omega
    · exact absurd (b0.uniq (.inr ⟨rfl, _, h.mods⟩) (by omega)) (by omega)
    · exact absurd (b0.uniq (.inr ⟨rfl, _, h.priv⟩) (by omega)) (by omega)
    · rcases bk_tabs h.tabs hk with ⟨_, bk⟩ | ⟨_, bk⟩
      · exact absurd (b0.uniq bk (by omega)) (by omega)
      · exact absurd (b0.uniq bk (by omega)) (by omega)
    · exact absurd (b0.uniq (bk_areas h.areas hk) (by omega)) (by omega)
  have hnl : NoLine w (fun k => k = sb) := NoLine.blk h.blk rfl
  refine ⟨⟨hb, ?_, ?_, ?_, ?_, ?_, ?_, by rw [havs]; exact h.aone, ?_, by rw [hmm, hpm]; exact h.dis1, by rw [hmm, hT]; exact h.dis2, by rw [hpm, hT]; exact h.dis3⟩, hm.mono (fun x _ hx => .inl hx), fun k hk => .inl ?_⟩
  · rw [hg0, hG0]; exact h.ga.mod hm (fun k hk => hsb k (.inl hk)) hnl
  · rw [hg1, hG1]; exact h.gb.mod hm (fun k hk => hsb k (.inr (.inl hk))) hnl
  · rw [hmm, hmf]; exact h.mods.mod hm (hsb _ (.inr (.inr (.inl rfl))))
  · rw [hpm, hpf]; exact h.priv.mod hm (hsb _ (.inr (.inr (.inr (.inl rfl)))))
  · rw [htb, hT]; exact h.tabs.mod hm (fun k hk => hsb k (.inr (.inr (.inr (.inr (.inl hk))))))
  · rw [hav, havs, han, hac]; exact h.areas.mod hm (fun k hk => hsb k (.inr (.inr (.inr (.inr (.inr hk))))))
  · rw [hg0, hg1, hG0, hG1]; exact h.disG
  · unfold Scr.own at hk ⊢; rw [hg0, hg1, hG0, hG1, hmm, hpm, htb, hT, hav] at hk; exact hk

theorem bk_own {w : World} {sb : Nat} {S : Scr} (h : ScrM w sb S) {k : Nat} (hk : k = sb ∨ k = S.mm ∨ k = S.pm ∨ S.T.own S.tb k ∨ sblk S.av = some k) : ∃ T, (T = 70 ∨ T = 0 ∨ T = 109 ∨ T = 166) ∧ BK w k T := by
  rcases hk with rfl | rfl | rfl | hk | hk
  · exact ⟨_, by omega, .inl ⟨_, h.blk⟩⟩
  · exact ⟨_, by omega, .inr ⟨rfl, _, h.mods⟩⟩
  · exact ⟨_, by omega, .inr ⟨rfl, _, h.priv⟩⟩
  · rcases bk_tabs h.tabs hk with ⟨_, bk⟩ | ⟨_, bk⟩
    · exact ⟨_, by omega, bk⟩
    · exact ⟨_, by omega, bk⟩
  · exact ⟨_, by omega, bk_areas h.areas hk⟩

theorem grid_ne {w : World} {gb : Nat} {G : Grid} (h : GridW w gb G) {k : Nat} (hk : G.own gb k) {T : Nat} (hT : T = 70 ∨ T = 0 ∨ T = 109 ∨ T = 166) (bk : BK w k T) : False := by
  obtain ⟨T', hT', bk'⟩ := bk_grid h hk
  have := bk.uniq bk' (by omega); omega

/-- The first grid has moved on. -/
theorem SOp.grid0 {w w' : World} {sb : Nat} {S : Scr} (h : ScrM w sb S) {G' : Grid} (k : GOp w w' S.g0 S.G0 G') : SOp w w' sb S { S with G0 := G' } := by
  have hnl := h.ga.noLine
  have hne : ∀ j, (j = sb ∨ j = S.mm ∨ j = S.pm ∨ S.T.own S.tb j ∨ sblk S.av = some j) → ¬ S.G0.own S.g0 j := fun j hj hg => by
    obtain ⟨T, hT, bk⟩ := bk_own h hj
    exact grid_ne h.ga hg hT bk
  refine ⟨⟨h.blk.mod k.mod (hne _ (.inl rfl)), k.to, h.gb.mod k.mod (fun j hj hg => h.disG j hg hj) hnl, h.mods.mod k.mod (hne _ (.inr (.inl rfl))), h.priv.mod k.mod (hne _ (.inr (.inr (.inl rfl)))), h.tabs.mod k.mod (fun j hj => hne _ (.inr (.inr (.inr (.inl hj))))),
    h.areas.mod k.mod (fun j hj => hne _ (.inr (.inr (.inr (.inr hj))))), h.aone, fun j hj hg => ?_, h.dis1, h.dis2, h.dis3⟩, k.mod.mono (fun x _ hx => .inr (.inl hx)), fun j hj => ?_⟩
  · rcases k.own j hj with h1 | h1
    · exact h.disG j h1 hg
    · have := h.gb.own_lt hg; omega
  · rcases hj with hj | hj | hj
    · exact .inl (.inl hj)
    · exact (k.own j hj).imp (fun h => .inr (.inl h)) id
    · exact .inl (.inr (.inr hj))

theorem SOp.grid1 {w w' : World} {sb : Nat} {S : Scr} (h : ScrM w sb S) {G' : Grid} (k : GOp w w' S.g1 S.G1 G') : SOp w w' sb S { S with G1 := G' } := by
  have hnl := h.gb.noLine
  have hne : ∀ j, (j = sb ∨ j = S.mm ∨ j = S.pm ∨ S.T.own S.tb j ∨ sblk S.av = some j) → ¬ S.G1.own S.g1 j := fun j hj hg => by
    obtain ⟨T, hT, bk⟩ := bk_own h hj
    exact grid_ne h.gb hg hT bk
  refine ⟨⟨h.blk.mod k.mod (hne _ (.inl rfl)), h.ga.mod k.mod (fun j hj hg => h.disG j hj hg) hnl, k.to, h.mods.mod k.mod (hne _ (.inr (.inl rfl))), h.priv.mod k.mod (hne _ (.inr (.inr (.inl rfl)))), h.tabs.mod k.mod (fun j hj => hne _ (.inr (.inr (.inr (.inl hj))))),
    h.areas.mod k.mod (fun j hj => hne _ (.inr (.inr (.inr (.inr hj))))), h.aone, fun j hj hg => ?_, h.dis1, h.dis2, h.dis3⟩, k.mod.mono (fun x _ hx => .inr (.inr (.inl hx))), fun j hj => ?_⟩
  · rcases k.own j hg with h1 | h1
    · exact h.disG j hj h1
    · have := h.ga.own_lt hj; omega
  · rcases hj with hj | hj | hj | hj
    · exact .inl (.inl hj)
    · exact .inl (.inr (.inl hj))
    · exact (k.own j hj).imp (fun h => .inr (.inr (.inl h))) id
    · exact .inl (.inr (.inr (.inr hj)))

theorem ScrM.gw {w : World} {sb : Nat} {S : Scr} (h : ScrM w sb S) : GridW w S.gb S.G := by
  unfold Scr.gb Scr.G; split
  · exact h.ga
  · exact h.gb
theorem SOp.grid {w w' : World} {sb : Nat} {S : Scr} (h : ScrM w sb S) {G' : Grid} (k : GOp w w' S.gb S.G G') : SOp w w' sb S (S.put G') := by
  unfold Scr.gb Scr.G at k
  unfold Scr.put
  split
  · rename_i h0; rw [if_pos h0, if_pos h0] at k; exact SOp.grid0 h k
  · rename_i h0; rw [if_neg h0, if_neg h0] at k; exact SOp.grid1 h k

/-- What every call leaves as it was. -/
structure Keep2 (S S' : Scr) : Prop where
  m0 : S'.G0.ring.most = S.G0.ring.most
  m1 : S'.G1.ring.most = S.G1.ring.most
/-- What all but a few calls leave as it was. -/
structure Calm (S S' : Scr) : Prop extends Keep2 S S' where
  now : S'.now = S.now
  v0 : S'.v0 = S.v0
  i0 : S'.i0 = S.i0
  v1 : S'.v1 = S.v1
  i1 : S'.i1 = S.i1
  r0 : S'.G0.rows = S.G0.rows
  c0 : S'.G0.cols = S.G0.cols
  r1 : S'.G1.rows = S.G1.rows
  c1 : S'.G1.cols = S.G1.cols
theorem Calm.refl (S : Scr) : Calm S S := ⟨⟨rfl, rfl⟩, rfl, rfl, rfl, rfl, rfl, rfl, rfl, rfl, rfl⟩
theorem Calm.trans {a b c : Scr} (h : Calm a b) (k : Calm b c) : Calm a c :=
  ⟨⟨k.m0.trans h.m0, k.m1.trans h.m1⟩, k.now.trans h.now, k.v0.trans h.v0, k.i0.trans h.i0, k.v1.trans h.v1, k.i1.trans h.i1, k.r0.trans h.r0, k.c0.trans h.c0, k.r1.trans h.r1, k.c1.trans h.c1⟩

/-- The shown grid's lines are others. -/
theorem Calm.put {S : Scr} {G' : Grid} (h : GSame S.G G') : Calm S (S.put G') := by
  unfold Scr.G at h
  unfold Scr.put
  split
  · rename_i h0; rw [if_pos h0] at h; exact ⟨⟨h.most, rfl⟩, rfl, rfl, rfl, rfl, rfl, h.rows, h.cols, rfl, rfl⟩
  · rename_i h0; rw [if_neg h0] at h; exact ⟨⟨rfl, h.most⟩, rfl, rfl, rfl, rfl, rfl, rfl, rfl, h.rows, h.cols⟩
theorem ScrK.calm {S S' : Scr} (h : ScrK S) (k : Calm S S') (ht : S'.T.cols ≤ 1000) (hc : CurOk S'.c S.G0.rows S.G0.cols) (h1 : S'.top < S'.past ∧ S'.past ≤ S.G0.rows ∧ (1 < S.G0.rows → S'.top + 2 ≤ S'.past)) : ScrK S' :=
  ⟨by rw [k.now]; exact h.now, by rw [k.r1, k.r0]; exact h.rows, by rw [k.c1, k.c0]; exact h.cols, ht, by rw [k.r0, k.c0]; exact hc, by rw [k.v0]; exact h.v0, by rw [k.v1]; exact h.v1, by rw [k.r0]; exact h1⟩
theorem ScrK.put {S : Scr} {G' : Grid} (h : ScrK S) (hs : GSame S.G G') : ScrK (S.put G') := by
  have hT : (S.put G').T = S.T := by unfold Scr.put; split <;> rfl
  have hc : (S.put G').c = S.c := by unfold Scr.put; split <;> rfl
  have h1 : (S.put G').top = S.top := by unfold Scr.put; split <;> rfl
  have h2 : (S.put G').past = S.past := by unfold Scr.put; split <;> rfl
  exact h.calm (Calm.put hs) (by rw [hT]; exact h.tcols) (by rw [hc]; exact h.cur) (by rw [h1, h2]; exact h.top)
theorem Scr.G_rows {S : Scr} (h : ScrK S) : S.G.rows = S.G0.rows := by
  unfold Scr.G; split
  · rfl
  · exact h.rows
theorem Scr.G_cols {S : Scr} (h : ScrK S) : S.G.cols = S.G0.cols := by
  unfold Scr.G; split
  · rfl
  · exact h.cols
end Go.Eng
namespace Go.Eng
open Go Go.Proofs

theorem tb40_1 {k : IntKind} {r : Int} : TBuild Tryz.prog 40 [(1, .int k r)] (.agg #[.int .i64 0, .int k r, .int .i64 0]) :=
  TBuild.struct (cs := [.int .i64 0, .int k r, .int .i64 0]) ⟨Tryz.zeroValue40⟩ ⟨Tryz.runUnderlying40⟩ (places := #[(0, 1), (1, 1), (2, 1)]) (fun w => by simp [Tryz.sizeOf3]) rfl

theorem gb_get {S : Scr} (h : S.now ≤ 1) : S.vals[0 + S.now * 1]? = some (.pointer (some ⟨S.gb, 0, none⟩)) := by
  have : S.now = 0 ∨ S.now = 1 := by omega
  unfold Scr.gb
  rcases this with e | e <;> rw [e] <;> rfl

/-- A place on the screen. -/
def clip (v : Int) (n : Nat) : Nat := (min (max v 0) ((n : Int) - 1)).toNat
theorem clip_lt {v : Int} {n : Nat} (h : 1 ≤ n) : clip v n < n := by unfold clip; omega
theorem clip_of {v : Nat} {n : Nat} (h : v < n) : clip v n = v := by unfold clip; omega
def Scr.to (S : Scr) (row col : Int) : Scr := { S with c := { S.c with row := clip row S.G.rows, col := clip col S.G.cols, wrap := false } }

/-- What a quiet call leaves. -/
structure FinC (w w' : World) (sb : Nat) (S S' : Scr) (n : Nat) : Prop where
  op : SOp w w' sb S S'
  calm : Calm S S'
  ok : ScrK S'
  an : S'.an ≤ S.an + n
structure FinK (w w' : World) (sb : Nat) (S S' : Scr) (n : Nat) : Prop where
  op : SOp w w' sb S S'
  keep : Keep2 S S'
  ok : ScrK S'
  an : S'.an ≤ S.an + n
theorem FinC.k {w w' : World} {sb n : Nat} {S S' : Scr} (h : FinC w w' sb S S' n) : FinK w w' sb S S' n := ⟨h.op, h.calm.toKeep2, h.ok, h.an⟩
theorem FinC.w {w w' : World} {sb n : Nat} {S S' : Scr} (h : FinC w w' sb S S' n) : ScrW w' sb S' := ⟨h.op.to, h.ok⟩
theorem FinK.w {w w' : World} {sb n : Nat} {S S' : Scr} (h : FinK w w' sb S S' n) : ScrW w' sb S' := ⟨h.op.to, h.ok⟩
theorem FinC.refl {w : World} {sb : Nat} {S : Scr} (h : ScrW w sb S) : FinC w w sb S S 0 := ⟨SOp.refl h.toScrM, Calm.refl S, h.ok, by omega⟩
theorem FinC.trans {a b c : World} {sb n m : Nat} {S S' S'' : Scr} (h : FinC a b sb S S' n) (k : FinC b c sb S' S'' m) : FinC a c sb S S'' (n + m) := ⟨h.op.trans k.op, h.calm.trans k.calm, k.ok, by have := h.an; have := k.an; omega⟩
theorem FinK.trans {a b c : World} {sb n m : Nat} {S S' S'' : Scr} (h : FinK a b sb S S' n) (k : FinK b c sb S' S'' m) : FinK a c sb S S'' (n + m) := ⟨h.op.trans k.op, ⟨k.keep.m0.trans h.keep.m0, k.keep.m1.trans h.keep.m1⟩, k.ok, by have := h.an; have := k.an; omega⟩
theorem FinC.mono {w w' : World} {sb n m : Nat} {S S' : Scr} (h : FinC w w' sb S S' n) (hn : n ≤ m) : FinC w w' sb S S' m := ⟨h.op, h.calm, h.ok, by have := h.an; omega⟩
theorem FinK.mono {w w' : World} {sb n m : Nat} {S S' : Scr} (h : FinK w w' sb S S' n) (hn : n ≤ m) : FinK w w' sb S S' m := ⟨h.op, h.keep, h.ok, by have := h.an; omega⟩
theorem FinC.growL {a b c : World} {sb n : Nat} {S S' : Scr} (h : Grow a b) (k : FinC b c sb S S' n) : FinC a c sb S S' n := ⟨k.op.growL h, k.calm, k.ok, k.an⟩
theorem FinC.growR {a b c : World} {sb n : Nat} {S S' : Scr} (h : FinC a b sb S S' n) (k : Grow b c) : FinC a c sb S S' n := ⟨h.op.growR k, h.calm, h.ok, h.an⟩
theorem FinK.growL {a b c : World} {sb n : Nat} {S S' : Scr} (h : Grow a b) (k : FinK b c sb S S' n) : FinK a c sb S S' n := ⟨k.op.growL h, k.keep, k.ok, k.an⟩
theorem FinK.growR {a b c : World} {sb n : Nat} {S S' : Scr} (h : FinK a b sb S S' n) (k : Grow b c) : FinK a c sb S S' n := ⟨h.op.growR k, h.keep, h.ok, h.an⟩

theorem FinC.grow {a b c : World} {sb n : Nat} {S S' : Scr} (h : FinC a b sb S S' n) (k : Grow b c) : FinC a c sb S S' n := h.growR k
theorem FinK.grow {a b c : World} {sb n : Nat} {S S' : Scr} (h : FinK a b sb S S' n) (k : Grow b c) : FinK a c sb S S' n := h.growR k

/-- The cursor is another. -/
theorem FinC.cur {w w' : World} {sb : Nat} {S : Scr} (h : ScrW w sb S) (c : Cur) (hc : CurOk c S.G0.rows S.G0.cols) (hm : Mod (fun k => k = sb) w w') (hb : Blk w' sb 70 ({ S with c := c } : Scr).vals) : FinC w w' sb S { S with c := c } 0 :=
  ⟨SOp.cells h.toScrM _ rfl rfl rfl rfl rfl rfl rfl rfl rfl rfl rfl rfl rfl rfl hm hb, ⟨⟨rfl, rfl⟩, rfl, rfl, rfl, rfl, rfl, rfl, rfl, rfl, rfl⟩, ⟨h.ok.now, h.ok.rows, h.ok.cols, h.ok.tcols, hc, h.ok.v0, h.ok.v1, h.ok.top⟩, by show S.an ≤ S.an + 0; omega⟩
/-- The shown grid is another. -/
theorem FinC.grid {w w' : World} {sb : Nat} {S : Scr} (h : ScrW w sb S) {G' : Grid} (k : GOp w w' S.gb S.G G') (hs : GSame S.G G') : FinC w w' sb S (S.put G') 0 :=
  ⟨SOp.grid h.toScrM k, Calm.put hs, h.ok.put hs, by unfold Scr.put; split <;> exact Nat.le_refl _⟩
theorem ScrW.grow {w w' : World} {sb : Nat} {S : Scr} (h : ScrW w sb S) (hm : Grow w w') : ScrW w' sb S := ⟨h.toScrM.grow hm, h.ok⟩
theorem Scr.dims {w : World} {sb : Nat} {S : Scr} (h : ScrW w sb S) : 1 ≤ S.G.rows ∧ S.G.rows ≤ 1000 ∧ 1 ≤ S.G.cols ∧ S.G.cols ≤ 1000 ∧ S.G.rows = S.G0.rows ∧ S.G.cols = S.G0.cols ∧ S.c.row < S.G.rows ∧ S.c.col < S.G.cols ∧ S.c.shift ≤ 1 ∧ S.top < S.past ∧ S.past ≤ S.G.rows := by
  have h1 := h.gw.rows
  have h2 := h.gw.cols
  have h3 := Scr.G_rows h.ok
  have h4 := Scr.G_cols h.ok
  have h5 := h.ok.cur
  have h6 := h.ok.top
  unfold CurOk at h5
  omega
theorem goth {w w' : World} {gb : Nat} {G : Grid} {k : Nat} {v : Value} {l : List Cell} (h : GOp w w' gb G (G.put k v l)) : GSame G (G.put k v l) := ⟨rfl, rfl, rfl⟩

theorem g_ok {w : World} {sb : Nat} {S : Scr} (h : ScrM w sb S) (hn : S.now ≤ 1) : Ret Tryz.prog 29 [.pointer (some ⟨sb, 0, none⟩)] w (fun r w' => r = .pointer (some ⟨S.gb, 0, none⟩) ∧ Grow w w') := by
 have hB := h.blk; unfold Scr.vals at hB; refine Ret.of Tryz.func29 Tryz.ntmps29 rfl rfl ?_; refine WC.sub (e' := [(0, .pointer (some ⟨sb, 0, none⟩))]) ⟨rfl, trivial⟩ ?_; have hG : Mod (fun k => False) w w := Mod.refl _ _; refine wsr ?_; refine va rfl rfl ?_; refine WL.nil ?_; refine WC.seq ?_; refine WC.regionD (fun w0 w1 => Grow w0 w1) 10 rfl mixed (fun w1 hm1 hz1 => ?_); have hmD1 := hm1; have hB := hB.grow hm1; have hG := hG.grow hm1; have hSc := Mod.refl (fun k => False) w1; refine WH.take 0 rfl (by kernel_rfl) hSc (fun w1 h1 => OpRun.move rfl) ?_; refine WH.take 1 rfl (by kernel_rfl) hSc (fun w1 h1 => OpRun.move rfl) ?_; refine WH.take 2 rfl (by kernel_rfl) hSc (fun w1 h1 => OpRun.nilCheck rfl) ?_; refine WH.take 3 rfl (by kernel_rfl) hSc (fun _ _ => oF 2 Tryz.runUnderlying70 Tryz.sizeOf3 rfl rfl rfl rfl) ?_; refine WH.take 4 rfl (by kernel_rfl) hSc (fun w1 h1 => OpRun.load rfl ⟨Tryz.isAgg3⟩ (hB.grow h1) rfl) ?_
 refine WH.take 5 rfl (by kernel_rfl) hSc (fun w1 h1 => OpRun.nilCheck rfl) ?_; refine WH.take 6 rfl (by kernel_rfl) hSc (fun _ _ => oF 0 Tryz.runUnderlying70 Tryz.sizeOf62 rfl rfl rfl rfl) ?_; refine WH.take 7 rfl (by kernel_rfl) hSc (fun w1 h1 => OpRun.indexArr rfl rfl ⟨Tryz.runUnderlying62⟩ ⟨Tryz.sizeOf48⟩ (by omega) (by omega)) ?_; refine WH.take 8 rfl (by kernel_rfl) hSc (fun w1 h1 => OpRun.load rfl ⟨Tryz.isAgg48⟩ (hB.grow h1) (gb_get hn)) ?_; refine WH.take 9 rfl (by kernel_rfl) hSc (fun w1 h1 => OpRun.assign rfl) ?_; refine WH.done (by kernel_rfl) ?_; refine WC.ret ?_; refine fin_one rfl rfl ?_; exact ⟨rfl, hG⟩

theorem size_ok {w : World} {sb : Nat} {S : Scr} (h : ScrM w sb S) (hn : S.now ≤ 1) : Ret Tryz.prog 45 [.pointer (some ⟨sb, 0, none⟩)] w (fun r w' => r = .tuple #[.int .i64 S.G.rows, .int .i64 S.G.cols] ∧ Grow w w') := by
 have hB := h.blk; unfold Scr.vals at hB; refine Ret.of Tryz.func45 Tryz.ntmps45 rfl rfl ?_; refine WC.sub (e' := [(0, .pointer (some ⟨sb, 0, none⟩))]) ⟨rfl, trivial⟩ ?_; have hG : Mod (fun k => False) w w := Mod.refl _ _; refine wsr ?_; refine va rfl rfl ?_; refine va rfl rfl ?_; refine WL.nil ?_; refine wsr ?_; refine vm rfl rfl ?_; refine WL.step (OpTo.call ⟨Tryz.call29⟩ rfl rfl (g_ok h hn) (fun vG wG hpG => ?_)); obtain ⟨rfl, hmG⟩ := hpG; have hB := hB.grow hmG; have hG := hG.grow hmG; refine WL.step (OpTo.call ⟨Tryz.call14⟩ rfl rfl (Size_ok (h.gw.grow hmG)) (fun v2 w2 hp2 => ?_)); obtain ⟨rfl, hm2⟩ := hp2; have hB := hB.grow hm2; have hG := hG.grow hm2; refine WL.val (OpRun.extract rfl rfl) rfl ?_; refine WL.val (OpRun.extract rfl rfl) rfl ?_; refine va rfl rfl ?_
 refine va rfl rfl ?_; refine WL.nil ?_; refine WC.ret ?_; refine fin_two rfl rfl rfl ?_; exact ⟨rfl, hG⟩

theorem cut_ok {w : World} (v lo hi : Int) : Ret Tryz.prog 31 [.int .i64 v, .int .i64 lo, .int .i64 hi] w (fun r w' => r = .int .i64 (min (max v lo) hi) ∧ w = w') := by
 refine Ret.of Tryz.func31 Tryz.ntmps31 rfl rfl ?_; refine WC.sub (e' := [(0, .int .i64 v), (1, .int .i64 lo), (2, .int .i64 hi)]) ⟨rfl, rfl, rfl, trivial⟩ ?_; have hG : Mod (fun k => False) w w := Mod.refl _ _; refine wsr ?_; refine va rfl rfl ?_; refine WL.nil ?_; refine wsr ?_; refine vm rfl rfl ?_; refine vm rfl rfl ?_; refine WL.val (OpRun.bmax rfl) rfl ?_; refine vm rfl rfl ?_; refine WL.val (OpRun.bmin rfl) rfl ?_; refine va rfl rfl ?_; refine WL.nil ?_; refine WC.ret ?_; refine fin_one rfl rfl ?_; exact ⟨rfl, rfl⟩

theorem between_ok {w : World} (v lo hi : Int) : Ret Tryz.prog 28 [.int .i64 v, .int .i64 lo, .int .i64 hi] w (fun r w' => r = .bool (decide (lo ≤ v ∧ v ≤ hi)) ∧ w = w') := by
 refine Ret.of Tryz.func28 Tryz.ntmps28 rfl rfl ?_; refine WC.sub (e' := [(0, .int .i64 v), (1, .int .i64 lo), (2, .int .i64 hi)]) ⟨rfl, rfl, rfl, trivial⟩ ?_; have hG : Mod (fun k => False) w w := Mod.refl _ _; refine wsr ?_; refine va rfl rfl ?_; refine WL.nil ?_; refine wsr ?_; refine vm rfl rfl ?_; refine vm rfl rfl ?_; refine WL.val (OpRun.geq rfl rfl) rfl ?_; refine WL.splitD rfl rfl (fun hq1 => ?_) (fun hq1 => ?_)
 ·refine WL.want rfl rfl ?_; refine vm rfl rfl ?_; refine WL.want rfl rfl ?_; refine vm rfl rfl ?_; refine WL.want rfl rfl ?_; refine WL.val (OpRun.leq rfl rfl) rfl ?_; refine WL.val (OpRun.pickT rfl rfl) rfl ?_; refine va rfl rfl ?_; refine WL.nil ?_; refine WC.ret ?_; refine fin_one rfl rfl ?_; refine ⟨?_, rfl⟩; refine congrArg Value.bool ?_
  first | exact (decide_eq_decide.2 (by omega)) | exact (decide_eq_true (by omega)).symm | exact (decide_eq_false (by omega)).symm
 ·refine WL.pass rfl rfl rfl rfl ?_; refine WL.pass rfl rfl rfl rfl ?_; refine WL.pass rfl rfl rfl rfl ?_; refine WL.val (OpRun.pickF rfl rfl) rfl ?_; refine va rfl rfl ?_; refine WL.nil ?_; refine WC.ret ?_; refine fin_one rfl rfl ?_; refine ⟨?_, rfl⟩; refine congrArg Value.bool ?_
  first | exact (decide_eq_decide.2 (by omega)) | exact (decide_eq_true (by omega)).symm | exact (decide_eq_false (by omega)).symm

theorem to_ok {w : World} {sb : Nat} {S : Scr} (h : ScrW w sb S) (row col : Int) : Ret Tryz.prog 32 [.pointer (some ⟨sb, 0, none⟩), .int .i64 row, .int .i64 col] w (fun r w' => r = .tuple #[] ∧ FinC w w' sb S (S.to row col) 0) := by
 have hB := h.blk; unfold Scr.vals at hB; obtain ⟨hR1, hR2, hC1, hC2, hGr, hGc, hcr, hcc, hcs, htp, hpr⟩ := Scr.dims h; refine Ret.of Tryz.func32 Tryz.ntmps32 rfl rfl ?_; refine WC.sub (e' := [(0, .pointer (some ⟨sb, 0, none⟩)), (1, .int .i64 row), (2, .int .i64 col)]) ⟨rfl, rfl, rfl, trivial⟩ ?_; have hG : Mod (fun k => k = sb) w w := Mod.refl _ _; refine wsr ?_; refine vm rfl rfl ?_; refine WL.step (OpTo.call ⟨Tryz.call45⟩ rfl rfl (size_ok h.toScrM h.ok.now) (fun vZ wZ hpZ => ?_)); obtain ⟨rfl, hmZ⟩ := hpZ; have hB := hB.grow hmZ; have hG := hG.grow hmZ; refine vm rfl rfl ?_; refine WL.val (OpRun.extract rfl rfl) rfl ?_; refine WL.val (OpRun.extract rfl rfl) rfl ?_; refine va rfl rfl ?_; refine va rfl rfl ?_; refine WL.nil ?_; refine WC.region ?_; refine vm rfl rfl ?_; refine vm rfl rfl ?_
 refine vm rfl rfl ?_; refine vm rfl rfl ?_; refine vm rfl rfl ?_; refine WL.val (OpRun.sub rfl rfl (In.i64 (by omega))) rfl ?_; refine WL.step (OpTo.call ⟨Tryz.call31⟩ rfl rfl (cut_ok row 0 _) (fun v2 w2 hp2 => ?_)); obtain ⟨rfl, rfl⟩ := hp2; obtain ⟨r1, hr1⟩ : ∃ k : Nat, min (max row 0) ((S.G.rows : Int) - 1) = k := ⟨(min (max row 0) ((S.G.rows : Int) - 1)).toNat, by omega⟩; rw [hr1]; refine vm rfl rfl ?_; refine vm rfl rfl ?_; refine WL.val (OpRun.sub rfl rfl (In.i64 (by omega))) rfl ?_; refine WL.step (OpTo.call ⟨Tryz.call31⟩ rfl rfl (cut_ok col 0 _) (fun v3 w3 hp3 => ?_)); obtain ⟨rfl, rfl⟩ := hp3; obtain ⟨c1, hc1⟩ : ∃ k : Nat, min (max col 0) ((S.G.cols : Int) - 1) = k := ⟨(min (max col 0) ((S.G.cols : Int) - 1)).toNat, by omega⟩; rw [hc1]; refine vn rfl rfl ?_; refine vf 3 Tryz.runUnderlying70 Tryz.sizeOf43 rfl rfl rfl rfl rfl ?_
 refine vf 0 Tryz.runUnderlying43 Tryz.sizeOf3 rfl rfl rfl rfl rfl ?_; refine WL.step (OpTo.store rfl rfl ⟨Tryz.sizeOf3⟩ rfl hB rfl (fun w4 hn4 hm4 hz4 => ?_))
 first | simp only [List.set_cons_zero, List.set_cons_succ] at hn4 | dsimp only [putList, List.set] at hn4
 have hG := hG.trans hm4 (fun _ h => h) (fun x hx hs => by (try dsimp only at hs ⊢); omega); have hB := hn4; refine vn rfl rfl ?_; refine vf 3 Tryz.runUnderlying70 Tryz.sizeOf43 rfl rfl rfl rfl rfl ?_; refine vf 1 Tryz.runUnderlying43 Tryz.sizeOf3 rfl rfl rfl rfl rfl ?_; refine WL.step (OpTo.store rfl rfl ⟨Tryz.sizeOf3⟩ rfl hB rfl (fun w5 hn5 hm5 hz5 => ?_))
 first | simp only [List.set_cons_zero, List.set_cons_succ] at hn5 | dsimp only [putList, List.set] at hn5
 have hG := hG.trans hm5 (fun _ h => h) (fun x hx hs => by (try dsimp only at hs ⊢); omega); have hB := hn5; refine vn rfl rfl ?_; refine vf 3 Tryz.runUnderlying70 Tryz.sizeOf43 rfl rfl rfl rfl rfl ?_; refine vf 2 Tryz.runUnderlying43 Tryz.sizeOf4 rfl rfl rfl rfl rfl ?_; refine WL.step (OpTo.store rfl rfl ⟨Tryz.sizeOf4⟩ rfl hB rfl (fun w6 hn6 hm6 hz6 => ?_))
 first | simp only [List.set_cons_zero, List.set_cons_succ] at hn6 | dsimp only [putList, List.set] at hn6
 have hG := hG.trans hm6 (fun _ h => h) (fun x hx hs => by (try dsimp only at hs ⊢); omega); have hB := hn6; refine WL.nil ?_; refine fin_none rfl ?_; have e1 : clip row S.G.rows = r1 := by unfold clip; omega
 have e2 : clip col S.G.cols = c1 := by unfold clip; omega
 refine ⟨rfl, ?_⟩; unfold Scr.to; rw [e1, e2]; exact FinC.cur h _ ⟨by show r1 < _; omega, by show c1 < _; omega, hcs⟩ hG hB

theorem blank_ok {w : World} {sb : Nat} {S : Scr} (h : ScrM w sb S) : Ret Tryz.prog 67 [.pointer (some ⟨sb, 0, none⟩)] w (fun r w' => r = .agg #[.int .i64 0, .int .i64 S.c.a.bg, .int .i64 0] ∧ Grow w w') := by
 have hB := h.blk; unfold Scr.vals at hB; refine Ret.of Tryz.func67 Tryz.ntmps67 rfl rfl ?_; refine WC.sub (e' := [(0, .pointer (some ⟨sb, 0, none⟩))]) ⟨rfl, trivial⟩ ?_; have hG : Mod (fun k => False) w w := Mod.refl _ _; refine wsr ?_; refine WL.step (OpTo.alloc (vs := [_, _, _]) ⟨Tryz.zeroValue40⟩ rfl rfl (fun bX wX hX hmX hloX hhiX => ?_)); have hB := hB.grow hmX; have hG := hG.grow hmX; refine WL.nil ?_; refine wsr ?_; refine vm rfl rfl ?_; refine vn rfl rfl ?_; refine vf 3 Tryz.runUnderlying70 Tryz.sizeOf43 rfl rfl rfl rfl rfl ?_; refine vf 3 Tryz.runUnderlying43 Tryz.sizeOf40 rfl rfl rfl rfl rfl ?_; refine vf 1 Tryz.runUnderlying40 Tryz.sizeOf3 rfl rfl rfl rfl rfl ?_; refine WL.val (OpRun.load rfl ⟨Tryz.isAgg3⟩ hB rfl) rfl ?_
 refine WL.val (OpRun.build rfl tb40_1) rfl ?_; refine WL.step (OpTo.storeA (vs := [_, _, _]) rfl rfl ⟨Tryz.sizeOf40⟩ rfl hX rfl (fun w2 hn2 hm2 hz2 => ?_))
 first | simp only [putList, List.set_cons_zero, List.set_cons_succ] at hn2 | dsimp only [putList, List.set] at hn2
 have hB := hB.mod hm2 (by first | exact hB.ne hX rfl | omega); have hG := hG.trans hm2 (fun _ h => h) (fun x hx hs => by (try dsimp only at hs ⊢); omega); have hX := hn2; refine WL.nil ?_; refine WC.ret ?_; refine fin_cell _ (.inr rfl) rfl rfl (run_loadVarA (vs := [_, _, _]) ⟨Tryz.isAgg40⟩ ⟨Tryz.sizeOf40⟩ hX ⟨rfl, rfl, rfl, trivial⟩) ?_; exact ⟨rfl, hG⟩

end Go.Eng
namespace Go.Eng
open Go Go.Proofs
abbrev Scr.nowrap (S : Scr) : Scr := { S with c := { S.c with wrap := false } }

theorem index_ok {w : World} {sb : Nat} {S : Scr} (h : ScrW w sb S) : Ret Tryz.prog 34 [.pointer (some ⟨sb, 0, none⟩)] w (fun r w' => r = .tuple #[] ∧ ∃ S', FinC w w' sb S S' 0 ∧ (S.c.row + 1 ≠ S.past → S' = S.nowrap.to ((S.c.row + 1 : Int)) S.c.col)) := by
 have hB := h.blk; unfold Scr.vals at hB; obtain ⟨hR1, hR2, hC1, hC2, hGr, hGc, hcr, hcc, hcs, htp, hpr⟩ := Scr.dims h; refine Ret.of Tryz.func34 Tryz.ntmps34 rfl rfl ?_; refine WC.sub (e' := [(0, .pointer (some ⟨sb, 0, none⟩))]) ⟨rfl, trivial⟩ ?_; have hG : Mod (fun k => k = sb) w w := Mod.refl _ _; refine WC.seq ?_; refine wsr ?_; refine vm rfl rfl ?_; refine vn rfl rfl ?_; refine vf 3 Tryz.runUnderlying70 Tryz.sizeOf43 rfl rfl rfl rfl rfl ?_; refine vf 2 Tryz.runUnderlying43 Tryz.sizeOf4 rfl rfl rfl rfl rfl ?_; refine WL.step (OpTo.store rfl rfl ⟨Tryz.sizeOf4⟩ rfl hB rfl (fun w1 hn1 hm1 hz1 => ?_))
 first | simp only [List.set_cons_zero, List.set_cons_succ] at hn1 | dsimp only [putList, List.set] at hn1
 have hG := hG.trans hm1 (fun _ h => h) (fun x hx hs => by (try dsimp only at hs ⊢); omega); have hB := hn1; have hF := FinC.cur h { S.c with wrap := false } h.ok.cur hG hB; have hW := hF.w; have hG : Mod (fun k => k = sb) w1 w1 := Mod.refl _ _; refine WL.nil ?_; refine WC.seq ?_; refine WC.regionD (fun w0 w1 => Grow w0 w1) 11 rfl mixed (fun w2 hm2 hz2 => ?_); have hmD1 := hm2; have hB := hB.grow hm2; have hW := hW.grow hm2; have hF := hF.grow hm2; have hG := hG.grow hm2; have hSc := Mod.refl (fun k => False) w2; refine WH.take 0 rfl (by kernel_rfl) hSc (fun w1 h1 => OpRun.move rfl) ?_; refine WH.take 1 rfl (by kernel_rfl) hSc (fun w1 h1 => OpRun.nilCheck rfl) ?_; refine WH.take 2 rfl (by kernel_rfl) hSc (fun _ _ => oF 3 Tryz.runUnderlying70 Tryz.sizeOf43 rfl rfl rfl rfl) ?_; refine WH.take 3 rfl (by kernel_rfl) hSc (fun _ _ => oF 0 Tryz.runUnderlying43 Tryz.sizeOf3 rfl rfl rfl rfl) ?_
 refine WH.take 4 rfl (by kernel_rfl) hSc (fun w1 h1 => OpRun.load rfl ⟨Tryz.isAgg3⟩ (hB.grow h1) rfl) ?_; refine WH.take 5 rfl (by kernel_rfl) hSc (fun w1 h1 => OpRun.move rfl) ?_; refine WH.take 6 rfl (by kernel_rfl) hSc (fun w1 h1 => OpRun.nilCheck rfl) ?_; refine WH.take 7 rfl (by kernel_rfl) hSc (fun _ _ => oF 38 Tryz.runUnderlying70 Tryz.sizeOf3 rfl rfl rfl rfl) ?_; refine WH.take 8 rfl (by kernel_rfl) hSc (fun w1 h1 => OpRun.load rfl ⟨Tryz.isAgg3⟩ (hB.grow h1) rfl) ?_; refine WH.take 9 rfl (by kernel_rfl) hSc (fun w1 h1 => OpRun.sub rfl rfl (In.i64 (by omega))) ?_; refine WH.take 10 rfl (by kernel_rfl) hSc (fun w1 h1 => OpRun.eql rfl rfl) ?_; refine WH.done (by kernel_rfl) ?_; refine WC.condD rfl (fun hq3 => ?_) (fun hq3 => ?_)
 ·refine WC.seq ?_; refine WC.regionD (fun w0 w1 => Grow w0 w1) 13 rfl mixed (fun w4 hm4 hz4 => ?_); have hmD2 := hm4; have hB := hB.grow hm4; have hW := hW.grow hm4; have hF := hF.grow hm4; have hG := hG.grow hm4; have hSc := Mod.refl (fun k => False) w4; have hW0 := hF; refine WH.take 0 rfl (by kernel_rfl) hSc (fun w1 h1 => OpRun.move rfl) ?_; refine WH.take 2 rfl (by kernel_rfl) hSc (fun w1 h1 => OpRun.move rfl) ?_; refine WH.take 3 rfl (by kernel_rfl) hSc (fun w1 h1 => OpRun.nilCheck rfl) ?_; refine WH.take 4 rfl (by kernel_rfl) hSc (fun _ _ => oF 37 Tryz.runUnderlying70 Tryz.sizeOf3 rfl rfl rfl rfl) ?_; refine WH.take 5 rfl (by kernel_rfl) hSc (fun w1 h1 => OpRun.load rfl ⟨Tryz.isAgg3⟩ (hB.grow h1) rfl) ?_; refine WH.take 6 rfl (by kernel_rfl) hSc (fun w1 h1 => OpRun.move rfl) ?_; refine WH.take 7 rfl (by kernel_rfl) hSc (fun w1 h1 => OpRun.nilCheck rfl) ?_
  refine WH.take 8 rfl (by kernel_rfl) hSc (fun _ _ => oF 38 Tryz.runUnderlying70 Tryz.sizeOf3 rfl rfl rfl rfl) ?_; refine WH.take 9 rfl (by kernel_rfl) hSc (fun w1 h1 => OpRun.load rfl ⟨Tryz.isAgg3⟩ (hB.grow h1) rfl) ?_; refine WH.take 10 rfl (by kernel_rfl) hSc (fun w1 h1 => OpRun.move rfl) ?_; refine WH.one 1 rfl (by kernel_rfl) (OpTo.call ⟨Tryz.call29⟩ rfl rfl (g_ok hW.toScrM hW.ok.now) (fun v5 w5 hp5 => ?_)); obtain ⟨rfl, hm5⟩ := hp5; have hB := hB.grow hm5; have hW := hW.grow hm5; have hF := hF.grow hm5; have hG := hG.grow hm5; have hSc := hSc.grow hm5; refine ⟨fun _ => hSc, ?_⟩; refine WH.one 11 rfl (by kernel_rfl) (OpTo.call ⟨Tryz.call67⟩ rfl rfl (blank_ok hW.toScrM) (fun v6 w6 hp6 => ?_)); obtain ⟨rfl, hm6⟩ := hp6; have hB := hB.grow hm6; have hW := hW.grow hm6; have hF := hF.grow hm6; have hG := hG.grow hm6; have hSc := hSc.grow hm6; refine ⟨fun _ => hSc, ?_⟩
  refine WH.one 12 rfl (by kernel_rfl) (OpTo.call ⟨Tryz.call63⟩ rfl rfl (scroll_ok hW.gw S.top S.past 1 (by omega) (by omega) ⟨0, S.c.a.bg, 0⟩) (fun v7 w7 hp7 => ?_)); obtain ⟨⟨z, rfl⟩, G2, hO, hS⟩ := hp7; have hF2 := FinC.grid hW hO hS; refine ⟨fun hl => (by have h2 := hl.symm.trans (show isLast _ _ = true from by kernel_rfl); cases h2), ?_⟩; refine WH.done (by kernel_rfl) ?_; refine WC.ret ?_; refine fin_none' rfl ?_; exact ⟨rfl, _, hF.trans hF2, fun hh => by exfalso; omega⟩
 ·refine WC.skip ?_; refine WC.regionD (fun w0 w1 => Grow w0 w1) 13 rfl mixed (fun w4 hm4 hz4 => ?_); have hmD3 := hm4; have hB := hB.grow hm4; have hW := hW.grow hm4; have hF := hF.grow hm4; have hG := hG.grow hm4; have hSc := Mod.refl (fun k => False) w4; refine WH.take 0 rfl (by kernel_rfl) hSc (fun w1 h1 => OpRun.move rfl) ?_; refine WH.take 1 rfl (by kernel_rfl) hSc (fun w1 h1 => OpRun.move rfl) ?_; refine WH.take 2 rfl (by kernel_rfl) hSc (fun w1 h1 => OpRun.nilCheck rfl) ?_; refine WH.take 3 rfl (by kernel_rfl) hSc (fun _ _ => oF 3 Tryz.runUnderlying70 Tryz.sizeOf43 rfl rfl rfl rfl) ?_; refine WH.take 4 rfl (by kernel_rfl) hSc (fun _ _ => oF 0 Tryz.runUnderlying43 Tryz.sizeOf3 rfl rfl rfl rfl) ?_; refine WH.take 5 rfl (by kernel_rfl) hSc (fun w1 h1 => OpRun.load rfl ⟨Tryz.isAgg3⟩ (hB.grow h1) rfl) ?_; refine WH.take 6 rfl (by kernel_rfl) hSc (fun w1 h1 => OpRun.add rfl rfl (In.i64 (by omega))) ?_
  refine WH.take 7 rfl (by kernel_rfl) hSc (fun w1 h1 => OpRun.move rfl) ?_; refine WH.take 8 rfl (by kernel_rfl) hSc (fun w1 h1 => OpRun.nilCheck rfl) ?_; refine WH.take 9 rfl (by kernel_rfl) hSc (fun _ _ => oF 3 Tryz.runUnderlying70 Tryz.sizeOf43 rfl rfl rfl rfl) ?_; refine WH.take 10 rfl (by kernel_rfl) hSc (fun _ _ => oF 1 Tryz.runUnderlying43 Tryz.sizeOf3 rfl rfl rfl rfl) ?_; refine WH.take 11 rfl (by kernel_rfl) hSc (fun w1 h1 => OpRun.load rfl ⟨Tryz.isAgg3⟩ (hB.grow h1) rfl) ?_; refine WH.one 12 rfl (by kernel_rfl) (OpTo.call ⟨Tryz.call32⟩ rfl rfl (to_ok hW (S.c.row + 1) S.c.col) (fun v5 w5 hp5 => ?_)); obtain ⟨rfl, hF2⟩ := hp5
  skip
  refine ⟨fun hl => (by have h2 := hl.symm.trans (show isLast _ _ = true from by kernel_rfl); cases h2), ?_⟩; refine WH.done (by kernel_rfl) ?_; refine fin_none rfl ?_; exact ⟨rfl, _, hF.trans hF2, fun _ => rfl⟩

theorem reverse_ok {w : World} {sb : Nat} {S : Scr} (h : ScrW w sb S) : Ret Tryz.prog 87 [.pointer (some ⟨sb, 0, none⟩)] w (fun r w' => r = .tuple #[] ∧ ∃ S', FinC w w' sb S S' 0 ∧ (S.c.row ≠ S.top → S' = S.nowrap.to ((S.c.row - 1 : Int)) S.c.col)) := by
 have hB := h.blk; unfold Scr.vals at hB; obtain ⟨hR1, hR2, hC1, hC2, hGr, hGc, hcr, hcc, hcs, htp, hpr⟩ := Scr.dims h; refine Ret.of Tryz.func87 Tryz.ntmps87 rfl rfl ?_; refine WC.sub (e' := [(0, .pointer (some ⟨sb, 0, none⟩))]) ⟨rfl, trivial⟩ ?_; have hG : Mod (fun k => k = sb) w w := Mod.refl _ _; refine WC.seq ?_; refine wsr ?_; refine vm rfl rfl ?_; refine vn rfl rfl ?_; refine vf 3 Tryz.runUnderlying70 Tryz.sizeOf43 rfl rfl rfl rfl rfl ?_; refine vf 2 Tryz.runUnderlying43 Tryz.sizeOf4 rfl rfl rfl rfl rfl ?_; refine WL.step (OpTo.store rfl rfl ⟨Tryz.sizeOf4⟩ rfl hB rfl (fun w1 hn1 hm1 hz1 => ?_))
 first | simp only [List.set_cons_zero, List.set_cons_succ] at hn1 | dsimp only [putList, List.set] at hn1
 have hG := hG.trans hm1 (fun _ h => h) (fun x hx hs => by (try dsimp only at hs ⊢); omega); have hB := hn1; have hF := FinC.cur h { S.c with wrap := false } h.ok.cur hG hB; have hW := hF.w; have hG : Mod (fun k => k = sb) w1 w1 := Mod.refl _ _; refine WL.nil ?_; refine WC.seq ?_; refine WC.regionD (fun w0 w1 => Grow w0 w1) 10 rfl mixed (fun w2 hm2 hz2 => ?_); have hmD1 := hm2; have hB := hB.grow hm2; have hW := hW.grow hm2; have hF := hF.grow hm2; have hG := hG.grow hm2; have hSc := Mod.refl (fun k => False) w2; refine WH.take 0 rfl (by kernel_rfl) hSc (fun w1 h1 => OpRun.move rfl) ?_; refine WH.take 1 rfl (by kernel_rfl) hSc (fun w1 h1 => OpRun.nilCheck rfl) ?_; refine WH.take 2 rfl (by kernel_rfl) hSc (fun _ _ => oF 3 Tryz.runUnderlying70 Tryz.sizeOf43 rfl rfl rfl rfl) ?_; refine WH.take 3 rfl (by kernel_rfl) hSc (fun _ _ => oF 0 Tryz.runUnderlying43 Tryz.sizeOf3 rfl rfl rfl rfl) ?_
 refine WH.take 4 rfl (by kernel_rfl) hSc (fun w1 h1 => OpRun.load rfl ⟨Tryz.isAgg3⟩ (hB.grow h1) rfl) ?_; refine WH.take 5 rfl (by kernel_rfl) hSc (fun w1 h1 => OpRun.move rfl) ?_; refine WH.take 6 rfl (by kernel_rfl) hSc (fun w1 h1 => OpRun.nilCheck rfl) ?_; refine WH.take 7 rfl (by kernel_rfl) hSc (fun _ _ => oF 37 Tryz.runUnderlying70 Tryz.sizeOf3 rfl rfl rfl rfl) ?_; refine WH.take 8 rfl (by kernel_rfl) hSc (fun w1 h1 => OpRun.load rfl ⟨Tryz.isAgg3⟩ (hB.grow h1) rfl) ?_; refine WH.take 9 rfl (by kernel_rfl) hSc (fun w1 h1 => OpRun.eql rfl rfl) ?_; refine WH.done (by kernel_rfl) ?_; refine WC.condD rfl (fun hq3 => ?_) (fun hq3 => ?_)
 ·refine WC.seq ?_; refine WC.regionD (fun w0 w1 => Grow w0 w1) 13 rfl mixed (fun w4 hm4 hz4 => ?_); have hmD2 := hm4; have hB := hB.grow hm4; have hW := hW.grow hm4; have hF := hF.grow hm4; have hG := hG.grow hm4; have hSc := Mod.refl (fun k => False) w4; have hW0 := hF; refine WH.take 0 rfl (by kernel_rfl) hSc (fun w1 h1 => OpRun.move rfl) ?_; refine WH.take 2 rfl (by kernel_rfl) hSc (fun w1 h1 => OpRun.move rfl) ?_; refine WH.take 3 rfl (by kernel_rfl) hSc (fun w1 h1 => OpRun.nilCheck rfl) ?_; refine WH.take 4 rfl (by kernel_rfl) hSc (fun _ _ => oF 37 Tryz.runUnderlying70 Tryz.sizeOf3 rfl rfl rfl rfl) ?_; refine WH.take 5 rfl (by kernel_rfl) hSc (fun w1 h1 => OpRun.load rfl ⟨Tryz.isAgg3⟩ (hB.grow h1) rfl) ?_; refine WH.take 6 rfl (by kernel_rfl) hSc (fun w1 h1 => OpRun.move rfl) ?_; refine WH.take 7 rfl (by kernel_rfl) hSc (fun w1 h1 => OpRun.nilCheck rfl) ?_
  refine WH.take 8 rfl (by kernel_rfl) hSc (fun _ _ => oF 38 Tryz.runUnderlying70 Tryz.sizeOf3 rfl rfl rfl rfl) ?_; refine WH.take 9 rfl (by kernel_rfl) hSc (fun w1 h1 => OpRun.load rfl ⟨Tryz.isAgg3⟩ (hB.grow h1) rfl) ?_; refine WH.take 10 rfl (by kernel_rfl) hSc (fun w1 h1 => OpRun.move rfl) ?_; refine WH.one 1 rfl (by kernel_rfl) (OpTo.call ⟨Tryz.call29⟩ rfl rfl (g_ok hW.toScrM hW.ok.now) (fun v5 w5 hp5 => ?_)); obtain ⟨rfl, hm5⟩ := hp5; have hB := hB.grow hm5; have hW := hW.grow hm5; have hF := hF.grow hm5; have hG := hG.grow hm5; have hSc := hSc.grow hm5; refine ⟨fun _ => hSc, ?_⟩; refine WH.one 11 rfl (by kernel_rfl) (OpTo.call ⟨Tryz.call67⟩ rfl rfl (blank_ok hW.toScrM) (fun v6 w6 hp6 => ?_)); obtain ⟨rfl, hm6⟩ := hp6; have hB := hB.grow hm6; have hW := hW.grow hm6; have hF := hF.grow hm6; have hG := hG.grow hm6; have hSc := hSc.grow hm6; refine ⟨fun _ => hSc, ?_⟩
  refine WH.one 12 rfl (by kernel_rfl) (OpTo.call ⟨Tryz.call63⟩ rfl rfl (scroll_ok hW.gw S.top S.past (-1) (by omega) (by omega) ⟨0, S.c.a.bg, 0⟩) (fun v7 w7 hp7 => ?_)); obtain ⟨⟨z, rfl⟩, G2, hO, hS⟩ := hp7; have hF2 := FinC.grid hW hO hS; refine ⟨fun hl => (by have h2 := hl.symm.trans (show isLast _ _ = true from by kernel_rfl); cases h2), ?_⟩; refine WH.done (by kernel_rfl) ?_; refine WC.ret ?_; refine fin_none' rfl ?_; exact ⟨rfl, _, hF.trans hF2, fun hh => by exfalso; omega⟩
 ·refine WC.skip ?_; refine WC.regionD (fun w0 w1 => Grow w0 w1) 13 rfl mixed (fun w4 hm4 hz4 => ?_); have hmD3 := hm4; have hB := hB.grow hm4; have hW := hW.grow hm4; have hF := hF.grow hm4; have hG := hG.grow hm4; have hSc := Mod.refl (fun k => False) w4; refine WH.take 0 rfl (by kernel_rfl) hSc (fun w1 h1 => OpRun.move rfl) ?_; refine WH.take 1 rfl (by kernel_rfl) hSc (fun w1 h1 => OpRun.move rfl) ?_; refine WH.take 2 rfl (by kernel_rfl) hSc (fun w1 h1 => OpRun.nilCheck rfl) ?_; refine WH.take 3 rfl (by kernel_rfl) hSc (fun _ _ => oF 3 Tryz.runUnderlying70 Tryz.sizeOf43 rfl rfl rfl rfl) ?_; refine WH.take 4 rfl (by kernel_rfl) hSc (fun _ _ => oF 0 Tryz.runUnderlying43 Tryz.sizeOf3 rfl rfl rfl rfl) ?_; refine WH.take 5 rfl (by kernel_rfl) hSc (fun w1 h1 => OpRun.load rfl ⟨Tryz.isAgg3⟩ (hB.grow h1) rfl) ?_; refine WH.take 6 rfl (by kernel_rfl) hSc (fun w1 h1 => OpRun.sub rfl rfl (In.i64 (by omega))) ?_
  refine WH.take 7 rfl (by kernel_rfl) hSc (fun w1 h1 => OpRun.move rfl) ?_; refine WH.take 8 rfl (by kernel_rfl) hSc (fun w1 h1 => OpRun.nilCheck rfl) ?_; refine WH.take 9 rfl (by kernel_rfl) hSc (fun _ _ => oF 3 Tryz.runUnderlying70 Tryz.sizeOf43 rfl rfl rfl rfl) ?_; refine WH.take 10 rfl (by kernel_rfl) hSc (fun _ _ => oF 1 Tryz.runUnderlying43 Tryz.sizeOf3 rfl rfl rfl rfl) ?_; refine WH.take 11 rfl (by kernel_rfl) hSc (fun w1 h1 => OpRun.load rfl ⟨Tryz.isAgg3⟩ (hB.grow h1) rfl) ?_; refine WH.one 12 rfl (by kernel_rfl) (OpTo.call ⟨Tryz.call32⟩ rfl rfl (to_ok hW (S.c.row - 1) S.c.col) (fun v5 w5 hp5 => ?_)); obtain ⟨rfl, hF2⟩ := hp5
  skip
  refine ⟨fun hl => (by have h2 := hl.symm.trans (show isLast _ _ = true from by kernel_rfl); cases h2), ?_⟩; refine WH.done (by kernel_rfl) ?_; refine fin_none rfl ?_; exact ⟨rfl, _, hF.trans hF2, fun _ => rfl⟩

end Go.Eng
namespace Go.Eng
open Go Go.Proofs

/-- A parameter of a sequence. -/
def param (ps : List Int) (i : Nat) (none : Int) : Int := if ps.length ≤ i ∨ ps.getD i 0 = 0 then none else ps.getD i 0

/-- The block that numbers lie in. -/
def vblk : Value → Option Nat
  | .slice (some a) (_ + 1) _ => some a.block
  | _ => none
/-- Numbers in memory, wherever they lie: they are only read. -/
structure RI (w : World) (v : Value) (ps : List Int) (len cap : Nat) : Prop where
  shape : ∃ ad, v = .slice ad len cap ∧ (0 < len → ∃ b o, ad = some ⟨b, o, none⟩ ∧ b < w.heap.size ∧ ∀ i, i < len → w.cell? ⟨b, o + i * 1, none⟩ = some (.int .i64 (ps.getD i 0)))
  hlen : ps.length = len
  hle : len ≤ cap
  hcap : cap ≤ 9223372036854775807
theorem RI.slice {w : World} {v : Value} {ps : List Int} {len cap : Nat} (h : RI w v ps len cap) : ∃ ad, v = .slice ad len cap := let ⟨ad, h, _⟩ := h.shape; ⟨ad, h⟩
theorem RI.pos {w : World} {v : Value} {ps : List Int} {len cap : Nat} (h : RI w v ps len cap) (hl : 0 < len) : ∃ b o, v = .slice (some ⟨b, o, none⟩) len cap := by
  obtain ⟨ad, hv, hr⟩ := h.shape
  obtain ⟨b, o, rfl, _⟩ := hr hl
  exact ⟨b, o, hv⟩
theorem RI.rd {w : World} {b o : Nat} {ps : List Int} {len cap : Nat} (h : RI w (.slice (some ⟨b, o, none⟩) len cap) ps len cap) {i : Nat} (hi : i < len) : w.cell? ⟨b, o + i * 1, none⟩ = some (.int .i64 (ps.getD i 0)) := by
  obtain ⟨ad, hv, hr⟩ := h.shape
  obtain ⟨b', o', rfl, _, hc⟩ := hr (by omega)
  cases hv
  exact hc i hi
theorem RI.lt {w : World} {v : Value} {ps : List Int} {len cap : Nat} (h : RI w v ps len cap) : ∀ k, vblk v = some k → k < w.heap.size := by
  obtain ⟨ad, rfl, hr⟩ := h.shape
  intro k hk
  cases len with
  | zero => cases ad <;> cases hk
  | succ n =>
    obtain ⟨b, o, rfl, hb, _⟩ := hr (by omega)
    cases hk; exact hb
theorem RI.mod {S : Nat → Prop} {w w' : World} {v : Value} {ps : List Int} {len cap : Nat} (h : RI w v ps len cap) (hm : Mod S w w') (hs : ∀ k, vblk v = some k → ¬ S k) : RI w' v ps len cap := by
  obtain ⟨ad, rfl, hr⟩ := h.shape
  refine ⟨⟨ad, rfl, fun hl => ?_⟩, h.hlen, h.hle, h.hcap⟩
  obtain ⟨b, o, rfl, hb, hc⟩ := hr hl
  refine ⟨b, o, rfl, Nat.lt_of_lt_of_le hb hm.size, fun i hi => ?_⟩
  obtain ⟨n, rfl⟩ : ∃ n, len = n + 1 := ⟨len - 1, by omega⟩
  rw [← hc i hi]
  unfold World.cell?
  rw [hm.block b hb (hs b rfl)]
theorem RI.grow {w w' : World} {v : Value} {ps : List Int} {len cap : Nat} (h : RI w v ps len cap) (hm : Grow w w') : RI w' v ps len cap := h.mod hm fun _ _ h => h
theorem RI.nil (w : World) : RI w (.slice none 0 0) [] 0 0 := ⟨⟨none, rfl, fun h => absurd h (by omega)⟩, rfl, Nat.le_refl _, by omega⟩
/-- Out of typed memory. -/
theorem RI.of {w : World} {v : Value} {ps : List Int} {cap : Nat} (h : Sl w v 3 1 (ps.map (Value.int .i64)) ps.length cap) : RI w v ps ps.length cap := by
  refine ⟨?_, rfl, h.hle, h.hcap⟩
  rcases h.shape with ⟨rfl, _, h2, rfl⟩ | ⟨b, o, blk, rfl, hb, hat, _⟩
  · exact ⟨none, by rw [h2], fun hl => absurd hl (by omega)⟩
  · refine ⟨_, rfl, fun _ => ⟨b, o, rfl, hb.lt, fun i hi => hb.cell ?_⟩⟩
    have h1 : (ps.map (Value.int .i64))[i]? = some (Value.int .i64 (ps.getD i 0)) := by simp [List.getD_eq_getElem?_getD, hi]
    have h2 := hat.get i (by simpa using hi)
    rw [h1] at h2
    rw [Nat.mul_one]; exact h2
theorem vblk_cut {b o o' n i c c' k : Nat} (h : vblk (.slice (some ⟨b, o', none⟩) (n - i) c') = some k) : vblk (.slice (some ⟨b, o, none⟩) n c) = some k := by
  cases hn : n - i with
  | zero => rw [hn] at h; cases h
  | succ m =>
    obtain ⟨q, rfl⟩ : ∃ q, n = q + 1 := ⟨n - 1, by omega⟩
    rw [hn] at h; exact h
theorem RI.cut {w : World} {b o n cap : Nat} {ps : List Int} (h : RI w (.slice (some ⟨b, o, none⟩) n cap) ps n cap) (i : Nat) (hi : i ≤ n) : RI w (.slice (some ⟨b, subo o i 1 cap, none⟩) (n - i) (cap - i)) (ps.drop i) (n - i) (cap - i) := by
  have hle := h.hle
  have hl := h.hlen
  have hcp := h.hcap
  refine ⟨⟨_, rfl, fun h0 => ⟨b, _, rfl, ?_, fun j hj => ?_⟩⟩, by rw [List.length_drop]; omega, by omega, by omega⟩
  · obtain ⟨q, rfl⟩ : ∃ q, n = q + 1 := ⟨n - 1, by omega⟩
    exact h.lt b rfl
  · have h1 := h.rd (i := i + j) (by omega)
    have e1 : subo o i 1 cap + j * 1 = o + (i + j) * 1 := by unfold subo; rw [if_neg (by omega)]; omega
    rw [e1, h1]
    simp [List.getD_eq_getElem?_getD, List.getElem?_drop]
def IntsV (w : World) (v : Value) (ps : List Int) : Prop := ∃ cap, RI w v ps ps.length cap
theorem IntsV.mod {S : Nat → Prop} {w w' : World} {v : Value} {ps : List Int} (h : IntsV w v ps) (hm : Mod S w w') (hs : ∀ k, vblk v = some k → ¬ S k) : IntsV w' v ps := let ⟨c, h⟩ := h; ⟨c, h.mod hm hs⟩
theorem IntsV.grow {w w' : World} {v : Value} {ps : List Int} (h : IntsV w v ps) (hm : Grow w w') : IntsV w' v ps := h.mod hm fun _ _ h => h
theorem IntsV.lt {w : World} {v : Value} {ps : List Int} (h : IntsV w v ps) : ∀ k, vblk v = some k → k < w.heap.size := let ⟨_, h⟩ := h; h.lt

theorem FinC.areas {w w' : World} {sb : Nat} {S : Scr} (h : ScrW w sb S) (v : Value) (avs : List Value) (cap : Nat) (hm : Mod (fun k => k = sb ∨ sblk S.av = some k) w w')
    (hb : Blk w' sb 70 ({ S with av := v, avs := avs, an := S.an + 1, acap := cap } : Scr).vals) (hsl : Sl w' v 166 5 avs (S.an + 1) cap) (h1 : avs.all Value.one = true) (hf : ∀ k, sblk v = some k → sblk S.av = some k ∨ w.heap.size ≤ k) :
    FinC w w' sb S { S with av := v, avs := avs, an := S.an + 1, acap := cap } 1 := by
  have hM := h.toScrM
  have hne : ∀ j, (S.G0.own S.g0 j ∨ S.G1.own S.g1 j ∨ j = S.mm ∨ j = S.pm ∨ S.T.own S.tb j) → ¬ (j = sb ∨ sblk S.av = some j) := by
    intro j hj hk
    have hbk : ∃ T, (T = 70 ∨ T = 166) ∧ BK w j T := by
      rcases hk with rfl | hk
      · exact ⟨_, .inl rfl, .inl ⟨_, hM.blk⟩⟩
      · exact ⟨_, .inr rfl, bk_areas hM.areas hk⟩
    obtain ⟨T, hT, bk⟩ := hbk
    rcases hj with hj | hj | rfl | rfl | hj
    · exact grid_ne hM.ga hj (by omega) bk
    · exact grid_ne hM.gb hj (by omega) bk
    · have := bk.uniq (.inr ⟨rfl, _, hM.mods⟩) (by omega); omega
    · have := bk.uniq (.inr ⟨rfl, _, hM.priv⟩) (by omega); omega
    · rcases bk_tabs hM.tabs hj with ⟨_, b⟩ | ⟨_, b⟩
      · have := bk.uniq b (by omega); omega
      · have := bk.uniq b (by omega); omega
  have hnl : NoLine w (fun k => k = sb ∨ sblk S.av = some k) := by
    rintro k (rfl | hk) cs hb'
    · exact absurd (hM.blk.typ_eq hb') (by decide)
    · obtain ⟨bl, hbl⟩ := hM.areas.typ hk; exact absurd (hbl.typ_eq hb') (by decide)
  refine ⟨⟨⟨hb, hM.ga.mod hm (fun k hk => hne k (.inl hk)) hnl, hM.gb.mod hm (fun k hk => hne k (.inr (.inl hk))) hnl, hM.mods.mod hm (hne _ (.inr (.inr (.inl rfl)))), hM.priv.mod hm (hne _ (.inr (.inr (.inr (.inl rfl))))), hM.tabs.mod hm (fun k hk => hne k (.inr (.inr (.inr (.inr hk))))),
    hsl, h1, hM.disG, hM.dis1, hM.dis2, hM.dis3⟩, hm.mono (fun x _ hx => hx.elim .inl (fun h => .inr (.inr (.inr (.inr (.inr (.inr h))))))), ?_⟩, ⟨⟨rfl, rfl⟩, rfl, rfl, rfl, rfl, rfl, rfl, rfl, rfl, rfl⟩, ⟨h.ok.now, h.ok.rows, h.ok.cols, h.ok.tcols, h.ok.cur, h.ok.v0, h.ok.v1, h.ok.top⟩, Nat.le_refl _⟩
  rintro k (hk | hk | hk | hk | hk | hk | hk)
  · exact .inl (.inl hk)
  · exact .inl (.inr (.inl hk))
  · exact .inl (.inr (.inr (.inl hk)))
  · exact .inl (.inr (.inr (.inr (.inl hk))))
  · exact .inl (.inr (.inr (.inr (.inr (.inl hk)))))
  · exact .inl (.inr (.inr (.inr (.inr (.inr (.inl hk))))))
  · exact (hf k hk).imp (fun h => .inr (.inr (.inr (.inr (.inr (.inr h)))))) id

/-- What a call that erases leaves of the cursor. -/
theorem Scr.put_c (S : Scr) (G : Grid) : (S.put G).c = S.c := by unfold Scr.put; split <;> rfl
theorem Scr.put_an (S : Scr) (G : Grid) : (S.put G).an = S.an := by unfold Scr.put; split <;> rfl
theorem tb166 {a b c d e : Value} (ha : ∃ x, a = .bool x) (hb : ∃ x, b = .int .i64 x) (hc : ∃ x, c = .int .i64 x) (hd : ∃ x, d = .int .i64 x) (he : ∃ x, e = .int .i64 x) : TBuild Tryz.prog 166 [(0, a), (1, b), (2, c), (3, d), (4, e)] (.agg #[a, b, c, d, e]) := by
  obtain ⟨a, rfl⟩ := ha; obtain ⟨b, rfl⟩ := hb; obtain ⟨c, rfl⟩ := hc; obtain ⟨d, rfl⟩ := hd; obtain ⟨e, rfl⟩ := he
  exact TBuild.struct (cs := [_, _, _, _, _]) ⟨Tryz.zeroValue166⟩ ⟨Tryz.runUnderlying166⟩ (places := #[(0, 1), (1, 1), (2, 1), (3, 1), (4, 1)]) (fun w => by simp [Tryz.sizeOf3, Tryz.sizeOf4, Tryz.sizeOf2]) rfl
theorem tb166_0_1_2_3_4 {a : Bool} {b c d e : Int} : TBuild Tryz.prog 166 [(0, .bool a), (1, .int .i64 b), (2, .int .i64 c), (3, .int .i64 d), (4, .int .i64 e)] (.agg #[.bool a, .int .i64 b, .int .i64 c, .int .i64 d, .int .i64 e]) := tb166 ⟨_, rfl⟩ ⟨_, rfl⟩ ⟨_, rfl⟩ ⟨_, rfl⟩ ⟨_, rfl⟩

theorem up_ok {w : World} {sb : Nat} {S : Scr} (h : ScrW w sb S) (n : Int) (hn : -1099511627776 ≤ n ∧ n ≤ 1099511627776) : Ret Tryz.prog 132 [.pointer (some ⟨sb, 0, none⟩), .int .i64 n] w (fun r w' => r = .tuple #[] ∧ ∃ S', FinC w w' sb S S' 0) := by
 have hB := h.blk; unfold Scr.vals at hB; obtain ⟨hR1, hR2, hC1, hC2, hGr, hGc, hcr, hcc, hcs, htp, hpr⟩ := Scr.dims h; have hW := h; have hF := FinC.refl h; refine Ret.of Tryz.func132 Tryz.ntmps132 rfl rfl ?_; refine WC.sub (e' := [(0, .pointer (some ⟨sb, 0, none⟩)), (1, .int .i64 n)]) ⟨rfl, rfl, trivial⟩ ?_; have hG : Mod (fun k => k = sb) w w := Mod.refl _ _; refine wsr ?_; refine va rfl rfl ?_; refine WL.nil ?_; refine WC.seq ?_; refine WC.seq ?_; refine WC.regionD (fun w0 w1 => Grow w0 w1) 10 rfl mixed (fun w1 hm1 hz1 => ?_); have hmD1 := hm1; have hB := hB.grow hm1; have hW := hW.grow hm1; have hF := hF.grow hm1; have hG := hG.grow hm1; have hSc := Mod.refl (fun k => False) w1; refine WH.take 0 rfl (by kernel_rfl) hSc (fun w1 h1 => OpRun.move rfl) ?_; refine WH.take 1 rfl (by kernel_rfl) hSc (fun w1 h1 => OpRun.nilCheck rfl) ?_; refine WH.take 2 rfl (by kernel_rfl) hSc (fun _ _ => oF 3 Tryz.runUnderlying70 Tryz.sizeOf43 rfl rfl rfl rfl) ?_
 refine WH.take 3 rfl (by kernel_rfl) hSc (fun _ _ => oF 0 Tryz.runUnderlying43 Tryz.sizeOf3 rfl rfl rfl rfl) ?_; refine WH.take 4 rfl (by kernel_rfl) hSc (fun w1 h1 => OpRun.load rfl ⟨Tryz.isAgg3⟩ (hB.grow h1) rfl) ?_; refine WH.take 5 rfl (by kernel_rfl) hSc (fun w1 h1 => OpRun.move rfl) ?_; refine WH.take 6 rfl (by kernel_rfl) hSc (fun w1 h1 => OpRun.nilCheck rfl) ?_; refine WH.take 7 rfl (by kernel_rfl) hSc (fun _ _ => oF 37 Tryz.runUnderlying70 Tryz.sizeOf3 rfl rfl rfl rfl) ?_; refine WH.take 8 rfl (by kernel_rfl) hSc (fun w1 h1 => OpRun.load rfl ⟨Tryz.isAgg3⟩ (hB.grow h1) rfl) ?_; refine WH.take 9 rfl (by kernel_rfl) hSc (fun w1 h1 => OpRun.geq rfl rfl) ?_; refine WH.done (by kernel_rfl) ?_; refine WC.condD rfl (fun hq2 => ?_) (fun hq2 => ?_)
 ·refine WC.region ?_; refine vm rfl rfl ?_; refine vn rfl rfl ?_; refine vf 37 Tryz.runUnderlying70 Tryz.sizeOf3 rfl rfl rfl rfl rfl ?_; refine WL.val (OpRun.load rfl ⟨Tryz.isAgg3⟩ hB rfl) rfl ?_; refine va rfl rfl ?_; refine WL.nil ?_; refine WC.regionD (fun w0 w1 => Grow w0 w1) 16 rfl mixed (fun w3 hm3 hz3 => ?_); have hmD3 := hm3; have hB := hB.grow hm3; have hW := hW.grow hm3; have hF := hF.grow hm3; have hG := hG.grow hm3; have hSc := Mod.refl (fun k => False) w3; refine WH.take 0 rfl (by kernel_rfl) hSc (fun w1 h1 => OpRun.move rfl) ?_; refine WH.take 1 rfl (by kernel_rfl) hSc (fun w1 h1 => OpRun.move rfl) ?_; refine WH.take 2 rfl (by kernel_rfl) hSc (fun w1 h1 => OpRun.nilCheck rfl) ?_; refine WH.take 3 rfl (by kernel_rfl) hSc (fun _ _ => oF 3 Tryz.runUnderlying70 Tryz.sizeOf43 rfl rfl rfl rfl) ?_
  refine WH.take 4 rfl (by kernel_rfl) hSc (fun _ _ => oF 0 Tryz.runUnderlying43 Tryz.sizeOf3 rfl rfl rfl rfl) ?_; refine WH.take 5 rfl (by kernel_rfl) hSc (fun w1 h1 => OpRun.load rfl ⟨Tryz.isAgg3⟩ (hB.grow h1) rfl) ?_; refine WH.take 6 rfl (by kernel_rfl) hSc (fun w1 h1 => OpRun.move rfl) ?_; refine WH.take 7 rfl (by kernel_rfl) hSc (fun w1 h1 => OpRun.sub rfl rfl (In.i64 (by omega))) ?_; refine WH.take 8 rfl (by kernel_rfl) hSc (fun w1 h1 => OpRun.move rfl) ?_; refine WH.take 9 rfl (by kernel_rfl) hSc (fun w1 h1 => OpRun.bmax rfl) ?_; refine WH.take 10 rfl (by kernel_rfl) hSc (fun w1 h1 => OpRun.move rfl) ?_; refine WH.take 11 rfl (by kernel_rfl) hSc (fun w1 h1 => OpRun.nilCheck rfl) ?_; refine WH.take 12 rfl (by kernel_rfl) hSc (fun _ _ => oF 3 Tryz.runUnderlying70 Tryz.sizeOf43 rfl rfl rfl rfl) ?_; refine WH.take 13 rfl (by kernel_rfl) hSc (fun _ _ => oF 1 Tryz.runUnderlying43 Tryz.sizeOf3 rfl rfl rfl rfl) ?_
  refine WH.take 14 rfl (by kernel_rfl) hSc (fun w1 h1 => OpRun.load rfl ⟨Tryz.isAgg3⟩ (hB.grow h1) rfl) ?_; refine WH.one 15 rfl (by kernel_rfl) (OpTo.call ⟨Tryz.call32⟩ rfl rfl (to_ok hW (_) (_)) (fun v4 w4 hp4 => ?_)); obtain ⟨rfl, hF2⟩ := hp4; have hF := hF.trans hF2; have hW := hF.w; have hB := hW.blk; unfold Scr.vals at hB; have hG : Mod (fun k => k = sb) w4 w4 := Mod.refl _ _; refine ⟨fun hl => (by have h2 := hl.symm.trans (show isLast _ _ = true from by kernel_rfl); cases h2), ?_⟩; refine WH.done (by kernel_rfl) ?_; refine fin_none rfl ?_; exact ⟨rfl, _, hF⟩
 ·refine WC.skip ?_; refine WC.regionD (fun w0 w1 => Grow w0 w1) 16 rfl mixed (fun w3 hm3 hz3 => ?_); have hmD3 := hm3; have hB := hB.grow hm3; have hW := hW.grow hm3; have hF := hF.grow hm3; have hG := hG.grow hm3; have hSc := Mod.refl (fun k => False) w3; refine WH.take 0 rfl (by kernel_rfl) hSc (fun w1 h1 => OpRun.move rfl) ?_; refine WH.take 1 rfl (by kernel_rfl) hSc (fun w1 h1 => OpRun.move rfl) ?_; refine WH.take 2 rfl (by kernel_rfl) hSc (fun w1 h1 => OpRun.nilCheck rfl) ?_; refine WH.take 3 rfl (by kernel_rfl) hSc (fun _ _ => oF 3 Tryz.runUnderlying70 Tryz.sizeOf43 rfl rfl rfl rfl) ?_; refine WH.take 4 rfl (by kernel_rfl) hSc (fun _ _ => oF 0 Tryz.runUnderlying43 Tryz.sizeOf3 rfl rfl rfl rfl) ?_; refine WH.take 5 rfl (by kernel_rfl) hSc (fun w1 h1 => OpRun.load rfl ⟨Tryz.isAgg3⟩ (hB.grow h1) rfl) ?_; refine WH.take 6 rfl (by kernel_rfl) hSc (fun w1 h1 => OpRun.move rfl) ?_
  refine WH.take 7 rfl (by kernel_rfl) hSc (fun w1 h1 => OpRun.sub rfl rfl (In.i64 (by omega))) ?_; refine WH.take 8 rfl (by kernel_rfl) hSc (fun w1 h1 => OpRun.move rfl) ?_; refine WH.take 9 rfl (by kernel_rfl) hSc (fun w1 h1 => OpRun.bmax rfl) ?_; refine WH.take 10 rfl (by kernel_rfl) hSc (fun w1 h1 => OpRun.move rfl) ?_; refine WH.take 11 rfl (by kernel_rfl) hSc (fun w1 h1 => OpRun.nilCheck rfl) ?_; refine WH.take 12 rfl (by kernel_rfl) hSc (fun _ _ => oF 3 Tryz.runUnderlying70 Tryz.sizeOf43 rfl rfl rfl rfl) ?_; refine WH.take 13 rfl (by kernel_rfl) hSc (fun _ _ => oF 1 Tryz.runUnderlying43 Tryz.sizeOf3 rfl rfl rfl rfl) ?_; refine WH.take 14 rfl (by kernel_rfl) hSc (fun w1 h1 => OpRun.load rfl ⟨Tryz.isAgg3⟩ (hB.grow h1) rfl) ?_; refine WH.one 15 rfl (by kernel_rfl) (OpTo.call ⟨Tryz.call32⟩ rfl rfl (to_ok hW (_) (_)) (fun v4 w4 hp4 => ?_))
  obtain ⟨rfl, hF2⟩ := hp4; have hF := hF.trans hF2; have hW := hF.w; have hB := hW.blk; unfold Scr.vals at hB; have hG : Mod (fun k => k = sb) w4 w4 := Mod.refl _ _; refine ⟨fun hl => (by have h2 := hl.symm.trans (show isLast _ _ = true from by kernel_rfl); cases h2), ?_⟩; refine WH.done (by kernel_rfl) ?_; refine fin_none rfl ?_; exact ⟨rfl, _, hF⟩

theorem down_ok {w : World} {sb : Nat} {S : Scr} (h : ScrW w sb S) (n : Int) (hn : -1099511627776 ≤ n ∧ n ≤ 1099511627776) : Ret Tryz.prog 133 [.pointer (some ⟨sb, 0, none⟩), .int .i64 n] w (fun r w' => r = .tuple #[] ∧ ∃ S', FinC w w' sb S S' 0) := by
 have hB := h.blk; unfold Scr.vals at hB; obtain ⟨hR1, hR2, hC1, hC2, hGr, hGc, hcr, hcc, hcs, htp, hpr⟩ := Scr.dims h; have hW := h; have hF := FinC.refl h; refine Ret.of Tryz.func133 Tryz.ntmps133 rfl rfl ?_; refine WC.sub (e' := [(0, .pointer (some ⟨sb, 0, none⟩)), (1, .int .i64 n)]) ⟨rfl, rfl, trivial⟩ ?_; have hG : Mod (fun k => k = sb) w w := Mod.refl _ _; refine wsr ?_; refine vm rfl rfl ?_; refine WL.step (OpTo.call ⟨Tryz.call45⟩ rfl rfl (size_ok hW.toScrM hW.ok.now) (fun v1 w1 hp1 => ?_)); obtain ⟨rfl, hm1⟩ := hp1; have hB := hB.grow hm1; have hW := hW.grow hm1; have hF := hF.grow hm1; have hG := hG.grow hm1; refine vm rfl rfl ?_; refine WL.val (OpRun.extract rfl rfl) rfl ?_; refine WL.val (OpRun.extract rfl rfl) rfl ?_; refine va rfl rfl ?_; refine va rfl rfl ?_; refine WL.nil ?_; refine WC.seq ?_
 refine WC.seq ?_; refine WC.regionD (fun w0 w1 => Grow w0 w1) 10 rfl mixed (fun w2 hm2 hz2 => ?_); have hmD1 := hm2; have hB := hB.grow hm2; have hW := hW.grow hm2; have hF := hF.grow hm2; have hG := hG.grow hm2; have hSc := Mod.refl (fun k => False) w2; refine WH.take 0 rfl (by kernel_rfl) hSc (fun w1 h1 => OpRun.move rfl) ?_; refine WH.take 1 rfl (by kernel_rfl) hSc (fun w1 h1 => OpRun.nilCheck rfl) ?_; refine WH.take 2 rfl (by kernel_rfl) hSc (fun _ _ => oF 3 Tryz.runUnderlying70 Tryz.sizeOf43 rfl rfl rfl rfl) ?_; refine WH.take 3 rfl (by kernel_rfl) hSc (fun _ _ => oF 0 Tryz.runUnderlying43 Tryz.sizeOf3 rfl rfl rfl rfl) ?_; refine WH.take 4 rfl (by kernel_rfl) hSc (fun w1 h1 => OpRun.load rfl ⟨Tryz.isAgg3⟩ (hB.grow h1) rfl) ?_; refine WH.take 5 rfl (by kernel_rfl) hSc (fun w1 h1 => OpRun.move rfl) ?_; refine WH.take 6 rfl (by kernel_rfl) hSc (fun w1 h1 => OpRun.nilCheck rfl) ?_
 refine WH.take 7 rfl (by kernel_rfl) hSc (fun _ _ => oF 38 Tryz.runUnderlying70 Tryz.sizeOf3 rfl rfl rfl rfl) ?_; refine WH.take 8 rfl (by kernel_rfl) hSc (fun w1 h1 => OpRun.load rfl ⟨Tryz.isAgg3⟩ (hB.grow h1) rfl) ?_; refine WH.take 9 rfl (by kernel_rfl) hSc (fun w1 h1 => OpRun.lss rfl rfl) ?_; refine WH.done (by kernel_rfl) ?_; refine WC.condD rfl (fun hq3 => ?_) (fun hq3 => ?_)
 ·refine WC.region ?_; refine vm rfl rfl ?_; refine vn rfl rfl ?_; refine vf 38 Tryz.runUnderlying70 Tryz.sizeOf3 rfl rfl rfl rfl rfl ?_; refine WL.val (OpRun.load rfl ⟨Tryz.isAgg3⟩ hB rfl) rfl ?_; refine va rfl rfl ?_; refine WL.nil ?_; refine WC.regionD (fun w0 w1 => Grow w0 w1) 17 rfl mixed (fun w4 hm4 hz4 => ?_); have hmD3 := hm4; have hB := hB.grow hm4; have hW := hW.grow hm4; have hF := hF.grow hm4; have hG := hG.grow hm4; have hSc := Mod.refl (fun k => False) w4; refine WH.take 0 rfl (by kernel_rfl) hSc (fun w1 h1 => OpRun.move rfl) ?_; refine WH.take 1 rfl (by kernel_rfl) hSc (fun w1 h1 => OpRun.move rfl) ?_; refine WH.take 2 rfl (by kernel_rfl) hSc (fun w1 h1 => OpRun.nilCheck rfl) ?_; refine WH.take 3 rfl (by kernel_rfl) hSc (fun _ _ => oF 3 Tryz.runUnderlying70 Tryz.sizeOf43 rfl rfl rfl rfl) ?_
  refine WH.take 4 rfl (by kernel_rfl) hSc (fun _ _ => oF 0 Tryz.runUnderlying43 Tryz.sizeOf3 rfl rfl rfl rfl) ?_; refine WH.take 5 rfl (by kernel_rfl) hSc (fun w1 h1 => OpRun.load rfl ⟨Tryz.isAgg3⟩ (hB.grow h1) rfl) ?_; refine WH.take 6 rfl (by kernel_rfl) hSc (fun w1 h1 => OpRun.move rfl) ?_; refine WH.take 7 rfl (by kernel_rfl) hSc (fun w1 h1 => OpRun.add rfl rfl (In.i64 (by omega))) ?_; refine WH.take 8 rfl (by kernel_rfl) hSc (fun w1 h1 => OpRun.move rfl) ?_; refine WH.take 9 rfl (by kernel_rfl) hSc (fun w1 h1 => OpRun.sub rfl rfl (In.i64 (by omega))) ?_; refine WH.take 10 rfl (by kernel_rfl) hSc (fun w1 h1 => OpRun.bmin rfl) ?_; refine WH.take 11 rfl (by kernel_rfl) hSc (fun w1 h1 => OpRun.move rfl) ?_; refine WH.take 12 rfl (by kernel_rfl) hSc (fun w1 h1 => OpRun.nilCheck rfl) ?_; refine WH.take 13 rfl (by kernel_rfl) hSc (fun _ _ => oF 3 Tryz.runUnderlying70 Tryz.sizeOf43 rfl rfl rfl rfl) ?_
  refine WH.take 14 rfl (by kernel_rfl) hSc (fun _ _ => oF 1 Tryz.runUnderlying43 Tryz.sizeOf3 rfl rfl rfl rfl) ?_; refine WH.take 15 rfl (by kernel_rfl) hSc (fun w1 h1 => OpRun.load rfl ⟨Tryz.isAgg3⟩ (hB.grow h1) rfl) ?_; refine WH.one 16 rfl (by kernel_rfl) (OpTo.call ⟨Tryz.call32⟩ rfl rfl (to_ok hW (_) (_)) (fun v5 w5 hp5 => ?_)); obtain ⟨rfl, hF2⟩ := hp5; have hF := hF.trans hF2; have hW := hF.w; have hB := hW.blk; unfold Scr.vals at hB; have hG : Mod (fun k => k = sb) w5 w5 := Mod.refl _ _; refine ⟨fun hl => (by have h2 := hl.symm.trans (show isLast _ _ = true from by kernel_rfl); cases h2), ?_⟩; refine WH.done (by kernel_rfl) ?_; refine fin_none rfl ?_; exact ⟨rfl, _, hF⟩
 ·refine WC.skip ?_; refine WC.regionD (fun w0 w1 => Grow w0 w1) 17 rfl mixed (fun w4 hm4 hz4 => ?_); have hmD3 := hm4; have hB := hB.grow hm4; have hW := hW.grow hm4; have hF := hF.grow hm4; have hG := hG.grow hm4; have hSc := Mod.refl (fun k => False) w4; refine WH.take 0 rfl (by kernel_rfl) hSc (fun w1 h1 => OpRun.move rfl) ?_; refine WH.take 1 rfl (by kernel_rfl) hSc (fun w1 h1 => OpRun.move rfl) ?_; refine WH.take 2 rfl (by kernel_rfl) hSc (fun w1 h1 => OpRun.nilCheck rfl) ?_; refine WH.take 3 rfl (by kernel_rfl) hSc (fun _ _ => oF 3 Tryz.runUnderlying70 Tryz.sizeOf43 rfl rfl rfl rfl) ?_; refine WH.take 4 rfl (by kernel_rfl) hSc (fun _ _ => oF 0 Tryz.runUnderlying43 Tryz.sizeOf3 rfl rfl rfl rfl) ?_; refine WH.take 5 rfl (by kernel_rfl) hSc (fun w1 h1 => OpRun.load rfl ⟨Tryz.isAgg3⟩ (hB.grow h1) rfl) ?_; refine WH.take 6 rfl (by kernel_rfl) hSc (fun w1 h1 => OpRun.move rfl) ?_
  refine WH.take 7 rfl (by kernel_rfl) hSc (fun w1 h1 => OpRun.add rfl rfl (In.i64 (by omega))) ?_; refine WH.take 8 rfl (by kernel_rfl) hSc (fun w1 h1 => OpRun.move rfl) ?_; refine WH.take 9 rfl (by kernel_rfl) hSc (fun w1 h1 => OpRun.sub rfl rfl (In.i64 (by omega))) ?_; refine WH.take 10 rfl (by kernel_rfl) hSc (fun w1 h1 => OpRun.bmin rfl) ?_; refine WH.take 11 rfl (by kernel_rfl) hSc (fun w1 h1 => OpRun.move rfl) ?_; refine WH.take 12 rfl (by kernel_rfl) hSc (fun w1 h1 => OpRun.nilCheck rfl) ?_; refine WH.take 13 rfl (by kernel_rfl) hSc (fun _ _ => oF 3 Tryz.runUnderlying70 Tryz.sizeOf43 rfl rfl rfl rfl) ?_; refine WH.take 14 rfl (by kernel_rfl) hSc (fun _ _ => oF 1 Tryz.runUnderlying43 Tryz.sizeOf3 rfl rfl rfl rfl) ?_; refine WH.take 15 rfl (by kernel_rfl) hSc (fun w1 h1 => OpRun.load rfl ⟨Tryz.isAgg3⟩ (hB.grow h1) rfl) ?_; refine WH.one 16 rfl (by kernel_rfl) (OpTo.call ⟨Tryz.call32⟩ rfl rfl (to_ok hW (_) (_)) (fun v5 w5 hp5 => ?_))
  obtain ⟨rfl, hF2⟩ := hp5; have hF := hF.trans hF2; have hW := hF.w; have hB := hW.blk; unfold Scr.vals at hB; have hG : Mod (fun k => k = sb) w5 w5 := Mod.refl _ _; refine ⟨fun hl => (by have h2 := hl.symm.trans (show isLast _ _ = true from by kernel_rfl); cases h2), ?_⟩; refine WH.done (by kernel_rfl) ?_; refine fin_none rfl ?_; exact ⟨rfl, _, hF⟩

theorem home_ok {w : World} {sb : Nat} {S : Scr} (h : ScrW w sb S) : Ret Tryz.prog 92 [.pointer (some ⟨sb, 0, none⟩)] w (fun r w' => r = .tuple #[] ∧ ∃ S', FinC w w' sb S S' 0) := by
 have hB := h.blk; unfold Scr.vals at hB; obtain ⟨hR1, hR2, hC1, hC2, hGr, hGc, hcr, hcc, hcs, htp, hpr⟩ := Scr.dims h; have hW := h; have hF := FinC.refl h; refine Ret.of Tryz.func92 Tryz.ntmps92 rfl rfl ?_; refine WC.sub (e' := [(0, .pointer (some ⟨sb, 0, none⟩))]) ⟨rfl, trivial⟩ ?_; have hG : Mod (fun k => k = sb) w w := Mod.refl _ _; refine wsr ?_; refine va rfl rfl ?_; refine WL.nil ?_; refine WC.seq ?_; refine wsr ?_; refine vm rfl rfl ?_; refine vn rfl rfl ?_; refine vf 3 Tryz.runUnderlying70 Tryz.sizeOf43 rfl rfl rfl rfl rfl ?_; refine vf 6 Tryz.runUnderlying43 Tryz.sizeOf4 rfl rfl rfl rfl rfl ?_; refine WL.val (OpRun.load rfl ⟨Tryz.isAgg4⟩ hB rfl) rfl ?_; refine WL.nil ?_; refine WC.cond rfl (fun hq1 => ?_) (fun hq1 => ?_)
 ·refine WC.region ?_; refine vm rfl rfl ?_; refine vn rfl rfl ?_; refine vf 37 Tryz.runUnderlying70 Tryz.sizeOf3 rfl rfl rfl rfl rfl ?_; refine WL.val (OpRun.load rfl ⟨Tryz.isAgg3⟩ hB rfl) rfl ?_; refine va rfl rfl ?_; refine WL.nil ?_; refine WC.region ?_; refine vm rfl rfl ?_; refine vm rfl rfl ?_; refine WL.step (OpTo.call ⟨Tryz.call32⟩ rfl rfl (to_ok hW (_) (_)) (fun v2 w2 hp2 => ?_)); obtain ⟨rfl, hF2⟩ := hp2; have hF := hF.trans hF2; have hW := hF.w; have hB := hW.blk; unfold Scr.vals at hB; have hG : Mod (fun k => k = sb) w2 w2 := Mod.refl _ _; refine WL.nil ?_; refine fin_none rfl ?_; exact ⟨rfl, _, hF⟩
 ·refine WC.skip ?_; refine WC.region ?_; refine vm rfl rfl ?_; refine vm rfl rfl ?_; refine WL.step (OpTo.call ⟨Tryz.call32⟩ rfl rfl (to_ok hW (_) (_)) (fun v2 w2 hp2 => ?_)); obtain ⟨rfl, hF2⟩ := hp2; have hF := hF.trans hF2; have hW := hF.w; have hB := hW.blk; unfold Scr.vals at hB; have hG : Mod (fun k => k = sb) w2 w2 := Mod.refl _ _; refine WL.nil ?_; refine fin_none rfl ?_; exact ⟨rfl, _, hF⟩

theorem asked_ok {w : World} {sb : Nat} {S : Scr} (h : ScrW w sb S) (n : Int) (hn : -1099511627776 ≤ n ∧ n ≤ 1099511627776) : Ret Tryz.prog 134 [.pointer (some ⟨sb, 0, none⟩), .int .i64 n] w (fun r w' => (∃ z, r = .int .i64 z) ∧ Grow w w') := by
 have hB := h.blk; unfold Scr.vals at hB; obtain ⟨hR1, hR2, hC1, hC2, hGr, hGc, hcr, hcc, hcs, htp, hpr⟩ := Scr.dims h; refine Ret.of Tryz.func134 Tryz.ntmps134 rfl rfl ?_; refine WC.sub (e' := [(0, .pointer (some ⟨sb, 0, none⟩)), (1, .int .i64 n)]) ⟨rfl, rfl, trivial⟩ ?_; have hG : Mod (fun k => False) w w := Mod.refl _ _; refine wsr ?_; refine va rfl rfl ?_; refine WL.nil ?_; refine WC.seq ?_; refine wsr ?_; refine vm rfl rfl ?_; refine vn rfl rfl ?_; refine vf 3 Tryz.runUnderlying70 Tryz.sizeOf43 rfl rfl rfl rfl rfl ?_; refine vf 6 Tryz.runUnderlying43 Tryz.sizeOf4 rfl rfl rfl rfl rfl ?_; refine WL.val (OpRun.load rfl ⟨Tryz.isAgg4⟩ hB rfl) rfl ?_; refine WL.nil ?_; refine WC.cond rfl (fun hq1 => ?_) (fun hq1 => ?_)
 ·refine WC.seq ?_; refine WC.regionD (fun w0 w1 => Grow w0 w1) 18 rfl mixed (fun w2 hm2 hz2 => ?_); have hmD2 := hm2; have hB := hB.grow hm2; have hG := hG.grow hm2; have hSc := Mod.refl (fun k => False) w2; refine WH.take 0 rfl (by kernel_rfl) hSc (fun w1 h1 => OpRun.move rfl) ?_; refine WH.take 1 rfl (by kernel_rfl) hSc (fun w1 h1 => OpRun.nilCheck rfl) ?_; refine WH.take 2 rfl (by kernel_rfl) hSc (fun _ _ => oF 37 Tryz.runUnderlying70 Tryz.sizeOf3 rfl rfl rfl rfl) ?_; refine WH.take 3 rfl (by kernel_rfl) hSc (fun w1 h1 => OpRun.load rfl ⟨Tryz.isAgg3⟩ (hB.grow h1) rfl) ?_; refine WH.take 4 rfl (by kernel_rfl) hSc (fun w1 h1 => OpRun.move rfl) ?_; refine WH.take 5 rfl (by kernel_rfl) hSc (fun w1 h1 => OpRun.add rfl rfl (In.i64 (by omega))) ?_; refine WH.take 6 rfl (by kernel_rfl) hSc (fun w1 h1 => OpRun.sub rfl rfl (In.i64 (by omega))) ?_; refine WH.take 7 rfl (by kernel_rfl) hSc (fun w1 h1 => OpRun.move rfl) ?_
  refine WH.take 8 rfl (by kernel_rfl) hSc (fun w1 h1 => OpRun.nilCheck rfl) ?_; refine WH.take 9 rfl (by kernel_rfl) hSc (fun _ _ => oF 37 Tryz.runUnderlying70 Tryz.sizeOf3 rfl rfl rfl rfl) ?_; refine WH.take 10 rfl (by kernel_rfl) hSc (fun w1 h1 => OpRun.load rfl ⟨Tryz.isAgg3⟩ (hB.grow h1) rfl) ?_; refine WH.take 11 rfl (by kernel_rfl) hSc (fun w1 h1 => OpRun.move rfl) ?_; refine WH.take 12 rfl (by kernel_rfl) hSc (fun w1 h1 => OpRun.nilCheck rfl) ?_; refine WH.take 13 rfl (by kernel_rfl) hSc (fun _ _ => oF 38 Tryz.runUnderlying70 Tryz.sizeOf3 rfl rfl rfl rfl) ?_; refine WH.take 14 rfl (by kernel_rfl) hSc (fun w1 h1 => OpRun.load rfl ⟨Tryz.isAgg3⟩ (hB.grow h1) rfl) ?_; refine WH.take 15 rfl (by kernel_rfl) hSc (fun w1 h1 => OpRun.sub rfl rfl (In.i64 (by omega))) ?_; refine WH.one 16 rfl (by kernel_rfl) (OpTo.call ⟨Tryz.call31⟩ rfl rfl (cut_ok _ _ _) (fun v3 w3 hp3 => ?_))
  obtain ⟨rfl, rfl⟩ := hp3; refine ⟨fun _ => hSc, ?_⟩; refine WH.one 17 rfl (by kernel_rfl) (OpTo.val (OpRun.assign rfl) rfl ?_); refine ⟨fun _ => hSc, ?_⟩; refine WH.done (by kernel_rfl) ?_; refine WC.ret ?_; refine fin_one rfl rfl ?_; exact ⟨⟨_, rfl⟩, hG⟩
 ·refine WC.skip ?_; refine wsr ?_; refine vm rfl rfl ?_; refine WL.val (OpRun.sub rfl rfl (In.i64 (by omega))) rfl ?_; refine va rfl rfl ?_; refine WL.nil ?_; refine WC.ret ?_; refine fin_one rfl rfl ?_; exact ⟨⟨_, rfl⟩, hG⟩

theorem alt_ok {w : World} {sb : Nat} {S : Scr} (h : ScrM w sb S) : Ret Tryz.prog 127 [.pointer (some ⟨sb, 0, none⟩)] w (fun r w' => r = .bool (decide ((S.now : Int) = 1)) ∧ w = w') := by
 have hB := h.blk; unfold Scr.vals at hB; refine Ret.of Tryz.func127 Tryz.ntmps127 rfl rfl ?_; refine WC.sub (e' := [(0, .pointer (some ⟨sb, 0, none⟩))]) ⟨rfl, trivial⟩ ?_; have hG : Mod (fun k => False) w w := Mod.refl _ _; refine wsr ?_; refine va rfl rfl ?_; refine WL.nil ?_; refine wsr ?_; refine vm rfl rfl ?_; refine vn rfl rfl ?_; refine vf 2 Tryz.runUnderlying70 Tryz.sizeOf3 rfl rfl rfl rfl rfl ?_; refine WL.val (OpRun.load rfl ⟨Tryz.isAgg3⟩ hB rfl) rfl ?_; refine WL.val (OpRun.eql rfl rfl) rfl ?_; refine va rfl rfl ?_; refine WL.nil ?_; refine WC.ret ?_; refine fin_one rfl rfl ?_; exact ⟨rfl, rfl⟩

theorem param_ok {w : World} {v : Value} {ps : List Int} (hp : IntsV w v ps) (hl : ps.length ≤ 1048576) (i : Nat) (z : Int) : Ret Tryz.prog 54 [v, .int .i64 i, .int .i64 z] w (fun r w' => r = .int .i64 (param ps i z) ∧ w = w') := by
 obtain ⟨cap, hsl⟩ := hp; obtain ⟨ad, rfl⟩ := hsl.slice; refine Ret.of Tryz.func54 Tryz.ntmps54 rfl rfl ?_; refine WC.sub (e' := [(0, .slice ad ps.length cap), (1, .int .i64 i), (2, .int .i64 z)]) ⟨rfl, rfl, rfl, trivial⟩ ?_; have hG : Mod (fun k => False) w w := Mod.refl _ _; refine wsr ?_; refine va rfl rfl ?_; refine WL.nil ?_; refine WC.seq ?_; refine wsr ?_; refine vm rfl rfl ?_; refine vm rfl rfl ?_; refine WL.val (OpRun.lenS rfl ⟨Tryz.runUnderlying32⟩) rfl ?_; refine WL.val (OpRun.geq rfl rfl) rfl ?_; refine WL.splitD rfl rfl (fun hq1 => ?_) (fun hq1 => ?_)
 ·refine WL.pass rfl rfl rfl rfl ?_; refine WL.pass rfl rfl rfl rfl ?_; refine WL.pass rfl rfl rfl rfl ?_; refine WL.pass rfl rfl rfl rfl ?_; refine WL.pass rfl rfl rfl rfl ?_; refine WL.val (OpRun.pickT rfl rfl) rfl ?_; refine WL.nil ?_; refine WC.condT rfl ?_; refine wsr ?_; refine vm rfl rfl ?_; refine va rfl rfl ?_; refine WL.nil ?_; refine WC.ret ?_; refine fin_one rfl rfl ?_; refine ⟨congrArg (Value.int .i64) ?_, rfl⟩; unfold param
  first | rw [if_pos (by omega)] | rw [if_neg (by omega)]
 ·refine WL.want rfl rfl ?_; refine vm rfl rfl ?_; refine WL.want rfl rfl ?_; refine vm rfl rfl ?_; obtain ⟨b, o, hv⟩ := hsl.pos (by omega)
  cases hv
  refine WL.want rfl rfl ?_; refine WL.val (OpRun.indexAddr rfl rfl ⟨Tryz.runUnderlying32⟩ ⟨Tryz.sizeOf3⟩ (by omega) (by omega)) rfl ?_; refine WL.want rfl rfl ?_; refine WL.val (OpRun.loadC rfl ⟨Tryz.isAgg3⟩ (hsl.rd (i := i) (by omega))) rfl ?_; refine WL.want rfl rfl ?_; refine WL.val (OpRun.eql rfl rfl) rfl ?_; refine WL.val (OpRun.pickF rfl rfl) rfl ?_; refine WL.nil ?_; refine WC.condD rfl (fun hq2 => ?_) (fun hq2 => ?_)
  ·refine wsr ?_; refine vm rfl rfl ?_; refine va rfl rfl ?_; refine WL.nil ?_; refine WC.ret ?_; refine fin_one rfl rfl ?_; refine ⟨congrArg (Value.int .i64) ?_, rfl⟩; unfold param
   first | rw [if_pos (by omega)] | rw [if_neg (by omega)]
  ·refine WC.skip ?_; refine wsr ?_; refine vm rfl rfl ?_; refine vm rfl rfl ?_; refine WL.val (OpRun.indexAddr rfl rfl ⟨Tryz.runUnderlying32⟩ ⟨Tryz.sizeOf3⟩ (by omega) (by omega)) rfl ?_; refine WL.val (OpRun.loadC rfl ⟨Tryz.isAgg3⟩ (hsl.rd (i := i) (by omega))) rfl ?_; refine va rfl rfl ?_; refine WL.nil ?_; refine WC.ret ?_; refine fin_one rfl rfl ?_; refine ⟨congrArg (Value.int .i64) ?_, rfl⟩; unfold param
   first | rw [if_pos (by omega)] | rw [if_neg (by omega)]

set_option maxHeartbeats 1000000 in
theorem erase2_ok {w : World} {sb : Nat} {S : Scr} (h : ScrW w sb S) (row rows f t : Int) (hr0 : 0 ≤ row) (hr : rows ≤ 1000) (hrr : 1 ≤ rows → row + rows ≤ S.G.rows) (ha : S.an ≤ 1099511627776) : Ret Tryz.prog 125 [.pointer (some ⟨sb, 0, none⟩), .int .i64 row, .int .i64 rows, .int .i64 f, .int .i64 t] w (fun r w' => r = .tuple #[] ∧ ∃ S', FinC w w' sb S S' 1 ∧ S'.c = S.c) := by
 have hB := h.blk; unfold Scr.vals at hB; obtain ⟨hR1, hR2, hC1, hC2, hGr, hGc, hcr, hcc, hcs, htp, hpr⟩ := Scr.dims h; have hW := h; have hF := FinC.refl h; refine Ret.of Tryz.func125 Tryz.ntmps125 rfl rfl ?_; refine WC.sub (e' := [(0, .pointer (some ⟨sb, 0, none⟩)), (1, .int .i64 row), (2, .int .i64 rows), (3, .int .i64 f), (4, .int .i64 t)]) ⟨rfl, rfl, rfl, rfl, rfl, trivial⟩ ?_; have hG : Mod (fun k => k = sb) w w := Mod.refl _ _; refine WC.seq ?_; refine WC.seqVal 17 (.bool (decide (rows < 1 ∨ t ≤ f))) ?_ ?_
 ·refine WC.region ?_; refine vm rfl rfl ?_; refine WL.val (OpRun.lss rfl rfl) rfl ?_; refine WL.splitD rfl rfl (fun hq1 => ?_) (fun hq1 => ?_)
  ·refine WL.pass rfl rfl rfl rfl ?_; refine WL.pass rfl rfl rfl rfl ?_; refine WL.pass rfl rfl rfl rfl ?_; refine WL.val (OpRun.pickT rfl rfl) rfl ?_; refine WL.nil ?_; refine ⟨rfl, ?_, by repeat (first | exact Keep.refl _ | refine Keep.cons ?_ rfl)⟩
   first | exact congrArg (fun b => some (Value.bool b)) (decide_eq_true (by omega)).symm | exact congrArg (fun b => some (Value.bool b)) (decide_eq_false (by omega)).symm | exact congrArg (fun b => some (Value.bool b)) (decide_eq_decide.2 (by omega))
  ·refine WL.want rfl rfl ?_; refine vm rfl rfl ?_; refine WL.want rfl rfl ?_; refine vm rfl rfl ?_; refine WL.want rfl rfl ?_; refine WL.val (OpRun.geq rfl rfl) rfl ?_; refine WL.val (OpRun.pickF rfl rfl) rfl ?_; refine WL.nil ?_; refine ⟨rfl, ?_, by repeat (first | exact Keep.refl _ | refine Keep.cons ?_ rfl)⟩
   first | exact congrArg (fun b => some (Value.bool b)) (decide_eq_true (by omega)).symm | exact congrArg (fun b => some (Value.bool b)) (decide_eq_false (by omega)).symm | exact congrArg (fun b => some (Value.bool b)) (decide_eq_decide.2 (by omega))
 ·refine WC.condD rfl (fun hq1 => ?_) (fun hq1 => ?_)
  ·refine WC.ret ?_; refine fin_none' rfl ?_; exact ⟨rfl, S, hF.mono (by omega), rfl⟩
  ·refine WC.skip ?_; refine WC.seq ?_; refine wsr ?_; refine vm rfl rfl ?_; refine vm rfl rfl ?_; refine WL.nil ?_; refine WC.block ?_; refine WC.loop (fun m e w' => ∃ (i : Nat) (S1 : Scr), i ≤ rows.toNat ∧ m = rows.toNat - i ∧ Sub [(0, .pointer (some ⟨sb, 0, none⟩)), (1, .int .i64 row), (2, .int .i64 rows), (3, .int .i64 f), (4, .int .i64 t), (18, .int .i64 rows), (19, .int .i64 i)] e ∧ FinC w w' sb S S1 0 ∧ S1.c = S.c) (rows.toNat) ⟨0, S, by omega, by omega, ⟨rfl, rfl, rfl, rfl, rfl, rfl, rfl, trivial⟩, hF, rfl⟩ ?_
   rintro m e wl ⟨i, S1, hi, rfl, hs, hF, hc1⟩
   refine WC.sub hs ?_; have hW := hF.w; have hB := hW.blk; unfold Scr.vals at hB; have hGr1 := Scr.G_rows hW.ok; have hGr2 := hF.calm.r0; have han := hF.an; have hG : Mod (fun k => k = sb ∨ sblk S1.av = some k) wl wl := Mod.refl _ _; refine wsr ?_; refine WL.val (OpRun.lss rfl rfl) rfl ?_; refine WL.nil ?_; refine WC.seq ?_; refine WC.condD rfl (fun hq4 => ?_) (fun hq4 => ?_)
   ·refine WC.skip ?_; refine WC.seq ?_; refine WC.block ?_; refine wsr ?_; refine vm rfl rfl ?_; refine va rfl rfl ?_; refine WL.nil ?_; refine WC.region ?_; refine vm rfl rfl ?_; refine WL.step (OpTo.call ⟨Tryz.call29⟩ rfl rfl (g_ok hW.toScrM hW.ok.now) (fun v5 w5 hp5 => ?_)); obtain ⟨rfl, hm5⟩ := hp5; have hW := hW.grow hm5; have hF := hF.grow hm5; have hG := hG.grow hm5; refine vm rfl rfl ?_; refine vm rfl rfl ?_; refine WL.val (OpRun.add rfl rfl (In.i64 (by omega))) rfl ?_; refine vm rfl rfl ?_; refine vm rfl rfl ?_; refine vm rfl rfl ?_; refine WL.step (OpTo.call ⟨Tryz.call67⟩ rfl rfl (blank_ok hW.toScrM) (fun v6 w6 hp6 => ?_)); obtain ⟨rfl, hm6⟩ := hp6; have hW := hW.grow hm6; have hF := hF.grow hm6; have hG := hG.grow hm6
    obtain ⟨k, hk⟩ : ∃ k : Nat, row + (i : Int) = k := ⟨(row + i).toNat, by omega⟩; rw [hk]; refine WL.step (OpTo.call ⟨Tryz.call146⟩ rfl rfl (Fill_ok hW.gw k (by omega) f t ⟨0, S1.c.a.bg, 0⟩) (fun v7 w7 hp7 => ?_)); obtain ⟨v2, l2, hO⟩ := hp7; have hF := hF.trans (FinC.grid hW hO (goth hO)); have hc2 := (Scr.put_c S1 (S1.G.put k v2 l2)).trans hc1; refine WL.nil ?_; refine WC.region ?_; refine WL.val (OpRun.add rfl rfl (In.i64 (by omega))) rfl ?_; refine vm rfl rfl ?_; refine WL.nil ?_; exact ⟨rows.toNat - (i + 1), by omega, i + 1, _, by omega, rfl, ⟨rfl, rfl, rfl, rfl, rfl, rfl, rfl, trivial⟩, hF, hc2⟩
   ·refine WC.exit ?_; refine WC.regionD (fun w0 w1 => Mod (fun k => sblk S1.av = some k) w0 w1) 21 rfl mixed (fun w5 hm5 hz5 => ?_); have hmD6 := hm5; have hW := hW.grow hm5; have hF := hF.grow hm5; have hG := hG.grow hm5; have hSc := Mod.refl (fun k => sblk S1.av = some k) w5; have hsl := hW.areas; have hB := hW.blk; unfold Scr.vals at hB; obtain ⟨aad, hav⟩ := hsl.slice; rw [hav] at hsl hB; have hW5 := hW; have hF5 := hF; have hG : Mod (fun k => k = sb ∨ sblk (Value.slice aad S1.an S1.acap) = some k) w5 w5 := Mod.refl _ _; refine WH.take 0 rfl (by kernel_rfl) hSc (fun w1 h1 => OpRun.move rfl) ?_; refine WH.take 1 rfl (by kernel_rfl) hSc (fun w1 h1 => OpRun.move rfl) ?_; refine WH.take 2 rfl (by kernel_rfl) hSc (fun w1 h1 => OpRun.nilCheck rfl) ?_; refine WH.take 3 rfl (by kernel_rfl) hSc (fun _ _ => oF 41 Tryz.runUnderlying70 Tryz.sizeOf68 rfl rfl rfl rfl) ?_
    refine WH.take 4 rfl (by kernel_rfl) hSc (fun w1 h1 => OpRun.load rfl ⟨Tryz.isAgg68⟩ (hB.mod h1 (fun hh => hsl.ne hB rfl _ (by rw [← hav]; exact hh) rfl)) rfl) ?_; refine WH.take 5 rfl (by kernel_rfl) hSc (fun w1 h1 => OpRun.move rfl) ?_; refine WH.take 7 rfl (by kernel_rfl) hSc (fun w1 h1 => OpRun.move rfl) ?_; refine WH.take 10 rfl (by kernel_rfl) hSc (fun w1 h1 => OpRun.move rfl) ?_; refine WH.take 12 rfl (by kernel_rfl) hSc (fun w1 h1 => OpRun.move rfl) ?_; refine WH.take 13 rfl (by kernel_rfl) hSc (fun w1 h1 => OpRun.move rfl) ?_; refine WH.take 14 rfl (by kernel_rfl) hSc (fun w1 h1 => OpRun.move rfl) ?_; refine WH.one 6 rfl (by kernel_rfl) (OpTo.call ⟨Tryz.call127⟩ rfl rfl (alt_ok hW.toScrM) (fun v6 w6 hp6 => ?_)); obtain ⟨rfl, rfl⟩ := hp6; refine ⟨fun _ => hSc, ?_⟩; refine WH.one 8 rfl (by kernel_rfl) (OpTo.call ⟨Tryz.call29⟩ rfl rfl (g_ok hW.toScrM hW.ok.now) (fun v7 w7 hp7 => ?_))
    obtain ⟨rfl, hm7⟩ := hp7; have hB := hB.grow hm7; have hW := hW.grow hm7; have hF := hF.grow hm7; have hsl := hsl.grow hm7; have hG := hG.grow hm7; have hSc := hSc.grow hm7; refine ⟨fun _ => hSc, ?_⟩; refine WH.one 9 rfl (by kernel_rfl) (OpTo.call ⟨Tryz.call124⟩ rfl rfl (Top_ok hW.gw) (fun v8 w8 hp8 => ?_)); obtain ⟨rfl, rfl⟩ := hp8; refine ⟨fun _ => hSc, ?_⟩; refine WH.one 11 rfl (by kernel_rfl) (OpTo.val (OpRun.addW rfl rfl) rfl ?_); refine ⟨fun _ => hSc, ?_⟩; refine WH.one 15 rfl (by kernel_rfl) (OpTo.val (OpRun.build rfl tb166_0_1_2_3_4) rfl ?_); refine ⟨fun _ => hSc, ?_⟩; refine WH.one 16 rfl (by kernel_rfl) (OpTo.buildSlice (cs := [_, _, _, _, _]) rfl rfl rfl ⟨Tryz.runUnderlying68⟩ ⟨Tryz.sizeOf166⟩ ⟨Tryz.zeroValue166⟩ fill5 rfl (fun bE wE hbE hmE hloE hhiE => ?_)); have hB := hB.grow hmE; have hW := hW.grow hmE; have hF := hF.grow hmE; have hsl := hsl.grow hmE; have hG := hG.grow hmE
    have hSc := hSc.grow hmE; refine ⟨fun _ => hSc, ?_⟩; have hGEs := hG.size; refine WH.one 17 rfl (by kernel_rfl) (OpTo.append rfl ⟨Tryz.runUnderlying68⟩ ⟨Tryz.runUnderlying68⟩ (by intro k h; cases h) ⟨Tryz.sizeOf166⟩ hsl (Sl.of hbE (cs := [_, _, _, _, _]) ⟨rfl, rfl, rfl, rfl, rfl, trivial⟩ (by simp) rfl (by omega) (by omega)).src (rfl) ⟨Tryz.zeroValue166⟩ rfl (by_ := 40) ⟨fun w => ⟨_, Tryz.typeInfo166 w, rfl⟩⟩ (by omega) (by omega) rfl rfl (fun vA wA hpA => ?_)); obtain ⟨capA, hSA, hmA, hbkA⟩ := hpA; have hB := hB.mod hmA (fun h => hsl.ne hB rfl _ h rfl); have hG := hG.trans hmA (fun _ h => h) (fun x hx hs => .inr hs); obtain ⟨aad2, rfl⟩ := hSA.slice; have hone : ∀ v ∈ S1.avs, Value.one v = true := List.all_eq_true.1 hW5.aone; have hSc := hSc.trans hmA (fun _ h => h) (fun x hx hs => by rw [hav]; exact hs); refine ⟨fun _ => hSc, ?_⟩; refine WH.one 18 rfl (by kernel_rfl) (OpTo.val (OpRun.nilCheck rfl) rfl ?_)
    refine ⟨fun _ => hSc, ?_⟩; refine WH.one 19 rfl (by kernel_rfl) (OpTo.val (OpRun.fieldAddr (off := 41) rfl ⟨Tryz.runUnderlying70⟩ rfl ⟨Tryz.sizeOf68⟩ rfl rfl) rfl ?_); refine ⟨fun _ => hSc, ?_⟩; refine WH.one 20 rfl (by kernel_rfl) (OpTo.store rfl rfl ⟨Tryz.sizeOf68⟩ rfl hB rfl (fun w11 hn11 hm11 hz11 => ?_))
    first | simp only [List.set_cons_zero, List.set_cons_succ] at hn11 | dsimp only [putList, List.set] at hn11
    have hSA := hSA.mod hm11 (fun k hk => hSA.ne hB rfl k hk); have hG := hG.trans hm11 (fun _ h => h) (fun x hx hs => .inl hs); refine ⟨fun hl => (by have h2 := hl.symm.trans (show isLast _ _ = true from by kernel_rfl); cases h2), ?_⟩; have hB := hn11; refine WH.done (by kernel_rfl) ?_; refine fin_none rfl ?_; refine ⟨rfl, _, hF5.trans (FinC.areas hW5 _ _ capA (hG.mono (fun x _ hx => by rw [hav]; exact hx)) hB hSA (by rw [List.all_append, hW5.aone]; rfl) (fun k hk => ?_)), hc1⟩
    rcases hbkA with h1 | ⟨b2, h1, h2⟩
    · exact .inl (by rw [hav]; rw [← h1]; exact hk)
    · rw [h1] at hk; cases hk; exact .inr (by omega)

end Go.Eng
