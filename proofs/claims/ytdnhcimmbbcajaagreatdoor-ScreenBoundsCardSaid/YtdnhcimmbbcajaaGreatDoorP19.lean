/-
  A part of a proof (Scr19): lemmas on what the program's functions do. No condition but those that each lemma states.
-/
import Derived.Test.YtdnhcimmbbcajaaGreatDoorP18
set_option maxRecDepth 8000
set_option linter.all false
namespace Go.Eng
open Go Go.Proofs
theorem IntsV.op {w w' : World} {sb : Nat} {S : Scr} {v : Value} {ps : List Int} (hp : IntsV w v ps) (hd : ∀ k, vblk v = some k → ¬ S.own sb k) (hm : Mod (S.own sb) w w') : IntsV w' v ps := hp.mod hm hd
theorem own_later {w w' : World} {sb : Nat} {S S' : Scr} {v : Value} (hl : ∀ k, vblk v = some k → k < w.heap.size) (hd : ∀ k, vblk v = some k → ¬ S.own sb k) (h : SOp w w' sb S S') : ∀ k, vblk v = some k → ¬ S'.own sb k := fun k hk hs => (h.own k hs).elim (hd k hk) (fun h2 => by have := hl k hk; omega)
theorem cells_ok {w : World} {sb : Nat} {S : Scr} (h : ScrW w sb S) (c : Int) (hc : 0 ≤ c ∧ c ≤ 255) (n : Int) (hn : -1099511627776 ≤ n ∧ n ≤ 1099511627776) (ha : S.an ≤ 1099511627000) : Ret Tryz.prog 103 [.pointer (some ⟨sb, 0, none⟩), .int .u8 c, .int .i64 n] w (fun x w' => x = .tuple #[] ∧ ∃ S', FinC w w' sb S S' 1) := by
  by_cases e : c = 80
  · exact cells_delete h c hc n hn ha e
  · exact cells_insert h c hc n hn ha e

set_option maxHeartbeats 4000000 in
theorem bare_ok {w : World} {sb : Nat} {S : Scr} (h : ScrW w sb S) (ht : Tab w) {v : Value} {ps : List Int} (hp : IntsV w v ps) (hl : ps.length ≤ 1048576) (hr : ∀ x ∈ ps, -1099511627776 ≤ x ∧ x ≤ 1099511627776) (hd : ∀ k, vblk v = some k → ¬ S.own sb k) (c : Int) (hc : 0 ≤ c ∧ c ≤ 255) (ha : S.an ≤ 1099511620000) : Ret Tryz.prog 61 [.pointer (some ⟨sb, 0, none⟩), v, .int .u8 c] w (fun r w' => ∃ S', FinK w w' sb S S' 2 ∧ (c ≠ 115 → FinC w w' sb S S' 2) ∧ (c = 109 → ps = [31] → S' = { S with c := { S.c with a := ⟨16777217, S.c.a.bg, S.c.a.fl⟩ } }) ∧ (c = 110 → ps = [6] → S' = S ∧ BytesV w' r ((⟨#[27, 91]⟩ : ByteArray) ++ (placeB S ++ (⟨#[82]⟩ : ByteArray))))) := by
 have hB := h.blk; unfold Scr.vals at hB; obtain ⟨hR1, hR2, hC1, hC2, hGr, hGc, hcr, hcc, hcs, htp, hpr⟩ := Scr.dims h; have hW := h; have hF := FinC.refl h; have hp0 := param_rng hr 0 (z := 0) (by omega); have hp1 := param_rng hr 0 (z := 1) (by omega); have hvl := hp.lt; refine Ret.of Tryz.func61 Tryz.ntmps61 rfl rfl ?_; refine WC.sub (e' := [(0, .pointer (some ⟨sb, 0, none⟩)), (1, v), (2, .int .u8 c)]) ⟨rfl, rfl, rfl, trivial⟩ ?_; have hG : Mod (fun k => k = sb) w w := Mod.refl _ _; refine wsr ?_; refine va rfl rfl ?_; refine WL.nil ?_; refine wsr ?_; refine vm rfl rfl ?_; refine WL.step (OpTo.call ⟨Tryz.call54⟩ rfl rfl (param_ok hp hl 0 1) (fun v1 w1 hp1 => ?_)); obtain ⟨rfl, rfl⟩ := hp1; refine vm rfl rfl ?_; refine WL.step (OpTo.call ⟨Tryz.call54⟩ rfl rfl (param_ok hp hl 0 0) (fun v2 w2 hp2 => ?_))
 obtain ⟨rfl, rfl⟩ := hp2; refine va rfl rfl ?_; refine va rfl rfl ?_; refine WL.nil ?_; refine WC.seq ?_; refine wsr ?_; refine vm rfl rfl ?_; refine WL.nil ?_; refine WC.block ?_; refine WC.seq ?_; refine WC.block ?_; refine WC.seq ?_; refine WC.block ?_; refine WC.seq ?_; refine WC.block ?_; refine WC.seq ?_; refine WC.block ?_; refine WC.seq ?_; refine WC.block ?_; refine WC.seq ?_; refine WC.block ?_; refine WC.seq ?_; refine WC.block ?_; refine WC.seq ?_; refine WC.block ?_; refine WC.seq ?_; refine WC.block ?_; refine WC.seq ?_; refine WC.block ?_; refine WC.seq ?_; refine WC.block ?_; refine WC.seq ?_; refine WC.block ?_; refine WC.seq ?_; refine WC.block ?_; refine WC.seq ?_; refine WC.block ?_; refine WC.seq ?_; refine WC.block ?_; refine WC.seq ?_; refine WC.block ?_; refine WC.seq ?_; refine WC.seq ?_
 refine wsr ?_; refine WL.val (OpRun.eql rfl rfl) rfl ?_; refine va rfl rfl ?_; refine WL.nil ?_; refine WC.condDK rfl (fun hq3 => ?_) (fun hq3 => ?_)
 ·refine WC.exit ?_; refine WC.seq ?_; refine wsr ?_; refine vm rfl rfl ?_; refine WL.nil ?_; refine WC.block ?_; refine wsr ?_; refine WL.val (OpRun.eql rfl rfl) rfl ?_; refine va rfl rfl ?_; refine WL.nil ?_; refine WC.condDK rfl (fun hq4 => ?_) (fun hq4 => ?_)
  ·refine wsr ?_; refine WL.step (OpTo.call ⟨Tryz.call57⟩ rfl rfl (reply_ok _ (by decide)) (fun v5 w5 hp5 => ?_)); obtain ⟨hby, hm5⟩ := hp5; have hB := hB.grow hm5; have hW := hW.grow hm5; have hF := hF.grow hm5; have hp := hp.grow hm5; have ht := ht.grow hm5; have hG := hG.grow hm5; refine va rfl rfl ?_; refine WL.nil ?_; refine WC.ret ?_; refine fin_one rfl rfl ?_
   first
     | exact ⟨_, hK.mono (by omega), fun h1 => by exfalso; omega, fun h1 => by exfalso; omega, fun h1 => by exfalso; omega⟩
     | exact ⟨_, hF.k.mono (by omega), fun _ => hF.mono (by omega), fun h1 => by exfalso; omega, fun h1 => by exfalso; omega⟩
     | exact ⟨_, hF.k.mono (by omega), fun _ => hF.mono (by omega), fun h1 => by exfalso; omega, fun _ _ => ⟨rfl, hby⟩⟩
     | exact ⟨_, hF.k.mono (by omega), fun _ => hF.mono (by omega), fun _ hps => by rw [ha2 hps], fun h1 => by exfalso; omega⟩
     | exact ⟨_, hF.k.mono (by omega), fun _ => hF.mono (by omega), fun h1 => by exfalso; omega, fun _ hps => by exfalso; subst hps; have e : param [6] 0 0 = 6 := (by decide); omega⟩
  ·refine wsr ?_; refine WL.val (OpRun.eql rfl rfl) rfl ?_; refine va rfl rfl ?_; refine WL.nil ?_; refine WC.condDK rfl (fun hq5 => ?_) (fun hq5 => ?_)
   ·refine wsr ?_; refine vm rfl rfl ?_; refine WL.step (OpTo.call ⟨Tryz.call58⟩ rfl rfl (place_ok hW ht) (fun v6 w6 hp6 => ?_)); obtain ⟨rfl, hm6⟩ := hp6; have hB := hB.grow hm6; have hW := hW.grow hm6; have hF := hF.grow hm6; have hp := hp.grow hm6; have ht := ht.grow hm6; have hG := hG.grow hm6; refine WL.val (OpRun.sadd rfl rfl (show _ + _ ≤ _ from by have := placeB_size (S := S) (by omega) (by omega); have e : (⟨#[82]⟩ : ByteArray).size = 1 := rfl; omega)) rfl ?_; refine WL.step (OpTo.call ⟨Tryz.call57⟩ rfl rfl (reply_ok _ (by rw [ByteArray.size_append']; have := placeB_size (S := S) (by omega) (by omega); have e : (⟨#[82]⟩ : ByteArray).size = 1 := rfl; omega)) (fun v7 w7 hp7 => ?_)); obtain ⟨hby, hm7⟩ := hp7; have hB := hB.grow hm7; have hW := hW.grow hm7; have hF := hF.grow hm7; have hp := hp.grow hm7; have ht := ht.grow hm7; have hG := hG.grow hm7
    refine va rfl rfl ?_; refine WL.nil ?_; refine WC.ret ?_; refine fin_one rfl rfl ?_
    first
      | exact ⟨_, hK.mono (by omega), fun h1 => by exfalso; omega, fun h1 => by exfalso; omega, fun h1 => by exfalso; omega⟩
      | exact ⟨_, hF.k.mono (by omega), fun _ => hF.mono (by omega), fun h1 => by exfalso; omega, fun h1 => by exfalso; omega⟩
      | exact ⟨_, hF.k.mono (by omega), fun _ => hF.mono (by omega), fun h1 => by exfalso; omega, fun _ _ => ⟨rfl, hby⟩⟩
      | exact ⟨_, hF.k.mono (by omega), fun _ => hF.mono (by omega), fun _ hps => by rw [ha2 hps], fun h1 => by exfalso; omega⟩
      | exact ⟨_, hF.k.mono (by omega), fun _ => hF.mono (by omega), fun h1 => by exfalso; omega, fun _ hps => by exfalso; subst hps; have e : param [6] 0 0 = 6 := (by decide); omega⟩
   ·refine WC.skip ?_; refine WC.exit ?_; refine wsr ?_; refine va rfl rfl ?_; refine WL.nil ?_; refine WC.ret ?_; refine fin_one rfl rfl ?_
    first
      | exact ⟨_, hK.mono (by omega), fun h1 => by exfalso; omega, fun h1 => by exfalso; omega, fun h1 => by exfalso; omega⟩
      | exact ⟨_, hF.k.mono (by omega), fun _ => hF.mono (by omega), fun h1 => by exfalso; omega, fun h1 => by exfalso; omega⟩
      | exact ⟨_, hF.k.mono (by omega), fun _ => hF.mono (by omega), fun h1 => by exfalso; omega, fun _ _ => ⟨rfl, hby⟩⟩
      | exact ⟨_, hF.k.mono (by omega), fun _ => hF.mono (by omega), fun _ hps => by rw [ha2 hps], fun h1 => by exfalso; omega⟩
      | exact ⟨_, hF.k.mono (by omega), fun _ => hF.mono (by omega), fun h1 => by exfalso; omega, fun _ hps => by exfalso; subst hps; have e : param [6] 0 0 = 6 := (by decide); omega⟩
 ·refine WC.skip ?_; refine WC.seq ?_; refine wsr ?_; refine WL.val (OpRun.eql rfl rfl) rfl ?_; refine va rfl rfl ?_; refine WL.nil ?_; refine WC.condDK rfl (fun hq4 => ?_) (fun hq4 => ?_)
  ·refine WC.exit ?_; refine WC.seq ?_; refine wsr ?_; refine vm rfl rfl ?_; refine WL.val (OpRun.eql rfl rfl) rfl ?_; refine WL.nil ?_; refine WC.condDK rfl (fun hq5 => ?_) (fun hq5 => ?_)
   ·refine wsr ?_; refine WL.step (OpTo.call ⟨Tryz.call57⟩ rfl rfl (reply_ok _ (by decide)) (fun v6 w6 hp6 => ?_)); obtain ⟨hby, hm6⟩ := hp6; have hB := hB.grow hm6; have hW := hW.grow hm6; have hF := hF.grow hm6; have hp := hp.grow hm6; have ht := ht.grow hm6; have hG := hG.grow hm6; refine va rfl rfl ?_; refine WL.nil ?_; refine WC.ret ?_; refine fin_one rfl rfl ?_
    first
      | exact ⟨_, hK.mono (by omega), fun h1 => by exfalso; omega, fun h1 => by exfalso; omega, fun h1 => by exfalso; omega⟩
      | exact ⟨_, hF.k.mono (by omega), fun _ => hF.mono (by omega), fun h1 => by exfalso; omega, fun h1 => by exfalso; omega⟩
      | exact ⟨_, hF.k.mono (by omega), fun _ => hF.mono (by omega), fun h1 => by exfalso; omega, fun _ _ => ⟨rfl, hby⟩⟩
      | exact ⟨_, hF.k.mono (by omega), fun _ => hF.mono (by omega), fun _ hps => by rw [ha2 hps], fun h1 => by exfalso; omega⟩
      | exact ⟨_, hF.k.mono (by omega), fun _ => hF.mono (by omega), fun h1 => by exfalso; omega, fun _ hps => by exfalso; subst hps; have e : param [6] 0 0 = 6 := (by decide); omega⟩
   ·refine WC.skip ?_; refine WC.exit ?_; refine wsr ?_; refine va rfl rfl ?_; refine WL.nil ?_; refine WC.ret ?_; refine fin_one rfl rfl ?_
    first
      | exact ⟨_, hK.mono (by omega), fun h1 => by exfalso; omega, fun h1 => by exfalso; omega, fun h1 => by exfalso; omega⟩
      | exact ⟨_, hF.k.mono (by omega), fun _ => hF.mono (by omega), fun h1 => by exfalso; omega, fun h1 => by exfalso; omega⟩
      | exact ⟨_, hF.k.mono (by omega), fun _ => hF.mono (by omega), fun h1 => by exfalso; omega, fun _ _ => ⟨rfl, hby⟩⟩
      | exact ⟨_, hF.k.mono (by omega), fun _ => hF.mono (by omega), fun _ hps => by rw [ha2 hps], fun h1 => by exfalso; omega⟩
      | exact ⟨_, hF.k.mono (by omega), fun _ => hF.mono (by omega), fun h1 => by exfalso; omega, fun _ hps => by exfalso; subst hps; have e : param [6] 0 0 = 6 := (by decide); omega⟩
  ·refine WC.skip ?_; refine WC.seq ?_; refine wsr ?_; refine WL.val (OpRun.eql rfl rfl) rfl ?_; refine va rfl rfl ?_; refine WL.nil ?_; refine WC.condDK rfl (fun hq5 => ?_) (fun hq5 => ?_)
   ·refine WC.exit ?_; refine wsr ?_; refine vm rfl rfl ?_; refine vm rfl rfl ?_; refine vn rfl rfl ?_; refine vf 3 Tryz.runUnderlying70 Tryz.sizeOf43 rfl rfl rfl rfl rfl ?_; refine vf 3 Tryz.runUnderlying43 Tryz.sizeOf40 rfl rfl rfl rfl rfl ?_; refine WL.val (OpRun.loadA (vs := [_, _, _]) rfl ⟨Tryz.isAgg40⟩ ⟨Tryz.sizeOf40⟩ hB ⟨rfl, rfl, rfl, trivial⟩) rfl ?_; refine vm rfl rfl ?_; refine WL.step (OpTo.call ⟨Tryz.call96⟩ rfl rfl (apply_ok S.c.a hp hl hr) (fun v6 w6 hp6 => ?_)); obtain ⟨⟨a2, rfl, ha2⟩, hm6⟩ := hp6; have hB := hB.grow hm6; have hW := hW.grow hm6; have hF := hF.grow hm6; have hp := hp.grow hm6; have ht := ht.grow hm6; have hG := hG.grow hm6; refine vn rfl rfl ?_; refine vf 3 Tryz.runUnderlying70 Tryz.sizeOf43 rfl rfl rfl rfl rfl ?_
    refine vf 3 Tryz.runUnderlying43 Tryz.sizeOf40 rfl rfl rfl rfl rfl ?_; refine WL.step (OpTo.storeA (vs := [.int .i64 a2.fg, .int .i64 a2.bg, .int .i64 a2.fl]) rfl rfl ⟨Tryz.sizeOf40⟩ rfl hB rfl (fun w7 hn7 hm7 hz7 => ?_))
    first | simp only [putList, List.set_cons_zero, List.set_cons_succ] at hn7 | dsimp only [putList, List.set] at hn7
    have hG := hG.trans hm7 (fun _ h => h) (fun x hx hs => by (try dsimp only at hs ⊢); omega); have hB := hn7; have hF := FinC.cur h { S.c with a := a2 } h.ok.cur hG hB; refine WL.nil ?_; refine WC.exit ?_; refine wsr ?_; refine va rfl rfl ?_; refine WL.nil ?_; refine WC.ret ?_; refine fin_one rfl rfl ?_
    first
      | exact ⟨_, hK.mono (by omega), fun h1 => by exfalso; omega, fun h1 => by exfalso; omega, fun h1 => by exfalso; omega⟩
      | exact ⟨_, hF.k.mono (by omega), fun _ => hF.mono (by omega), fun h1 => by exfalso; omega, fun h1 => by exfalso; omega⟩
      | exact ⟨_, hF.k.mono (by omega), fun _ => hF.mono (by omega), fun h1 => by exfalso; omega, fun _ _ => ⟨rfl, hby⟩⟩
      | exact ⟨_, hF.k.mono (by omega), fun _ => hF.mono (by omega), fun _ hps => by rw [ha2 hps], fun h1 => by exfalso; omega⟩
      | exact ⟨_, hF.k.mono (by omega), fun _ => hF.mono (by omega), fun h1 => by exfalso; omega, fun _ hps => by exfalso; subst hps; have e : param [6] 0 0 = 6 := (by decide); omega⟩
   ·refine WC.skip ?_; refine WC.seq ?_; refine wsr ?_; refine WL.val (OpRun.eql rfl rfl) rfl ?_; refine va rfl rfl ?_; refine WL.nil ?_; refine WC.condDK rfl (fun hq6 => ?_) (fun hq6 => ?_)
    ·refine WC.exit ?_; refine wsr ?_; refine vm rfl rfl ?_; refine vm rfl rfl ?_; refine WL.step (OpTo.call ⟨Tryz.call97⟩ rfl rfl (margins_ok hW hp hl hr) (fun v7 w7 hp7 => ?_)); obtain ⟨rfl, S2, hF2⟩ := hp7; have hF := hF.trans hF2; refine WL.nil ?_; refine WC.exit ?_; refine wsr ?_; refine va rfl rfl ?_; refine WL.nil ?_; refine WC.ret ?_; refine fin_one rfl rfl ?_
     first
       | exact ⟨_, hK.mono (by omega), fun h1 => by exfalso; omega, fun h1 => by exfalso; omega, fun h1 => by exfalso; omega⟩
       | exact ⟨_, hF.k.mono (by omega), fun _ => hF.mono (by omega), fun h1 => by exfalso; omega, fun h1 => by exfalso; omega⟩
       | exact ⟨_, hF.k.mono (by omega), fun _ => hF.mono (by omega), fun h1 => by exfalso; omega, fun _ _ => ⟨rfl, hby⟩⟩
       | exact ⟨_, hF.k.mono (by omega), fun _ => hF.mono (by omega), fun _ hps => by rw [ha2 hps], fun h1 => by exfalso; omega⟩
       | exact ⟨_, hF.k.mono (by omega), fun _ => hF.mono (by omega), fun h1 => by exfalso; omega, fun _ hps => by exfalso; subst hps; have e : param [6] 0 0 = 6 := (by decide); omega⟩
    ·refine WC.skip ?_; refine WC.seq ?_; refine wsr ?_; refine WL.val (OpRun.eql rfl rfl) rfl ?_; refine va rfl rfl ?_; refine WL.nil ?_; refine WC.condDK rfl (fun hq7 => ?_) (fun hq7 => ?_)
     ·refine WC.exit ?_; refine wsr ?_; refine vm rfl rfl ?_; refine WL.step (OpTo.call ⟨Tryz.call89⟩ rfl rfl (save_ok hW) (fun v8 w8 hp8 => ?_)); obtain ⟨rfl, hF2⟩ := hp8; have hK := hF.k.trans hF2; refine WL.nil ?_; refine WC.exit ?_; refine wsr ?_; refine va rfl rfl ?_; refine WL.nil ?_; refine WC.ret ?_; refine fin_one rfl rfl ?_
      first
        | exact ⟨_, hK.mono (by omega), fun h1 => by exfalso; omega, fun h1 => by exfalso; omega, fun h1 => by exfalso; omega⟩
        | exact ⟨_, hF.k.mono (by omega), fun _ => hF.mono (by omega), fun h1 => by exfalso; omega, fun h1 => by exfalso; omega⟩
        | exact ⟨_, hF.k.mono (by omega), fun _ => hF.mono (by omega), fun h1 => by exfalso; omega, fun _ _ => ⟨rfl, hby⟩⟩
        | exact ⟨_, hF.k.mono (by omega), fun _ => hF.mono (by omega), fun _ hps => by rw [ha2 hps], fun h1 => by exfalso; omega⟩
        | exact ⟨_, hF.k.mono (by omega), fun _ => hF.mono (by omega), fun h1 => by exfalso; omega, fun _ hps => by exfalso; subst hps; have e : param [6] 0 0 = 6 := (by decide); omega⟩
     ·refine WC.skip ?_; refine WC.seq ?_; refine wsr ?_; refine WL.val (OpRun.eql rfl rfl) rfl ?_; refine va rfl rfl ?_; refine WL.nil ?_; refine WC.condDK rfl (fun hq8 => ?_) (fun hq8 => ?_)
      ·refine WC.exit ?_; refine wsr ?_; refine vm rfl rfl ?_; refine WL.step (OpTo.call ⟨Tryz.call90⟩ rfl rfl (rest_ok hW) (fun v9 w9 hp9 => ?_)); obtain ⟨rfl, hF2⟩ := hp9; have hF := hF.trans hF2; refine WL.nil ?_; refine WC.exit ?_; refine wsr ?_; refine va rfl rfl ?_; refine WL.nil ?_; refine WC.ret ?_; refine fin_one rfl rfl ?_
       first
         | exact ⟨_, hK.mono (by omega), fun h1 => by exfalso; omega, fun h1 => by exfalso; omega, fun h1 => by exfalso; omega⟩
         | exact ⟨_, hF.k.mono (by omega), fun _ => hF.mono (by omega), fun h1 => by exfalso; omega, fun h1 => by exfalso; omega⟩
         | exact ⟨_, hF.k.mono (by omega), fun _ => hF.mono (by omega), fun h1 => by exfalso; omega, fun _ _ => ⟨rfl, hby⟩⟩
         | exact ⟨_, hF.k.mono (by omega), fun _ => hF.mono (by omega), fun _ hps => by rw [ha2 hps], fun h1 => by exfalso; omega⟩
         | exact ⟨_, hF.k.mono (by omega), fun _ => hF.mono (by omega), fun h1 => by exfalso; omega, fun _ hps => by exfalso; subst hps; have e : param [6] 0 0 = 6 := (by decide); omega⟩
      ·refine WC.skip ?_; refine WC.seq ?_; refine WC.seq ?_; refine wsr ?_; refine WL.val (OpRun.eql rfl rfl) rfl ?_; refine va rfl rfl ?_; refine WL.nil ?_; refine WC.condDK rfl (fun hq9 => ?_) (fun hq9 => ?_)
       ·refine WC.skip ?_; refine WC.condT rfl ?_; refine WC.exit ?_; refine WC.seq ?_; refine wsr ?_; obtain ⟨pcap, hsl⟩ := hp; obtain ⟨pad, hpv⟩ := hsl.slice; subst hpv; refine vm rfl rfl ?_; refine WL.val (OpRun.lenS rfl ⟨Tryz.runUnderlying32⟩) rfl ?_; refine vm rfl rfl ?_; refine WL.nil ?_; refine WC.block ?_; refine WC.loop (fun m e w' => ∃ (i : Nat) (S1 : Scr), i ≤ ps.length ∧ m = ps.length - i ∧ Sub [(0, .pointer (some ⟨sb, 0, none⟩)), (2, .int .u8 c), (81, (.slice pad ps.length pcap)), (82, .int .i64 ps.length), (83, .int .i64 i)] e ∧ FinC w w' sb S S1 0 ∧ RI w' (.slice pad ps.length pcap) ps ps.length pcap) (ps.length) ⟨0, S, by omega, by omega, ⟨rfl, rfl, rfl, rfl, rfl, trivial⟩, hF, hsl⟩ ?_
        rintro m e wl ⟨i, S1, hi, rfl, hs, hF, hsl⟩
        refine WC.sub hs ?_; have hW := hF.w; have hB := hW.blk; unfold Scr.vals at hB; have hG : Mod (fun k => True) wl wl := Mod.refl _ _; refine wsr ?_; refine WL.val (OpRun.lss rfl rfl) rfl ?_; refine WL.nil ?_; refine WC.seq ?_; refine WC.condDK rfl (fun hq12 => ?_) (fun hq12 => ?_)
        ·refine WC.skip ?_; refine WC.seq ?_; refine WC.block ?_; refine wsr ?_; have hd1 := own_later hvl hd hF.op; obtain ⟨pB, pO, hsv⟩ := hsl.pos (by omega)
         cases hsv
         refine WL.val (OpRun.indexAddr rfl rfl ⟨Tryz.runUnderlying32⟩ ⟨Tryz.sizeOf3⟩ (by omega) (by omega)) rfl ?_; refine WL.val (OpRun.loadC rfl ⟨Tryz.isAgg3⟩ (hsl.rd (i := i) (by omega))) rfl ?_; refine va rfl rfl ?_; refine WL.nil ?_; refine WC.seqVal 92 (.bool (decide (ps.getD i 0 = 4 ∨ ps.getD i 0 = 20))) ?_ ?_
         ·refine WC.region ?_; refine vm rfl rfl ?_; refine WL.val (OpRun.eql rfl rfl) rfl ?_; refine WL.splitD rfl rfl (fun hq13 => ?_) (fun hq13 => ?_)
          ·refine WL.pass rfl rfl rfl rfl ?_; refine WL.pass rfl rfl rfl rfl ?_; refine WL.val (OpRun.pickT rfl rfl) rfl ?_; refine WL.nil ?_; refine ⟨rfl, ?_, by repeat (first | exact Keep.refl _ | refine Keep.cons ?_ rfl)⟩
           first | exact congrArg (fun b => some (Value.bool b)) (decide_eq_true (by omega)).symm | exact congrArg (fun b => some (Value.bool b)) (decide_eq_false (by omega)).symm | exact congrArg (fun b => some (Value.bool b)) (decide_eq_decide.2 (by omega))
          ·refine WL.want rfl rfl ?_; refine vm rfl rfl ?_; refine WL.want rfl rfl ?_; refine WL.val (OpRun.eql rfl rfl) rfl ?_; refine WL.val (OpRun.pickF rfl rfl) rfl ?_; refine WL.nil ?_; refine ⟨rfl, ?_, by repeat (first | exact Keep.refl _ | refine Keep.cons ?_ rfl)⟩
           first | exact congrArg (fun b => some (Value.bool b)) (decide_eq_true (by omega)).symm | exact congrArg (fun b => some (Value.bool b)) (decide_eq_false (by omega)).symm | exact congrArg (fun b => some (Value.bool b)) (decide_eq_decide.2 (by omega))
         ·refine WC.condDK rfl (fun hq13 => ?_) (fun hq13 => ?_)
          ·refine WC.region ?_; have hpv := hW.mods; refine vm rfl rfl ?_; refine vn rfl rfl ?_; refine vf 35 Tryz.runUnderlying70 Tryz.sizeOf66 rfl rfl rfl rfl rfl ?_; refine WL.val (OpRun.load rfl ⟨Tryz.isAgg66⟩ hB rfl) rfl ?_; refine vm rfl rfl ?_; refine vm rfl rfl ?_; refine WL.val (OpRun.eql rfl rfl) rfl ?_; refine WL.step (OpTo.mapUpdateK rfl rfl rfl hpv (⟨by omega, by omega⟩) (fun w14 hn14 hm14 hz14 => ?_)); have hB := hB.mod hm14 (hpv.nblk hB); have hG := hG.trans hm14 (fun _ h => h) (fun x hx hs => trivial); have hpv := hn14; have hF2 := FinC.withMods hW _ hm14 hpv; have hF := hF.trans hF2; have hsl := hsl.mod hm14 (fun k hk (hh : k = S1.mm) => hd1 k hk (hh ▸ .inr (.inr (.inr (.inl rfl))))); refine WL.nil ?_; refine WC.region ?_; refine WL.val (OpRun.add rfl rfl (In.i64 (by omega))) rfl ?_
           refine vm rfl rfl ?_; refine WL.nil ?_; exact ⟨ps.length - (i + 1), by omega, i + 1, _, by omega, rfl, ⟨rfl, rfl, rfl, rfl, rfl, trivial⟩, hF, hsl⟩
          ·refine WC.skip ?_; refine WC.region ?_; refine WL.val (OpRun.add rfl rfl (In.i64 (by omega))) rfl ?_; refine vm rfl rfl ?_; refine WL.nil ?_; exact ⟨ps.length - (i + 1), by omega, i + 1, _, by omega, rfl, ⟨rfl, rfl, rfl, rfl, rfl, trivial⟩, hF, hsl⟩
        ·refine WC.exit ?_; refine WC.exit ?_; refine wsr ?_; refine va rfl rfl ?_; refine WL.nil ?_; refine WC.ret ?_; refine fin_one rfl rfl ?_
         first
           | exact ⟨_, hK.mono (by omega), fun h1 => by exfalso; omega, fun h1 => by exfalso; omega, fun h1 => by exfalso; omega⟩
           | exact ⟨_, hF.k.mono (by omega), fun _ => hF.mono (by omega), fun h1 => by exfalso; omega, fun h1 => by exfalso; omega⟩
           | exact ⟨_, hF.k.mono (by omega), fun _ => hF.mono (by omega), fun h1 => by exfalso; omega, fun _ _ => ⟨rfl, hby⟩⟩
           | exact ⟨_, hF.k.mono (by omega), fun _ => hF.mono (by omega), fun _ hps => by rw [ha2 hps], fun h1 => by exfalso; omega⟩
           | exact ⟨_, hF.k.mono (by omega), fun _ => hF.mono (by omega), fun h1 => by exfalso; omega, fun _ hps => by exfalso; subst hps; have e : param [6] 0 0 = 6 := (by decide); omega⟩
       ·refine WC.region ?_; refine WL.val (OpRun.eql rfl rfl) rfl ?_; refine va rfl rfl ?_; refine WL.nil ?_; refine WC.condDK rfl (fun hq10 => ?_) (fun hq10 => ?_)
        ·refine WC.exit ?_; refine WC.seq ?_; refine wsr ?_; obtain ⟨pcap, hsl⟩ := hp; obtain ⟨pad, hpv⟩ := hsl.slice; subst hpv; refine vm rfl rfl ?_; refine WL.val (OpRun.lenS rfl ⟨Tryz.runUnderlying32⟩) rfl ?_; refine vm rfl rfl ?_; refine WL.nil ?_; refine WC.block ?_; refine WC.loop (fun m e w' => ∃ (i : Nat) (S1 : Scr), i ≤ ps.length ∧ m = ps.length - i ∧ Sub [(0, .pointer (some ⟨sb, 0, none⟩)), (2, .int .u8 c), (81, (.slice pad ps.length pcap)), (82, .int .i64 ps.length), (83, .int .i64 i)] e ∧ FinC w w' sb S S1 0 ∧ RI w' (.slice pad ps.length pcap) ps ps.length pcap) (ps.length) ⟨0, S, by omega, by omega, ⟨rfl, rfl, rfl, rfl, rfl, trivial⟩, hF, hsl⟩ ?_
         rintro m e wl ⟨i, S1, hi, rfl, hs, hF, hsl⟩
         refine WC.sub hs ?_; have hW := hF.w; have hB := hW.blk; unfold Scr.vals at hB; have hG : Mod (fun k => True) wl wl := Mod.refl _ _; refine wsr ?_; refine WL.val (OpRun.lss rfl rfl) rfl ?_; refine WL.nil ?_; refine WC.seq ?_; refine WC.condDK rfl (fun hq13 => ?_) (fun hq13 => ?_)
         ·refine WC.skip ?_; refine WC.seq ?_; refine WC.block ?_; refine wsr ?_; have hd1 := own_later hvl hd hF.op; obtain ⟨pB, pO, hsv⟩ := hsl.pos (by omega)
          cases hsv
          refine WL.val (OpRun.indexAddr rfl rfl ⟨Tryz.runUnderlying32⟩ ⟨Tryz.sizeOf3⟩ (by omega) (by omega)) rfl ?_; refine WL.val (OpRun.loadC rfl ⟨Tryz.isAgg3⟩ (hsl.rd (i := i) (by omega))) rfl ?_; refine va rfl rfl ?_; refine WL.nil ?_; refine WC.seqVal 92 (.bool (decide (ps.getD i 0 = 4 ∨ ps.getD i 0 = 20))) ?_ ?_
          ·refine WC.region ?_; refine vm rfl rfl ?_; refine WL.val (OpRun.eql rfl rfl) rfl ?_; refine WL.splitD rfl rfl (fun hq14 => ?_) (fun hq14 => ?_)
           ·refine WL.pass rfl rfl rfl rfl ?_; refine WL.pass rfl rfl rfl rfl ?_; refine WL.val (OpRun.pickT rfl rfl) rfl ?_; refine WL.nil ?_; refine ⟨rfl, ?_, by repeat (first | exact Keep.refl _ | refine Keep.cons ?_ rfl)⟩
            first | exact congrArg (fun b => some (Value.bool b)) (decide_eq_true (by omega)).symm | exact congrArg (fun b => some (Value.bool b)) (decide_eq_false (by omega)).symm | exact congrArg (fun b => some (Value.bool b)) (decide_eq_decide.2 (by omega))
           ·refine WL.want rfl rfl ?_; refine vm rfl rfl ?_; refine WL.want rfl rfl ?_; refine WL.val (OpRun.eql rfl rfl) rfl ?_; refine WL.val (OpRun.pickF rfl rfl) rfl ?_; refine WL.nil ?_; refine ⟨rfl, ?_, by repeat (first | exact Keep.refl _ | refine Keep.cons ?_ rfl)⟩
            first | exact congrArg (fun b => some (Value.bool b)) (decide_eq_true (by omega)).symm | exact congrArg (fun b => some (Value.bool b)) (decide_eq_false (by omega)).symm | exact congrArg (fun b => some (Value.bool b)) (decide_eq_decide.2 (by omega))
          ·refine WC.condDK rfl (fun hq14 => ?_) (fun hq14 => ?_)
           ·refine WC.region ?_; have hpv := hW.mods; refine vm rfl rfl ?_; refine vn rfl rfl ?_; refine vf 35 Tryz.runUnderlying70 Tryz.sizeOf66 rfl rfl rfl rfl rfl ?_; refine WL.val (OpRun.load rfl ⟨Tryz.isAgg66⟩ hB rfl) rfl ?_; refine vm rfl rfl ?_; refine vm rfl rfl ?_; refine WL.val (OpRun.eql rfl rfl) rfl ?_; refine WL.step (OpTo.mapUpdateK rfl rfl rfl hpv (⟨by omega, by omega⟩) (fun w15 hn15 hm15 hz15 => ?_)); have hB := hB.mod hm15 (hpv.nblk hB); have hG := hG.trans hm15 (fun _ h => h) (fun x hx hs => trivial); have hpv := hn15; have hF2 := FinC.withMods hW _ hm15 hpv; have hF := hF.trans hF2; have hsl := hsl.mod hm15 (fun k hk (hh : k = S1.mm) => hd1 k hk (hh ▸ .inr (.inr (.inr (.inl rfl))))); refine WL.nil ?_; refine WC.region ?_; refine WL.val (OpRun.add rfl rfl (In.i64 (by omega))) rfl ?_
            refine vm rfl rfl ?_; refine WL.nil ?_; exact ⟨ps.length - (i + 1), by omega, i + 1, _, by omega, rfl, ⟨rfl, rfl, rfl, rfl, rfl, trivial⟩, hF, hsl⟩
           ·refine WC.skip ?_; refine WC.region ?_; refine WL.val (OpRun.add rfl rfl (In.i64 (by omega))) rfl ?_; refine vm rfl rfl ?_; refine WL.nil ?_; exact ⟨ps.length - (i + 1), by omega, i + 1, _, by omega, rfl, ⟨rfl, rfl, rfl, rfl, rfl, trivial⟩, hF, hsl⟩
         ·refine WC.exit ?_; refine WC.exit ?_; refine wsr ?_; refine va rfl rfl ?_; refine WL.nil ?_; refine WC.ret ?_; refine fin_one rfl rfl ?_
          first
            | exact ⟨_, hK.mono (by omega), fun h1 => by exfalso; omega, fun h1 => by exfalso; omega, fun h1 => by exfalso; omega⟩
            | exact ⟨_, hF.k.mono (by omega), fun _ => hF.mono (by omega), fun h1 => by exfalso; omega, fun h1 => by exfalso; omega⟩
            | exact ⟨_, hF.k.mono (by omega), fun _ => hF.mono (by omega), fun h1 => by exfalso; omega, fun _ _ => ⟨rfl, hby⟩⟩
            | exact ⟨_, hF.k.mono (by omega), fun _ => hF.mono (by omega), fun _ hps => by rw [ha2 hps], fun h1 => by exfalso; omega⟩
            | exact ⟨_, hF.k.mono (by omega), fun _ => hF.mono (by omega), fun h1 => by exfalso; omega, fun _ hps => by exfalso; subst hps; have e : param [6] 0 0 = 6 := (by decide); omega⟩
        ·refine WC.skip ?_; refine WC.seq ?_; refine wsr ?_; refine WL.val (OpRun.eql rfl rfl) rfl ?_; refine va rfl rfl ?_; refine WL.nil ?_; refine WC.condDK rfl (fun hq11 => ?_) (fun hq11 => ?_)
         ·refine WC.exit ?_; refine WC.seq ?_; refine wsr ?_; refine vm rfl rfl ?_; refine WL.nil ?_; refine WC.block ?_; refine wsr ?_; refine WL.val (OpRun.eql rfl rfl) rfl ?_; refine va rfl rfl ?_; refine WL.nil ?_; refine WC.condDK rfl (fun hq12 => ?_) (fun hq12 => ?_)
          ·refine WC.regionD (fun w0 w1 => Grow w0 w1) 10 rfl mixed (fun w13 hm13 hz13 => ?_); have hmD41 := hm13; have hB := hB.grow hm13; have hW := hW.grow hm13; have hF := hF.grow hm13; have hp := hp.grow hm13; have ht := ht.grow hm13; have hG := hG.grow hm13; have hSc := Mod.refl (fun k => False) w13; refine WH.take 0 rfl (by kernel_rfl) hSc (fun w1 h1 => OpRun.move rfl) ?_; refine WH.take 1 rfl (by kernel_rfl) hSc (fun w1 h1 => OpRun.nilCheck rfl) ?_; refine WH.take 2 rfl (by kernel_rfl) hSc (fun _ _ => oF 39 Tryz.runUnderlying70 Tryz.sizeOf67 rfl rfl rfl rfl) ?_; refine WH.take 3 rfl (by kernel_rfl) hSc (fun w1 h1 => OpRun.load rfl ⟨Tryz.isAgg67⟩ (hB.grow h1) rfl) ?_; refine WH.take 4 rfl (by kernel_rfl) hSc (fun w1 h1 => OpRun.move rfl) ?_; refine WH.take 5 rfl (by kernel_rfl) hSc (fun w1 h1 => OpRun.nilCheck rfl) ?_; refine WH.take 6 rfl (by kernel_rfl) hSc (fun _ _ => oF 3 Tryz.runUnderlying70 Tryz.sizeOf43 rfl rfl rfl rfl) ?_
           refine WH.take 7 rfl (by kernel_rfl) hSc (fun _ _ => oF 1 Tryz.runUnderlying43 Tryz.sizeOf3 rfl rfl rfl rfl) ?_; refine WH.take 8 rfl (by kernel_rfl) hSc (fun w1 h1 => OpRun.load rfl ⟨Tryz.isAgg3⟩ (hB.grow h1) rfl) ?_; refine WH.one 9 rfl (by kernel_rfl) (OpTo.call ⟨Tryz.call98⟩ rfl rfl (tclear_ok hW.tabs _ (by omega)) (fun v14 w14 hp14 => ?_)); obtain ⟨⟨bx, rfl⟩, T2, hTO⟩ := hp14; have hF := hF.trans (FinC.withTabs hW hTO); refine ⟨fun hl => (by have h2 := hl.symm.trans (show isLast _ _ = true from by kernel_rfl); cases h2), ?_⟩; refine WH.done (by kernel_rfl) ?_; refine WC.exit ?_; refine wsr ?_; refine va rfl rfl ?_; refine WL.nil ?_; refine WC.ret ?_; refine fin_one rfl rfl ?_
           first
             | exact ⟨_, hK.mono (by omega), fun h1 => by exfalso; omega, fun h1 => by exfalso; omega, fun h1 => by exfalso; omega⟩
             | exact ⟨_, hF.k.mono (by omega), fun _ => hF.mono (by omega), fun h1 => by exfalso; omega, fun h1 => by exfalso; omega⟩
             | exact ⟨_, hF.k.mono (by omega), fun _ => hF.mono (by omega), fun h1 => by exfalso; omega, fun _ _ => ⟨rfl, hby⟩⟩
             | exact ⟨_, hF.k.mono (by omega), fun _ => hF.mono (by omega), fun _ hps => by rw [ha2 hps], fun h1 => by exfalso; omega⟩
             | exact ⟨_, hF.k.mono (by omega), fun _ => hF.mono (by omega), fun h1 => by exfalso; omega, fun _ hps => by exfalso; subst hps; have e : param [6] 0 0 = 6 := (by decide); omega⟩
          ·refine wsr ?_; refine WL.val (OpRun.eql rfl rfl) rfl ?_; refine va rfl rfl ?_; refine WL.nil ?_; refine WC.condDK rfl (fun hq13 => ?_) (fun hq13 => ?_)
           ·refine WC.region ?_; refine vm rfl rfl ?_; refine vn rfl rfl ?_; refine vf 39 Tryz.runUnderlying70 Tryz.sizeOf67 rfl rfl rfl rfl rfl ?_; refine WL.val (OpRun.load rfl ⟨Tryz.isAgg67⟩ hB rfl) rfl ?_; refine WL.step (OpTo.call ⟨Tryz.call99⟩ rfl rfl (tnone_ok hW.tabs) (fun v14 w14 hp14 => ?_)); obtain ⟨rfl, T2, hTO⟩ := hp14; have hF := hF.trans (FinC.withTabs hW hTO); refine WL.nil ?_; refine WC.exit ?_; refine wsr ?_; refine va rfl rfl ?_; refine WL.nil ?_; refine WC.ret ?_; refine fin_one rfl rfl ?_
            first
              | exact ⟨_, hK.mono (by omega), fun h1 => by exfalso; omega, fun h1 => by exfalso; omega, fun h1 => by exfalso; omega⟩
              | exact ⟨_, hF.k.mono (by omega), fun _ => hF.mono (by omega), fun h1 => by exfalso; omega, fun h1 => by exfalso; omega⟩
              | exact ⟨_, hF.k.mono (by omega), fun _ => hF.mono (by omega), fun h1 => by exfalso; omega, fun _ _ => ⟨rfl, hby⟩⟩
              | exact ⟨_, hF.k.mono (by omega), fun _ => hF.mono (by omega), fun _ hps => by rw [ha2 hps], fun h1 => by exfalso; omega⟩
              | exact ⟨_, hF.k.mono (by omega), fun _ => hF.mono (by omega), fun h1 => by exfalso; omega, fun _ hps => by exfalso; subst hps; have e : param [6] 0 0 = 6 := (by decide); omega⟩
           ·refine WC.skip ?_; refine WC.exit ?_; refine wsr ?_; refine va rfl rfl ?_; refine WL.nil ?_; refine WC.ret ?_; refine fin_one rfl rfl ?_
            first
              | exact ⟨_, hK.mono (by omega), fun h1 => by exfalso; omega, fun h1 => by exfalso; omega, fun h1 => by exfalso; omega⟩
              | exact ⟨_, hF.k.mono (by omega), fun _ => hF.mono (by omega), fun h1 => by exfalso; omega, fun h1 => by exfalso; omega⟩
              | exact ⟨_, hF.k.mono (by omega), fun _ => hF.mono (by omega), fun h1 => by exfalso; omega, fun _ _ => ⟨rfl, hby⟩⟩
              | exact ⟨_, hF.k.mono (by omega), fun _ => hF.mono (by omega), fun _ hps => by rw [ha2 hps], fun h1 => by exfalso; omega⟩
              | exact ⟨_, hF.k.mono (by omega), fun _ => hF.mono (by omega), fun h1 => by exfalso; omega, fun _ hps => by exfalso; subst hps; have e : param [6] 0 0 = 6 := (by decide); omega⟩
         ·refine WC.skip ?_; refine WC.seq ?_; refine wsr ?_; refine WL.val (OpRun.eql rfl rfl) rfl ?_; refine va rfl rfl ?_; refine WL.nil ?_; refine WC.condDK rfl (fun hq12 => ?_) (fun hq12 => ?_)
          ·refine WC.exit ?_; refine wsr ?_; refine vm rfl rfl ?_; refine vm rfl rfl ?_; refine WL.step (OpTo.call ⟨Tryz.call100⟩ rfl rfl (again_ok hW _ (by omega)) (fun v13 w13 hp13 => ?_)); obtain ⟨rfl, S2, hF2⟩ := hp13; have hF := hF.trans hF2; refine WL.nil ?_; refine WC.exit ?_; refine wsr ?_; refine va rfl rfl ?_; refine WL.nil ?_; refine WC.ret ?_; refine fin_one rfl rfl ?_
           first
             | exact ⟨_, hK.mono (by omega), fun h1 => by exfalso; omega, fun h1 => by exfalso; omega, fun h1 => by exfalso; omega⟩
             | exact ⟨_, hF.k.mono (by omega), fun _ => hF.mono (by omega), fun h1 => by exfalso; omega, fun h1 => by exfalso; omega⟩
             | exact ⟨_, hF.k.mono (by omega), fun _ => hF.mono (by omega), fun h1 => by exfalso; omega, fun _ _ => ⟨rfl, hby⟩⟩
             | exact ⟨_, hF.k.mono (by omega), fun _ => hF.mono (by omega), fun _ hps => by rw [ha2 hps], fun h1 => by exfalso; omega⟩
             | exact ⟨_, hF.k.mono (by omega), fun _ => hF.mono (by omega), fun h1 => by exfalso; omega, fun _ hps => by exfalso; subst hps; have e : param [6] 0 0 = 6 := (by decide); omega⟩
          ·refine WC.skip ?_; refine WC.seq ?_; refine wsr ?_; refine WL.val (OpRun.eql rfl rfl) rfl ?_; refine va rfl rfl ?_; refine WL.nil ?_; refine WC.condDK rfl (fun hq13 => ?_) (fun hq13 => ?_)
           ·refine WC.exit ?_; refine wsr ?_; refine vm rfl rfl ?_; refine vm rfl rfl ?_; refine WL.step (OpTo.call ⟨Tryz.call101⟩ rfl rfl (display_ok hW _ (by omega)) (fun v14 w14 hp14 => ?_)); obtain ⟨rfl, S2, hF2⟩ := hp14; have hF := hF.trans hF2; refine WL.nil ?_; refine WC.exit ?_; refine wsr ?_; refine va rfl rfl ?_; refine WL.nil ?_; refine WC.ret ?_; refine fin_one rfl rfl ?_
            first
              | exact ⟨_, hK.mono (by omega), fun h1 => by exfalso; omega, fun h1 => by exfalso; omega, fun h1 => by exfalso; omega⟩
              | exact ⟨_, hF.k.mono (by omega), fun _ => hF.mono (by omega), fun h1 => by exfalso; omega, fun h1 => by exfalso; omega⟩
              | exact ⟨_, hF.k.mono (by omega), fun _ => hF.mono (by omega), fun h1 => by exfalso; omega, fun _ _ => ⟨rfl, hby⟩⟩
              | exact ⟨_, hF.k.mono (by omega), fun _ => hF.mono (by omega), fun _ hps => by rw [ha2 hps], fun h1 => by exfalso; omega⟩
              | exact ⟨_, hF.k.mono (by omega), fun _ => hF.mono (by omega), fun h1 => by exfalso; omega, fun _ hps => by exfalso; subst hps; have e : param [6] 0 0 = 6 := (by decide); omega⟩
           ·refine WC.skip ?_; refine WC.seq ?_; refine wsr ?_; refine WL.val (OpRun.eql rfl rfl) rfl ?_; refine va rfl rfl ?_; refine WL.nil ?_; refine WC.condDK rfl (fun hq14 => ?_) (fun hq14 => ?_)
            ·refine WC.exit ?_; refine wsr ?_; refine vm rfl rfl ?_; refine vm rfl rfl ?_; refine WL.step (OpTo.call ⟨Tryz.call102⟩ rfl rfl (inline_ok hW _ (by omega)) (fun v15 w15 hp15 => ?_)); obtain ⟨rfl, S2, hF2⟩ := hp15; have hF := hF.trans hF2; refine WL.nil ?_; refine WC.exit ?_; refine wsr ?_; refine va rfl rfl ?_; refine WL.nil ?_; refine WC.ret ?_; refine fin_one rfl rfl ?_
             first
               | exact ⟨_, hK.mono (by omega), fun h1 => by exfalso; omega, fun h1 => by exfalso; omega, fun h1 => by exfalso; omega⟩
               | exact ⟨_, hF.k.mono (by omega), fun _ => hF.mono (by omega), fun h1 => by exfalso; omega, fun h1 => by exfalso; omega⟩
               | exact ⟨_, hF.k.mono (by omega), fun _ => hF.mono (by omega), fun h1 => by exfalso; omega, fun _ _ => ⟨rfl, hby⟩⟩
               | exact ⟨_, hF.k.mono (by omega), fun _ => hF.mono (by omega), fun _ hps => by rw [ha2 hps], fun h1 => by exfalso; omega⟩
               | exact ⟨_, hF.k.mono (by omega), fun _ => hF.mono (by omega), fun h1 => by exfalso; omega, fun _ hps => by exfalso; subst hps; have e : param [6] 0 0 = 6 := (by decide); omega⟩
            ·refine WC.skip ?_; refine WC.seq ?_; refine WC.seq ?_; refine wsr ?_; refine WL.val (OpRun.eql rfl rfl) rfl ?_; refine va rfl rfl ?_; refine WL.nil ?_; refine WC.condDK rfl (fun hq15 => ?_) (fun hq15 => ?_)
             ·refine WC.skip ?_; refine WC.condT rfl ?_; refine WC.exit ?_; refine wsr ?_; refine vm rfl rfl ?_; refine vm rfl rfl ?_; refine vm rfl rfl ?_; refine WL.step (OpTo.call ⟨Tryz.call103⟩ rfl rfl (cells_ok hW c hc _ (by omega) (by omega)) (fun v16 w16 hp16 => ?_)); obtain ⟨rfl, S2, hF2⟩ := hp16; have hF := hF.trans hF2; refine WL.nil ?_; refine WC.exit ?_; refine wsr ?_; refine va rfl rfl ?_; refine WL.nil ?_; refine WC.ret ?_; refine fin_one rfl rfl ?_
              first
                | exact ⟨_, hK.mono (by omega), fun h1 => by exfalso; omega, fun h1 => by exfalso; omega, fun h1 => by exfalso; omega⟩
                | exact ⟨_, hF.k.mono (by omega), fun _ => hF.mono (by omega), fun h1 => by exfalso; omega, fun h1 => by exfalso; omega⟩
                | exact ⟨_, hF.k.mono (by omega), fun _ => hF.mono (by omega), fun h1 => by exfalso; omega, fun _ _ => ⟨rfl, hby⟩⟩
                | exact ⟨_, hF.k.mono (by omega), fun _ => hF.mono (by omega), fun _ hps => by rw [ha2 hps], fun h1 => by exfalso; omega⟩
                | exact ⟨_, hF.k.mono (by omega), fun _ => hF.mono (by omega), fun h1 => by exfalso; omega, fun _ hps => by exfalso; subst hps; have e : param [6] 0 0 = 6 := (by decide); omega⟩
             ·refine wsr ?_; refine WL.val (OpRun.eql rfl rfl) rfl ?_; refine va rfl rfl ?_; refine WL.nil ?_; refine WC.condDK rfl (fun hq16 => ?_) (fun hq16 => ?_)
              ·refine WC.skip ?_; refine WC.condT rfl ?_; refine WC.exit ?_; refine wsr ?_; refine vm rfl rfl ?_; refine vm rfl rfl ?_; refine vm rfl rfl ?_; refine WL.step (OpTo.call ⟨Tryz.call103⟩ rfl rfl (cells_ok hW c hc _ (by omega) (by omega)) (fun v17 w17 hp17 => ?_)); obtain ⟨rfl, S2, hF2⟩ := hp17; have hF := hF.trans hF2; refine WL.nil ?_; refine WC.exit ?_; refine wsr ?_; refine va rfl rfl ?_; refine WL.nil ?_; refine WC.ret ?_; refine fin_one rfl rfl ?_
               first
                 | exact ⟨_, hK.mono (by omega), fun h1 => by exfalso; omega, fun h1 => by exfalso; omega, fun h1 => by exfalso; omega⟩
                 | exact ⟨_, hF.k.mono (by omega), fun _ => hF.mono (by omega), fun h1 => by exfalso; omega, fun h1 => by exfalso; omega⟩
                 | exact ⟨_, hF.k.mono (by omega), fun _ => hF.mono (by omega), fun h1 => by exfalso; omega, fun _ _ => ⟨rfl, hby⟩⟩
                 | exact ⟨_, hF.k.mono (by omega), fun _ => hF.mono (by omega), fun _ hps => by rw [ha2 hps], fun h1 => by exfalso; omega⟩
                 | exact ⟨_, hF.k.mono (by omega), fun _ => hF.mono (by omega), fun h1 => by exfalso; omega, fun _ hps => by exfalso; subst hps; have e : param [6] 0 0 = 6 := (by decide); omega⟩
              ·refine WC.region ?_; refine WL.val (OpRun.eql rfl rfl) rfl ?_; refine va rfl rfl ?_; refine WL.nil ?_; refine WC.condDK rfl (fun hq17 => ?_) (fun hq17 => ?_)
               ·refine WC.exit ?_; refine wsr ?_; refine vm rfl rfl ?_; refine vm rfl rfl ?_; refine vm rfl rfl ?_; refine WL.step (OpTo.call ⟨Tryz.call103⟩ rfl rfl (cells_ok hW c hc _ (by omega) (by omega)) (fun v18 w18 hp18 => ?_)); obtain ⟨rfl, S2, hF2⟩ := hp18; have hF := hF.trans hF2; refine WL.nil ?_; refine WC.exit ?_; refine wsr ?_; refine va rfl rfl ?_; refine WL.nil ?_; refine WC.ret ?_; refine fin_one rfl rfl ?_
                first
                  | exact ⟨_, hK.mono (by omega), fun h1 => by exfalso; omega, fun h1 => by exfalso; omega, fun h1 => by exfalso; omega⟩
                  | exact ⟨_, hF.k.mono (by omega), fun _ => hF.mono (by omega), fun h1 => by exfalso; omega, fun h1 => by exfalso; omega⟩
                  | exact ⟨_, hF.k.mono (by omega), fun _ => hF.mono (by omega), fun h1 => by exfalso; omega, fun _ _ => ⟨rfl, hby⟩⟩
                  | exact ⟨_, hF.k.mono (by omega), fun _ => hF.mono (by omega), fun _ hps => by rw [ha2 hps], fun h1 => by exfalso; omega⟩
                  | exact ⟨_, hF.k.mono (by omega), fun _ => hF.mono (by omega), fun h1 => by exfalso; omega, fun _ hps => by exfalso; subst hps; have e : param [6] 0 0 = 6 := (by decide); omega⟩
               ·refine WC.skip ?_; refine WC.seq ?_; refine WC.seq ?_; refine wsr ?_; refine WL.val (OpRun.eql rfl rfl) rfl ?_; refine va rfl rfl ?_; refine WL.nil ?_; refine WC.condDK rfl (fun hq18 => ?_) (fun hq18 => ?_)
                ·refine WC.skip ?_; refine WC.condT rfl ?_; refine WC.exit ?_; refine wsr ?_; refine vm rfl rfl ?_; refine vm rfl rfl ?_; refine vm rfl rfl ?_; refine WL.step (OpTo.call ⟨Tryz.call104⟩ rfl rfl (slines_ok hW c hc _ (by omega)) (fun v19 w19 hp19 => ?_)); obtain ⟨rfl, S2, hF2⟩ := hp19; have hF := hF.trans hF2; refine WL.nil ?_; refine WC.exit ?_; refine wsr ?_; refine va rfl rfl ?_; refine WL.nil ?_; refine WC.ret ?_; refine fin_one rfl rfl ?_
                 first
                   | exact ⟨_, hK.mono (by omega), fun h1 => by exfalso; omega, fun h1 => by exfalso; omega, fun h1 => by exfalso; omega⟩
                   | exact ⟨_, hF.k.mono (by omega), fun _ => hF.mono (by omega), fun h1 => by exfalso; omega, fun h1 => by exfalso; omega⟩
                   | exact ⟨_, hF.k.mono (by omega), fun _ => hF.mono (by omega), fun h1 => by exfalso; omega, fun _ _ => ⟨rfl, hby⟩⟩
                   | exact ⟨_, hF.k.mono (by omega), fun _ => hF.mono (by omega), fun _ hps => by rw [ha2 hps], fun h1 => by exfalso; omega⟩
                   | exact ⟨_, hF.k.mono (by omega), fun _ => hF.mono (by omega), fun h1 => by exfalso; omega, fun _ hps => by exfalso; subst hps; have e : param [6] 0 0 = 6 := (by decide); omega⟩
                ·refine WC.region ?_; refine WL.val (OpRun.eql rfl rfl) rfl ?_; refine va rfl rfl ?_; refine WL.nil ?_; refine WC.condDK rfl (fun hq19 => ?_) (fun hq19 => ?_)
                 ·refine WC.exit ?_; refine wsr ?_; refine vm rfl rfl ?_; refine vm rfl rfl ?_; refine vm rfl rfl ?_; refine WL.step (OpTo.call ⟨Tryz.call104⟩ rfl rfl (slines_ok hW c hc _ (by omega)) (fun v20 w20 hp20 => ?_)); obtain ⟨rfl, S2, hF2⟩ := hp20; have hF := hF.trans hF2; refine WL.nil ?_; refine WC.exit ?_; refine wsr ?_; refine va rfl rfl ?_; refine WL.nil ?_; refine WC.ret ?_; refine fin_one rfl rfl ?_
                  first
                    | exact ⟨_, hK.mono (by omega), fun h1 => by exfalso; omega, fun h1 => by exfalso; omega, fun h1 => by exfalso; omega⟩
                    | exact ⟨_, hF.k.mono (by omega), fun _ => hF.mono (by omega), fun h1 => by exfalso; omega, fun h1 => by exfalso; omega⟩
                    | exact ⟨_, hF.k.mono (by omega), fun _ => hF.mono (by omega), fun h1 => by exfalso; omega, fun _ _ => ⟨rfl, hby⟩⟩
                    | exact ⟨_, hF.k.mono (by omega), fun _ => hF.mono (by omega), fun _ hps => by rw [ha2 hps], fun h1 => by exfalso; omega⟩
                    | exact ⟨_, hF.k.mono (by omega), fun _ => hF.mono (by omega), fun h1 => by exfalso; omega, fun _ hps => by exfalso; subst hps; have e : param [6] 0 0 = 6 := (by decide); omega⟩
                 ·refine WC.skip ?_; refine WC.seq ?_; refine wsr ?_; refine WL.val (OpRun.eql rfl rfl) rfl ?_; refine va rfl rfl ?_; refine WL.nil ?_; refine WC.condDK rfl (fun hq20 => ?_) (fun hq20 => ?_)
                  ·refine WC.exit ?_; refine WC.region ?_; refine vm rfl rfl ?_; refine WL.val (OpRun.neg rfl (In.i64 (by omega))) rfl ?_; refine va rfl rfl ?_; refine WL.nil ?_; refine WC.seq ?_; refine WC.seq ?_; refine WC.regionD (fun w0 w1 => Grow w0 w1) 15 rfl mixed (fun w21 hm21 hz21 => ?_); have hmD50 := hm21; have hB := hB.grow hm21; have hW := hW.grow hm21; have hF := hF.grow hm21; have hp := hp.grow hm21; have ht := ht.grow hm21; have hG := hG.grow hm21; have hSc := Mod.refl (fun k => False) w21; refine WH.take 0 rfl (by kernel_rfl) hSc (fun w1 h1 => OpRun.move rfl) ?_; refine WH.take 2 rfl (by kernel_rfl) hSc (fun w1 h1 => OpRun.move rfl) ?_; refine WH.take 3 rfl (by kernel_rfl) hSc (fun w1 h1 => OpRun.nilCheck rfl) ?_; refine WH.take 4 rfl (by kernel_rfl) hSc (fun _ _ => oF 37 Tryz.runUnderlying70 Tryz.sizeOf3 rfl rfl rfl rfl) ?_
                   refine WH.take 5 rfl (by kernel_rfl) hSc (fun w1 h1 => OpRun.load rfl ⟨Tryz.isAgg3⟩ (hB.grow h1) rfl) ?_; refine WH.take 6 rfl (by kernel_rfl) hSc (fun w1 h1 => OpRun.move rfl) ?_; refine WH.take 7 rfl (by kernel_rfl) hSc (fun w1 h1 => OpRun.nilCheck rfl) ?_; refine WH.take 8 rfl (by kernel_rfl) hSc (fun _ _ => oF 38 Tryz.runUnderlying70 Tryz.sizeOf3 rfl rfl rfl rfl) ?_; refine WH.take 9 rfl (by kernel_rfl) hSc (fun w1 h1 => OpRun.load rfl ⟨Tryz.isAgg3⟩ (hB.grow h1) rfl) ?_; refine WH.take 10 rfl (by kernel_rfl) hSc (fun w1 h1 => OpRun.move rfl) ?_; refine WH.take 11 rfl (by kernel_rfl) hSc (fun w1 h1 => OpRun.neg rfl (In.i64 (by omega))) ?_; refine WH.take 12 rfl (by kernel_rfl) hSc (fun w1 h1 => OpRun.move rfl) ?_; refine WH.one 1 rfl (by kernel_rfl) (OpTo.call ⟨Tryz.call29⟩ rfl rfl (g_ok hW.toScrM hW.ok.now) (fun v22 w22 hp22 => ?_)); obtain ⟨rfl, hm22⟩ := hp22
                   have hB := hB.grow hm22; have hW := hW.grow hm22; have hF := hF.grow hm22; have hp := hp.grow hm22; have ht := ht.grow hm22; have hG := hG.grow hm22; have hSc := hSc.grow hm22; refine ⟨fun _ => hSc, ?_⟩; refine WH.one 13 rfl (by kernel_rfl) (OpTo.call ⟨Tryz.call67⟩ rfl rfl (blank_ok hW.toScrM) (fun v23 w23 hp23 => ?_)); obtain ⟨rfl, hm23⟩ := hp23; have hB := hB.grow hm23; have hW := hW.grow hm23; have hF := hF.grow hm23; have hp := hp.grow hm23; have ht := ht.grow hm23; have hG := hG.grow hm23; have hSc := hSc.grow hm23; refine ⟨fun _ => hSc, ?_⟩; refine WH.one 14 rfl (by kernel_rfl) (OpTo.call ⟨Tryz.call63⟩ rfl rfl (scroll_ok hW.gw S.top S.past _ (by omega) (by omega) ⟨0, S.c.a.bg, 0⟩) (fun v24 w24 hp24 => ?_)); obtain ⟨⟨z, rfl⟩, G2, hO, hS⟩ := hp24; have hF2 := FinC.grid hW hO hS; have hF := hF.trans hF2; have hW := hF.w; have hB := hW.blk; unfold Scr.vals at hB; obtain ⟨hR1, hR2, hC1, hC2, hGr, hGc, hcr, hcc, hcs, htp, hpr⟩ := Scr.dims hW
                   have hcols := hF.calm.cols; have hrows := hF.calm.rows; have han := hF.an; have hG : Mod (fun k => k = sb) w24 w24 := Mod.refl _ _; refine ⟨fun hl => (by have h2 := hl.symm.trans (show isLast _ _ = true from by kernel_rfl); cases h2), ?_⟩; refine WH.done (by kernel_rfl) ?_; refine WC.region ?_; refine vm rfl rfl ?_; refine vn rfl rfl ?_; refine vf 3 Tryz.runUnderlying70 Tryz.sizeOf43 rfl rfl rfl rfl rfl ?_; refine vf 2 Tryz.runUnderlying43 Tryz.sizeOf4 rfl rfl rfl rfl rfl ?_; refine WL.step (OpTo.store rfl rfl ⟨Tryz.sizeOf4⟩ rfl hB rfl (fun w25 hn25 hm25 hz25 => ?_))
                   first | simp only [List.set_cons_zero, List.set_cons_succ] at hn25 | dsimp only [putList, List.set] at hn25
                   have hG := hG.trans hm25 (fun _ h => h) (fun x hx hs => by (try dsimp only at hs ⊢); omega); have hB := hn25; have hF := hF.trans (FinC.cur hW _ (CurOk.nw hW.ok.cur) hG hB); refine WL.nil ?_; refine WC.exit ?_; refine wsr ?_; refine va rfl rfl ?_; refine WL.nil ?_; refine WC.ret ?_; refine fin_one rfl rfl ?_
                   first
                     | exact ⟨_, hK.mono (by omega), fun h1 => by exfalso; omega, fun h1 => by exfalso; omega, fun h1 => by exfalso; omega⟩
                     | exact ⟨_, hF.k.mono (by omega), fun _ => hF.mono (by omega), fun h1 => by exfalso; omega, fun h1 => by exfalso; omega⟩
                     | exact ⟨_, hF.k.mono (by omega), fun _ => hF.mono (by omega), fun h1 => by exfalso; omega, fun _ _ => ⟨rfl, hby⟩⟩
                     | exact ⟨_, hF.k.mono (by omega), fun _ => hF.mono (by omega), fun _ hps => by rw [ha2 hps], fun h1 => by exfalso; omega⟩
                     | exact ⟨_, hF.k.mono (by omega), fun _ => hF.mono (by omega), fun h1 => by exfalso; omega, fun _ hps => by exfalso; subst hps; have e : param [6] 0 0 = 6 := (by decide); omega⟩
                  ·refine WC.skip ?_; refine wsr ?_; refine WL.val (OpRun.eql rfl rfl) rfl ?_; refine va rfl rfl ?_; refine WL.nil ?_; refine WC.condDK rfl (fun hq21 => ?_) (fun hq21 => ?_)
                   ·refine WC.exit ?_; refine WC.seq ?_; refine WC.seq ?_; refine WC.regionD (fun w0 w1 => Grow w0 w1) 15 rfl mixed (fun w22 hm22 hz22 => ?_); have hmD50 := hm22; have hB := hB.grow hm22; have hW := hW.grow hm22; have hF := hF.grow hm22; have hp := hp.grow hm22; have ht := ht.grow hm22; have hG := hG.grow hm22; have hSc := Mod.refl (fun k => False) w22; refine WH.take 0 rfl (by kernel_rfl) hSc (fun w1 h1 => OpRun.move rfl) ?_; refine WH.take 2 rfl (by kernel_rfl) hSc (fun w1 h1 => OpRun.move rfl) ?_; refine WH.take 3 rfl (by kernel_rfl) hSc (fun w1 h1 => OpRun.nilCheck rfl) ?_; refine WH.take 4 rfl (by kernel_rfl) hSc (fun _ _ => oF 37 Tryz.runUnderlying70 Tryz.sizeOf3 rfl rfl rfl rfl) ?_; refine WH.take 5 rfl (by kernel_rfl) hSc (fun w1 h1 => OpRun.load rfl ⟨Tryz.isAgg3⟩ (hB.grow h1) rfl) ?_; refine WH.take 6 rfl (by kernel_rfl) hSc (fun w1 h1 => OpRun.move rfl) ?_
                    refine WH.take 7 rfl (by kernel_rfl) hSc (fun w1 h1 => OpRun.nilCheck rfl) ?_; refine WH.take 8 rfl (by kernel_rfl) hSc (fun _ _ => oF 38 Tryz.runUnderlying70 Tryz.sizeOf3 rfl rfl rfl rfl) ?_; refine WH.take 9 rfl (by kernel_rfl) hSc (fun w1 h1 => OpRun.load rfl ⟨Tryz.isAgg3⟩ (hB.grow h1) rfl) ?_; refine WH.take 10 rfl (by kernel_rfl) hSc (fun w1 h1 => OpRun.move rfl) ?_; refine WH.take 11 rfl (by kernel_rfl) hSc (fun w1 h1 => OpRun.neg rfl (In.i64 (by omega))) ?_; refine WH.take 12 rfl (by kernel_rfl) hSc (fun w1 h1 => OpRun.move rfl) ?_; refine WH.one 1 rfl (by kernel_rfl) (OpTo.call ⟨Tryz.call29⟩ rfl rfl (g_ok hW.toScrM hW.ok.now) (fun v23 w23 hp23 => ?_)); obtain ⟨rfl, hm23⟩ := hp23; have hB := hB.grow hm23; have hW := hW.grow hm23; have hF := hF.grow hm23; have hp := hp.grow hm23; have ht := ht.grow hm23; have hG := hG.grow hm23; have hSc := hSc.grow hm23
                    refine ⟨fun _ => hSc, ?_⟩; refine WH.one 13 rfl (by kernel_rfl) (OpTo.call ⟨Tryz.call67⟩ rfl rfl (blank_ok hW.toScrM) (fun v24 w24 hp24 => ?_)); obtain ⟨rfl, hm24⟩ := hp24; have hB := hB.grow hm24; have hW := hW.grow hm24; have hF := hF.grow hm24; have hp := hp.grow hm24; have ht := ht.grow hm24; have hG := hG.grow hm24; have hSc := hSc.grow hm24; refine ⟨fun _ => hSc, ?_⟩; refine WH.one 14 rfl (by kernel_rfl) (OpTo.call ⟨Tryz.call63⟩ rfl rfl (scroll_ok hW.gw S.top S.past _ (by omega) (by omega) ⟨0, S.c.a.bg, 0⟩) (fun v25 w25 hp25 => ?_)); obtain ⟨⟨z, rfl⟩, G2, hO, hS⟩ := hp25; have hF2 := FinC.grid hW hO hS; have hF := hF.trans hF2; have hW := hF.w; have hB := hW.blk; unfold Scr.vals at hB; obtain ⟨hR1, hR2, hC1, hC2, hGr, hGc, hcr, hcc, hcs, htp, hpr⟩ := Scr.dims hW; have hcols := hF.calm.cols; have hrows := hF.calm.rows; have han := hF.an; have hG : Mod (fun k => k = sb) w25 w25 := Mod.refl _ _
                    refine ⟨fun hl => (by have h2 := hl.symm.trans (show isLast _ _ = true from by kernel_rfl); cases h2), ?_⟩; refine WH.done (by kernel_rfl) ?_; refine WC.region ?_; refine vm rfl rfl ?_; refine vn rfl rfl ?_; refine vf 3 Tryz.runUnderlying70 Tryz.sizeOf43 rfl rfl rfl rfl rfl ?_; refine vf 2 Tryz.runUnderlying43 Tryz.sizeOf4 rfl rfl rfl rfl rfl ?_; refine WL.step (OpTo.store rfl rfl ⟨Tryz.sizeOf4⟩ rfl hB rfl (fun w26 hn26 hm26 hz26 => ?_))
                    first | simp only [List.set_cons_zero, List.set_cons_succ] at hn26 | dsimp only [putList, List.set] at hn26
                    have hG := hG.trans hm26 (fun _ h => h) (fun x hx hs => by (try dsimp only at hs ⊢); omega); have hB := hn26; have hF := hF.trans (FinC.cur hW _ (CurOk.nw hW.ok.cur) hG hB); refine WL.nil ?_; refine WC.exit ?_; refine wsr ?_; refine va rfl rfl ?_; refine WL.nil ?_; refine WC.ret ?_; refine fin_one rfl rfl ?_
                    first
                      | exact ⟨_, hK.mono (by omega), fun h1 => by exfalso; omega, fun h1 => by exfalso; omega, fun h1 => by exfalso; omega⟩
                      | exact ⟨_, hF.k.mono (by omega), fun _ => hF.mono (by omega), fun h1 => by exfalso; omega, fun h1 => by exfalso; omega⟩
                      | exact ⟨_, hF.k.mono (by omega), fun _ => hF.mono (by omega), fun h1 => by exfalso; omega, fun _ _ => ⟨rfl, hby⟩⟩
                      | exact ⟨_, hF.k.mono (by omega), fun _ => hF.mono (by omega), fun _ hps => by rw [ha2 hps], fun h1 => by exfalso; omega⟩
                      | exact ⟨_, hF.k.mono (by omega), fun _ => hF.mono (by omega), fun h1 => by exfalso; omega, fun _ hps => by exfalso; subst hps; have e : param [6] 0 0 = 6 := (by decide); omega⟩
                   ·refine WC.skip ?_; refine WC.exit ?_; refine wsr ?_; refine vm rfl rfl ?_; refine vm rfl rfl ?_; refine vm rfl rfl ?_; refine vm rfl rfl ?_; refine WL.step (OpTo.call ⟨Tryz.call105⟩ rfl rfl (move_ok hW hp hl hr c hc _ (by omega)) (fun v22 w22 hp22 => ?_)); obtain ⟨rfl, S2, hF2⟩ := hp22; have hF := hF.trans hF2; refine WL.nil ?_; refine WC.exit ?_; refine wsr ?_; refine va rfl rfl ?_; refine WL.nil ?_; refine WC.ret ?_; refine fin_one rfl rfl ?_
                    first
                      | exact ⟨_, hK.mono (by omega), fun h1 => by exfalso; omega, fun h1 => by exfalso; omega, fun h1 => by exfalso; omega⟩
                      | exact ⟨_, hF.k.mono (by omega), fun _ => hF.mono (by omega), fun h1 => by exfalso; omega, fun h1 => by exfalso; omega⟩
                      | exact ⟨_, hF.k.mono (by omega), fun _ => hF.mono (by omega), fun h1 => by exfalso; omega, fun _ _ => ⟨rfl, hby⟩⟩
                      | exact ⟨_, hF.k.mono (by omega), fun _ => hF.mono (by omega), fun _ hps => by rw [ha2 hps], fun h1 => by exfalso; omega⟩
                      | exact ⟨_, hF.k.mono (by omega), fun _ => hF.mono (by omega), fun h1 => by exfalso; omega, fun _ hps => by exfalso; subst hps; have e : param [6] 0 0 = 6 := (by decide); omega⟩

end Go.Eng
