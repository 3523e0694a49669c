/- Walks of the program's functions, one after the other (part 10); without conditions of their own. -/
import Derived.Test.YtcbdilccmjpnbaaGreatWM3
import Derived.Test.YtcbdilccmjpnbaaGreatWM4
import Derived.Test.YtcbdilccmjpnbaaGreatWM5
import Derived.Test.YtcbdilccmjpnbaaGreatWM9
import Derived.Test.YtcbdilccmjpnbaaGreatWM2
set_option linter.unusedVariables false
set_option linter.unusedSimpArgs false
set_option maxRecDepth 100000
set_option maxHeartbeats 4000000
open Go.RowKit
namespace Go.Proofs.YtcbdilccmjpnbaaGreat
section
attribute [local irreducible] X Pure Mod
theorem c_playable (p : List (List Stm)) (q : List Int) (pv qv : Value) (G : PH) (hp : PrgS G p pv) (hq : Ints G q qv) : Pure Tryz.prog 23 [pv, qv] G fun v G' => v = .bool (progOk p && decide (q.length ≤ 200)) ∧ G' = G := by
 obtain ⟨Ap, cp, rfl, _⟩ := id hp.1
 obtain ⟨Aq, cq, rfl, _⟩ := id hq
 refine Pure.intro Tryz.func23 Tryz.ntmps23 J J fun w => ?_; refine Va J J ?_;refine S_call Tryz.call50 (c_iProgOk p _ _ hp) J J J ?_;rintro v1 G1 ⟨rfl, rfl⟩ _
 refine Va J J ?_;exact S_retp (Res.t1 Tryz.results23 J J) XR ⟨by rw [show decide ((q.length : Int) ≤ 200) = decide (q.length ≤ 200) from decide_eq_decide.2 (by omega)], J⟩
end
section
attribute [local irreducible] X Pure Mod
theorem c_IndexInt (L : List Int) (p : Int → Bool) (fid : Nat) (cap : Array Value) (v : Value) (G : PH) (hv : Ints G L v) (hcf : ∀ args w, (callFunc fid args).run Tryz.prog w = .ok (.enter fid args) w)
  (hp : ∀ k (hk : k < L.length), I64 L[k] → Pure Tryz.prog fid (.int .i64 L[k] :: cap.toList) G fun v G' => v = .bool (p L[k]) ∧ G' = G) :
  Pure Tryz.prog 51 [v, .func (.func fid) #[] cap] G fun v G' => (∃ r : Int, v = .int .i64 r ∧ (0 ≤ r ↔ L.any p = true)) ∧ G' = G := by
 obtain ⟨A, c, rfl, hn, hc1, hc2, hr⟩ := id hv
 refine Pure.intro Tryz.func51 Tryz.ntmps51 J J fun w => ?_; refine Va J J ?_;refine S_loop (α := Nat) (fun k => k ≤ L.length ∧ ∀ j (hj : j < L.length), j < k → p L[j] = false) (fun k => L.length - k) []
  (fun k => [(8, .val (.int .i64 k)), (7, .val (.int .i64 L.length)), (0, .val (.slice A L.length c)), (1, .val (.func (.func fid) #[] cap))]) (fun _ => []) (fun _ => G) 0 ⟨Nat.zero_le _, fun j _ h => by omega⟩ rfl
  ⟨⟨_, rfl, rfl⟩, ⟨_, rfl, rfl⟩, ⟨_, rfl, rfl⟩, ⟨_, rfl, rfl⟩, trivial⟩ .nil ?_
 rintro k ⟨hk, hall⟩
 refine Va J J ?_
 refine S_condp J (fun h => ?_) (fun h => ?_) <;> refine Va J J ?_
 ·have hkl : k < L.length := by omega
  obtain ⟨ad, cs, rfl, hcs, rfl, hu⟩ := Sr_at hv hkl
  refine S_index Tk J J J J J J (by omega) (by omega) ?_;refine Va J J ?_;refine S_load Tk J J J J J (by simpa using hcs.1) ?_;refine Va J J ?_;refine S_callV (vs := [.int .i64 L[k]]) J hcf (hp k hkl hu) J J J ?_;rintro v1 G1 ⟨rfl, rfl⟩ _
  refine Va J J ?_
  refine S_cond J (fun h => ?_) (fun h => ?_) <;> refine Va J J ?_
  ·refine S_retP Tryz.results51 J J XR ⟨⟨_, J, ?_⟩, J⟩
   rw [any_at hkl h]; simp
  ·refine S_add J J J J (by omega) ?_
   refine Va J J ?_;refine S_again (k + 1) ⟨by omega, fun j hj hjk => ?_⟩ (by omega) J ⟨⟨_, J, J⟩, ⟨_, J, J⟩, ⟨_, J, J⟩, ⟨_, J, J⟩, trivial⟩ .nil
   rcases Nat.lt_or_ge j k with h' | h'
   ·exact hall j hj h'
   ·obtain rfl : j = k := by omega
    exact h
 ·refine S_retP Tryz.results51 J J XR ⟨⟨_, J, ?_⟩, J⟩
  rw [any_not fun j hj => hall j hj (by omega)]; simp
theorem c_ContainsInt (L : List Int) (p : Int → Bool) (fid : Nat) (cap : Array Value) (v : Value) (G : PH) (hv : Ints G L v) (hcf : ∀ args w, (callFunc fid args).run Tryz.prog w = .ok (.enter fid args) w)
  (hp : ∀ k (hk : k < L.length), I64 L[k] → Pure Tryz.prog fid (.int .i64 L[k] :: cap.toList) G fun v G' => v = .bool (p L[k]) ∧ G' = G) :
  Pure Tryz.prog 24 [v, .func (.func fid) #[] cap] G fun v G' => v = .bool (L.any p) ∧ G' = G := by
 obtain ⟨A, c, rfl, hn, hc1, hc2, hr⟩ := id hv
 refine Pure.intro Tryz.func24 Tryz.ntmps24 J J fun w => ?_; refine Va J J ?_;refine S_call Tryz.call51 (c_IndexInt L p fid cap _ _ hv hcf hp) J J J ?_;rintro v1 G1 ⟨⟨r, rfl, hrr⟩, rfl⟩ _
 refine Va J J ?_;refine S_retP Tryz.results24 J J XR ⟨?_, J⟩
 congr 1
 exact (Bool.eq_iff_iff.2 (by rw [← hrr]; simp))
end
section
theorem Fin3_of {W : Wld} {B : Nat} (h : Inv W B) (hB : B ≤ 1000000) : Fin3 W :=
 ⟨h.n1, h.n3, (h.rdy hB).sd, (h.rdy hB).q0, (h.rdy hB).q1, (h.rdy hB).tl⟩
structure WV where
 bp : Nat
 bc : Nat
 br : Nat
 bs : Nat
 kp : Nat
 asd : Option Addr
 ksd : Nat
 kc : Nat
 kr : Nat
 ks : Nat
def WV.cs (x : WV) (W : Wld) : List Value := [.slice (some ⟨x.bp, 0, none⟩) W.procs.length x.kp, .slice (some ⟨x.bc, 0, none⟩) 3 x.kc, .slice (some ⟨x.br, 0, none⟩) 2 x.kr, .slice (some ⟨x.bs, 0, none⟩) 2 x.ks, .slice x.asd W.said.length x.ksd]
end
section
attribute [local irreducible] X Pure Mod
theorem c_first (W : Wld) (who : Nat) (b : Nat) (ts : List Value) (G : PH) (h1 : 1 ≤ W.procs.length) (h3 : W.procs.length ≤ 3) (ht : Tds G W.procs ts) (hw : who < W.procs.length) :
  Mod Tryz.prog 57 [.pointer (some ⟨b, 0, none⟩), .int .i64 (who : Nat)] G (worldP b W ts) fun v G' A' => G' = G ∧ A' = worldP b W ts ∧ KindV (fstK W who) v := by
 refine Mod.intro Tryz.func57 Tryz.ntmps57 J J fun w S => ?_;obtain ⟨ps, x0, x1, x2, m0, m1, q0, q1, sd⟩ := W
 rcases shape h1 h3 ht with ⟨⟨a0, a1, a2, td0, mo0, on0, ro0⟩, A0, k0, rfl, rfl, s0⟩ | ⟨⟨a0, a1, a2, td0, mo0, on0, ro0⟩, A0, k0, ⟨b0, b1, b2, td1, mo1, on1, ro1⟩, A1, k1, rfl, rfl, s0, s1⟩ | ⟨⟨a0, a1, a2, td0, mo0, on0, ro0⟩, A0, k0, ⟨b0, b1, b2, td1, mo1, on1, ro1⟩, A1, k1, ⟨d0, d1, d2, td2, mo2, on2, ro2⟩, A2, k2, rfl, rfl, s0, s1, s2⟩
 ·obtain rfl : who = 0 := by simpa using hw
  refine OpP 1 0 J J J J fun bp bc br bs bg kp sp asd ksd aq0 kq0 aq1 kq1 kc spc kr spr ks sps kg spg hbg hmk => ?_; obtain ⟨g0, rfl⟩ := len1 hbg; clear hbg; refine NM J J ?_; dsimp only [wEnts, wCels, procCs, regEs, WX.of, vi]
  refine Va J J ?_;refine AZ ZT_ok J J J J fun b4 => ?_;refine Va J J ?_;refine AZ ZT_ok J J J J fun b5 => ?_;refine Va J J ?_
  by_cases hm : mo0 = 2
  ·subst hm
   refine RT J J ?_;refine Va J J ?_;exact RK (1007 :: wKeys 1) (Res.c1 Tk Tryz.results57 J J) ⟨J, J, 0, 0, 0, none, 0, 0, none, 0, 0, J⟩ (Wpp [_] kg spg J ‹_› J J J J J J J J) J (.blk J J (Wsub 5 J J J J J J J J J J J J J J J J (Bs 3 J J J J .nil))) XR
  rcases td0 with _ | ⟨⟨kk, a, bb, n, x, y⟩, r⟩
  ·refine RT J (by simp) ?_
   refine Va J J ?_;exact RK (1007 :: wKeys 1) (Res.c1 Tk Tryz.results57 J J) ⟨J, J, 0, 0, 0, none, 0, 0, none, 0, 0, by rw [show fstK _ _ = 0 by simp [fstK, fstP]]⟩ (Wpp [_] kg spg J ‹_› J J J J J J J J) J (.blk J J (Wsub 5 J J J J J J J J J J J J J J J J (Bs 3 J J J J .nil))) XR
  ·obtain ⟨ad, vx, vy, rfl, hcs, hx, hy, i1, i2, i3, i4⟩ := Sts_head s0
   simp only [Stm.kind, Stm.a, Stm.b, Stm.n, Stm.body, Stm.els] at hcs hx hy
   obtain ⟨Ax, cx, rfl, _⟩ := id hx
   obtain ⟨Ay, cy, rfl, _⟩ := id hy
   refine RF J (by simp [hm]; omega) ?_;refine Va J J ?_
   refine S_index Tk J J J J J J (by omega) (by simp <;> omega) ?_
   refine S_loadA Tk J J J J J (by simpa [add_zero'] using hcs) ?_;refine Va J J ?_;exact RK (1007 :: wKeys 1) (Res.c1 Tk Tryz.results57 J J) ⟨J, J, by rw [show fstK _ _ = kk by simp [fstK, fstP, hm, Stm.kind]]; exact ⟨_, _, _, _, _, _, _, _, _, J⟩⟩ (Wpp [_] kg spg J ‹_› J J J J J J J J) J (.blk J J (Wsub 5 J J J J J J J J J J J J J J J J (Bs 3 J J J J .nil))) XR
 ·rcases (by simp at hw; omega : who = 0 ∨ who = 1) with rfl | rfl
  ·refine OpP 1 0 J J J J fun bp bc br bs bg kp sp asd ksd aq0 kq0 aq1 kq1 kc spc kr spr ks sps kg spg hbg hmk => ?_; obtain ⟨g0, g1, rfl⟩ := len2 hbg; clear hbg; refine NM J J ?_; dsimp only [wEnts, wCels, procCs, regEs, WX.of, vi]
   refine Va J J ?_;refine AZ ZT_ok J J J J fun b4 => ?_;refine Va J J ?_;refine AZ ZT_ok J J J J fun b5 => ?_;refine Va J J ?_
   by_cases hm : mo0 = 2
   ·subst hm
    refine RT J J ?_;refine Va J J ?_;exact RK (1007 :: wKeys 2) (Res.c1 Tk Tryz.results57 J J) ⟨J, J, 0, 0, 0, none, 0, 0, none, 0, 0, J⟩ (Wpp [_, _] kg spg J ‹_› J J J J J J J J) J (.blk J J (Wsub 10 J J J J J J J J J J J J J J J J (Bs 3 J J J J (Bs 3 J J J J .nil)))) XR
   rcases td0 with _ | ⟨⟨kk, a, bb, n, x, y⟩, r⟩
   ·refine RT J (by simp) ?_
    refine Va J J ?_;exact RK (1007 :: wKeys 2) (Res.c1 Tk Tryz.results57 J J) ⟨J, J, 0, 0, 0, none, 0, 0, none, 0, 0, by rw [show fstK _ _ = 0 by simp [fstK, fstP]]⟩ (Wpp [_, _] kg spg J ‹_› J J J J J J J J) J (.blk J J (Wsub 10 J J J J J J J J J J J J J J J J (Bs 3 J J J J (Bs 3 J J J J .nil)))) XR
   ·obtain ⟨ad, vx, vy, rfl, hcs, hx, hy, i1, i2, i3, i4⟩ := Sts_head s0
    simp only [Stm.kind, Stm.a, Stm.b, Stm.n, Stm.body, Stm.els] at hcs hx hy
    obtain ⟨Ax, cx, rfl, _⟩ := id hx
    obtain ⟨Ay, cy, rfl, _⟩ := id hy
    refine RF J (by simp [hm]; omega) ?_;refine Va J J ?_
    refine S_index Tk J J J J J J (by omega) (by simp <;> omega) ?_
    refine S_loadA Tk J J J J J (by simpa [add_zero'] using hcs) ?_;refine Va J J ?_;exact RK (1007 :: wKeys 2) (Res.c1 Tk Tryz.results57 J J) ⟨J, J, by rw [show fstK _ _ = kk by simp [fstK, fstP, hm, Stm.kind]]; exact ⟨_, _, _, _, _, _, _, _, _, J⟩⟩ (Wpp [_, _] kg spg J ‹_› J J J J J J J J) J (.blk J J (Wsub 10 J J J J J J J J J J J J J J J J (Bs 3 J J J J (Bs 3 J J J J .nil)))) XR
  ·refine OpP 1 0 J J J J fun bp bc br bs bg kp sp asd ksd aq0 kq0 aq1 kq1 kc spc kr spr ks sps kg spg hbg hmk => ?_; obtain ⟨g0, g1, rfl⟩ := len2 hbg; clear hbg; refine NM J J ?_; dsimp only [wEnts, wCels, procCs, regEs, WX.of, vi]
   refine Va J J ?_;refine AZ ZT_ok J J J J fun b4 => ?_;refine Va J J ?_;refine AZ ZT_ok J J J J fun b5 => ?_;refine Va J J ?_
   by_cases hm : mo1 = 2
   ·subst hm
    refine RT J J ?_;refine Va J J ?_;exact RK (1007 :: wKeys 2) (Res.c1 Tk Tryz.results57 J J) ⟨J, J, 0, 0, 0, none, 0, 0, none, 0, 0, J⟩ (Wpp [_, _] kg spg J ‹_› J J J J J J J J) J (.blk J J (Wsub 10 J J J J J J J J J J J J J J J J (Bs 3 J J J J (Bs 3 J J J J .nil)))) XR
   rcases td1 with _ | ⟨⟨kk, a, bb, n, x, y⟩, r⟩
   ·refine RT J (by simp) ?_
    refine Va J J ?_;exact RK (1007 :: wKeys 2) (Res.c1 Tk Tryz.results57 J J) ⟨J, J, 0, 0, 0, none, 0, 0, none, 0, 0, by rw [show fstK _ _ = 0 by simp [fstK, fstP]]⟩ (Wpp [_, _] kg spg J ‹_› J J J J J J J J) J (.blk J J (Wsub 10 J J J J J J J J J J J J J J J J (Bs 3 J J J J (Bs 3 J J J J .nil)))) XR
   ·obtain ⟨ad, vx, vy, rfl, hcs, hx, hy, i1, i2, i3, i4⟩ := Sts_head s1
    simp only [Stm.kind, Stm.a, Stm.b, Stm.n, Stm.body, Stm.els] at hcs hx hy
    obtain ⟨Ax, cx, rfl, _⟩ := id hx
    obtain ⟨Ay, cy, rfl, _⟩ := id hy
    refine RF J (by simp [hm]; omega) ?_;refine Va J J ?_
    refine S_index Tk J J J J J J (by omega) (by simp <;> omega) ?_
    refine S_loadA Tk J J J J J (by simpa [add_zero'] using hcs) ?_;refine Va J J ?_;exact RK (1007 :: wKeys 2) (Res.c1 Tk Tryz.results57 J J) ⟨J, J, by rw [show fstK _ _ = kk by simp [fstK, fstP, hm, Stm.kind]]; exact ⟨_, _, _, _, _, _, _, _, _, J⟩⟩ (Wpp [_, _] kg spg J ‹_› J J J J J J J J) J (.blk J J (Wsub 10 J J J J J J J J J J J J J J J J (Bs 3 J J J J (Bs 3 J J J J .nil)))) XR
 ·rcases (by simp at hw; omega : who = 0 ∨ who = 1 ∨ who = 2) with rfl | rfl | rfl
  ·refine OpP 1 0 J J J J fun bp bc br bs bg kp sp asd ksd aq0 kq0 aq1 kq1 kc spc kr spr ks sps kg spg hbg hmk => ?_; obtain ⟨g0, g1, g2, rfl⟩ := len3 hbg; clear hbg; refine NM J J ?_; dsimp only [wEnts, wCels, procCs, regEs, WX.of, vi]
   refine Va J J ?_;refine AZ ZT_ok J J J J fun b4 => ?_;refine Va J J ?_;refine AZ ZT_ok J J J J fun b5 => ?_;refine Va J J ?_
   by_cases hm : mo0 = 2
   ·subst hm
    refine RT J J ?_;refine Va J J ?_;exact RK (1007 :: wKeys 3) (Res.c1 Tk Tryz.results57 J J) ⟨J, J, 0, 0, 0, none, 0, 0, none, 0, 0, J⟩ (Wpp [_, _, _] kg spg J ‹_› J J J J J J J J) J (.blk J J (Wsub 15 J J J J J J J J J J J J J J J J (Bs 3 J J J J (Bs 3 J J J J (Bs 3 J J J J .nil))))) XR
   rcases td0 with _ | ⟨⟨kk, a, bb, n, x, y⟩, r⟩
   ·refine RT J (by simp) ?_
    refine Va J J ?_;exact RK (1007 :: wKeys 3) (Res.c1 Tk Tryz.results57 J J) ⟨J, J, 0, 0, 0, none, 0, 0, none, 0, 0, by rw [show fstK _ _ = 0 by simp [fstK, fstP]]⟩ (Wpp [_, _, _] kg spg J ‹_› J J J J J J J J) J (.blk J J (Wsub 15 J J J J J J J J J J J J J J J J (Bs 3 J J J J (Bs 3 J J J J (Bs 3 J J J J .nil))))) XR
   ·obtain ⟨ad, vx, vy, rfl, hcs, hx, hy, i1, i2, i3, i4⟩ := Sts_head s0
    simp only [Stm.kind, Stm.a, Stm.b, Stm.n, Stm.body, Stm.els] at hcs hx hy
    obtain ⟨Ax, cx, rfl, _⟩ := id hx
    obtain ⟨Ay, cy, rfl, _⟩ := id hy
    refine RF J (by simp [hm]; omega) ?_;refine Va J J ?_
    refine S_index Tk J J J J J J (by omega) (by simp <;> omega) ?_
    refine S_loadA Tk J J J J J (by simpa [add_zero'] using hcs) ?_;refine Va J J ?_;exact RK (1007 :: wKeys 3) (Res.c1 Tk Tryz.results57 J J) ⟨J, J, by rw [show fstK _ _ = kk by simp [fstK, fstP, hm, Stm.kind]]; exact ⟨_, _, _, _, _, _, _, _, _, J⟩⟩ (Wpp [_, _, _] kg spg J ‹_› J J J J J J J J) J (.blk J J (Wsub 15 J J J J J J J J J J J J J J J J (Bs 3 J J J J (Bs 3 J J J J (Bs 3 J J J J .nil))))) XR
  ·refine OpP 1 0 J J J J fun bp bc br bs bg kp sp asd ksd aq0 kq0 aq1 kq1 kc spc kr spr ks sps kg spg hbg hmk => ?_; obtain ⟨g0, g1, g2, rfl⟩ := len3 hbg; clear hbg; refine NM J J ?_; dsimp only [wEnts, wCels, procCs, regEs, WX.of, vi]
   refine Va J J ?_;refine AZ ZT_ok J J J J fun b4 => ?_;refine Va J J ?_;refine AZ ZT_ok J J J J fun b5 => ?_;refine Va J J ?_
   by_cases hm : mo1 = 2
   ·subst hm
    refine RT J J ?_;refine Va J J ?_;exact RK (1007 :: wKeys 3) (Res.c1 Tk Tryz.results57 J J) ⟨J, J, 0, 0, 0, none, 0, 0, none, 0, 0, J⟩ (Wpp [_, _, _] kg spg J ‹_› J J J J J J J J) J (.blk J J (Wsub 15 J J J J J J J J J J J J J J J J (Bs 3 J J J J (Bs 3 J J J J (Bs 3 J J J J .nil))))) XR
   rcases td1 with _ | ⟨⟨kk, a, bb, n, x, y⟩, r⟩
   ·refine RT J (by simp) ?_
    refine Va J J ?_;exact RK (1007 :: wKeys 3) (Res.c1 Tk Tryz.results57 J J) ⟨J, J, 0, 0, 0, none, 0, 0, none, 0, 0, by rw [show fstK _ _ = 0 by simp [fstK, fstP]]⟩ (Wpp [_, _, _] kg spg J ‹_› J J J J J J J J) J (.blk J J (Wsub 15 J J J J J J J J J J J J J J J J (Bs 3 J J J J (Bs 3 J J J J (Bs 3 J J J J .nil))))) XR
   ·obtain ⟨ad, vx, vy, rfl, hcs, hx, hy, i1, i2, i3, i4⟩ := Sts_head s1
    simp only [Stm.kind, Stm.a, Stm.b, Stm.n, Stm.body, Stm.els] at hcs hx hy
    obtain ⟨Ax, cx, rfl, _⟩ := id hx
    obtain ⟨Ay, cy, rfl, _⟩ := id hy
    refine RF J (by simp [hm]; omega) ?_;refine Va J J ?_
    refine S_index Tk J J J J J J (by omega) (by simp <;> omega) ?_
    refine S_loadA Tk J J J J J (by simpa [add_zero'] using hcs) ?_;refine Va J J ?_;exact RK (1007 :: wKeys 3) (Res.c1 Tk Tryz.results57 J J) ⟨J, J, by rw [show fstK _ _ = kk by simp [fstK, fstP, hm, Stm.kind]]; exact ⟨_, _, _, _, _, _, _, _, _, J⟩⟩ (Wpp [_, _, _] kg spg J ‹_› J J J J J J J J) J (.blk J J (Wsub 15 J J J J J J J J J J J J J J J J (Bs 3 J J J J (Bs 3 J J J J (Bs 3 J J J J .nil))))) XR
  ·refine OpP 1 0 J J J J fun bp bc br bs bg kp sp asd ksd aq0 kq0 aq1 kq1 kc spc kr spr ks sps kg spg hbg hmk => ?_; obtain ⟨g0, g1, g2, rfl⟩ := len3 hbg; clear hbg; refine NM J J ?_; dsimp only [wEnts, wCels, procCs, regEs, WX.of, vi]
   refine Va J J ?_;refine AZ ZT_ok J J J J fun b4 => ?_;refine Va J J ?_;refine AZ ZT_ok J J J J fun b5 => ?_;refine Va J J ?_
   by_cases hm : mo2 = 2
   ·subst hm
    refine RT J J ?_;refine Va J J ?_;exact RK (1007 :: wKeys 3) (Res.c1 Tk Tryz.results57 J J) ⟨J, J, 0, 0, 0, none, 0, 0, none, 0, 0, J⟩ (Wpp [_, _, _] kg spg J ‹_› J J J J J J J J) J (.blk J J (Wsub 15 J J J J J J J J J J J J J J J J (Bs 3 J J J J (Bs 3 J J J J (Bs 3 J J J J .nil))))) XR
   rcases td2 with _ | ⟨⟨kk, a, bb, n, x, y⟩, r⟩
   ·refine RT J (by simp) ?_
    refine Va J J ?_;exact RK (1007 :: wKeys 3) (Res.c1 Tk Tryz.results57 J J) ⟨J, J, 0, 0, 0, none, 0, 0, none, 0, 0, by rw [show fstK _ _ = 0 by simp [fstK, fstP]]⟩ (Wpp [_, _, _] kg spg J ‹_› J J J J J J J J) J (.blk J J (Wsub 15 J J J J J J J J J J J J J J J J (Bs 3 J J J J (Bs 3 J J J J (Bs 3 J J J J .nil))))) XR
   ·obtain ⟨ad, vx, vy, rfl, hcs, hx, hy, i1, i2, i3, i4⟩ := Sts_head s2
    simp only [Stm.kind, Stm.a, Stm.b, Stm.n, Stm.body, Stm.els] at hcs hx hy
    obtain ⟨Ax, cx, rfl, _⟩ := id hx
    obtain ⟨Ay, cy, rfl, _⟩ := id hy
    refine RF J (by simp [hm]; omega) ?_;refine Va J J ?_
    refine S_index Tk J J J J J J (by omega) (by simp <;> omega) ?_
    refine S_loadA Tk J J J J J (by simpa [add_zero'] using hcs) ?_;refine Va J J ?_;exact RK (1007 :: wKeys 3) (Res.c1 Tk Tryz.results57 J J) ⟨J, J, by rw [show fstK _ _ = kk by simp [fstK, fstP, hm, Stm.kind]]; exact ⟨_, _, _, _, _, _, _, _, _, J⟩⟩ (Wpp [_, _, _] kg spg J ‹_› J J J J J J J J) J (.blk J J (Wsub 15 J J J J J J J J J J J J J J J J (Bs 3 J J J J (Bs 3 J J J J (Bs 3 J J J J .nil))))) XR
end
section
attribute [local irreducible] X Pure Mod
def entP (p : Prc) : Bool := decide (p.mode = 2) || decide (fstP p = 8)
def isEnt (W : Wld) (who : Nat) : Bool := match W.procs[who]? with
 | some p => decide (codeOf W (who : Nat) = 0) && entP p
 | none => false
theorem c_isEntry (W : Wld) (who : Nat) (b : Nat) (ts : List Value) (G : PH) (h1 : 1 ≤ W.procs.length) (h3 : W.procs.length ≤ 3) (ht : Tds G W.procs ts) (hh : ∀ p ∈ W.procs, HeadOk p) (hw : who < W.procs.length) :
  Mod Tryz.prog 56 [.pointer (some ⟨b, 0, none⟩), .int .i64 (who : Nat)] G (worldP b W ts) fun v G' A' => G' = G ∧ A' = worldP b W ts ∧ v = .bool (isEnt W who) := by
 have hp : W.procs[who]? = some W.procs[who] := by simp [hw]
 have hent : isEnt W who = (decide (codeOf W (who : Nat) = 0) && entP W.procs[who]) := by simp [isEnt, hp]
 refine Mod.intro Tryz.func56 Tryz.ntmps56 J J fun w S => ?_;refine Va J J ?_;refine S_callM 1 Tryz.call55 (c_code W (who : Nat) b _ G h1 h3 ht hh) J J J J (fun _ => J) ?_;rintro v G' A' ⟨rfl, rfl, rfl⟩ _
 refine Va J J ?_
 by_cases hc : codeOf W (who : Nat) = 0
 ·refine GT J J (by simp [hc]) ?_
  have hent2 : isEnt W who = entP W.procs[who] := by rw [hent]; simp [hc]
  obtain ⟨ps, x0, x1, x2, m0, m1, q0, q1, sd⟩ := W
  rcases shape h1 h3 ht with ⟨⟨a0, a1, a2, td0, mo0, on0, ro0⟩, A0, k0, rfl, rfl, s0⟩ | ⟨⟨a0, a1, a2, td0, mo0, on0, ro0⟩, A0, k0, ⟨b0, b1, b2, td1, mo1, on1, ro1⟩, A1, k1, rfl, rfl, s0, s1⟩ | ⟨⟨a0, a1, a2, td0, mo0, on0, ro0⟩, A0, k0, ⟨b0, b1, b2, td1, mo1, on1, ro1⟩, A1, k1, ⟨d0, d1, d2, td2, mo2, on2, ro2⟩, A2, k2, rfl, rfl, s0, s1, s2⟩
  ·obtain rfl : who = 0 := by simpa using hw
   refine OpP 1 0 J J J J fun bp bc br bs bg kp sp asd ksd aq0 kq0 aq1 kq1 kc spc kr spr ks sps kg spg hbg hmk => ?_; obtain ⟨g0, rfl⟩ := len1 hbg; clear hbg; refine NM J J ?_; dsimp only [wEnts, wCels, procCs, regEs, WX.of, vi]
   refine Va J J ?_
   by_cases hm : mo0 = 2
   ·refine GT J J (by simp [hm]) ?_
    refine Va J J ?_;exact RK (1007 :: wKeys 1) (Res.t1 Tryz.results56 J J) ⟨J, J, by rw [hent2]; simp [entP, hm]⟩ (Wpp [_] kg spg rfl ‹_› rfl rfl rfl rfl rfl rfl rfl rfl) rfl (.blk rfl rfl (Wsub 5 rfl rfl rfl rfl rfl rfl rfl rfl rfl rfl rfl rfl rfl rfl rfl rfl (Bs 3 rfl rfl rfl rfl .nil))) XR
   ·refine GF J J (by simp [hm]) ?_
    refine Va J J ?_;refine S_callPk 9 (1007 :: wKeys 1) Tryz.call57 (c_first ⟨_, _, _, _, _, _, _, _, _⟩ _ b [_] _ h1 h3 ht hw) (Wpp [_] kg spg J ‹_› J J J J J J J J) J (.blk J J (Wsub 5 J J J J J J J J J J J J J J J J (Bs 3 J J J J .nil))) J J J ?_;rintro v G2 A' ⟨rfl, rfl, k1, k2, k3, k4, k5, k6, k7, k8, k9, rfl⟩ _
    refine Va J J ?_;refine S_valV J J J (V_field Tk J J J J (by kernel_rfl)) ?_;refine Va J J ?_;exact S_retm 9 (Res.t1 Tryz.results56 J J) J XR ⟨J, J, by rw [hent2]; simp [entP, hm, fstK]⟩
  ·rcases (by simp at hw; omega : who = 0 ∨ who = 1) with rfl | rfl
   ·refine OpP 1 0 J J J J fun bp bc br bs bg kp sp asd ksd aq0 kq0 aq1 kq1 kc spc kr spr ks sps kg spg hbg hmk => ?_; obtain ⟨g0, g1, rfl⟩ := len2 hbg; clear hbg; refine NM J J ?_; dsimp only [wEnts, wCels, procCs, regEs, WX.of, vi]
    refine Va J J ?_
    by_cases hm : mo0 = 2
    ·refine GT J J (by simp [hm]) ?_
     refine Va J J ?_;exact RK (1007 :: wKeys 2) (Res.t1 Tryz.results56 J J) ⟨J, J, by rw [hent2]; simp [entP, hm]⟩ (Wpp [_, _] kg spg rfl ‹_› rfl rfl rfl rfl rfl rfl rfl rfl) rfl (.blk rfl rfl (Wsub 10 rfl rfl rfl rfl rfl rfl rfl rfl rfl rfl rfl rfl rfl rfl rfl rfl (Bs 3 rfl rfl rfl rfl (Bs 3 rfl rfl rfl rfl .nil)))) XR
    ·refine GF J J (by simp [hm]) ?_
     refine Va J J ?_;refine S_callPk 9 (1007 :: wKeys 2) Tryz.call57 (c_first ⟨_, _, _, _, _, _, _, _, _⟩ _ b [_,_] _ h1 h3 ht hw) (Wpp [_, _] kg spg J ‹_› J J J J J J J J) J (.blk J J (Wsub 10 J J J J J J J J J J J J J J J J (Bs 3 J J J J (Bs 3 J J J J .nil)))) J J J ?_;rintro v G2 A' ⟨rfl, rfl, k1, k2, k3, k4, k5, k6, k7, k8, k9, rfl⟩ _
     refine Va J J ?_;refine S_valV J J J (V_field Tk J J J J (by kernel_rfl)) ?_;refine Va J J ?_;exact S_retm 9 (Res.t1 Tryz.results56 J J) J XR ⟨J, J, by rw [hent2]; simp [entP, hm, fstK]⟩
   ·refine OpP 1 0 J J J J fun bp bc br bs bg kp sp asd ksd aq0 kq0 aq1 kq1 kc spc kr spr ks sps kg spg hbg hmk => ?_; obtain ⟨g0, g1, rfl⟩ := len2 hbg; clear hbg; refine NM J J ?_; dsimp only [wEnts, wCels, procCs, regEs, WX.of, vi]
    refine Va J J ?_
    by_cases hm : mo1 = 2
    ·refine GT J J (by simp [hm]) ?_
     refine Va J J ?_;exact RK (1007 :: wKeys 2) (Res.t1 Tryz.results56 J J) ⟨J, J, by rw [hent2]; simp [entP, hm]⟩ (Wpp [_, _] kg spg rfl ‹_› rfl rfl rfl rfl rfl rfl rfl rfl) rfl (.blk rfl rfl (Wsub 10 rfl rfl rfl rfl rfl rfl rfl rfl rfl rfl rfl rfl rfl rfl rfl rfl (Bs 3 rfl rfl rfl rfl (Bs 3 rfl rfl rfl rfl .nil)))) XR
    ·refine GF J J (by simp [hm]) ?_
     refine Va J J ?_;refine S_callPk 9 (1007 :: wKeys 2) Tryz.call57 (c_first ⟨_, _, _, _, _, _, _, _, _⟩ _ b [_,_] _ h1 h3 ht hw) (Wpp [_, _] kg spg J ‹_› J J J J J J J J) J (.blk J J (Wsub 10 J J J J J J J J J J J J J J J J (Bs 3 J J J J (Bs 3 J J J J .nil)))) J J J ?_;rintro v G2 A' ⟨rfl, rfl, k1, k2, k3, k4, k5, k6, k7, k8, k9, rfl⟩ _
     refine Va J J ?_;refine S_valV J J J (V_field Tk J J J J (by kernel_rfl)) ?_;refine Va J J ?_;exact S_retm 9 (Res.t1 Tryz.results56 J J) J XR ⟨J, J, by rw [hent2]; simp [entP, hm, fstK]⟩
  ·rcases (by simp at hw; omega : who = 0 ∨ who = 1 ∨ who = 2) with rfl | rfl | rfl
   ·refine OpP 1 0 J J J J fun bp bc br bs bg kp sp asd ksd aq0 kq0 aq1 kq1 kc spc kr spr ks sps kg spg hbg hmk => ?_; obtain ⟨g0, g1, g2, rfl⟩ := len3 hbg; clear hbg; refine NM J J ?_; dsimp only [wEnts, wCels, procCs, regEs, WX.of, vi]
    refine Va J J ?_
    by_cases hm : mo0 = 2
    ·refine GT J J (by simp [hm]) ?_
     refine Va J J ?_;exact RK (1007 :: wKeys 3) (Res.t1 Tryz.results56 J J) ⟨J, J, by rw [hent2]; simp [entP, hm]⟩ (Wpp [_, _, _] kg spg rfl ‹_› rfl rfl rfl rfl rfl rfl rfl rfl) rfl (.blk rfl rfl (Wsub 15 rfl rfl rfl rfl rfl rfl rfl rfl rfl rfl rfl rfl rfl rfl rfl rfl (Bs 3 rfl rfl rfl rfl (Bs 3 rfl rfl rfl rfl (Bs 3 rfl rfl rfl rfl .nil))))) XR
    ·refine GF J J (by simp [hm]) ?_
     refine Va J J ?_;refine S_callPk 9 (1007 :: wKeys 3) Tryz.call57 (c_first ⟨_, _, _, _, _, _, _, _, _⟩ _ b [_,_,_] _ h1 h3 ht hw) (Wpp [_, _, _] kg spg J ‹_› J J J J J J J J) J (.blk J J (Wsub 15 J J J J J J J J J J J J J J J J (Bs 3 J J J J (Bs 3 J J J J (Bs 3 J J J J .nil))))) J J J ?_;rintro v G2 A' ⟨rfl, rfl, k1, k2, k3, k4, k5, k6, k7, k8, k9, rfl⟩ _
     refine Va J J ?_;refine S_valV J J J (V_field Tk J J J J (by kernel_rfl)) ?_;refine Va J J ?_;exact S_retm 9 (Res.t1 Tryz.results56 J J) J XR ⟨J, J, by rw [hent2]; simp [entP, hm, fstK]⟩
   ·refine OpP 1 0 J J J J fun bp bc br bs bg kp sp asd ksd aq0 kq0 aq1 kq1 kc spc kr spr ks sps kg spg hbg hmk => ?_; obtain ⟨g0, g1, g2, rfl⟩ := len3 hbg; clear hbg; refine NM J J ?_; dsimp only [wEnts, wCels, procCs, regEs, WX.of, vi]
    refine Va J J ?_
    by_cases hm : mo1 = 2
    ·refine GT J J (by simp [hm]) ?_
     refine Va J J ?_;exact RK (1007 :: wKeys 3) (Res.t1 Tryz.results56 J J) ⟨J, J, by rw [hent2]; simp [entP, hm]⟩ (Wpp [_, _, _] kg spg rfl ‹_› rfl rfl rfl rfl rfl rfl rfl rfl) rfl (.blk rfl rfl (Wsub 15 rfl rfl rfl rfl rfl rfl rfl rfl rfl rfl rfl rfl rfl rfl rfl rfl (Bs 3 rfl rfl rfl rfl (Bs 3 rfl rfl rfl rfl (Bs 3 rfl rfl rfl rfl .nil))))) XR
    ·refine GF J J (by simp [hm]) ?_
     refine Va J J ?_;refine S_callPk 9 (1007 :: wKeys 3) Tryz.call57 (c_first ⟨_, _, _, _, _, _, _, _, _⟩ _ b [_,_,_] _ h1 h3 ht hw) (Wpp [_, _, _] kg spg J ‹_› J J J J J J J J) J (.blk J J (Wsub 15 J J J J J J J J J J J J J J J J (Bs 3 J J J J (Bs 3 J J J J (Bs 3 J J J J .nil))))) J J J ?_;rintro v G2 A' ⟨rfl, rfl, k1, k2, k3, k4, k5, k6, k7, k8, k9, rfl⟩ _
     refine Va J J ?_;refine S_valV J J J (V_field Tk J J J J (by kernel_rfl)) ?_;refine Va J J ?_;exact S_retm 9 (Res.t1 Tryz.results56 J J) J XR ⟨J, J, by rw [hent2]; simp [entP, hm, fstK]⟩
   ·refine OpP 1 0 J J J J fun bp bc br bs bg kp sp asd ksd aq0 kq0 aq1 kq1 kc spc kr spr ks sps kg spg hbg hmk => ?_; obtain ⟨g0, g1, g2, rfl⟩ := len3 hbg; clear hbg; refine NM J J ?_; dsimp only [wEnts, wCels, procCs, regEs, WX.of, vi]
    refine Va J J ?_
    by_cases hm : mo2 = 2
    ·refine GT J J (by simp [hm]) ?_
     refine Va J J ?_;exact RK (1007 :: wKeys 3) (Res.t1 Tryz.results56 J J) ⟨J, J, by rw [hent2]; simp [entP, hm]⟩ (Wpp [_, _, _] kg spg rfl ‹_› rfl rfl rfl rfl rfl rfl rfl rfl) rfl (.blk rfl rfl (Wsub 15 rfl rfl rfl rfl rfl rfl rfl rfl rfl rfl rfl rfl rfl rfl rfl rfl (Bs 3 rfl rfl rfl rfl (Bs 3 rfl rfl rfl rfl (Bs 3 rfl rfl rfl rfl .nil))))) XR
    ·refine GF J J (by simp [hm]) ?_
     refine Va J J ?_;refine S_callPk 9 (1007 :: wKeys 3) Tryz.call57 (c_first ⟨_, _, _, _, _, _, _, _, _⟩ _ b [_,_,_] _ h1 h3 ht hw) (Wpp [_, _, _] kg spg J ‹_› J J J J J J J J) J (.blk J J (Wsub 15 J J J J J J J J J J J J J J J J (Bs 3 J J J J (Bs 3 J J J J (Bs 3 J J J J .nil))))) J J J ?_;rintro v G2 A' ⟨rfl, rfl, k1, k2, k3, k4, k5, k6, k7, k8, k9, rfl⟩ _
     refine Va J J ?_;refine S_valV J J J (V_field Tk J J J J (by kernel_rfl)) ?_;refine Va J J ?_;exact S_retm 9 (Res.t1 Tryz.results56 J J) J XR ⟨J, J, by rw [hent2]; simp [entP, hm, fstK]⟩
 ·refine GF J J (by simp [hc]) ?_
  refine Va J J ?_;exact S_retm 1 (Res.t1 Tryz.results56 J J) J XR ⟨J, J, by rw [hent]; simp [hc]⟩
end
section
attribute [local irreducible] X Pure Mod
theorem c_l6Comes (W : Wld) (who : Nat) (cs : List Value) (ts : List Value) (G : PH) (h1 : 1 ≤ W.procs.length) (h3 : W.procs.length ≤ 3) (ht : Tds G W.procs ts) (hw : who < W.procs.length) (hne : W.procs[who].mode ≠ 2 → W.procs[who].todo ≠ []) :
  Mod Tryz.prog 45 [.agg cs.toArray, .int .i64 (who : Nat)] G (worldV cs W ts) fun v G' A' => v = .bool (entP W.procs[who]) ∧ G' = G ∧ A' = worldV cs W ts := by
 refine Mod.intro Tryz.func45 Tryz.ntmps45 J J fun w S => ?_;obtain ⟨ps, x0, x1, x2, m0, m1, q0, q1, sd⟩ := W
 rcases shape h1 h3 ht with ⟨⟨a0, a1, a2, td0, mo0, on0, ro0⟩, A0, k0, rfl, rfl, s0⟩ | ⟨⟨a0, a1, a2, td0, mo0, on0, ro0⟩, A0, k0, ⟨b0, b1, b2, td1, mo1, on1, ro1⟩, A1, k1, rfl, rfl, s0, s1⟩ | ⟨⟨a0, a1, a2, td0, mo0, on0, ro0⟩, A0, k0, ⟨b0, b1, b2, td1, mo1, on1, ro1⟩, A1, k1, ⟨d0, d1, d2, td2, mo2, on2, ro2⟩, A2, k2, rfl, rfl, s0, s1, s2⟩
 ·obtain rfl : who = 0 := by simpa using hw
  refine OvV 1 0 J J J J fun bp bc br bs bg kp sp asd ksd aq0 kq0 aq1 kq1 kc spc kr spr ks sps kg spg hbg hmk hce => ?_; subst hce; obtain ⟨g0, rfl⟩ := len1 hbg; clear hbg; refine NM J J ?_; dsimp only [wEnts, wCels, procCs, regEs, WX.of, vi]
  refine Va J J ?_;refine S_box J J J J J fun b2 => ?_;refine Va J J ?_;refine AZ ZT_ok J J J J fun b5 => ?_;refine Va J J ?_
  by_cases hm : mo0 = 2
  ·refine GT J J (by simp [hm]) ?_
   refine Va J J ?_;exact RK (wKeys 1) (Res.t1 Tryz.results45 J J) ⟨by simp [entP, hm], J, J⟩ (Wvp [_] kg spg J ‹_› J J J J J J J J J) J (Wsub 5 J J J J J J J J J J J J J J J J (Bs 3 J J J J .nil)) XR
  refine GF J J (by simp [hm]) ?_
  have hne' := hne hm
  rcases hTD : td0 with _ | ⟨s, r⟩
  ·exact absurd hTD hne'
  subst hTD
  obtain ⟨ad, vx, vy, rfl, hcs, _⟩ := Sts_head s0
  refine Va J J ?_
  refine S_index Tk J J J J J J (by omega) (by simp <;> omega) ?_
  refine Va J J ?_;refine S_valV J J J (V_load Tk J J J (by simpa [add_add', add_zero'] using gcells_at hcs 0 _ J)) ?_;refine Va J J ?_;exact RK (wKeys 1) (Res.t1 Tryz.results45 J J) ⟨by simp [entP, fstP, hm], J, J⟩ (Wvp [_] kg spg J ‹_› J J J J J J J J J) J (Wsub 5 J J J J J J J J J J J J J J J J (Bs 3 J J J J .nil)) XR
 ·rcases (by simp at hw; omega : who = 0 ∨ who = 1) with rfl | rfl
  ·refine OvV 1 0 J J J J fun bp bc br bs bg kp sp asd ksd aq0 kq0 aq1 kq1 kc spc kr spr ks sps kg spg hbg hmk hce => ?_; subst hce; obtain ⟨g0, g1, rfl⟩ := len2 hbg; clear hbg; refine NM J J ?_; dsimp only [wEnts, wCels, procCs, regEs, WX.of, vi]
   refine Va J J ?_;refine S_box J J J J J fun b2 => ?_;refine Va J J ?_;refine AZ ZT_ok J J J J fun b5 => ?_;refine Va J J ?_
   by_cases hm : mo0 = 2
   ·refine GT J J (by simp [hm]) ?_
    refine Va J J ?_;exact RK (wKeys 2) (Res.t1 Tryz.results45 J J) ⟨by simp [entP, hm], J, J⟩ (Wvp [_, _] kg spg J ‹_› J J J J J J J J J) J (Wsub 10 J J J J J J J J J J J J J J J J (Bs 3 J J J J (Bs 3 J J J J .nil))) XR
   refine GF J J (by simp [hm]) ?_
   have hne' := hne hm
   rcases hTD : td0 with _ | ⟨s, r⟩
   ·exact absurd hTD hne'
   subst hTD
   obtain ⟨ad, vx, vy, rfl, hcs, _⟩ := Sts_head s0
   refine Va J J ?_
   refine S_index Tk J J J J J J (by omega) (by simp <;> omega) ?_
   refine Va J J ?_;refine S_valV J J J (V_load Tk J J J (by simpa [add_add', add_zero'] using gcells_at hcs 0 _ J)) ?_;refine Va J J ?_;exact RK (wKeys 2) (Res.t1 Tryz.results45 J J) ⟨by simp [entP, fstP, hm], J, J⟩ (Wvp [_, _] kg spg J ‹_› J J J J J J J J J) J (Wsub 10 J J J J J J J J J J J J J J J J (Bs 3 J J J J (Bs 3 J J J J .nil))) XR
  ·refine OvV 1 0 J J J J fun bp bc br bs bg kp sp asd ksd aq0 kq0 aq1 kq1 kc spc kr spr ks sps kg spg hbg hmk hce => ?_; subst hce; obtain ⟨g0, g1, rfl⟩ := len2 hbg; clear hbg; refine NM J J ?_; dsimp only [wEnts, wCels, procCs, regEs, WX.of, vi]
   refine Va J J ?_;refine S_box J J J J J fun b2 => ?_;refine Va J J ?_;refine AZ ZT_ok J J J J fun b5 => ?_;refine Va J J ?_
   by_cases hm : mo1 = 2
   ·refine GT J J (by simp [hm]) ?_
    refine Va J J ?_;exact RK (wKeys 2) (Res.t1 Tryz.results45 J J) ⟨by simp [entP, hm], J, J⟩ (Wvp [_, _] kg spg J ‹_› J J J J J J J J J) J (Wsub 10 J J J J J J J J J J J J J J J J (Bs 3 J J J J (Bs 3 J J J J .nil))) XR
   refine GF J J (by simp [hm]) ?_
   have hne' := hne hm
   rcases hTD : td1 with _ | ⟨s, r⟩
   ·exact absurd hTD hne'
   subst hTD
   obtain ⟨ad, vx, vy, rfl, hcs, _⟩ := Sts_head s1
   refine Va J J ?_
   refine S_index Tk J J J J J J (by omega) (by simp <;> omega) ?_
   refine Va J J ?_;refine S_valV J J J (V_load Tk J J J (by simpa [add_add', add_zero'] using gcells_at hcs 0 _ J)) ?_;refine Va J J ?_;exact RK (wKeys 2) (Res.t1 Tryz.results45 J J) ⟨by simp [entP, fstP, hm], J, J⟩ (Wvp [_, _] kg spg J ‹_› J J J J J J J J J) J (Wsub 10 J J J J J J J J J J J J J J J J (Bs 3 J J J J (Bs 3 J J J J .nil))) XR
 ·rcases (by simp at hw; omega : who = 0 ∨ who = 1 ∨ who = 2) with rfl | rfl | rfl
  ·refine OvV 1 0 J J J J fun bp bc br bs bg kp sp asd ksd aq0 kq0 aq1 kq1 kc spc kr spr ks sps kg spg hbg hmk hce => ?_; subst hce; obtain ⟨g0, g1, g2, rfl⟩ := len3 hbg; clear hbg; refine NM J J ?_; dsimp only [wEnts, wCels, procCs, regEs, WX.of, vi]
   refine Va J J ?_;refine S_box J J J J J fun b2 => ?_;refine Va J J ?_;refine AZ ZT_ok J J J J fun b5 => ?_;refine Va J J ?_
   by_cases hm : mo0 = 2
   ·refine GT J J (by simp [hm]) ?_
    refine Va J J ?_;exact RK (wKeys 3) (Res.t1 Tryz.results45 J J) ⟨by simp [entP, hm], J, J⟩ (Wvp [_, _, _] kg spg J ‹_› J J J J J J J J J) J (Wsub 15 J J J J J J J J J J J J J J J J (Bs 3 J J J J (Bs 3 J J J J (Bs 3 J J J J .nil)))) XR
   refine GF J J (by simp [hm]) ?_
   have hne' := hne hm
   rcases hTD : td0 with _ | ⟨s, r⟩
   ·exact absurd hTD hne'
   subst hTD
   obtain ⟨ad, vx, vy, rfl, hcs, _⟩ := Sts_head s0
   refine Va J J ?_
   refine S_index Tk J J J J J J (by omega) (by simp <;> omega) ?_
   refine Va J J ?_;refine S_valV J J J (V_load Tk J J J (by simpa [add_add', add_zero'] using gcells_at hcs 0 _ J)) ?_;refine Va J J ?_;exact RK (wKeys 3) (Res.t1 Tryz.results45 J J) ⟨by simp [entP, fstP, hm], J, J⟩ (Wvp [_, _, _] kg spg J ‹_› J J J J J J J J J) J (Wsub 15 J J J J J J J J J J J J J J J J (Bs 3 J J J J (Bs 3 J J J J (Bs 3 J J J J .nil)))) XR
  ·refine OvV 1 0 J J J J fun bp bc br bs bg kp sp asd ksd aq0 kq0 aq1 kq1 kc spc kr spr ks sps kg spg hbg hmk hce => ?_; subst hce; obtain ⟨g0, g1, g2, rfl⟩ := len3 hbg; clear hbg; refine NM J J ?_; dsimp only [wEnts, wCels, procCs, regEs, WX.of, vi]
   refine Va J J ?_;refine S_box J J J J J fun b2 => ?_;refine Va J J ?_;refine AZ ZT_ok J J J J fun b5 => ?_;refine Va J J ?_
   by_cases hm : mo1 = 2
   ·refine GT J J (by simp [hm]) ?_
    refine Va J J ?_;exact RK (wKeys 3) (Res.t1 Tryz.results45 J J) ⟨by simp [entP, hm], J, J⟩ (Wvp [_, _, _] kg spg J ‹_› J J J J J J J J J) J (Wsub 15 J J J J J J J J J J J J J J J J (Bs 3 J J J J (Bs 3 J J J J (Bs 3 J J J J .nil)))) XR
   refine GF J J (by simp [hm]) ?_
   have hne' := hne hm
   rcases hTD : td1 with _ | ⟨s, r⟩
   ·exact absurd hTD hne'
   subst hTD
   obtain ⟨ad, vx, vy, rfl, hcs, _⟩ := Sts_head s1
   refine Va J J ?_
   refine S_index Tk J J J J J J (by omega) (by simp <;> omega) ?_
   refine Va J J ?_;refine S_valV J J J (V_load Tk J J J (by simpa [add_add', add_zero'] using gcells_at hcs 0 _ J)) ?_;refine Va J J ?_;exact RK (wKeys 3) (Res.t1 Tryz.results45 J J) ⟨by simp [entP, fstP, hm], J, J⟩ (Wvp [_, _, _] kg spg J ‹_› J J J J J J J J J) J (Wsub 15 J J J J J J J J J J J J J J J J (Bs 3 J J J J (Bs 3 J J J J (Bs 3 J J J J .nil)))) XR
  ·refine OvV 1 0 J J J J fun bp bc br bs bg kp sp asd ksd aq0 kq0 aq1 kq1 kc spc kr spr ks sps kg spg hbg hmk hce => ?_; subst hce; obtain ⟨g0, g1, g2, rfl⟩ := len3 hbg; clear hbg; refine NM J J ?_; dsimp only [wEnts, wCels, procCs, regEs, WX.of, vi]
   refine Va J J ?_;refine S_box J J J J J fun b2 => ?_;refine Va J J ?_;refine AZ ZT_ok J J J J fun b5 => ?_;refine Va J J ?_
   by_cases hm : mo2 = 2
   ·refine GT J J (by simp [hm]) ?_
    refine Va J J ?_;exact RK (wKeys 3) (Res.t1 Tryz.results45 J J) ⟨by simp [entP, hm], J, J⟩ (Wvp [_, _, _] kg spg J ‹_› J J J J J J J J J) J (Wsub 15 J J J J J J J J J J J J J J J J (Bs 3 J J J J (Bs 3 J J J J (Bs 3 J J J J .nil)))) XR
   refine GF J J (by simp [hm]) ?_
   have hne' := hne hm
   rcases hTD : td2 with _ | ⟨s, r⟩
   ·exact absurd hTD hne'
   subst hTD
   obtain ⟨ad, vx, vy, rfl, hcs, _⟩ := Sts_head s2
   refine Va J J ?_
   refine S_index Tk J J J J J J (by omega) (by simp <;> omega) ?_
   refine Va J J ?_;refine S_valV J J J (V_load Tk J J J (by simpa [add_add', add_zero'] using gcells_at hcs 0 _ J)) ?_;refine Va J J ?_;exact RK (wKeys 3) (Res.t1 Tryz.results45 J J) ⟨by simp [entP, fstP, hm], J, J⟩ (Wvp [_, _, _] kg spg J ‹_› J J J J J J J J J) J (Wsub 15 J J J J J J J J J J J J J J J J (Bs 3 J J J J (Bs 3 J J J J (Bs 3 J J J J .nil)))) XR
end
section
attribute [local irreducible] X Pure Mod
theorem denL_cons' {ι : Ids} {c : Cel} {l : List Cel} {vs : List Value} (h : denL ι (c :: l) = some vs) : ∃ v r, denC ι c = some v ∧ denL ι l = some r ∧ vs = v :: r := by
 simp only [denL] at h
 cases h1 : denC ι c with
 | none => simp [h1] at h
 | some v => cases h2 : denL ι l with
  | none => simp [h1, h2] at h
  | some r => exact ⟨v, r, rfl, rfl, by simpa [h1, h2] using h.symm⟩
theorem procCs_todo {ι : Ids} {kg : Nat → Nat} {sp : List Value} : ∀ {ps : List Prc} {ts : List Value} {j i : Nat} {t : Value} {vs : List Value}, denL ι (procCs kg sp j ps ts) = some vs → ts[i]? = some t → i < ps.length → vs[5 * i + 1]? = some t
 | [], _, _, i, _, _, _, _, hi => by simp at hi
 | p :: ps, [], _, i, _, _, _, h, _ => by simp at h
 | p :: ps, t0 :: ts, j, i, t, vs, h, ht, hi => by
  simp only [procCs] at h
  obtain ⟨v1, r1, _, h1, rfl⟩ := denL_cons' h
  obtain ⟨v2, r2, e2, h2, rfl⟩ := denL_cons' h1
  obtain ⟨v3, r3, _, h3, rfl⟩ := denL_cons' h2
  obtain ⟨v4, r4, _, h4, rfl⟩ := denL_cons' h3
  obtain ⟨v5, r5, _, h5, rfl⟩ := denL_cons' h4
  cases i with
  | zero =>
   simp only [List.getElem?_cons_zero, Option.some.injEq] at ht
   simp only [denC, Option.some.injEq] at e2
   simp [← e2, ht]
  | succ i =>
   have := procCs_todo h5 (i := i) (by simpa using ht) (by simpa using hi)
   rw [show 5 * (i + 1) + 1 = (5 * i + 1) + 1 + 1 + 1 + 1 + 1 by omega]
   simpa using this
theorem V_todoW {C : Ctx} {ι : Ids} {E : Env} {L : List Ent} {G : PH} {W : Wld} {ts : List Value} {d : Option Nat} {ty : Nat} {pos : String} {af : Array Edge} {g : Option (Nat × Bool)} {T : Tab} (hT : tabOk C.P T) (κ : Nat) {t : Nat} {i : TyI} {x : Operand} {bp nn kp n : Nat} {c2 c3 c4 c5 v : Value} {a : Addr}
  (hL : getH κ L = some (worldV [.slice (some ⟨bp, 0, none⟩) nn kp, c2, c3, c4, c5] W ts)) (hx : ev E x = some (.val (.pointer (some a)))) (ha : a = ⟨bp, 5 * n + 1, none⟩) (ht : lookT t T = some i) (hk0 : i.k.isAgg = false) (hv : ts[n]? = some v) (hn : n < W.procs.length) : Vl C ι E L G ⟨d, .load t x, ty, pos, af, g⟩ v := by
 intro act w hE hw
 obtain ⟨Ss, ho, _⟩ := hw.own
 obtain ⟨S, ⟨ι0, L0, Ss0, ⟨bp', bc, br, bs, bg, m, x', hl, hmk, hx', rfl, rfl, hcs⟩, hown, _⟩, _⟩ := owns_split ho hL
 have ex := ev_sound hE hx
 simp only [denO, Option.some.injEq] at ex
 subst ha
 have hb : bp' = bp := by
  obtain ⟨v1, r1, e1, _, e2⟩ := denL_cons' hcs
  simp only [List.cons.injEq] at e2
  rw [← e2.1] at e1
  simp [denC, wIds, lookI] at e1
  exact e1.1
 subst hb
 cases Ss0 with
 | nil => exact absurd hown id
 | cons S1 Ss1 =>
  obtain ⟨⟨b, vs, h1, h2, h3, _⟩, _⟩ := hown
  have hbb : b = bp' := by simpa [wIds, lookI] using h1.symm
  subst hbb
  have := procCs_todo h2 hv hn
  have hc : w.cell? ⟨b, 5 * n + 1, none⟩ = some v := by simp [World.cell?, h3, this]
  simp only [execOp, ← ex]
  simp [Instr.loadAt, loadVar, Instr.sureAddr, tyOk_agg (hT _ _ ht), hk0, hc]
end
section
attribute [local irreducible] X Pure Mod
theorem c_ends (k : Int) (v : Value) (G : PH) (h : KindV k v) : Pure Tryz.prog 53 [v] G fun v' G' => v' = .bool (decide (k = 12) || decide (k = 9)) ∧ G' = G := by
 obtain ⟨a, b, n, A1, n1, c1, A2, n2, c2, rfl⟩ := h
 refine Pure.intro Tryz.func53 Tryz.ntmps53 J J fun w => ?_; refine Va J J ?_;refine S_box J J J J J fun b1 => ?_;refine Va J J ?_;exact S_retp (Res.t1 Tryz.results53 J J) XR ⟨J, J⟩
end
section
attribute [local irreducible] X Pure Mod
def endK (k : Int) : Bool := decide (k = 12) || decide (k = 9)
def till (who : Nat) : Nat → Bool → Wld → Wld × Bool × Nat
 | 0, _, W => (W, false, 0)
 | n + 1, inn, W =>
  if codeOf W (who : Nat) ≠ 0 then (W, false, n + 1)
  else if isEnt W who && !inn then (W, true, n + 1)
  else if (!isEnt W who && endK (fstK W who)) && inn then (W.step who, true, n)
  else till who n (inn || isEnt W who) (W.step who)
def atom (who : Nat) : Nat → Bool → Wld → Wld × Bool
 | 0, _, W => (W, false)
 | n + 1, entered, W =>
  if codeOf W (who : Nat) ≠ 0 then (W, false)
  else if (entered || isEnt W who) && endK (fstK W who) then (W.step who, true)
  else atom who n (entered || isEnt W who) (W.step who)
theorem ent_no_end {W : Wld} {who : Nat} (h : isEnt W who = true) : endK (fstK W who) = false := by
 unfold isEnt at h
 unfold fstK
 rcases hp : W.procs[who]? with _ | p
 ·rw [hp] at h; cases h
 ·rw [hp] at h
  simp only [entP, fstP, Bool.and_eq_true, Bool.or_eq_true, decide_eq_true_eq] at h
  simp only [fstP, endK]
  by_cases hm : p.mode = 2
  ·simp [hm]
  ·simp only [hm, if_false, false_or] at h ⊢
   have h8 := h.2
   simp only [decide_eq_true_eq, Bool.false_or] at h8
   rw [h8]; rfl
theorem atom_in (who : Nat) : ∀ (n : Nat) (W : Wld), atom who n true W = ((till who n true W).1, (till who n true W).2.1) := by
 intro n
 induction n with
 | zero => intro W; rfl
 | succ n ih =>
  intro W
  simp only [atom, till]
  by_cases hc : codeOf W (who : Nat) = 0
  ·simp only [hc, ne_eq, not_true_eq_false, if_false, Bool.true_or, Bool.true_and, Bool.not_true, Bool.and_false, Bool.and_true]
   cases hE : isEnt W who
   ·cases hk : endK (fstK W who) <;> simp [ih]
   ·simp [ent_no_end hE, ih]
  ·simp [hc]
theorem atom_out (who : Nat) : ∀ (n : Nat) (W : Wld), atom who n false W = if (till who n false W).2.1 then ((till who (till who n false W).2.2 true (till who n false W).1).1, (till who (till who n false W).2.2 true (till who n false W).1).2.1) else ((till who n false W).1, false) := by
 intro n
 induction n with
 | zero => intro W; rfl
 | succ n ih =>
  intro W
  by_cases hc : codeOf W (who : Nat) = 0
  ·cases hE : isEnt W who
   ·have e1 : atom who (n + 1) false W = atom who n false (W.step who) := by simp [atom, hc, hE]
    have e2 : till who (n + 1) false W = till who n false (W.step who) := by simp [till, hc, hE]
    rw [e1, e2, ih]
   ·have e1 : atom who (n + 1) false W = atom who (n + 1) true W := by simp [atom, hc, hE]
    have e2 : till who (n + 1) false W = (W, true, n + 1) := by simp [till, hc, hE]
    rw [e1, e2, atom_in]
    simp
  ·simp [atom, till, hc]
end
section
attribute [local irreducible] X Pure Mod
def restP (who : Nat) : Nat → Wld → Wld × Bool
 | 0, W => (W, false)
 | n + 1, W => if codeOf W (who : Nat) = 0 ∧ isEnt W who = false then restP who n (W.step who) else (W, true)
def runs : List Int → Wld → Option Wld
 | [], W => some W
 | who :: r, W => if who < 0 ∨ (W.procs.length : Int) ≤ who then none else
  match atom who.toNat 200 false W with
  | (_, false) => none
  | (W', true) => runs r W'
def rests : List Nat → Wld → Option Wld
 | [], W => some W
 | who :: r, W => match restP who 200 W with
  | (_, false) => none
  | (W', true) => rests r W'
theorem Inv.till {who : Nat} : ∀ (n : Nat) (inn : Bool) {W : Wld} {B : Nat}, Inv W B → who < W.procs.length → Inv (till who n inn W).1 (B + n) ∧ (till who n inn W).1.procs.length = W.procs.length := by
 intro n
 induction n with
 | zero => intro inn W B h hw; exact ⟨h, J⟩
 | succ n ih =>
  intro inn W B h hw
  simp only [Go.Proofs.YtcbdilccmjpnbaaGreat.till]
  by_cases hc : codeOf W (who : Nat) = 0
  ·rw [if_neg (by simp [hc])]
   by_cases h1 : (isEnt W who && !inn) = true
   ·rw [if_pos h1]; exact ⟨h.mono (by omega), J⟩
   rw [if_neg h1]
   have hs := h.step hw hc
   have hl := W.step_len who
   by_cases h2 : ((!isEnt W who && endK (fstK W who)) && inn) = true
   ·rw [if_pos h2]; exact ⟨hs.mono (by omega), hl⟩
   rw [if_neg h2]
   have := ih (inn || isEnt W who) hs (by omega)
   exact ⟨this.1.mono (by omega), by rw [this.2, hl]⟩
  ·rw [if_pos (by simpa using hc)]
   exact ⟨h.mono (by omega), J⟩
theorem Inv.rest {who : Nat} : ∀ (n : Nat) {W : Wld} {B : Nat}, Inv W B → who < W.procs.length → Inv (restP who n W).1 (B + n) ∧ (restP who n W).1.procs.length = W.procs.length := by
 intro n
 induction n with
 | zero => intro W B h hw; exact ⟨h, J⟩
 | succ n ih =>
  intro W B h hw
  simp only [restP]
  by_cases hc : codeOf W (who : Nat) = 0 ∧ isEnt W who = false
  ·rw [if_pos hc]
   have hs := h.step hw hc.1
   have hl := W.step_len who
   have := ih hs (by omega)
   exact ⟨this.1.mono (by omega), by rw [this.2, hl]⟩
  ·rw [if_neg hc]
   exact ⟨h.mono (by omega), J⟩
end
section
attribute [local irreducible] X Pure Mod
theorem Tds_get {G : PH} : ∀ {ps : List Prc} {ts : List Value} {i : Nat} {p : Prc}, Tds G ps ts → ps[i]? = some p → ∃ t, ts[i]? = some t ∧ Sts G p.todo t
 | [], _, i, _, _, h => by simp at h
 | _ :: _, [], _, _, h, _ => absurd h id
 | p :: ps, t :: ts, 0, q, h, hp => by
  simp only [List.getElem?_cons_zero, Option.some.injEq] at hp
  exact ⟨t, J, hp ▸ h.1⟩
 | p :: ps, t :: ts, i + 1, q, h, hp => by
  simpa using Tds_get h.2 (i := i) (by simpa using hp)
structure TS where
 V : Wld
 B : Nat
 inn : Bool
 n : Nat
 x : WV
 ts : List Value
 G : PH
abbrev TPost (r : Wld × Bool × Nat) : Value → PH → HP → Prop := fun v G' A' => ∃ cs' ts', v = .tuple #[.agg cs'.toArray, .bool r.2.1, .int .i64 (r.2.2 : Nat)] ∧ A' = worldV cs' r.1 ts' ∧ Tds G' r.1.procs ts'
theorem c_l6Till (W : Wld) (who B n : Nat) (inn : Bool) (cs : List Value) (ts : List Value) (G : PH) (h : Inv W B) (hB : B + n ≤ 1000000) (ht : Tds G W.procs ts) (hw : who < W.procs.length) :
  Mod Tryz.prog 19 [.agg cs.toArray, .int .i64 (who : Nat), .bool inn, .int .i64 (n : Nat)] G (worldV cs W ts) (TPost (till who n inn W)) := by
 refine Mod.intro Tryz.func19 Tryz.ntmps19 J J fun w S => ?_;refine S_csV 1 J ?_;rintro bp bc br bs kp asd ksd kc kr ks rfl
 refine Va J J ?_;refine S_box J J J J J fun b4 => ?_;refine Va J J ?_;refine AZ ZT_ok J J J J fun b8 => ?_;refine Va J J ?_;refine S_loop (α := TS) (fun y => PH.ext w.heap.size G y.G ∧ (Inv y.V y.B ∧ y.B + y.n ≤ 1000000) ∧ Tds y.G y.V.procs y.ts ∧ who < y.V.procs.length ∧ till who n inn W = till who y.n y.inn y.V) (fun y => y.n) [(8, b8), (4, b4)]
  (fun y => [(3, .val (.int .i64 (y.n : Nat))), (2, .val (.bool y.inn)), (1, .val (.int .i64 (who : Nat))), (4, .ptr 4 0), (8, .ptr 8 0), (9, .lit false), (10, .val (.int .i64 0))])
  (fun y => [.blk 8 29 (vL [.slice none 0 0, .slice none 0 0, .slice none 0 0, .slice none 0 0, .slice none 0 0]), .blk 4 29 (vL (y.x.cs y.V)), .hp 1 (worldV (y.x.cs y.V) y.V y.ts)]) (fun y => y.G) ⟨W, B, inn, n, ⟨bp, bc, br, bs, kp, asd, ksd, kc, kr, ks⟩, ts, G⟩ ⟨PH.ext.refl _ _, ⟨h, hB⟩, ht, hw, rfl⟩ rfl ?_ ?_ ?_
 ·exact ⟨⟨_, J, J⟩, ⟨_, J, J⟩, ⟨_, J, J⟩, ⟨_, J, J⟩, ⟨_, J, J⟩, ⟨_, J, J⟩, ⟨_, J, J⟩, trivial⟩
 ·exact .blk J J (.blk J J (.hp .nil))
 rintro ⟨V, B1, inn1, n1, ⟨bp1, bc1, br1, bs1, kp1, asd1, ksd1, kc1, kr1, ks1⟩, ts1, G1⟩ ⟨hext, ⟨h1, hB1⟩, ht1, hw1, heq⟩
 simp only [WV.cs] at hext h1 hB1 ht1 hw1 heq ⊢
 refine Va J J ?_
 refine S_condp J (fun hn => ?_) (fun hn => ?_) <;> refine Va J J ?_
 ·obtain ⟨m, rfl⟩ : ∃ m, n1 = m + 1 := ⟨n1 - 1, by omega⟩
  refine S_callM 1 Tryz.call44 (c_l3Code V (who : Nat) _ ts1 G1 h1.n1 h1.n3 ht1 h1.head ⟨h1.m0, h1.m1⟩) J J J J (fun _ => J) ?_;rintro v G2 A' ⟨rfl, rfl, rfl⟩ _
  refine Va J J ?_
  by_cases hc : codeOf V (who : Nat) = 0
  ·refine RF J (by simp [hc]) ?_
   refine Va J J ?_
   have hp : V.procs[who]? = some V.procs[who] := by simp [hw1]
   refine S_callM 1 Tryz.call45 (c_l6Comes V who _ ts1 _ h1.n1 h1.n3 ht1 hw1 (code0 hp hc).2) J J J J (fun _ => J) ?_;rintro v G3 A' ⟨rfl, rfl, rfl⟩ _
   refine Va J J ?_
   have hE : isEnt V who = entP V.procs[who] := by simp [isEnt, hp, hc]
   have hF : fstK V who = fstP V.procs[who] := by simp [fstK, hp]
   obtain ⟨tv, htv, hst⟩ := Tds_get ht1 hp
   generalize hP : V.procs[who] = p at *
   cases hent : entP p <;> cases inn1
   -- no entry, outside
   ·have hte : till who (m + 1) false V = till who m false (V.step who) := by simp [till, hc, hE, hent]
    refine RF J J ?_;refine Va J J ?_;refine GT J J J ?_;refine Va J J ?_;obtain ⟨hm2, hk8⟩ : p.mode ≠ 2 ∧ fstP p ≠ 8 := by simpa [entP] using hent
    rcases hT : p.todo with _ | ⟨s, r⟩
    ·exact absurd hT ((code0 hp hc).2 hm2)
    rw [hT] at hst
    obtain ⟨A, c, rfl, _⟩ := id hst
    obtain ⟨ad, vx, vy, rfl, hcs, _⟩ := Sts_head hst
    have hfp : fstP p = s.kind := by simp [fstP, hm2, hT]
    refine S_index Tk J J J J J J (by omega) (by omega) ?_;refine Va J J ?_;refine S_valV J J J (V_todoW Tk 1 J J (by simp [add_lit', add_add']; omega) rfl rfl htv hw1) ?_;refine Va J J ?_;refine S_index Tk J J J J J J (by omega) (by simp) ?_;refine Va J J ?_;refine S_load Tk J J J J J (by simpa [add_zero'] using hcs.1) ?_;refine Va J J ?_
    refine S_guardp J J (fun h12 => ?_) (fun h12 => ?_) <;> refine Va J J ?_
    ·refine S_callM 1 Tryz.call46 (c_l3Step V who _ ts1 _ (h1.rdy (by omega)) ht1 hw1 (h1.go hc)) J J J J (fun _ => J) ?_
     rintro v G9 A' ⟨cs8, ts8, rfl, rfl, ht8⟩ hext8
     refine S_csV 1 J ?_;rintro bp8 bc8 br8 bs8 kp8 asd8 ksd8 kc8 kr8 ks8 rfl
     refine Va J J ?_;refine S_subI J J J J (by omega) ?_;refine Va J J ?_
     rw [show (((m + 1 : Nat) : Int) - 1) = ((m : Nat) : Int) by omega]
     refine RF J J ?_;refine Va J J ?_;refine RF J J ?_;refine Va J J ?_;refine S_again ⟨V.step who, B1 + 1, false, m, ⟨bp8, bc8, br8, bs8, kp8, asd8, ksd8, kc8, kr8, ks8⟩, ts8, G9⟩ ⟨hext.trans hext8, ⟨h1.step hw1 hc, by simp only; omega⟩, ht8, by rw [V.step_len]; exact hw1, (heq.trans hte)⟩ (by simp only; omega) rfl ⟨⟨_, rfl, by simp [denO]⟩, ⟨_, rfl, rfl⟩, ⟨_, rfl, rfl⟩, ⟨_, rfl, rfl⟩, ⟨_, rfl, rfl⟩, ⟨_, rfl, rfl⟩, ⟨_, rfl, rfl⟩, trivial⟩ (by simp only [WV.cs]; first | exact .blk J J (.blk J J (.hp .nil)) | exact .hp (.blk J J (.blk J J .nil)))
    ·refine S_index Tk J J J J J J (by omega) (by omega) ?_
     refine Va J J ?_;refine S_valV J J J (V_todoW Tk 1 J J (by simp [add_lit', add_add']; omega) rfl rfl htv hw1) ?_;refine Va J J ?_;refine S_index Tk J J J J J J (by omega) (by simp) ?_;refine Va J J ?_;refine S_load Tk J J J J J (by simpa [add_zero'] using hcs.1) ?_;refine Va J J ?_;refine S_callM 1 Tryz.call46 (c_l3Step V who _ ts1 _ (h1.rdy (by omega)) ht1 hw1 (h1.go hc)) J J J J (fun _ => J) ?_
     rintro v G9 A' ⟨cs8, ts8, rfl, rfl, ht8⟩ hext8
     refine S_csV 1 J ?_;rintro bp8 bc8 br8 bs8 kp8 asd8 ksd8 kc8 kr8 ks8 rfl
     refine Va J J ?_;refine S_subI J J J J (by omega) ?_;refine Va J J ?_
     rw [show (((m + 1 : Nat) : Int) - 1) = ((m : Nat) : Int) by omega]
     refine RF J (by simp) ?_;refine Va J J ?_;refine RF J J ?_;refine Va J J ?_;refine S_again ⟨V.step who, B1 + 1, false, m, ⟨bp8, bc8, br8, bs8, kp8, asd8, ksd8, kc8, kr8, ks8⟩, ts8, G9⟩ ⟨hext.trans hext8, ⟨h1.step hw1 hc, by simp only; omega⟩, ht8, by rw [V.step_len]; exact hw1, (heq.trans hte)⟩ (by simp only; omega) rfl ⟨⟨_, rfl, by simp [denO]⟩, ⟨_, rfl, rfl⟩, ⟨_, rfl, rfl⟩, ⟨_, rfl, rfl⟩, ⟨_, rfl, rfl⟩, ⟨_, rfl, rfl⟩, ⟨_, rfl, rfl⟩, trivial⟩ (by simp only [WV.cs]; first | exact .blk J J (.blk J J (.hp .nil)) | exact .hp (.blk J J (.blk J J .nil)))
   -- no entry, inside
   ·refine RF J J ?_
    refine Va J J ?_;refine GT J J J ?_;refine Va J J ?_;obtain ⟨hm2, hk8⟩ : p.mode ≠ 2 ∧ fstP p ≠ 8 := by simpa [entP] using hent
    rcases hT : p.todo with _ | ⟨s, r⟩
    ·exact absurd hT ((code0 hp hc).2 hm2)
    rw [hT] at hst
    obtain ⟨A, c, rfl, _⟩ := id hst
    obtain ⟨ad, vx, vy, rfl, hcs, _⟩ := Sts_head hst
    have hfp : fstP p = s.kind := by simp [fstP, hm2, hT]
    refine S_index Tk J J J J J J (by omega) (by omega) ?_;refine Va J J ?_;refine S_valV J J J (V_todoW Tk 1 J J (by simp [add_lit', add_add']; omega) rfl rfl htv hw1) ?_;refine Va J J ?_;refine S_index Tk J J J J J J (by omega) (by simp) ?_;refine Va J J ?_;refine S_load Tk J J J J J (by simpa [add_zero'] using hcs.1) ?_;refine Va J J ?_
    refine S_guardp J J (fun h12 => ?_) (fun h12 => ?_) <;> refine Va J J ?_
    ·refine S_callM 1 Tryz.call46 (c_l3Step V who _ ts1 _ (h1.rdy (by omega)) ht1 hw1 (h1.go hc)) J J J J (fun _ => J) ?_
     rintro v G9 A' ⟨cs8, ts8, rfl, rfl, ht8⟩ hext8
     refine S_csV 1 J ?_;rintro bp8 bc8 br8 bs8 kp8 asd8 ksd8 kc8 kr8 ks8 rfl
     refine Va J J ?_;refine S_subI J J J J (by omega) ?_;refine Va J J ?_
     rw [show (((m + 1 : Nat) : Int) - 1) = ((m : Nat) : Int) by omega]
     refine RT J J ?_;refine Va J J ?_
     have hte : till who (m + 1) true V = (V.step who, true, m) := by simp [till, hc, hE, hent, hF, hfp, endK, *]
     exact S_retm 1 (Res.c3 Tk Tryz.results19 J J J J J J) J (hext.trans hext8) ⟨_, ts8, by rw [heq, hte], by rw [heq, hte], by rw [heq, hte]; exact ht8⟩
    ·refine S_index Tk J J J J J J (by omega) (by omega) ?_
     refine Va J J ?_;refine S_valV J J J (V_todoW Tk 1 J J (by simp [add_lit', add_add']; omega) rfl rfl htv hw1) ?_;refine Va J J ?_;refine S_index Tk J J J J J J (by omega) (by simp) ?_;refine Va J J ?_;refine S_load Tk J J J J J (by simpa [add_zero'] using hcs.1) ?_;refine Va J J ?_
     by_cases h9 : s.kind = 9
     ·refine S_callM 1 Tryz.call46 (c_l3Step V who _ ts1 _ (h1.rdy (by omega)) ht1 hw1 (h1.go hc)) J J J J (fun _ => J) ?_
      rintro v G9 A' ⟨cs8, ts8, rfl, rfl, ht8⟩ hext8
      refine S_csV 1 J ?_;rintro bp8 bc8 br8 bs8 kp8 asd8 ksd8 kc8 kr8 ks8 rfl
      refine Va J J ?_;refine S_subI J J J J (by omega) ?_;refine Va J J ?_
      rw [show (((m + 1 : Nat) : Int) - 1) = ((m : Nat) : Int) by omega]
      refine RT J (by simp [h9]) ?_;refine Va J J ?_
      have hte : till who (m + 1) true V = (V.step who, true, m) := by simp [till, hc, hE, hent, hF, hfp, endK, *]
      exact S_retm 1 (Res.c3 Tk Tryz.results19 J J J J J J) J (hext.trans hext8) ⟨_, ts8, by rw [heq, hte], by rw [heq, hte], by rw [heq, hte]; exact ht8⟩
     ·refine S_callM 1 Tryz.call46 (c_l3Step V who _ ts1 _ (h1.rdy (by omega)) ht1 hw1 (h1.go hc)) J J J J (fun _ => J) ?_
      rintro v G9 A' ⟨cs8, ts8, rfl, rfl, ht8⟩ hext8
      refine S_csV 1 J ?_;rintro bp8 bc8 br8 bs8 kp8 asd8 ksd8 kc8 kr8 ks8 rfl
      refine Va J J ?_;refine S_subI J J J J (by omega) ?_;refine Va J J ?_
      rw [show (((m + 1 : Nat) : Int) - 1) = ((m : Nat) : Int) by omega]
      refine RF J (by simp [h9]) ?_;refine Va J J ?_;refine RF J J ?_;refine Va J J ?_
      have hte : till who (m + 1) true V = till who m true (V.step who) := by simp [till, hc, hE, hent, hF, hfp, endK, h12, h9]
      refine S_again ⟨V.step who, B1 + 1, true, m, ⟨bp8, bc8, br8, bs8, kp8, asd8, ksd8, kc8, kr8, ks8⟩, ts8, G9⟩ ⟨hext.trans hext8, ⟨h1.step hw1 hc, by simp only; omega⟩, ht8, by rw [V.step_len]; exact hw1, (heq.trans hte)⟩ (by simp only; omega) rfl ⟨⟨_, rfl, by simp [denO]⟩, ⟨_, rfl, rfl⟩, ⟨_, rfl, rfl⟩, ⟨_, rfl, rfl⟩, ⟨_, rfl, rfl⟩, ⟨_, rfl, rfl⟩, ⟨_, rfl, rfl⟩, trivial⟩ (by simp only [WV.cs]; first | exact .blk J J (.blk J J (.hp .nil)) | exact .hp (.blk J J (.blk J J .nil)))
   -- an entry, outside
   ·refine RT J J ?_
    refine Va J J ?_
    have hte : till who (m + 1) false V = (V, true, m + 1) := by simp [till, hc, hE, hent]
    exact S_retm 1 (Res.c3 Tk Tryz.results19 J J J J J J) J hext ⟨_, ts1, by rw [heq, hte], by rw [heq, hte], by rw [heq, hte]; exact ht1⟩
   -- an entry, inside
   ·refine RF J J ?_
    refine Va J J ?_;refine GF J J J ?_;refine Va J J ?_;refine S_callM 1 Tryz.call46 (c_l3Step V who _ ts1 _ (h1.rdy (by omega)) ht1 hw1 (h1.go hc)) J J J J (fun _ => J) ?_;rintro v G9 A' ⟨cs8, ts8, rfl, rfl, ht8⟩ hext8
    refine S_csV 1 J ?_;rintro bp8 bc8 br8 bs8 kp8 asd8 ksd8 kc8 kr8 ks8 rfl
    refine Va J J ?_;refine S_subI J J J J (by omega) ?_;refine Va J J ?_
    rw [show (((m + 1 : Nat) : Int) - 1) = ((m : Nat) : Int) by omega]
    refine RT J J ?_;refine Va J J ?_
    have hte : till who (m + 1) true V = till who m true (V.step who) := by simp [till, hc, hE, hent]
    refine S_again ⟨V.step who, B1 + 1, true, m, ⟨bp8, bc8, br8, bs8, kp8, asd8, ksd8, kc8, kr8, ks8⟩, ts8, G9⟩ ⟨hext.trans hext8, ⟨h1.step hw1 hc, by simp only; omega⟩, ht8, by rw [V.step_len]; exact hw1, (heq.trans hte)⟩ (by simp only; omega) rfl ⟨⟨_, rfl, by simp [denO]⟩, ⟨_, rfl, rfl⟩, ⟨_, rfl, rfl⟩, ⟨_, rfl, rfl⟩, ⟨_, rfl, rfl⟩, ⟨_, rfl, rfl⟩, ⟨_, rfl, rfl⟩, trivial⟩ (by simp only [WV.cs]; first | exact .blk J J (.blk J J (.hp .nil)) | exact .hp (.blk J J (.blk J J .nil)))
  ·refine RT J (by simp [hc]) ?_
   refine Va J J ?_
   have hte : till who (m + 1) inn1 V = (V, false, m + 1) := by simp [till, hc]
   exact S_retm 1 (Res.c3 Tk Tryz.results19 J J J J J J) J hext ⟨_, ts1, by rw [heq, hte], by rw [heq, hte], by rw [heq, hte]; exact ht1⟩
 ·obtain rfl : n1 = 0 := by omega
  exact S_retm 1 (Res.c3 Tk Tryz.results19 J J J J J J) J hext ⟨_, ts1, by rw [heq]; rfl, by rw [heq]; rfl, by rw [heq]; exact ht1⟩
end
section
attribute [local irreducible] X Pure Mod
structure RS where
 i : Nat
 V : Wld
 B : Nat
 x : WV
 ts : List Value
 G : PH
def RPost (W : Wld) (B : Nat) : Value → PH → HP → Prop := fun v G' A' => ∃ W' ok cs' ts', v = .tuple #[.agg cs'.toArray, .bool ok] ∧ A' = worldV cs' W' ts' ∧ Tds G' W'.procs ts' ∧ (ok = true → rests (List.range W.procs.length) W = some W' ∧ Inv W' (B + 200 * W.procs.length) ∧ W'.procs.length = W.procs.length) ∧ (ok = false → rests (List.range W.procs.length) W = none)
theorem drop_range {i n : Nat} (h : i < n) : (List.range n).drop i = i :: (List.range n).drop (i + 1) := by
 rw [List.drop_eq_getElem_cons (by simpa using h)]
 simp
theorem c_l6Rest (W : Wld) (B : Nat) (cs : List Value) (ts : List Value) (G : PH) (h : Inv W B) (hB : B ≤ 900000) (ht : Tds G W.procs ts) :
  Mod Tryz.prog 20 [.agg cs.toArray, .int .i64 200] G (worldV cs W ts) (RPost W B) := by
 have hn3 := h.n3
 refine Mod.intro Tryz.func20 Tryz.ntmps20 J J fun w S => ?_;refine S_csV 1 J ?_;rintro bp bc br bs kp asd ksd kc kr ks rfl
 refine Va J J ?_;refine S_box J J J J J fun b2 => ?_;refine Va J J ?_;refine AZ ZT_ok J J J J fun b4 => ?_;refine Va J J ?_;refine S_loop (α := RS) (fun y => y.i ≤ W.procs.length ∧ PH.ext w.heap.size G y.G ∧ (Inv y.V y.B ∧ y.B ≤ B + 200 * y.i) ∧ Tds y.G y.V.procs y.ts ∧ y.V.procs.length = W.procs.length ∧ rests (List.range W.procs.length) W = rests ((List.range W.procs.length).drop y.i) y.V) (fun y => W.procs.length - y.i) [(4, b4), (2, b2)]
  (fun y => [(6, .val (.int .i64 (y.i : Nat))), (1, .val (.int .i64 200)), (2, .ptr 2 0), (4, .ptr 4 0), (5, .lit false)])
  (fun y => [.blk 4 29 (vL [.slice none 0 0, .slice none 0 0, .slice none 0 0, .slice none 0 0, .slice none 0 0]), .blk 2 29 (vL (y.x.cs y.V)), .hp 1 (worldV (y.x.cs y.V) y.V y.ts)]) (fun y => y.G) ⟨0, W, B, ⟨bp, bc, br, bs, kp, asd, ksd, kc, kr, ks⟩, ts, G⟩ ⟨Nat.zero_le _, PH.ext.refl _ _, ⟨h, Nat.le_refl _⟩, ht, rfl, rfl⟩ rfl ?_ ?_ ?_
 ·exact ⟨⟨_, J, J⟩, ⟨_, J, J⟩, ⟨_, J, J⟩, ⟨_, J, J⟩, ⟨_, J, J⟩, trivial⟩
 ·exact .blk J J (.blk J J (.hp .nil))
 rintro ⟨i, V, B1, ⟨bp1, bc1, br1, bs1, kp1, asd1, ksd1, kc1, kr1, ks1⟩, ts1, G1⟩ ⟨hi, hext, ⟨h1, hB1⟩, ht1, hlen, heq⟩
 simp only [WV.cs] at hi hext h1 hB1 ht1 hlen heq ⊢
 refine Va J J ?_
 refine S_condp J (fun h5 => ?_) (fun h5 => ?_) <;> refine Va J J ?_
 ·have hiW : i < W.procs.length := by omega
  refine S_loop (α := RS) (fun y => PH.ext w.heap.size G y.G ∧ (Inv y.V y.B ∧ y.B + y.i ≤ B + 200 * i + 200) ∧ Tds y.G y.V.procs y.ts ∧ y.V.procs.length = W.procs.length ∧ restP i 200 V = restP i y.i y.V) (fun y => y.i) [(4, b4), (2, b2)]
   (fun y => [(7, .val (.int .i64 (y.i : Nat))), (6, .val (.int .i64 (i : Nat))), (1, .val (.int .i64 200)), (2, .ptr 2 0), (4, .ptr 4 0), (5, .lit false)])
   (fun y => [.blk 4 29 (vL [.slice none 0 0, .slice none 0 0, .slice none 0 0, .slice none 0 0, .slice none 0 0]), .blk 2 29 (vL (y.x.cs y.V)), .hp 1 (worldV (y.x.cs y.V) y.V y.ts)]) (fun y => y.G) ⟨200, V, B1, ⟨bp1, bc1, br1, bs1, kp1, asd1, ksd1, kc1, kr1, ks1⟩, ts1, G1⟩ ⟨hext, ⟨h1, by simp only; omega⟩, ht1, hlen, rfl⟩ rfl ?_ ?_ ?_
  ·exact ⟨⟨_, J, J⟩, ⟨_, J, J⟩, ⟨_, J, J⟩, ⟨_, J, J⟩, ⟨_, J, J⟩, ⟨_, J, J⟩, trivial⟩
  ·simp only [WV.cs]
   exact .blk J J (.blk J J (.hp .nil))
  rintro ⟨n, V2, B2, ⟨bp2, bc2, br2, bs2, kp2, asd2, ksd2, kc2, kr2, ks2⟩, ts2, G2⟩ ⟨hext2, ⟨h2, hB2⟩, ht2, hlen2, heq2⟩
  simp only [WV.cs] at hext2 h2 hB2 ht2 hlen2 heq2 ⊢
  have hi2 : i < V2.procs.length := by omega
  refine Va J J ?_
  refine S_guardp J J (fun hn => ?_) (fun hn => ?_) <;> refine Va J J ?_
  ·obtain ⟨m, rfl⟩ : ∃ m, n = m + 1 := ⟨n - 1, by omega⟩
   refine S_callM 1 Tryz.call44 (c_l3Code V2 (i : Nat) _ ts2 G2 h2.n1 h2.n3 ht2 h2.head ⟨h2.m0, h2.m1⟩) J J J J (fun _ => J) ?_;rintro v G3 A' ⟨rfl, rfl, rfl⟩ _
   refine Va J J ?_
   refine S_guardp J J (fun hc => ?_) (fun hc => ?_) <;> refine Va J J ?_
   ·have hp : V2.procs[i]? = some V2.procs[i] := by simp [hi2]
    refine S_callM 1 Tryz.call45 (c_l6Comes V2 i _ ts2 _ h2.n1 h2.n3 ht2 hi2 (code0 hp hc).2) J J J J (fun _ => J) ?_;rintro v G3 A' ⟨rfl, rfl, rfl⟩ _
    refine Va J J ?_
    have hE : isEnt V2 i = entP V2.procs[i] := by simp [isEnt, hp, hc]
    refine S_cond J (fun h8 => ?_) (fun h8 => ?_) <;> refine Va J J ?_
    ·have hEf : isEnt V2 i = false := by rw [hE]; simpa using h8
     refine S_callM 1 Tryz.call46 (c_l3Step V2 i _ ts2 _ (h2.rdy (by omega)) ht2 hi2 (h2.go hc)) J J J J (fun _ => J) ?_;rintro v G9 A' ⟨cs8, ts8, rfl, rfl, ht8⟩ hext8
     refine S_csV 1 J ?_;rintro bp8 bc8 br8 bs8 kp8 asd8 ksd8 kc8 kr8 ks8 rfl
     refine Va J J ?_;refine S_subI J J J J (by omega) ?_;refine Va J J ?_;exact S_again ⟨m, V2.step i, B2 + 1, ⟨bp8, bc8, br8, bs8, kp8, asd8, ksd8, kc8, kr8, ks8⟩, ts8, G9⟩ ⟨hext2.trans hext8, ⟨h2.step hi2 hc, by simp only; omega⟩, ht8, by simp only; rw [V2.step_len]; exact hlen2, by simp only; rw [heq2]; simp [restP, hc, hEf]⟩ (by simp only; omega) rfl ⟨⟨_, rfl, by simp [denO]⟩, ⟨_, rfl, rfl⟩, ⟨_, rfl, rfl⟩, ⟨_, rfl, rfl⟩, ⟨_, rfl, rfl⟩, ⟨_, rfl, rfl⟩, trivial⟩ (by simp only [WV.cs]; first | exact .blk J J (.blk J J (.hp .nil)) | exact .hp (.blk J J (.blk J J .nil)))
    ·have hEt : isEnt V2 i = true := by rw [hE]; simpa using h8
     have hte : restP i (m + 1) V2 = (V2, true) := by simp [restP, hEt]
     refine RF J (by simp; omega) ?_;refine Va J J ?_;refine S_add J J J J (by omega) ?_;refine Va J J ?_;refine S_again ⟨i + 1, V2, B2, ⟨bp2, bc2, br2, bs2, kp2, asd2, ksd2, kc2, kr2, ks2⟩, ts2, _⟩ ⟨by simp only; omega, hext2, ⟨h2, by simp only; omega⟩, ht2, by simp only; omega, ?_⟩ (by simp only; omega) rfl ⟨⟨_, rfl, by simp [denO]⟩, ⟨_, rfl, rfl⟩, ⟨_, rfl, rfl⟩, ⟨_, rfl, rfl⟩, ⟨_, rfl, rfl⟩, trivial⟩ (by simp only [WV.cs]; exact .blk J J (.blk J J (.hp .nil)))
     ·simp only
      rw [heq, drop_range (by omega)]
      simp only [rests, heq2, hte]
   ·have hte : restP i (m + 1) V2 = (V2, true) := by simp [restP, hc]
    refine RF J (by simp; omega) ?_;refine Va J J ?_;refine S_add J J J J (by omega) ?_;refine Va J J ?_;refine S_again ⟨i + 1, V2, B2, ⟨bp2, bc2, br2, bs2, kp2, asd2, ksd2, kc2, kr2, ks2⟩, ts2, _⟩ ⟨by simp only; omega, hext2, ⟨h2, by simp only; omega⟩, ht2, by simp only; omega, ?_⟩ (by simp only; omega) rfl ⟨⟨_, rfl, by simp [denO]⟩, ⟨_, rfl, rfl⟩, ⟨_, rfl, rfl⟩, ⟨_, rfl, rfl⟩, ⟨_, rfl, rfl⟩, trivial⟩ (by simp only [WV.cs]; exact .blk J J (.blk J J (.hp .nil)))
    ·simp only
     rw [heq, drop_range (by omega)]
     simp only [rests, heq2, hte]
  ·obtain rfl : n = 0 := by omega
   refine RT J J ?_;refine Va J J ?_;refine S_retm 1 (Res.c2 Tk Tryz.results20 rfl rfl rfl rfl) rfl hext2 ⟨V2, false, _, ts2, rfl, rfl, ht2, (fun h => by cases h), fun _ => ?_⟩
   rw [heq, drop_range (by omega)]
   show rests (i :: _) V = none
   unfold rests
   rw [heq2]
   rfl
 ·have hin : i = W.procs.length := by omega
  subst hin
  refine S_retm 1 (Res.c2 Tk Tryz.results20 rfl rfl rfl rfl) rfl hext ⟨V, true, _, ts1, rfl, rfl, ht1, fun _ => ⟨?_, h1.mono hB1, hlen⟩, fun h => by cases h⟩
  rw [heq, List.drop_of_length_le (by simp)]
  rfl
end
section
attribute [local irreducible] X Pure Mod
theorem till_left (who : Nat) : ∀ (n : Nat) (inn : Bool) (W : Wld), (till who n inn W).2.2 ≤ n := by
 intro n
 induction n with
 | zero => intro inn W; simp [till]
 | succ n ih =>
  intro inn W
  simp only [till]
  by_cases hc : codeOf W (who : Nat) = 0
  ·rw [if_neg (by simp [hc])]
   by_cases h1 : (isEnt W who && !inn) = true
   ·rw [if_pos h1]; exact Nat.le_refl _
   rw [if_neg h1]
   by_cases h2 : ((!isEnt W who && endK (fstK W who)) && inn) = true
   ·rw [if_pos h2]; exact Nat.le_succ _
   rw [if_neg h2]
   exact Nat.le_succ_of_le (ih _ _)
  ·rw [if_pos (by simpa using hc)]
   exact Nat.le_refl _
theorem Shl_till {who : Nat} : ∀ (n : Nat) (inn : Bool) {W : Wld}, Shl W → Shl (till who n inn W).1 := by
 intro n
 induction n with
 | zero => intro inn W h; exact h
 | succ n ih =>
  intro inn W h
  simp only [Go.Proofs.YtcbdilccmjpnbaaGreat.till]
  by_cases hc : codeOf W (who : Nat) = 0
  ·rw [if_neg (by simp [hc])]
   by_cases h1 : (isEnt W who && !inn) = true
   ·rw [if_pos h1]; exact h
   rw [if_neg h1]
   by_cases h2 : ((!isEnt W who && endK (fstK W who)) && inn) = true
   ·rw [if_pos h2]; exact h.step who
   rw [if_neg h2]
   exact ih _ (h.step who)
  ·rw [if_pos (by simpa using hc)]
   exact h
theorem Shl_restP {who : Nat} : ∀ (n : Nat) {W : Wld}, Shl W → Shl (restP who n W).1 := by
 intro n
 induction n with
 | zero => intro W h; exact h
 | succ n ih =>
  intro W h
  simp only [Go.Proofs.YtcbdilccmjpnbaaGreat.restP]
  by_cases hc : codeOf W (who : Nat) = 0 ∧ isEnt W who = false
  ·rw [if_pos hc]; exact ih (h.step who)
  ·rw [if_neg hc]; exact h
theorem Shl_rests : ∀ (l : List Nat) {W W' : Wld}, Shl W → rests l W = some W' → Shl W'
 | [], W, W', h, e => by cases e; exact h
 | who :: r, W, W', h, e => by
  unfold Go.Proofs.YtcbdilccmjpnbaaGreat.rests at e
  have hs := Shl_restP (who := who) 200 h
  generalize restP who 200 W = q at e hs
  obtain ⟨V, ok⟩ := q
  cases ok
  ·cases e
  ·exact Shl_rests r hs e
def wrun (p : List (List Stm)) (q : List Int) : Option Wld := if progOk p = true ∧ q.length ≤ 200 then (match runs q (open0 p) with
 | none => none
 | some W => rests (List.range p.length) W) else none
theorem Inv_atom {who : Nat} {W : Wld} {B : Nat} (h : Inv W B) (hw : who < W.procs.length) : Inv (atom who 200 false W).1 (B + 400) ∧ (atom who 200 false W).1.procs.length = W.procs.length := by
 rw [atom_out]
 have h1 := h.till (who := who) 200 false hw
 split
 ·have h2 := h1.1.till (who := who) (till who 200 false W).2.2 true (by omega)
  have := till_left who 200 false W
  exact ⟨h2.1.mono (by omega), h2.2.trans h1.2⟩
 ·exact ⟨h1.1.mono (by omega), h1.2⟩
theorem runs_valid : ∀ (q : List Int) {W W' : Wld} {B : Nat}, Inv W B → runs q W = some W' → (∀ x ∈ q, 0 ≤ x ∧ x < W.procs.length) ∧ Inv W' (B + 400 * q.length) ∧ W'.procs.length = W.procs.length
 | [], W, W', B, h, e => by cases e; exact ⟨by simp, h.mono (by simp), J⟩
 | who :: r, W, W', B, h, e => by
  unfold runs at e
  split at e
  ·cases e
  ·rename_i hw
   have ha := Inv_atom h (who := who.toNat) (by omega)
   generalize Go.Proofs.YtcbdilccmjpnbaaGreat.atom who.toNat 200 false W = t at e ha
   obtain ⟨V, ok⟩ := t
   cases ok
   ·cases e
   ·obtain ⟨h1, h2, h3⟩ := runs_valid r ha.1 e
    refine ⟨?_, h2.mono (by simp only [List.length_cons]; omega), h3.trans ha.2⟩
    intro x hx
    rcases List.mem_cons.1 hx with rfl | hx
    ·omega
    ·have := h1 x hx; rw [ha.2] at this; exact this
end
section
attribute [local irreducible] X Pure Mod
def resV (r : Option Wld) (v : Value) (G : PH) : Prop := match r with
 | some W => ∃ wv, v = .tuple #[wv, .bool true] ∧ WG G W wv
 | none => v = .tuple #[wZero, .bool false]
theorem atom_till {who : Nat} {W : Wld} : atom who 200 false W = if (till who 200 false W).2.1 then ((till who (till who 200 false W).2.2 true (till who 200 false W).1).1, (till who (till who 200 false W).2.2 true (till who 200 false W).1).2.1) else ((till who 200 false W).1, false) := atom_out who 200 W
theorem runs_cons {who : Nat} {r : List Int} {W : Wld} (hw : who < W.procs.length) : runs ((who : Int) :: r) W = match atom who 200 false W with
  | (_, false) => none
  | (W', true) => runs r W' := by
 rw [runs]
 have h : ¬ ((who : Int) < 0 ∨ (W.procs.length : Int) ≤ who) := by omega
 rw [if_neg h, Int.toNat_natCast]
 all_goals (generalize atom who 200 false W = a; obtain ⟨V, ok⟩ := a; cases ok <;> rfl)
theorem drop_at {α : Type} {l : List α} {i : Nat} (h : i < l.length) : l.drop i = l[i] :: l.drop (i + 1) := List.drop_eq_getElem_cons h
theorem c_sWholeRun (p : List (List Stm)) (q : List Int) (pv qv : Value) (G : PH) (hp : PrgS G p pv) (hq : Ints G q qv) : Pure Tryz.prog 5 [pv, qv] G (resV (wrun p q)) := by
 obtain ⟨Ap, cp, rfl, _⟩ := id hp.1
 obtain ⟨Aq, cq, rfl, _⟩ := id hq
 refine Pure.intro Tryz.func5 Tryz.ntmps5 J J fun w => ?_; refine Va J J ?_;refine AZ ZT_ok J J J J fun b4 => ?_;refine Va J J ?_;refine S_call Tryz.call17 (c_ProgOk p _ G hp.1) J J J ?_;rintro v G5 ⟨rfl, rfl⟩ _
 refine Va J J ?_
 refine S_cond J (fun h => ?_) (fun h => ?_) <;> refine Va J J ?_
 ·have hnone : wrun p q = none := by
   simp only [Bool.or_eq_true, Bool.not_eq_true', decide_eq_true_eq] at h
   unfold wrun
   rw [if_neg]
   rintro ⟨h1, h2⟩
   rcases h with h | h
   ·rw [h1] at h; cases h
   ·omega
  exact S_retp (Res.c2 Tk Tryz.results5 J J J J) XR (by rw [hnone]; rfl)
 simp only [Bool.or_eq_false_iff, Bool.not_eq_false', decide_eq_false_iff_not] at h
 obtain ⟨hpo, hq2⟩ := h
 have hwr : wrun p q = (match runs q (open0 p) with
  | none => none
  | some W => rests (List.range p.length) W) := by
  unfold wrun
  rw [if_pos ⟨hpo, by omega⟩]
  all_goals (cases runs q (open0 p) <;> rfl)
 refine S_callN 1 Tryz.call18 (c_l3Open p _ G5 hp) J J J ?_;rintro v1 G1 A1 (⟨_, cs, ts, rfl, rfl, htd⟩ | ⟨hpf, _⟩) hext1
 rotate_left
 ·rw [hpo] at hpf; cases hpf
 have hI0 := Inv_open hpo hp.2.1
 have hS0 := Shl_open hpo
 have hpl : (open0 p).procs.length = p.length := by simp [open0]
 refine S_newHP 1 J J ?_;refine S_csV 1 J ?_;rintro bp bc br bs kp asd ksd kc kr ks rfl
 refine Va J J ?_;refine AZ ZT_ok J J J J fun b6 => ?_;refine Va J J ?_;refine S_pick [6, 4, 1] J ?_;refine S_loop (α := RS) (fun y => y.i ≤ q.length ∧ PH.ext w.heap.size G5 y.G ∧ (Inv y.V y.B ∧ y.B ≤ 400 * y.i) ∧ Tds y.G y.V.procs y.ts ∧ y.V.procs.length = p.length ∧ Shl y.V ∧ runs q (open0 p) = runs (q.drop y.i) y.V) (fun y => q.length - y.i) [(6, b6), (4, b4)]
  (fun y => [(7, .val (.int .i64 (y.i : Nat))), (1, .val (.slice Aq q.length cq)), (6, .ptr 6 0), (4, .ptr 4 0), (5, .lit false)])
  (fun y => [.blk 6 29 (vL (y.x.cs y.V)), .blk 4 29 (vL [.slice none 0 0, .slice none 0 0, .slice none 0 0, .slice none 0 0, .slice none 0 0]), .hp 1 (worldV (y.x.cs y.V) y.V y.ts)]) (fun y => y.G) ⟨0, open0 p, 0, ⟨bp, bc, br, bs, kp, asd, ksd, kc, kr, ks⟩, ts, G1⟩ ⟨Nat.zero_le _, hext1, ⟨hI0, Nat.le_refl _⟩, htd, hpl, hS0, rfl⟩ rfl ?_ ?_ ?_
 ·exact ⟨⟨_, J, J⟩, ⟨_, J, J⟩, ⟨_, J, J⟩, ⟨_, J, J⟩, ⟨_, J, J⟩, trivial⟩
 ·exact .blk J J (.blk J J (.hp .nil))
 rintro ⟨i, V, B1, ⟨bp1, bc1, br1, bs1, kp1, asd1, ksd1, kc1, kr1, ks1⟩, ts1, G1⟩ ⟨hi, hext, ⟨h1, hB1⟩, ht1, hlen, hS1, heq⟩
 simp only [WV.cs] at hi hext h1 hB1 ht1 hlen hS1 heq ⊢
 have hn1 := h1.n1
 have hn3 := h1.n3
 refine Va J J ?_
 refine S_condp J (fun h5 => ?_) (fun h5 => ?_) <;> refine Va J J ?_
 ·have hil : i < q.length := by omega
  rw [drop_at hil] at heq
  obtain ⟨ad, cs5, rfl, hcs, rfl, hi5⟩ := Sr_at (Ints_le hext.le hq) hil
  generalize hwe : q[i] = who at hcs hi5 heq
  refine S_index Tk J J J J J J (by omega) (by omega) ?_;refine Va J J ?_;refine S_load Tk J J J J J (by simpa using hcs.1) ?_;refine Va J J ?_
  refine S_cond J (fun h6 => ?_) (fun h6 => ?_) <;> refine Va J J ?_
  ·have hnone : wrun p q = none := by
    simp only [Bool.or_eq_true, decide_eq_true_eq] at h6
    rw [hwr, heq, runs, if_pos (by omega)]
   exact S_retp (Res.c2 Tk Tryz.results5 J J J J) hext (by rw [hnone]; rfl)
  simp only [Bool.or_eq_false_iff, decide_eq_false_iff_not] at h6
  obtain ⟨k, rfl⟩ := Int.eq_ofNat_of_zero_le (show 0 ≤ who by omega)
  have hkl : k < V.procs.length := by omega
  rw [runs_cons hkl, atom_till] at heq
  refine S_callM 1 Tryz.call19 (c_l6Till V k B1 200 false _ ts1 G1 h1 (by omega) ht1 hkl) J J J J (fun _ => J) ?_;rintro v G2 A' ⟨cs2, ts2, rfl, rfl, ht2⟩ hext2
  have h2 := h1.till (who := k) 200 false hkl
  have hS2 := Shl_till (who := k) 200 false hS1
  have hl2 := till_left k 200 false V
  generalize till k 200 false V = t2 at heq ht2 h2 hS2 hl2 ⊢
  obtain ⟨V2, ok2, left2⟩ := t2
  simp only at heq ht2 h2 hS2 hl2 ⊢
  refine S_csV 1 J ?_;rintro bp2 bc2 br2 bs2 kp2 asd2 ksd2 kc2 kr2 ks2 rfl
  refine Va J J ?_;refine AZ ZT_ok J J J J fun b9 => ?_;refine Va J J ?_
  cases ok2
  ·refine RT J J ?_
   refine Va J J ?_;exact S_retp (Res.c2 Tk Tryz.results5 J J J J) (hext.trans hext2) (by rw [hwr, heq]; rfl)
  refine RF J J ?_;refine Va J J ?_;refine S_callM 1 Tryz.call19 (c_l6Till V2 k (B1 + 200) left2 true _ ts2 G2 h2.1 (by omega) ht2 (by omega)) J J J J (fun _ => J) ?_;rintro v G3 A' ⟨cs3, ts3, rfl, rfl, ht3⟩ hext3
  have h3 := h2.1.till (who := k) left2 true (by omega)
  have hS3 := Shl_till (who := k) left2 true hS2
  generalize till k left2 true V2 = t3 at heq ht3 h3 hS3 ⊢
  obtain ⟨V3, ok3, left3⟩ := t3
  simp only [if_true] at heq ht3 h3 hS3 ⊢
  refine S_csV 1 J ?_;rintro bp3 bc3 br3 bs3 kp3 asd3 ksd3 kc3 kr3 ks3 rfl
  refine Va J J ?_
  cases ok3
  ·refine RT J J ?_
   refine Va J J ?_;exact S_retp (Res.c2 Tk Tryz.results5 J J J J) ((hext.trans hext2).trans hext3) (by rw [hwr, heq]; rfl)
  refine RF J J ?_;refine Va J J ?_;refine S_add J J J J (by omega) ?_;refine Va J J ?_;refine S_pick [6, 4, 1] J ?_;exact S_again ⟨i + 1, V3, B1 + 200 + left2, ⟨bp3, bc3, br3, bs3, kp3, asd3, ksd3, kc3, kr3, ks3⟩, ts3, G3⟩ ⟨by simp only; omega, (hext.trans hext2).trans hext3, ⟨h3.1, by simp only; omega⟩, ht3, by simp only; omega, hS3, heq⟩ (by simp only; omega) rfl ⟨⟨_, rfl, by simp [denO]⟩, ⟨_, rfl, rfl⟩, ⟨_, rfl, rfl⟩, ⟨_, rfl, rfl⟩, ⟨_, rfl, rfl⟩, trivial⟩ (by simp only [WV.cs]; exact .blk J J (.blk J J (.hp .nil)))
 ·have hin : i = q.length := by omega
  subst hin
  rw [List.drop_length] at heq
  have hwr2 : wrun p q = rests (List.range V.procs.length) V := by rw [hwr, heq, hlen]; rfl
  refine S_callM 1 Tryz.call20 (c_l6Rest V B1 _ ts1 G1 h1 (by omega) ht1) J J J J (fun _ => J) ?_;rintro v G2 A' ⟨V2, ok2, cs2, ts2, rfl, rfl, ht2, hok, hbad⟩ hext2
  refine S_csV 1 J ?_;rintro bp2 bc2 br2 bs2 kp2 asd2 ksd2 kc2 kr2 ks2 rfl
  refine Va J J ?_;refine AZ ZT_ok J J J J fun b12 => ?_;refine Va J J ?_
  cases ok2
  ·refine RT J J ?_
   refine Va J J ?_;exact S_retp (Res.c2 Tk Tryz.results5 J J J J) (hext.trans hext2) (by rw [hwr2, hbad J]; rfl)
  refine RF J J ?_;refine Va J J ?_;obtain ⟨hr, hI2, hl2⟩ := hok rfl
  have hS2 := Shl_rests _ hS1 hr
  have hB2 : B1 + 200 * V.procs.length ≤ 1000000 := by omega
  refine S_frzV 1 J J (fun _ h => h) ht2 hI2.n3 ⟨by have := (hI2.rdy hB2).sd; omega, by have := (hI2.rdy hB2).q0; omega, by have := (hI2.rdy hB2).q1; omega⟩ fun G3 hext3 hW => ?_;refine S_callN 21 Tryz.call21 (c_l3Out _ _ _ hW (Fin3_of hI2 hB2)) J J J ?_;rintro v3 G4 A3 ⟨cs3, ts3, rfl, rfl, htd3⟩ hext4
  rw [hS2.out] at htd3 ⊢
  refine S_newHP 21 J J ?_;refine S_csV 21 J ?_;rintro bp3 bc3 br3 bs3 kp3 asd3 ksd3 kc3 kr3 ks3 rfl
  refine Va J J ?_;refine S_frzV 21 J J (fun _ h => h) htd3 hI2.n3 ⟨by have := (hI2.rdy hB2).sd; omega, by have := (hI2.rdy hB2).q0; omega, by have := (hI2.rdy hB2).q1; omega⟩ fun G5 hext5 hW5 => ?_;exact S_retp (Res.c2 Tk Tryz.results5 J J J J) ((((hext.trans hext2).trans hext3).trans hext4).trans hext5) (by rw [hwr2, hr]; exact ⟨_, J, hW5⟩)
end
section
attribute [local irreducible] X Pure Mod
def EndsAt (G : PH) (be : Nat) : Prop := gcell G ⟨be, 0, none⟩ = some (.func (.func 53) #[] #[])
theorem EndsAt_le {G G' : PH} (hl : G.le G') {be : Nat} (h : EndsAt G be) : EndsAt G' be := gcell_le hl h
theorem c_atomicF (G : PH) : Pure Tryz.prog 27 [] G fun v G' => ∃ be, v = .func (.func 54) #[] #[.pointer (some ⟨be, 0, none⟩)] ∧ EndsAt G' be := by
 refine Pure.intro Tryz.func27 Tryz.ntmps27 J J fun w => ?_; refine Va J J ?_;refine AZ ZT_ok J J J J fun b1 => ?_;refine Va J J ?_;refine S_valV J J J (V_makeFunc J) ?_;refine Va J J ?_;refine S_freezeB 1 J J J J (fun _ h => h) fun hext1 => ?_;refine S_retp (Res.t1 Tryz.results27 J J) hext1 ⟨b1, J, ?_⟩
 simp [EndsAt, gcell, PH.add_self]
theorem c_restF (G : PH) : Pure Tryz.prog 28 [] G fun v G' => v = .func (.func 59) #[] #[] ∧ G' = G := by
 refine Pure.intro Tryz.func28 Tryz.ntmps28 J J fun w => ?_; refine Va J J ?_;exact S_retp (Res.t1 Tryz.results28 J J) XR ⟨J, J⟩
structure AS where
 V : Wld
 B : Nat
 e : Bool
 i : Nat
 ts : List Value
 G : PH
abbrev APost (b : Nat) (r : Wld × Bool) : Value → PH → HP → Prop := fun v G' A' => ∃ ts', v = .bool r.2 ∧ A' = worldP b r.1 ts' ∧ Tds G' r.1.procs ts'
theorem c_atom (W : Wld) (who B b be : Nat) (ts : List Value) (G : PH) (h : Inv W B) (hB : B + 200 ≤ 1000000) (ht : Tds G W.procs ts) (hw : who < W.procs.length) (he : EndsAt G be) :
  Mod Tryz.prog 54 [.pointer (some ⟨b, 0, none⟩), .int .i64 (who : Nat), .pointer (some ⟨be, 0, none⟩)] G (worldP b W ts) (APost b (atom who 200 false W)) := by
 refine Mod.intro Tryz.func54 Tryz.ntmps54 J J fun w S => ?_;refine Va J J ?_;refine S_loop (α := AS) (fun y => (PH.ext w.heap.size G y.G ∧ Inv y.V y.B ∧ y.B + (200 - y.i) ≤ 1000000 ∧ y.i ≤ 200) ∧ Tds y.G y.V.procs y.ts ∧ who < y.V.procs.length ∧ atom who 200 false W = atom who (200 - y.i) y.e y.V) (fun y => 200 - y.i) []
  (fun y => [(8, .val (.int .i64 (y.i : Nat))), (6, .val (.bool y.e)), (0, .val (.pointer (some ⟨b, 0, none⟩))), (1, .val (.int .i64 (who : Nat))), (2, .val (.pointer (some ⟨be, 0, none⟩)))])
  (fun y => [.hp 1 (worldP b y.V y.ts)]) (fun y => y.G) ⟨W, B, false, 0, ts, G⟩ ⟨⟨PH.ext.refl _ _, h, by simp only; omega, by simp⟩, ht, hw, rfl⟩ rfl ⟨⟨_, rfl, rfl⟩, ⟨_, rfl, rfl⟩, ⟨_, rfl, rfl⟩, ⟨_, rfl, rfl⟩, ⟨_, rfl, rfl⟩, trivial⟩ (.hp .nil) ?_
 rintro ⟨V, B1, e1, i, ts1, G1⟩ ⟨⟨hext, h1, hB1, hi⟩, ht1, hw1, heq⟩
 simp only at hext h1 hB1 hi ht1 hw1 heq ⊢
 refine Va J J ?_
 refine S_condp J (fun h5 => ?_) (fun h5 => ?_) <;> refine Va J J ?_
 ·obtain ⟨m, hm⟩ : ∃ m, 200 - i = m + 1 := ⟨200 - i - 1, by omega⟩
  rw [hm] at heq
  refine S_callM 1 Tryz.call55 (c_code V (who : Nat) b ts1 G1 h1.n1 h1.n3 ht1 h1.head) J J J J (fun _ => J) ?_;rintro v G2 A' ⟨rfl, rfl, rfl⟩ _
  refine Va J J ?_
  by_cases hc : codeOf V (who : Nat) = 0
  ·refine RF J (by simp [hc]) ?_
   refine Va J J ?_
   cases e1
   ·refine GF J J J ?_
    refine Va J J ?_;refine S_callM 1 Tryz.call56 (c_isEntry V who b ts1 _ h1.n1 h1.n3 ht1 h1.head hw1) J J J J (fun _ => J) ?_;rintro v G3 A' ⟨rfl, rfl, rfl⟩ _
    refine Va J J ?_
    cases hE : isEnt V who
    ·refine S_callM 1 Tryz.call57 (c_first V who b ts1 _ h1.n1 h1.n3 ht1 hw1) J J J J (fun _ => J) ?_
     rintro v G4 A' ⟨rfl, rfl, hkv⟩ _
     have hkv2 := hkv
     obtain ⟨va, vb, vn, A1, n1, c1, A2, n2, c2, rfl⟩ := hkv
     refine Va J J ?_;refine AZ ZT_ok J J J J fun b7 => ?_;refine Va J J ?_;refine S_callM 1 Tryz.call58 (c_step V who b ts1 _ (h1.rdy (by omega)) ht1 hw1 (h1.go hc)) J J J J (fun _ => J) ?_;rintro v G5 A' ⟨ts5, rfl, ht5⟩ hext5
     refine Va J J ?_;refine GF J J J ?_;refine Va J J ?_
     have hte : atom who (m + 1) false V = atom who m false (V.step who) := by simp [atom, hc, hE]
     refine S_add J J J J (by omega) ?_;refine Va J J ?_;exact S_again ⟨V.step who, B1 + 1, false, i + 1, ts5, _⟩ ⟨⟨hext.trans hext5, h1.step hw1 hc, by simp only; omega, by simp only; omega⟩, ht5, by simp only; rw [V.step_len]; exact hw1, by simp only; rw [heq, hte, show 200 - (i + 1) = m by omega]⟩ (by simp only; omega) rfl ⟨⟨_, rfl, by simp [denO]⟩, ⟨_, rfl, rfl⟩, ⟨_, rfl, rfl⟩, ⟨_, rfl, rfl⟩, ⟨_, rfl, rfl⟩, trivial⟩ (.drop (.hp .nil))
    ·refine S_callM 1 Tryz.call57 (c_first V who b ts1 _ h1.n1 h1.n3 ht1 hw1) J J J J (fun _ => J) ?_
     rintro v G4 A' ⟨rfl, rfl, hkv⟩ _
     have hkv2 := hkv
     obtain ⟨va, vb, vn, A1, n1, c1, A2, n2, c2, rfl⟩ := hkv
     refine Va J J ?_;refine AZ ZT_ok J J J J fun b7 => ?_;refine Va J J ?_;refine S_callM 1 Tryz.call58 (c_step V who b ts1 _ (h1.rdy (by omega)) ht1 hw1 (h1.go hc)) J J J J (fun _ => J) ?_;rintro v G5 A' ⟨ts5, rfl, ht5⟩ hext5
     refine Va J J ?_;refine GT J J J ?_;refine Va J J ?_;refine S_load Tk J J J J J (EndsAt_le (hext.trans hext5).le he) ?_;refine Va J J ?_;refine S_callV (cap := #[]) (vs := [.agg #[.int .i64 (fstK V who), .int .i64 va, .int .i64 vb, .int .i64 vn, .slice A1 n1 c1, .slice A2 n2 c2]]) J Tryz.call53 (c_ends (fstK V who) _ _ hkv2) J J J ?_;rintro v G6 ⟨rfl, rfl⟩ _
     refine Va J J ?_
     have hte : atom who (m + 1) false V = atom who m true (V.step who) := by simp [atom, hc, hE, ent_no_end hE]
     have hke := ent_no_end hE
     refine RF J (by simpa [endK] using hke) ?_;refine Va J J ?_;refine S_add J J J J (by omega) ?_;refine Va J J ?_;exact S_again ⟨V.step who, B1 + 1, true, i + 1, ts5, _⟩ ⟨⟨hext.trans hext5, h1.step hw1 hc, by simp only; omega, by simp only; omega⟩, ht5, by simp only; rw [V.step_len]; exact hw1, by simp only; rw [heq, hte, show 200 - (i + 1) = m by omega]⟩ (by simp only; omega) rfl ⟨⟨_, rfl, by simp [denO]⟩, ⟨_, rfl, rfl⟩, ⟨_, rfl, rfl⟩, ⟨_, rfl, rfl⟩, ⟨_, rfl, rfl⟩, trivial⟩ (.drop (.hp .nil))
   ·refine GT J J J ?_
    refine Va J J ?_;refine S_callM 1 Tryz.call57 (c_first V who b ts1 _ h1.n1 h1.n3 ht1 hw1) J J J J (fun _ => J) ?_;rintro v G4 A' ⟨rfl, rfl, hkv⟩ _
    have hkv2 := hkv
    obtain ⟨va, vb, vn, A1, n1, c1, A2, n2, c2, rfl⟩ := hkv
    refine Va J J ?_;refine AZ ZT_ok J J J J fun b7 => ?_;refine Va J J ?_;refine S_callM 1 Tryz.call58 (c_step V who b ts1 _ (h1.rdy (by omega)) ht1 hw1 (h1.go hc)) J J J J (fun _ => J) ?_;rintro v G5 A' ⟨ts5, rfl, ht5⟩ hext5
    refine Va J J ?_;refine S_load Tk J J J J J (EndsAt_le (hext.trans hext5).le he) ?_;refine Va J J ?_;refine S_callV (cap := #[]) (vs := [.agg #[.int .i64 (fstK V who), .int .i64 va, .int .i64 vb, .int .i64 vn, .slice A1 n1 c1, .slice A2 n2 c2]]) J Tryz.call53 (c_ends (fstK V who) _ _ hkv2) J J J ?_;rintro v G6 ⟨rfl, rfl⟩ _
    refine Va J J ?_
    cases hke : endK (fstK V who)
    ·refine RF J (by simpa [endK] using hke) ?_
     refine Va J J ?_
     have hte : atom who (m + 1) true V = atom who m true (V.step who) := by simp [atom, hc, hke]
     refine S_add J J J J (by omega) ?_;refine Va J J ?_;exact S_again ⟨V.step who, B1 + 1, true, i + 1, ts5, _⟩ ⟨⟨hext.trans hext5, h1.step hw1 hc, by simp only; omega, by simp only; omega⟩, ht5, by simp only; rw [V.step_len]; exact hw1, by simp only; rw [heq, hte, show 200 - (i + 1) = m by omega]⟩ (by simp only; omega) rfl ⟨⟨_, rfl, by simp [denO]⟩, ⟨_, rfl, rfl⟩, ⟨_, rfl, rfl⟩, ⟨_, rfl, rfl⟩, ⟨_, rfl, rfl⟩, trivial⟩ (.drop (.hp .nil))
    ·refine RT J (by simpa [endK] using hke) ?_
     refine Va J J ?_
     have hte : atom who (m + 1) true V = (V.step who, true) := by simp [atom, hc, hke]
     exact S_retm 1 (Res.t1 Tryz.results54 J J) J (hext.trans hext5) ⟨ts5, by rw [heq, hte], by rw [heq, hte], by rw [heq, hte]; exact ht5⟩
  ·refine RT J (by simp [hc]) ?_
   refine Va J J ?_
   have hte : atom who (m + 1) e1 V = (V, false) := by simp [atom, hc]
   exact S_retm 1 (Res.t1 Tryz.results54 J J) J hext ⟨ts1, by rw [heq, hte], by rw [heq, hte], by rw [heq, hte]; exact ht1⟩
 ·have hi2 : 200 - i = 0 := by omega
  rw [hi2] at heq
  exact S_retm 1 (Res.t1 Tryz.results54 J J) J hext ⟨ts1, by rw [heq]; rfl, by rw [heq]; rfl, by rw [heq]; exact ht1⟩
structure RS1 where
 V : Wld
 B : Nat
 i : Nat
 ts : List Value
 G : PH
theorem c_rest1 (W : Wld) (who B b : Nat) (ts : List Value) (G : PH) (h : Inv W B) (hB : B + 200 ≤ 1000000) (ht : Tds G W.procs ts) (hw : who < W.procs.length) :
  Mod Tryz.prog 59 [.pointer (some ⟨b, 0, none⟩), .int .i64 (who : Nat)] G (worldP b W ts) (APost b (restP who 200 W)) := by
 refine Mod.intro Tryz.func59 Tryz.ntmps59 J J fun w S => ?_;refine Va J J ?_;refine S_loop (α := RS1) (fun y => (PH.ext w.heap.size G y.G ∧ Inv y.V y.B ∧ y.B + (200 - y.i) ≤ 1000000 ∧ y.i ≤ 200) ∧ Tds y.G y.V.procs y.ts ∧ who < y.V.procs.length ∧ restP who 200 W = restP who (200 - y.i) y.V) (fun y => 200 - y.i) []
  (fun y => [(5, .val (.int .i64 (y.i : Nat))), (0, .val (.pointer (some ⟨b, 0, none⟩))), (1, .val (.int .i64 (who : Nat)))])
  (fun y => [.hp 1 (worldP b y.V y.ts)]) (fun y => y.G) ⟨W, B, 0, ts, G⟩ ⟨⟨PH.ext.refl _ _, h, by simp only; omega, by simp⟩, ht, hw, rfl⟩ rfl ⟨⟨_, rfl, rfl⟩, ⟨_, rfl, rfl⟩, ⟨_, rfl, rfl⟩, trivial⟩ (.hp .nil) ?_
 rintro ⟨V, B1, i, ts1, G1⟩ ⟨⟨hext, h1, hB1, hi⟩, ht1, hw1, heq⟩
 simp only at hext h1 hB1 hi ht1 hw1 heq ⊢
 refine Va J J ?_
 refine S_condp J (fun h5 => ?_) (fun h5 => ?_) <;> refine Va J J ?_
 ·obtain ⟨m, hm⟩ : ∃ m, 200 - i = m + 1 := ⟨200 - i - 1, by omega⟩
  rw [hm] at heq
  refine S_callM 1 Tryz.call55 (c_code V (who : Nat) b ts1 G1 h1.n1 h1.n3 ht1 h1.head) J J J J (fun _ => J) ?_;rintro v G2 A' ⟨rfl, rfl, rfl⟩ _
  refine Va J J ?_
  by_cases hc : codeOf V (who : Nat) = 0
  ·refine GF J J (by simp [hc]) ?_
   refine Va J J ?_;refine S_callM 1 Tryz.call56 (c_isEntry V who b ts1 _ h1.n1 h1.n3 ht1 h1.head hw1) J J J J (fun _ => J) ?_;rintro v G3 A' ⟨rfl, rfl, rfl⟩ _
   refine Va J J ?_
   cases hE : isEnt V who
   ·refine RF J J ?_
    refine Va J J ?_;refine S_callM 1 Tryz.call58 (c_step V who b ts1 _ (h1.rdy (by omega)) ht1 hw1 (h1.go hc)) J J J J (fun _ => J) ?_;rintro v G5 A' ⟨ts5, rfl, ht5⟩ hext5
    refine Va J J ?_;refine S_add J J J J (by omega) ?_;refine Va J J ?_
    have hte : restP who (m + 1) V = restP who m (V.step who) := by simp [restP, hc, hE]
    exact S_again ⟨V.step who, B1 + 1, i + 1, ts5, _⟩ ⟨⟨hext.trans hext5, h1.step hw1 hc, by simp only; omega, by simp only; omega⟩, ht5, by simp only; rw [V.step_len]; exact hw1, by simp only; rw [heq, hte, show 200 - (i + 1) = m by omega]⟩ (by simp only; omega) rfl ⟨⟨_, rfl, by simp [denO]⟩, ⟨_, rfl, rfl⟩, ⟨_, rfl, rfl⟩, trivial⟩ (.hp .nil)
   ·refine RT J J ?_
    refine Va J J ?_
    have hte : restP who (m + 1) V = (V, true) := by simp [restP, hE]
    exact S_retm 1 (Res.t1 Tryz.results59 J J) J hext ⟨ts1, by rw [heq, hte], by rw [heq, hte], by rw [heq, hte]; exact ht1⟩
  ·refine GT J J (by simp [hc]) ?_
   refine Va J J ?_
   have hte : restP who (m + 1) V = (V, true) := by simp [restP, hc]
   exact S_retm 1 (Res.t1 Tryz.results59 J J) J hext ⟨ts1, by rw [heq, hte], by rw [heq, hte], by rw [heq, hte]; exact ht1⟩
 ·have hi2 : 200 - i = 0 := by omega
  rw [hi2] at heq
  exact S_retm 1 (Res.t1 Tryz.results59 J J) J hext ⟨ts1, by rw [heq]; rfl, by rw [heq]; rfl, by rw [heq]; exact ht1⟩
end
section
attribute [local irreducible] X Pure Mod
theorem c_opened (p : List (List Stm)) (pv : Value) (G : PH) (hpp : Prg G p pv) (hp13 : 1 ≤ p.length ∧ p.length ≤ 3) : Mod Tryz.prog 26 [pv] G emptyHP fun v G' A' => ∃ cs ts, v = .agg cs.toArray ∧ A' = worldV cs (open0 p) ts ∧ Tds G' (open0 p).procs ts := by
  obtain ⟨A, c, rfl, hl1, _⟩ := id hpp
  refine Mod.intro Tryz.func26 Tryz.ntmps26 J J fun w S => ?_;refine Va J J ?_;refine AZ ZT_ok J J J J fun b2 => ?_;refine Va J J ?_;refine S_cut (α := Nat × Nat × Nat × Nat) (fun _ => True) (fun y => [(2, b2), (3, y.1), (6, y.2.1), (7, y.2.2.1), (8, y.2.2.2)]) (fun y => [(0, .val (.slice A p.length c)), (2, .ptr 2 0), (3, .ptr 3 0)])
    (fun y => [.blk 2 29 (vL [.slice none 0 0, .slice none 0 0, .slice none 0 0, .slice none 0 0, .slice none 0 0]), .blk 3 29 [.v (.slice none 0 0), .s 6 0 3 3, .s 7 0 2 2, .s 8 0 2 2, .v (.slice none 0 0)], .blk 6 3 (vL [.int .i64 0, .int .i64 0, .int .i64 0]), .blk 7 3 (vL [.int .i64 0, .int .i64 0]), .blk 8 23 (vL [.slice none 0 0, .slice none 0 0]), .hp 1 emptyHP]) (fun _ => G) ?_ ?_
  · refine Ds J J J ?_
    refine Da J J ?_
    repeat' (first
      | exact trivial
      | (refine D_list J ?_)
      | refine And.intro ?_ ?_
      | (refine N_turn Tk _ J J J J fun back => ?_
         first
           | refine S_make Tk ZT_ok J J J J J J (by decide) (by decide) J J J fun bm => ?_
           | refine AZ ZT_ok J J J J fun ba => ?_
           | fail
         refine back _ _ _ _ (by kernel_rfl) ?_
         clear back
         refine Da J J ?_)
      | fail)
    all_goals (refine N_store Tk 5 rfl rfl rfl rfl rfl rfl rfl rfl (by kernel_rfl) ?_)
    all_goals refine D_adv Tk (by decide) rfl rfl ?_
    all_goals (refine DD ?_)
    all_goals refine S_adv Tk rfl 1000 rfl ?_
    all_goals (refine S_pick [2, 3, 6, 7, 8, 1] rfl ?_)
    all_goals exact S_meet (_, _, _, _) trivial rfl ⟨⟨_, rfl, rfl⟩, ⟨_, rfl, rfl⟩, ⟨_, rfl, rfl⟩, trivial⟩ (.blk rfl rfl (.blk rfl rfl (.blk rfl rfl (.blk rfl rfl (.blk rfl rfl (.hp .nil))))))
  rintro ⟨b3, b9, b10, b11⟩ _
  simp only
  refine S_nilO (base := w.heap.size) (e := 73) (size := 5) 20 ?_;refine S_newE 21 ?_;refine Va J J ?_;refine S_loop (α := OS) (fun y => y.i ≤ p.length ∧ y.q.length = y.i ∧ PH.ext w.heap.size G y.G ∧ Qds y.G (p.take y.i) y.q ∧ Off0 y.A ∧ ∀ x ∈ y.q, ∃ A n c, x.2 = .slice A n c) (fun y => p.length - y.i) [(2, b2), (3, b3), (6, b9), (7, b10), (8, b11)]
    (fun y => [(12, .val (.int .i64 (y.i : Nat))), (10, .val (.slice A p.length c)), (11, .val (.int .i64 (p.length : Nat))), (2, .ptr 2 0), (3, .ptr 3 0)])
    (fun y => [.hp 21 (regsHP y.q), .hp 20 (rowO w.heap.size 73 5 y.A y.q.length y.c (procX y.q)), .blk 2 29 (vL [.slice none 0 0, .slice none 0 0, .slice none 0 0, .slice none 0 0, .slice none 0 0]), .blk 3 29 [.v (.slice y.A y.q.length y.c), .s 6 0 3 3, .s 7 0 2 2, .s 8 0 2 2, .v (.slice none 0 0)], .blk 6 3 (vL [.int .i64 0, .int .i64 0, .int .i64 0]), .blk 7 3 (vL [.int .i64 0, .int .i64 0]), .blk 8 23 (vL [.slice none 0 0, .slice none 0 0]), .hp 1 emptyHP]) (fun y => y.G) ⟨0, none, 0, [], G⟩ ⟨Nat.zero_le _, rfl, PH.ext.refl _ _, trivial, .inl rfl, by simp⟩ rfl ?_ ?_ ?_
  · exact ⟨⟨_, J, J⟩, ⟨_, J, J⟩, ⟨_, J, J⟩, ⟨_, J, J⟩, ⟨_, J, J⟩, trivial⟩
  · exact .hp (.hp (.blk J J (.blk J J (.blk J J (.blk J J (.blk J J (.hp .nil)))))))
  rintro ⟨i, A5, c5, q, G1⟩ ⟨hi, hq, hext, hqd, hoff, hqs⟩
  simp only at hi hq hext hqd hoff hqs ⊢
  refine Va J J ?_
  refine S_condp J (fun h5 => ?_) (fun h5 => ?_) <;> refine Va J J ?_
  · have hil : i < p.length := by omega
    obtain ⟨ad, lv, rfl, hcell, hlv⟩ := prg_at (Prg_le hext.le hpp) hil
    obtain ⟨Al, cl, rfl, _⟩ := id hlv
    refine S_index Tk J J J J J J (by omega) (by omega) ?_;refine Va J J ?_;refine S_load Tk J J J J J (by simpa using hcell) ?_;refine Va J J ?_;refine S_cut (α := Nat × Option Addr × Nat × PH × Option Addr × Nat) (fun y => Sts y.2.2.2.1 p[i] (.slice y.2.1 p[i].length y.2.2.1) ∧ PH.ext w.heap.size G1 y.2.2.2.1 ∧ Off0 y.2.2.2.2.1) (fun y => [(2, b2), (3, b3), (6, b9), (7, b10), (8, b11), (18, y.1)]) (fun y => [(12, .val (.int .i64 (i : Nat))), (10, .val (.slice (some ad) p.length c)), (11, .val (.int .i64 (p.length : Nat))), (2, .ptr 2 0), (3, .ptr 3 0)])
      (fun y => [.hp 21 (regsHP q), .hp 20 (rowO w.heap.size 73 5 y.2.2.2.2.1 (q.length + 1) y.2.2.2.2.2 (procX q ++ [.slice (some ⟨y.1, 0, none⟩) 3 3, .slice y.2.1 p[i].length y.2.2.1, .int .i64 0, .int .i64 0, .int .i64 (-1)])), .blk 18 3 (vL [.int .i64 0, .int .i64 0, .int .i64 0]), .blk 2 29 (vL [.slice none 0 0, .slice none 0 0, .slice none 0 0, .slice none 0 0, .slice none 0 0]), .blk 3 29 [.v (.slice y.2.2.2.2.1 (q.length + 1) y.2.2.2.2.2), .s 6 0 3 3, .s 7 0 2 2, .s 8 0 2 2, .v (.slice none 0 0)], .blk 6 3 (vL [.int .i64 0, .int .i64 0, .int .i64 0]), .blk 7 3 (vL [.int .i64 0, .int .i64 0]), .blk 8 23 (vL [.slice none 0 0, .slice none 0 0]), .hp 1 emptyHP]) (fun y => y.2.2.2.1) ?_ ?_
    · refine Ds J J J ?_
      refine Da J J ?_
      repeat' (first
        | exact trivial
        | (refine D_list J ?_)
        | refine And.intro ?_ ?_
        | (refine N_call 4 Tryz.call52 (c_copyStmts _ _ _ hlv) J J J J J J J J J J ?_
           rintro v4 G4 hv4 hext4
           obtain ⟨A4, c4, rfl, _⟩ := id hv4
           refine Da J J ?_)
        | (refine N_turn Tk _ J J J J fun back => ?_
           first
             | refine S_make Tk ZT_ok J J J J J J (by decide) (by decide) J J J fun bm => ?_
             | refine S_slice Tk ZT_ok J J J J (by decide) (by decide) J J J J fun b22 => ?_
             | refine S_app1z Tk 20 22 J J J J J J J J J J J J J J (by intro u hu; simp at hu; rcases hu with rfl | rfl | rfl | rfl | rfl <;> rfl) rfl (fun _ _ => rfl) (by omega) (Nat.le_refl _) fun A6 c6 h6 => ?_
             | fail
           refine back _ _ _ _ (by kernel_rfl) ?_
           clear back
           refine Da J J ?_)
        | fail)
      all_goals (refine N_store Tk 9 rfl rfl rfl rfl rfl rfl rfl rfl (by kernel_rfl) ?_)
      all_goals refine D_adv Tk (by decide) rfl rfl ?_
      all_goals (refine DD ?_)
      all_goals refine S_adv Tk rfl 1000 rfl ?_
      all_goals (refine S_pick [21, 20, 18, 2, 3, 6, 7, 8, 1] rfl ?_)
      all_goals exact S_meet (_, _, _, _, _, _) ⟨hv4, hext4, (by rcases h6 with h6 | h6; exact h6 ▸ hoff; exact .inr h6)⟩ J ⟨⟨_, J, J⟩, ⟨_, J, J⟩, ⟨_, J, J⟩, ⟨_, J, J⟩, ⟨_, J, J⟩, trivial⟩ (.hp (.hp (.blk J J (.blk J J (.blk J J (.blk J J (.blk J J (.blk J J (.hp .nil)))))))))
    rintro ⟨b18, A20, c20, G2, A6, c6⟩ ⟨hv, hext2, hoff6⟩
    simp only at hv hext2 hoff6 ⊢
    refine S_Bhp 18 24 J J J J ?_;refine S_pair 24 21 25 J J J J ?_;refine Va J J ?_;refine S_add J J J J (by omega) ?_;refine Va J J ?_;refine S_again ⟨i + 1, A6, c6, q ++ [(b18, .slice A20 p[i].length c20)], G2⟩ ⟨by simp only; omega, by simp; omega, hext.trans hext2, ?_, hoff6, ?_⟩ (by simp only; omega) rfl ⟨⟨_, rfl, by simp [denO]⟩, ⟨_, rfl, rfl⟩, ⟨_, rfl, rfl⟩, ⟨_, rfl, rfl⟩, ⟨_, rfl, rfl⟩, trivial⟩ ?_
    · simp only
      rw [List.take_succ_eq_append_getElem hil]
      exact Qds_snoc hv (Qds_le hext2.le hqd)
    · intro x hx
      rcases List.mem_append.1 hx with hx | hx
      · exact hqs x hx
      · rw [List.mem_singleton.1 hx]; exact ⟨_, _, _, J⟩
    · simp only [regsHP_snoc, procX_snoc, List.length_append, List.length_singleton]
      exact .hp (.hp (.blk J J (.blk J J (.blk J J (.blk J J (.blk J J (.hp .nil)))))))
  · have hin : i = p.length := by omega
    subst hin
    rw [List.take_length] at hqd
    refine S_capO 20 J fun hnc5 hcm5 _ => ?_;refine S_someO 20 J (by omega) fun gp offp eA => ?_;obtain rfl : offp = 0 := by
      rcases hoff with h | ⟨g, h⟩
      · rw [h] at eA; cases eA
      · rw [h] at eA; cases eA; rfl
    subst eA
    refine S_rowB 20 20 J J J fun sp => ?_;refine S_nilO (base := 0) (e := 3) (size := 1) 30 ?_;refine S_nilO (base := 0) (e := 3) (size := 1) 31 ?_;refine S_nilO (base := 0) (e := 88) (size := 2) 32 ?_
    rcases (by omega : p.length = 1 ∨ p.length = 2 ∨ p.length = 3) with h1 | h1 | h1
    · obtain ⟨l0, rfl⟩ := len1 h1
      obtain ⟨⟨g0, t0⟩, rfl⟩ := len1 (hq.trans h1)
      refine S_unpair 21 500 600 J J ?_;refine S_hpB 500 40 J J J ?_;exact RK [20, 6, 7, 8, 32, 30, 31, 40] (Res.c1 Tk Tryz.results26 rfl rfl) ⟨_, [t0], rfl, rfl, Qds_Tds hqd⟩ ⟨gp, b9, b10, b11, [g0], ⟨c5, sp, none, 0, none, 0, none, 0, 3, [], 2, [], 2, [], fun _ => 3, fun _ => []⟩, ⟨0, [], 0, [], 0, []⟩, rfl, (mok0 ⟨by simpa [open0] using hnc5, hcm5⟩), ⟨⟨rfl, rfl⟩, ⟨rfl, rfl⟩, rfl, rfl⟩, rfl, rfl, rfl⟩ rfl (Bs 5 rfl rfl rfl rfl (.blk rfl rfl (.blk rfl rfl (.blk rfl rfl (.hp (.hp (.hp (.blk rfl rfl .nil)))))))) hext
    · obtain ⟨l0, l1, rfl⟩ := len2 h1
      obtain ⟨⟨g0, t0⟩, ⟨g1, t1⟩, rfl⟩ := len2 (hq.trans h1)
      refine S_unpair 21 501 601 J J ?_;refine S_hpB 501 41 J J J ?_;refine S_unpair 601 500 600 J J ?_;refine S_hpB 500 40 J J J ?_;exact RK [20, 6, 7, 8, 32, 30, 31, 40, 41] (Res.c1 Tk Tryz.results26 rfl rfl) ⟨_, [t0, t1], rfl, rfl, Qds_Tds hqd⟩ ⟨gp, b9, b10, b11, [g0, g1], ⟨c5, sp, none, 0, none, 0, none, 0, 3, [], 2, [], 2, [], fun _ => 3, fun _ => []⟩, ⟨0, [], 0, [], 0, []⟩, rfl, (mok0 ⟨by simpa [open0] using hnc5, hcm5⟩), ⟨⟨rfl, rfl⟩, ⟨rfl, rfl⟩, rfl, rfl⟩, rfl, rfl, rfl⟩ rfl (Bs 10 rfl rfl rfl rfl (.blk rfl rfl (.blk rfl rfl (.blk rfl rfl (.hp (.hp (.hp (.blk rfl rfl (.blk rfl rfl .nil))))))))) hext
    · obtain ⟨l0, l1, l2, rfl⟩ := len3 h1
      obtain ⟨⟨g0, t0⟩, ⟨g1, t1⟩, ⟨g2, t2⟩, rfl⟩ := len3 (hq.trans h1)
      refine S_unpair 21 502 602 J J ?_;refine S_hpB 502 42 J J J ?_;refine S_unpair 602 501 601 J J ?_;refine S_hpB 501 41 J J J ?_;refine S_unpair 601 500 600 J J ?_;refine S_hpB 500 40 J J J ?_;exact RK [20, 6, 7, 8, 32, 30, 31, 40, 41, 42] (Res.c1 Tk Tryz.results26 rfl rfl) ⟨_, [t0, t1, t2], rfl, rfl, Qds_Tds hqd⟩ ⟨gp, b9, b10, b11, [g0, g1, g2], ⟨c5, sp, none, 0, none, 0, none, 0, 3, [], 2, [], 2, [], fun _ => 3, fun _ => []⟩, ⟨0, [], 0, [], 0, []⟩, rfl, (mok0 ⟨by simpa [open0] using hnc5, hcm5⟩), ⟨⟨rfl, rfl⟩, ⟨rfl, rfl⟩, rfl, rfl⟩, rfl, rfl, rfl⟩ rfl (Bs 15 rfl rfl rfl rfl (.blk rfl rfl (.blk rfl rfl (.blk rfl rfl (.hp (.hp (.hp (.blk rfl rfl (.blk rfl rfl (.blk rfl rfl .nil)))))))))) hext
end
section
attribute [local irreducible] X Pure Mod
theorem c_outOf (p : List (List Stm)) (pv : Value) (who : Int) (b : Nat) (G : PH) (hp : Prg G p pv) (hb : gcell G ⟨b, 0, none⟩ = some pv) : Pure Tryz.prog 25 [.int .i64 who, .pointer (some ⟨b, 0, none⟩)] G fun v G' => v = .bool (decide (who < 0) || decide ((p.length : Int) ≤ who)) ∧ G' = G := by
 obtain ⟨Ap, cp, rfl, _⟩ := id hp
 refine Pure.intro Tryz.func25 Tryz.ntmps25 J J fun w => ?_; refine Va J J ?_
 by_cases h : who < 0
 ·refine GT J J (by simpa using h) ?_
  refine Va J J ?_;exact S_retp (Res.t1 Tryz.results25 J J) XR ⟨by simp [h], J⟩
 ·refine GF J J (by simpa using h) ?_
  refine Va J J ?_;refine S_load Tk J J J J J hb ?_;refine Va J J ?_;exact S_retp (Res.t1 Tryz.results25 J J) XR ⟨by simp [h], J⟩
structure WSi where
 i : Nat
 V : Wld
 B : Nat
 ts : List Value
 G : PH
end
section
attribute [local irreducible] X Pure Mod
def psh (p : Prc) : PSh := (3, p.todo)
def wsh (W : Wld) : WSh := ⟨W.procs.map psh, 3, 2, [W.q0.length, W.q1.length], W.said.length⟩
theorem FL_turn {G G' : PH} {s1 s2 s3 s4 s5 : Shp} {v1 v2 v3 v4 v5 : Value} (h : FL G G' [s2, s3, s5, s1, s4] [v2, v3, v5, v1, v4]) : FL G G' [s1, s2, s3, s4, s5] [v1, v2, v3, v4, v5] := by
  obtain ⟨h1, h2⟩ := h
  simp only [LiesL] at h1
  obtain ⟨a2, a3, a5, a1, a4, _⟩ := h1
  refine ⟨⟨a1, a2, a3, a4, a5, by simp [LiesL]⟩, ?_⟩
  refine (List.Perm.nodup_iff ?_).1 h2
  refine List.perm_iff_count.2 fun x => ?_
  simp only [adsL, List.count_append, List.count_nil]
  omega
theorem FL_proc {G G1 G2 : PH} (h1 : G.le G1) (h2 : G1.le G2) {n : Nat} {L : List Stm} {u t : Value} (a b c : Int) (hu : FT G G1 (shI n) u) (ht : FT G1 G2 (shT L) t) : FL G G2 (tcP (n, L)) [u, t, .int .i64 a, .int .i64 b, .int .i64 c] := by
  have q3 : FL G2 G2 ([.int] ++ ([.int] ++ [.int])) ([.int .i64 a] ++ ([.int .i64 b] ++ [.int .i64 c])) := (FL_int G2 G2 a).app (PH.le.refl _) (PH.le.refl _) ((FL_int G2 G2 b).app (PH.le.refl _) (PH.le.refl _) (FL_int G2 G2 c))
  exact (FL_one hu).app h1 h2 ((FL_one ht).app h2 (PH.le.refl _) q3)
structure CYn where
  b3 : Nat
  Ac : Option Addr
  cc : Nat
  Ar : Option Addr
  cr : Nat
  Ad : Option Addr
  cd : Nat
  G : PH
structure CLn where
  i : Nat
  A : Option Addr
  c : Nat
  xs : List Value
  G : PH
theorem c_wcopyN (W : Wld) (v : Value) (G : PH) (hW : WG G W v) (hn : W.procs.length ≤ 3) : Pure Tryz.prog 29 [v] G fun v' G' => WG G' W v' ∧ ∃ cs : List Value, v' = .agg cs.toArray ∧ FL G G' (tcW (wsh W)) cs := by
  obtain ⟨vp, vc, vr, vs, vd, rfl, hpr, hce, hro, hsg, hsd⟩ := hW
  obtain ⟨Ac, cc, rfl, _⟩ := id hce
  obtain ⟨Ar, cr, rfl, _⟩ := id hro
  obtain ⟨Ad, cd, rfl, _⟩ := id hsd
  obtain ⟨Ap, cp, rfl, _⟩ := id hpr
  obtain ⟨As, cs', rfl, _⟩ := id hsg
  refine Pure.intro Tryz.func29 Tryz.ntmps29 J J fun w => ?_; refine Va J J ?_;refine S_box J J J J J fun b1 => ?_;refine Va J J ?_;refine AZ ZT_ok J J J J fun b2 => ?_;refine Va J J ?_;refine S_cut (α := CYn) (fun y => PH.ext w.heap.size G y.G ∧ IntsU y.G [W.c0, W.c1, W.c2] (.slice y.Ac 3 y.cc) ∧ IntsU y.G [W.m0, W.m1] (.slice y.Ar 2 y.cr) ∧ SaysU y.G W.said (.slice y.Ad W.said.length y.cd) ∧ FL G y.G [shI 3, shI 2, shY W.said.length] [.slice y.Ac 3 y.cc, .slice y.Ar 2 y.cr, .slice y.Ad W.said.length y.cd]) (fun y => [(1, b1), (2, b2), (3, y.b3)]) (fun y => [(1, .ptr 1 0), (2, .ptr 2 0), (3, .ptr 3 0)])
    (fun y => [.blk 1 29 (vL [.slice Ap W.procs.length cp, .slice Ac [W.c0, W.c1, W.c2].length cc, .slice Ar [W.m0, W.m1].length cr, .slice As [W.q0, W.q1].length cs', .slice Ad W.said.length cd]), .blk 2 29 (vL [.slice none 0 0, .slice none 0 0, .slice none 0 0, .slice none 0 0, .slice none 0 0]),
      .blk 3 29 (vL [.slice none 0 0, .slice y.Ac 3 y.cc, .slice y.Ar 2 y.cr, .slice none 0 0, .slice y.Ad W.said.length y.cd])]) (fun y => y.G) ?_ ?_
  · refine Ds J J J ?_
    refine Da J J ?_
    repeat' (first
      | exact trivial
      | (refine D_list J ?_)
      | refine And.intro ?_ ?_
      | (refine N_call 2 Tryz.call60 (c_CloneFT _ _ _ hce) J J J J J J J J J J ?_
         rintro v2 G2 ⟨hv2, ft2⟩ hext2
         obtain ⟨A2, c2, rfl, _⟩ := id hv2
         refine Da J J ?_)
      | (refine N_call 5 Tryz.call60 (c_CloneFT _ _ _ (IntsU_le hext2.le hro)) J J J J J J J J J J ?_
         rintro v5 G5 ⟨hv5, ft5⟩ hext5
         obtain ⟨A5, c5, rfl, _⟩ := id hv5
         refine Da J J ?_)
      | (refine N_call 8 Tryz.call61 (c_CloneFY _ _ _ (Sr_mono (hext2.le.trans hext5.le) (fun _ _ _ h => h) hsd)) J J J J J J J J J J ?_
         rintro v8 G8 ⟨hv8, ft8⟩ hext8
         obtain ⟨A8, c8, rfl, _⟩ := id hv8
         refine Da J J ?_)
      | (refine N_turn Tk 10 J J J J fun back => ?_
         refine AZ ZT_ok J J J J fun b3 => ?_;refine back _ _ _ _ (by kernel_rfl) ?_
         clear back
         refine Da J J ?_)
      | fail)
    all_goals (refine N_store Tk 11 rfl rfl rfl rfl rfl rfl rfl rfl (by kernel_rfl) ?_)
    all_goals refine D_adv Tk (by decide) rfl rfl ?_
    all_goals (refine DD ?_)
    all_goals refine S_adv Tk rfl 1000 rfl ?_
    all_goals (refine S_pick [1, 2, 3] rfl ?_)
    all_goals exact S_meet ⟨_, _, _, _, _, _, _, _⟩ ⟨(hext2.trans hext5).trans hext8, IntsU_le (hext5.trans hext8).le hv2, IntsU_le hext8.le hv5, hv8, (FL_one ft2).app hext2.le (hext5.le.trans hext8.le) ((FL_one ft5).app hext5.le hext8.le (FL_one ft8))⟩ rfl ⟨⟨_, rfl, rfl⟩, ⟨_, rfl, rfl⟩, ⟨_, rfl, rfl⟩, trivial⟩ (.blk rfl rfl (.blk rfl rfl (.blk rfl rfl .nil)))
  rintro ⟨b3, A2, c2, A5, c5, A8, c8, G0⟩ ⟨hext0, hv2, hv5, hv8, fl0⟩
  simp only at hext0 hv2 hv5 hv8 fl0 ⊢
  refine S_nilO (base := w.heap.size) (e := 73) (size := 5) 20 ?_;refine Va J J ?_;refine S_loop (α := CLn) (fun y => y.i ≤ W.procs.length ∧ PH.ext w.heap.size G0 y.G ∧ Cs 5 (prcRep y.G) (W.procs.take y.i) y.xs ∧ FL G0 y.G (((W.procs.take y.i).map psh).flatMap tcP) y.xs) (fun y => W.procs.length - y.i) [(1, b1), (2, b2), (3, b3)]
    (fun y => [(21, .val (.int .i64 (y.i : Nat))), (19, .val (.slice Ap W.procs.length cp)), (20, .val (.int .i64 (W.procs.length : Nat))), (1, .ptr 1 0), (2, .ptr 2 0), (3, .ptr 3 0)])
    (fun y => [.hp 20 (rowO w.heap.size 73 5 y.A y.i y.c y.xs), .blk 1 29 (vL [.slice Ap W.procs.length cp, .slice Ac [W.c0, W.c1, W.c2].length cc, .slice Ar [W.m0, W.m1].length cr, .slice As [W.q0, W.q1].length cs', .slice Ad W.said.length cd]), .blk 2 29 (vL [.slice none 0 0, .slice none 0 0, .slice none 0 0, .slice none 0 0, .slice none 0 0]),
      .blk 3 29 (vL [.slice y.A y.i y.c, .slice A2 3 c2, .slice A5 2 c5, .slice none 0 0, .slice A8 W.said.length c8])]) (fun y => y.G) ⟨0, none, 0, [], G0⟩ ⟨Nat.zero_le _, PH.ext.refl _ _, rfl, FL_nil⟩ rfl ?_ ?_ ?_
  · exact ⟨⟨_, J, J⟩, ⟨_, J, J⟩, ⟨_, J, J⟩, ⟨_, J, J⟩, ⟨_, J, J⟩, ⟨_, J, J⟩, trivial⟩
  · exact .hp (.blk J J (.blk J J (.blk J J .nil)))
  rintro ⟨i, A20, c20, xs, G1⟩ ⟨hi, hext, hcs, hfl⟩
  simp only at hi hext hcs hfl ⊢
  refine Va J J ?_
  refine S_condp J (fun h => ?_) (fun h => ?_) <;> refine Va J J ?_
  · have hil : i < W.procs.length := by omega
    obtain ⟨ad, ys, rfl, hys, vr, vt, rfl, hvr, hvt⟩ := Sr_at (Sr_mono (hext0.trans hext).le (fun _ _ _ h => prcRep_le (hext0.trans hext).le h) hpr) hil
    obtain ⟨Ar3, cr3, rfl, _⟩ := id hvr
    obtain ⟨At3, ct3, rfl, _⟩ := id hvt
    refine S_index Tk J J J J J J (by omega) (by omega) ?_;refine Va J J ?_;refine S_loadA Tk J J J J J (by simpa using hys) ?_;refine Va J J ?_;refine AZ ZT_ok J J J J fun b5 => ?_;refine Va J J ?_;refine Ds J J J ?_;refine Da J J ?_;refine D_sole 2 J J (N_call 2 Tryz.call60 (c_CloneFT _ _ _ hvr) J J J J J J J J J J ?_)
    rintro vb G2 ⟨hvb, ftb⟩ hext2
    obtain ⟨Ab, cb, rfl, _⟩ := id hvb
    refine Da J J ?_;refine D_sole 5 J J (N_call 5 Tryz.call52 (c_copyStmtsN _ _ _ (Sts_le hext2.le hvt)) J J J J J J J J J J ?_)
    rintro ve G3 ⟨hve, fte⟩ hext3
    obtain ⟨Ae, ce, rfl, _⟩ := id hve
    refine Da J J ?_;refine Ns 7 J J J J J J J J J ?_;refine Da J J ?_;refine Ns 9 J J J J J J J J J ?_;refine DD ?_;refine Va J J ?_;refine S_slice Tk ZT_ok J J J J (by decide) (by decide) J J J J fun b36 => ?_;refine Va J J ?_
    refine S_app1 Tk 20 36 J J J J J J J J J J J J J J (by intro u hu; simp at hu; rcases hu with rfl | rfl | rfl | rfl | rfl <;> rfl) rfl (fun _ _ => rfl) (by omega) (Nat.le_refl _) fun A6 c6 => ?_
    refine Va J J ?_;refine S_add J J J J (by omega) ?_;refine Va J J ?_
    have hle := hext2.le.trans hext3.le
    refine S_again ⟨i + 1, A6, c6, xs ++ [.slice Ab [W.procs[i].r0, W.procs[i].r1, W.procs[i].r2].length cb, .slice Ae W.procs[i].todo.length ce, .int .i64 W.procs[i].mode, .int .i64 W.procs[i].on, .int .i64 W.procs[i].room], G3⟩ ⟨by simp only; omega, (hext.trans hext2).trans hext3, ?_, ?_⟩ (by simp only; omega) rfl ⟨⟨_, rfl, by simp [denO]⟩, ⟨_, rfl, rfl⟩, ⟨_, rfl, rfl⟩, ⟨_, rfl, rfl⟩, ⟨_, rfl, rfl⟩, ⟨_, rfl, rfl⟩, trivial⟩ ?_
    rotate_left 2
    · first | exact .drop (.hp (.blk J J (.blk J J (.blk J J .nil)))) | exact .drop (.drop (.hp (.blk J J (.blk J J (.blk J J .nil))))) | exact .hp (.blk J J (.blk J J (.blk J J .nil))) | fail
    · simp only
      rw [List.take_succ_eq_append_getElem hil]
      exact Cs_append (Cs_mono (fun s _ cs h => prcRep_le hle h) hcs) ⟨_, _, J, IntsU_le hext3.le hvb, hve⟩ J
    · simp only
      rw [List.take_succ_eq_append_getElem hil, List.map_append, List.flatMap_append]
      exact hfl.app hext.le hle (FL_proc hext2.le hext3.le _ _ _ ftb fte)
  have hin : i = W.procs.length := by omega
  subst hin
  rw [List.take_length] at hcs hfl
  refine S_freezeW 20 J J (Nat.le_refl _) fun Gp hextp hncp hcmp hclp hnewp => ?_
  have ftp : FT G0 Gp (shP (W.procs.map psh)) (.slice A20 W.procs.length c20) := FT_row hext.le hextp.le hfl (by rw [fm_len tcP_len, List.length_map]) (by omega) hncp hcmp hnewp
  have hvp : Sr Gp 5 (prcRep Gp) W.procs _ := frz (Cs_mono (fun s _ cs h => prcRep_le hextp.le h) hcs) rfl (by omega) hncp hcmp hclp
  refine S_nilO (base := w.heap.size) (e := 23) (size := 1) 40 ?_;refine Va J J ?_;refine S_loop (α := CLn) (fun y => y.i ≤ [W.q0, W.q1].length ∧ PH.ext w.heap.size Gp y.G ∧ Cs 1 (intsRep y.G) ([W.q0, W.q1].take y.i) y.xs ∧ FL Gp y.G (([W.q0, W.q1].take y.i).map fun q => shI q.length) y.xs) (fun y => [W.q0, W.q1].length - y.i) [(1, b1), (2, b2), (3, b3)]
    (fun y => [(43, .val (.int .i64 (y.i : Nat))), (41, .val (.slice As [W.q0, W.q1].length cs')), (42, .val (.int .i64 ([W.q0, W.q1].length : Nat))), (1, .ptr 1 0), (2, .ptr 2 0), (3, .ptr 3 0)])
    (fun y => [.hp 40 (rowO w.heap.size 23 1 y.A y.i y.c y.xs), .blk 2 29 (vL [.slice none 0 0, .slice none 0 0, .slice none 0 0, .slice none 0 0, .slice none 0 0]),
      .blk 3 29 (vL [.slice A20 W.procs.length c20, .slice A2 3 c2, .slice A5 2 c5, .slice y.A y.i y.c, .slice A8 W.said.length c8])]) (fun y => y.G) ⟨0, none, 0, [], Gp⟩ ⟨Nat.zero_le _, PH.ext.refl _ _, rfl, FL_nil⟩ rfl ?_ ?_ ?_
  · exact ⟨⟨_, J, J⟩, ⟨_, J, J⟩, ⟨_, J, J⟩, ⟨_, J, J⟩, ⟨_, J, J⟩, ⟨_, J, J⟩, trivial⟩
  · exact .hp (.drop (.blk J J (.blk J J .nil)))
  rintro ⟨i, A40, c40, xs4, G4⟩ ⟨hi, hext4, hcs4, hfl4⟩
  simp only at hi hext4 hcs4 hfl4 ⊢
  refine Va J J ?_
  refine S_condp J (fun h7 => ?_) (fun h7 => ?_) <;> refine Va J J ?_
  · have hil : i < [W.q0, W.q1].length := by omega
    have hle4 := ((hext0.trans hext).trans (hextp.trans hext4)).le
    obtain ⟨ad, ys, rfl, hys, vq, rfl, hvq⟩ := Sr_at (Sr_mono hle4 (fun _ _ _ h => intsRep_le hle4 h) hsg) hil
    obtain ⟨Aq, cq, rfl, _⟩ := id hvq
    refine S_index Tk J J J J J J (by omega) (by omega) ?_;refine Va J J ?_;refine S_load Tk J J J J J (by simpa using hys.1) ?_;refine Va J J ?_;refine Ds J J J ?_;refine Da J J ?_;refine D_sole 3 J J (N_call 3 Tryz.call60 (c_CloneFT _ _ _ hvq) J J J J J J J J J J ?_)
    rintro vb G6 ⟨hvb, ftb⟩ hext6
    obtain ⟨Ab, cb, rfl, _⟩ := id hvb
    refine Da J J ?_;refine Nt 4 J J J J J J fun back => ?_;refine S_slice Tk ZT_ok J J J J (by decide) (by decide) J J J J fun b51 => ?_;refine back _ _ _ _ (by kernel_rfl) ?_; clear back
    refine Da J J ?_;refine Nt 5 J J J J J J fun back => ?_;refine S_app1 Tk 40 51 J J J J J J J J J J J J J J (by intro u hu; simp at hu; rcases hu with rfl; rfl) rfl (fun _ _ => rfl) (by omega) (Nat.le_refl _) fun A6 c6 => ?_;refine back _ _ _ _ (by kernel_rfl) ?_; clear back
    refine Da J J ?_;refine Ns 7 J J J J J J J J J ?_;refine DD ?_;refine Va J J ?_;refine S_add J J J J (by simp at hil; omega) ?_;refine Va J J ?_;refine S_again ⟨i + 1, A6, c6, xs4 ++ [.slice Ab ([W.q0, W.q1][i]).length cb], G6⟩ ⟨by simp only; omega, hext4.trans hext6, ?_, ?_⟩ (by simp only; omega) rfl ⟨⟨_, rfl, by simp [denO]⟩, ⟨_, rfl, rfl⟩, ⟨_, rfl, rfl⟩, ⟨_, rfl, rfl⟩, ⟨_, rfl, rfl⟩, ⟨_, rfl, rfl⟩, trivial⟩ ?_
    rotate_left 2
    · first | exact .drop (.hp (.blk J J (.blk J J .nil))) | exact .hp (.blk J J (.blk J J .nil)) | exact .drop (.drop (.hp (.blk J J (.blk J J .nil)))) | fail
    · simp only
      rw [List.take_succ_eq_append_getElem hil]
      exact Cs_append (Cs_mono (fun s _ cs h => intsRep_le hext6.le h) hcs4) ⟨_, J, hvb⟩ J
    · simp only
      rw [List.take_succ_eq_append_getElem hil, List.map_append]
      exact hfl4.app hext4.le hext6.le (FL_one ftb)
  · have hin : i = [W.q0, W.q1].length := by omega
    subst hin
    rw [List.take_length] at hcs4 hfl4
    refine S_freezeW 40 J J (Nat.le_refl _) fun Gf hextf hncf hcmf hclf hnewf => ?_
    have ftf : FT Gp Gf (shII [W.q0.length, W.q1.length]) (.slice A40 [W.q0, W.q1].length c40) := FT_row hext4.le hextf.le hfl4 (by simp) (by simp) hncf hcmf hnewf
    have hvf : Sr Gf 1 (intsRep Gf) [W.q0, W.q1] _ := frz (Cs_mono (fun s _ cs h => intsRep_le hextf.le h) hcs4) rfl (by simp) hncf hcmf hclf
    have hle := hext4.le.trans hextf.le
    have hle2 := hext.le.trans (hextp.le.trans hle)
    exact S_retp (Res.c1 Tk Tryz.results29 rfl rfl) (((hext0.trans hext).trans (hextp.trans hext4)).trans hextf) ⟨⟨_, _, _, _, _, rfl, Sr_mono hle (fun _ _ _ h => prcRep_le hle h) hvp, IntsU_le hle2 hv2, IntsU_le hle2 hv5, hvf, Sr_mono hle2 (fun _ _ _ h => h) hv8⟩, [_, _, _, _, _], rfl, FL_turn (FL.app hext0.le hle2 fl0 ((FL_one ftp).app (hext.le.trans hextp.le) hle (FL_one ftf)))⟩
end
section
attribute [local irreducible] X Pure Mod
theorem g_boolY : Tryz.prog.eqGuardType Tryz.prog.depth 4 = false := by kernel_rfl
theorem u_boolY : Tryz.prog.underlying 4 = some .bool := by kernel_rfl
def EqS (s : Stm) : Prop := ∀ (cs ds : List Value) (G : PH), Stm.rep G s cs → Stm.rep G s ds → Pure Tryz.prog 64 [.agg cs.toArray, .agg ds.toArray] G fun v' G' => v' = .bool true ∧ G' = G
def EqL (L : List Stm) : Prop := ∀ (v u : Value) (G : PH), Sts G L v → Sts G L u → Pure Tryz.prog 33 [v, u] G fun v' G' => v' = .bool true ∧ G' = G
theorem c_eqStmt (s : Stm) (hx : EqL s.body) (hy : EqL s.els) : EqS s := by
 intro cs ds G hrep hrep'
 obtain ⟨k, a, b, n, x, y⟩ := s
 obtain ⟨vx, vy, rfl, _, _, _, _, hvx, hvy⟩ := Stm.rep_iff.1 hrep
 obtain ⟨ux, uy, rfl, _, _, _, _, hux, huy⟩ := Stm.rep_iff.1 hrep'
 simp only [Stm.body, Stm.els] at hx hy
 have hcx := hx _ _ G hvx hux
 have hcy := hy _ _ G hvy huy
 obtain ⟨Ax, cx, rfl, _⟩ := id hvx
 obtain ⟨Ay, cy, rfl, _⟩ := id hvy
 obtain ⟨Bx, ex, rfl, _⟩ := id hux
 obtain ⟨By, ey, rfl, _⟩ := id huy
 refine Pure.intro Tryz.func64 Tryz.ntmps64 J J fun w => ?_; refine Va J J ?_;refine S_box J J J J J fun b1 => ?_;refine Va J J ?_;refine S_box J J J J J fun b2 => ?_;refine Va J J ?_;refine RF J (by simp) ?_;refine Va J J ?_;refine RF J (by simp) ?_;refine Va J J ?_;refine RF J (by simp) ?_;refine Va J J ?_;refine RF J (by simp) ?_;refine Va J J ?_;refine S_call Tryz.call33 hcx J J J ?_;rintro v1 G1 ⟨rfl, rfl⟩ _
 refine Va J J ?_;refine RF J J ?_;refine Va J J ?_;refine S_call Tryz.call33 hcy J J J ?_;rintro v2 G2 ⟨rfl, rfl⟩ _
 refine Va J J ?_;refine RF J J ?_;refine Va J J ?_;exact S_retp (Res.t1 Tryz.results64 J J) XR ⟨J, J⟩
theorem c_eqStmtS (L : List Stm) (hs : ∀ k (hk : k < L.length), EqS L[k]) : EqL L := by
 intro v u G hv hu
 obtain ⟨A, c, rfl, _⟩ := id hv
 obtain ⟨B, e, rfl, _⟩ := id hu
 refine Pure.intro Tryz.func33 Tryz.ntmps33 J J fun w => ?_; refine Va J J ?_;refine RF J (by simp) ?_;refine Va J J ?_;refine S_loop (α := Nat) (fun k => k ≤ L.length) (fun k => L.length - k) []
  (fun k => [(5, .val (.int .i64 (k : Nat))), (0, .val (.slice A L.length c)), (1, .val (.slice B L.length e))]) (fun _ => []) (fun _ => G) 0 (Nat.zero_le _) rfl ⟨⟨_, rfl, rfl⟩, ⟨_, rfl, rfl⟩, ⟨_, rfl, rfl⟩, trivial⟩ .nil ?_
 rintro k hk
 refine Va J J ?_
 refine S_condp J (fun h5 => ?_) (fun h5 => ?_) <;> refine Va J J ?_
 ·have hkl : k < L.length := by omega
  obtain ⟨ad, cs, rfl, hcell, hrep⟩ := Sr_at hv hkl
  obtain ⟨ae, ds, rfl, dcell, drep⟩ := Sr_at hu hkl
  refine Ds J J J ?_;refine Da J J ?_;refine D_val 2 J J J J J J J J J (V_index Tk J J J J (by omega) (by omega)) ?_;refine D_val 6 J J J J J J J J J (V_index Tk J J J J (by omega) (by omega)) ?_;refine Da J J ?_;refine D_val 3 J J J J J J J J J (V_loadA Tk J J (Stm.rep_len hrep) hcell) ?_;refine D_val 7 J J J J J J J J J (V_loadA Tk J J (Stm.rep_len drep) dcell) ?_;refine Da J J ?_;refine D_sole 8 J J (N_call 8 Tryz.call64 (hs k hkl _ _ _ hrep drep) J J J J J J J J J J ?_)
  rintro v1 G1 ⟨rfl, rfl⟩ _
  refine Da J J ?_;refine DD ?_;refine Va J J ?_;refine RF J J ?_;refine Va J J ?_;refine S_add J J J J (by omega) ?_;refine Va J J ?_;exact S_again (k + 1) (by omega) (by omega) J ⟨⟨_, J, by simp [denO]⟩, ⟨_, J, J⟩, ⟨_, J, J⟩, trivial⟩ .nil
 ·exact S_retp (Res.t1 Tryz.results33 J J) XR ⟨J, J⟩
theorem EqL_of (L : List Stm) (h : ∀ k (hk : k < L.length), EqL L[k].body ∧ EqL L[k].els) : EqL L :=
 c_eqStmtS L fun k hk => c_eqStmt _ (h k hk).1 (h k hk).2
mutual
theorem EqL_stm : ∀ (s : Stm), EqL s.body ∧ EqL s.els
 | .mk k a b n x y => ⟨EqL_all x, EqL_all y⟩
theorem EqL_at : ∀ (L : List Stm) (k : Nat) (hk : k < L.length), EqL L[k].body ∧ EqL L[k].els
 | [], k, hk => absurd hk (by simp)
 | s :: L, 0, _ => EqL_stm s
 | s :: L, k + 1, hk => EqL_at L k (by simpa using hk)
theorem EqL_all : ∀ (L : List Stm), EqL L
 | L => EqL_of L (EqL_at L)
end
theorem c_eqSS (p : List (List Stm)) (v u : Value) (G : PH) (hv : Prg G p v) (hu : Prg G p u) : Pure Tryz.prog 10 [v, u] G fun v' G' => v' = .bool true ∧ G' = G := by
 obtain ⟨A, c, rfl, _⟩ := id hv
 obtain ⟨B, e, rfl, _⟩ := id hu
 refine Pure.intro Tryz.func10 Tryz.ntmps10 J J fun w => ?_; refine Va J J ?_;refine RF J (by simp) ?_;refine Va J J ?_;refine S_loop (α := Nat) (fun k => k ≤ p.length) (fun k => p.length - k) []
  (fun k => [(5, .val (.int .i64 (k : Nat))), (0, .val (.slice A p.length c)), (1, .val (.slice B p.length e))]) (fun _ => []) (fun _ => G) 0 (Nat.zero_le _) rfl ⟨⟨_, rfl, rfl⟩, ⟨_, rfl, rfl⟩, ⟨_, rfl, rfl⟩, trivial⟩ .nil ?_
 rintro k hk
 refine Va J J ?_
 refine S_condp J (fun h5 => ?_) (fun h5 => ?_) <;> refine Va J J ?_
 ·have hkl : k < p.length := by omega
  obtain ⟨ad, cs, rfl, hcell, x1, rfl, hx1⟩ := Sr_at hv hkl
  obtain ⟨ae, ds, rfl, dcell, x2, rfl, hx2⟩ := Sr_at hu hkl
  have hq := EqL_all p[k] _ _ G hx1 hx2
  generalize p[k] = q at hq hx1 hx2
  obtain ⟨A1, c1, rfl, _⟩ := id hx1
  obtain ⟨A2, c2, rfl, _⟩ := id hx2
  refine Ds J J J ?_;refine Da J J ?_;refine D_val 2 J J J J J J J J J (V_index Tk J J J J (by omega) (by omega)) ?_;refine D_val 6 J J J J J J J J J (V_index Tk J J J J (by omega) (by omega)) ?_;refine Da J J ?_;refine D_val 3 J J J J J J J J J (V_load Tk J J J (by simpa [add_zero'] using gcells_at hcell 0 _ J)) ?_;refine D_val 7 J J J J J J J J J (V_load Tk J J J (by simpa [add_zero'] using gcells_at dcell 0 _ J)) ?_
  refine Da J J ?_;refine D_sole 8 J J (N_call 8 Tryz.call33 (hq) J J J J J J J J J J ?_)
  rintro v1 G1 ⟨rfl, rfl⟩ _
  refine Da J J ?_;refine DD ?_;refine Va J J ?_;refine RF J J ?_;refine Va J J ?_;refine S_add J J J J (by omega) ?_;refine Va J J ?_;exact S_again (k + 1) (by omega) (by omega) J ⟨⟨_, J, by simp [denO]⟩, ⟨_, J, J⟩, ⟨_, J, J⟩, trivial⟩ .nil
 ·exact S_retp (Res.t1 Tryz.results10 J J) XR ⟨J, J⟩
end
section
attribute [local irreducible] X Pure Mod
end
end Go.Proofs.YtcbdilccmjpnbaaGreat
