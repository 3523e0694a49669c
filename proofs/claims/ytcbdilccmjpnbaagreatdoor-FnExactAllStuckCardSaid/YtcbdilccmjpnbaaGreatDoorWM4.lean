/- Walks of the program's functions, one after the other (part 4); without conditions of their own. -/
import Derived.Test.YtcbdilccmjpnbaaGreatDoorWM2
import Derived.Test.YtcbdilccmjpnbaaGreatDoorWM3
set_option linter.unusedVariables false
set_option linter.unusedSimpArgs false
set_option maxRecDepth 100000
set_option maxHeartbeats 4000000
open Go.RowKit
namespace Go.Proofs.YtcbdilccmjpnbaaGreatDoor
section
attribute [local irreducible] X Pure Mod
def Wld.reg (W : Wld) (who : Nat) (k : Int) : Int := match W.procs[who]? with
 | some p => p.get k
 | none => 0
theorem c_dSay (W : Wld) (who : Nat) (b : Nat) (ts : List Value) (G : PH) (h1 : 1 ≤ W.procs.length) (h3 : W.procs.length ≤ 3) (ht : Tds G W.procs ts) (hw : who < W.procs.length) (hsd : W.said.length ≤ 1000000) (a : Int) (ha : a = 0 ∨ a = 1 ∨ a = 2) :
  Mod Tryz.prog 160 [.agg #[.int .i64 a], .pointer (some ⟨b, 0, none⟩), .int .i64 (who : Nat)] G (worldP b W ts) fun v G' A' => G' = G ∧ A' = worldP b { W with said := W.said ++ [((who : Int), W.reg who a)] } ts := by
 refine Mod.intro Tryz.func160 Tryz.ntmps160 J J fun w S => ?_;refine Va J J ?_;refine S_box J J J J J fun b3 => ?_
 replace hsd : W.said.length ≤ 1000000 := hsd
 obtain ⟨ps, x0, x1, x2, m0, m1, q0, q1, sd⟩ := W
 rcases shape h1 h3 ht with ⟨⟨a0, a1, a2, td0, mo0, on0, ro0⟩, A0, k0, rfl, rfl, s0⟩ | ⟨⟨a0, a1, a2, td0, mo0, on0, ro0⟩, A0, k0, ⟨b0, b1, b2, td1, mo1, on1, ro1⟩, A1, k1, rfl, rfl, s0, s1⟩ | ⟨⟨a0, a1, a2, td0, mo0, on0, ro0⟩, A0, k0, ⟨b0, b1, b2, td1, mo1, on1, ro1⟩, A1, k1, ⟨d0, d1, d2, td2, mo2, on2, ro2⟩, A2, k2, rfl, rfl, s0, s1, s2⟩
 ·obtain rfl : who = 0 := by simpa using hw
  replace hsd : sd.length ≤ 1000000 := hsd
  refine OpP 1 1 J J J J fun bp bc br bs bg kp sp asd ksd aq0 kq0 aq1 kq1 kc spc kr spr ks sps kg spg hbg hmk => ?_; obtain ⟨g0, rfl⟩ := len1 hbg; clear hbg; refine NM J J ?_; dsimp only [wEnts, wCels, procCs, regEs, WX.of, vi]
  refine Va J J ?_
  rcases ha with rfl | rfl | rfl <;>
  ·refine Ds J J J ?_
   refine Da J J ?_;refine Nt 19 J J J J J J fun back => ?_;refine S_slice Tk ZT_ok J J J J (by decide) (by decide) J J J J fun b25 => ?_;refine back _ _ _ _ (by kernel_rfl) ?_; clear back
   refine Da J J ?_;refine Nt 20 J J J J J J fun back => ?_;refine S_appSaid Tk 1004 25 J J J J J J J J J J J J J (fun _ _ => J) hsd fun A' c' => ?_;refine back _ _ _ _ (by kernel_rfl) ?_; clear back
   refine Da J J ?_;refine Ns 23 J J J J J J J J J ?_;refine DD ?_;refine Va J J ?_;exact EK (1007 :: wKeys 1) (Res.t0 Tryz.results160) ⟨J, J⟩ (Wpp [_] kg spg J ‹_› J J J J J J J J) J (.blk J J (Wsub 5 J J J J J J J J J J J J J J J J (Bs 3 J J J J .nil))) XR
 ·rcases (by simp at hw; omega : who = 0 ∨ who = 1) with rfl | rfl
  ·replace hsd : sd.length ≤ 1000000 := hsd
   refine OpP 1 1 J J J J fun bp bc br bs bg kp sp asd ksd aq0 kq0 aq1 kq1 kc spc kr spr ks sps kg spg hbg hmk => ?_; obtain ⟨g0, g1, rfl⟩ := len2 hbg; clear hbg; refine NM J J ?_; dsimp only [wEnts, wCels, procCs, regEs, WX.of, vi]
   refine Va J J ?_
   rcases ha with rfl | rfl | rfl <;>
   ·refine Ds J J J ?_
    refine Da J J ?_;refine Nt 19 J J J J J J fun back => ?_;refine S_slice Tk ZT_ok J J J J (by decide) (by decide) J J J J fun b25 => ?_;refine back _ _ _ _ (by kernel_rfl) ?_; clear back
    refine Da J J ?_;refine Nt 20 J J J J J J fun back => ?_;refine S_appSaid Tk 1004 25 J J J J J J J J J J J J J (fun _ _ => J) hsd fun A' c' => ?_;refine back _ _ _ _ (by kernel_rfl) ?_; clear back
    refine Da J J ?_;refine Ns 23 J J J J J J J J J ?_;refine DD ?_;refine Va J J ?_;exact EK (1007 :: wKeys 2) (Res.t0 Tryz.results160) ⟨J, J⟩ (Wpp [_, _] kg spg J ‹_› J J J J J J J J) J (.blk J J (Wsub 10 J J J J J J J J J J J J J J J J (Bs 3 J J J J (Bs 3 J J J J .nil)))) XR
  ·replace hsd : sd.length ≤ 1000000 := hsd
   refine OpP 1 1 J J J J fun bp bc br bs bg kp sp asd ksd aq0 kq0 aq1 kq1 kc spc kr spr ks sps kg spg hbg hmk => ?_; obtain ⟨g0, g1, rfl⟩ := len2 hbg; clear hbg; refine NM J J ?_; dsimp only [wEnts, wCels, procCs, regEs, WX.of, vi]
   refine Va J J ?_
   rcases ha with rfl | rfl | rfl <;>
   ·refine Ds J J J ?_
    refine Da J J ?_;refine Nt 19 J J J J J J fun back => ?_;refine S_slice Tk ZT_ok J J J J (by decide) (by decide) J J J J fun b25 => ?_;refine back _ _ _ _ (by kernel_rfl) ?_; clear back
    refine Da J J ?_;refine Nt 20 J J J J J J fun back => ?_;refine S_appSaid Tk 1004 25 J J J J J J J J J J J J J (fun _ _ => J) hsd fun A' c' => ?_;refine back _ _ _ _ (by kernel_rfl) ?_; clear back
    refine Da J J ?_;refine Ns 23 J J J J J J J J J ?_;refine DD ?_;refine Va J J ?_;exact EK (1007 :: wKeys 2) (Res.t0 Tryz.results160) ⟨J, J⟩ (Wpp [_, _] kg spg J ‹_› J J J J J J J J) J (.blk J J (Wsub 10 J J J J J J J J J J J J J J J J (Bs 3 J J J J (Bs 3 J J J J .nil)))) XR
 ·rcases (by simp at hw; omega : who = 0 ∨ who = 1 ∨ who = 2) with rfl | rfl | rfl
  ·replace hsd : sd.length ≤ 1000000 := hsd
   refine OpP 1 1 J J J J fun bp bc br bs bg kp sp asd ksd aq0 kq0 aq1 kq1 kc spc kr spr ks sps kg spg hbg hmk => ?_; obtain ⟨g0, g1, g2, rfl⟩ := len3 hbg; clear hbg; refine NM J J ?_; dsimp only [wEnts, wCels, procCs, regEs, WX.of, vi]
   refine Va J J ?_
   rcases ha with rfl | rfl | rfl <;>
   ·refine Ds J J J ?_
    refine Da J J ?_;refine Nt 19 J J J J J J fun back => ?_;refine S_slice Tk ZT_ok J J J J (by decide) (by decide) J J J J fun b25 => ?_;refine back _ _ _ _ (by kernel_rfl) ?_; clear back
    refine Da J J ?_;refine Nt 20 J J J J J J fun back => ?_;refine S_appSaid Tk 1004 25 J J J J J J J J J J J J J (fun _ _ => J) hsd fun A' c' => ?_;refine back _ _ _ _ (by kernel_rfl) ?_; clear back
    refine Da J J ?_;refine Ns 23 J J J J J J J J J ?_;refine DD ?_;refine Va J J ?_;exact EK (1007 :: wKeys 3) (Res.t0 Tryz.results160) ⟨J, J⟩ (Wpp [_, _, _] kg spg J ‹_› J J J J J J J J) J (.blk J J (Wsub 15 J J J J J J J J J J J J J J J J (Bs 3 J J J J (Bs 3 J J J J (Bs 3 J J J J .nil))))) XR
  ·replace hsd : sd.length ≤ 1000000 := hsd
   refine OpP 1 1 J J J J fun bp bc br bs bg kp sp asd ksd aq0 kq0 aq1 kq1 kc spc kr spr ks sps kg spg hbg hmk => ?_; obtain ⟨g0, g1, g2, rfl⟩ := len3 hbg; clear hbg; refine NM J J ?_; dsimp only [wEnts, wCels, procCs, regEs, WX.of, vi]
   refine Va J J ?_
   rcases ha with rfl | rfl | rfl <;>
   ·refine Ds J J J ?_
    refine Da J J ?_;refine Nt 19 J J J J J J fun back => ?_;refine S_slice Tk ZT_ok J J J J (by decide) (by decide) J J J J fun b25 => ?_;refine back _ _ _ _ (by kernel_rfl) ?_; clear back
    refine Da J J ?_;refine Nt 20 J J J J J J fun back => ?_;refine S_appSaid Tk 1004 25 J J J J J J J J J J J J J (fun _ _ => J) hsd fun A' c' => ?_;refine back _ _ _ _ (by kernel_rfl) ?_; clear back
    refine Da J J ?_;refine Ns 23 J J J J J J J J J ?_;refine DD ?_;refine Va J J ?_;exact EK (1007 :: wKeys 3) (Res.t0 Tryz.results160) ⟨J, J⟩ (Wpp [_, _, _] kg spg J ‹_› J J J J J J J J) J (.blk J J (Wsub 15 J J J J J J J J J J J J J J J J (Bs 3 J J J J (Bs 3 J J J J (Bs 3 J J J J .nil))))) XR
  ·replace hsd : sd.length ≤ 1000000 := hsd
   refine OpP 1 1 J J J J fun bp bc br bs bg kp sp asd ksd aq0 kq0 aq1 kq1 kc spc kr spr ks sps kg spg hbg hmk => ?_; obtain ⟨g0, g1, g2, rfl⟩ := len3 hbg; clear hbg; refine NM J J ?_; dsimp only [wEnts, wCels, procCs, regEs, WX.of, vi]
   refine Va J J ?_
   rcases ha with rfl | rfl | rfl <;>
   ·refine Ds J J J ?_
    refine Da J J ?_;refine Nt 19 J J J J J J fun back => ?_;refine S_slice Tk ZT_ok J J J J (by decide) (by decide) J J J J fun b25 => ?_;refine back _ _ _ _ (by kernel_rfl) ?_; clear back
    refine Da J J ?_;refine Nt 20 J J J J J J fun back => ?_;refine S_appSaid Tk 1004 25 J J J J J J J J J J J J J (fun _ _ => J) hsd fun A' c' => ?_;refine back _ _ _ _ (by kernel_rfl) ?_; clear back
    refine Da J J ?_;refine Ns 23 J J J J J J J J J ?_;refine DD ?_;refine Va J J ?_;exact EK (1007 :: wKeys 3) (Res.t0 Tryz.results160) ⟨J, J⟩ (Wpp [_, _, _] kg spg J ‹_› J J J J J J J J) J (.blk J J (Wsub 15 J J J J J J J J J J J J J J J J (Bs 3 J J J J (Bs 3 J J J J (Bs 3 J J J J .nil))))) XR
def Wld.room (W : Wld) (who : Nat) : Int := match W.procs[who]? with
 | some p => p.room
 | none => 0
theorem c_dWait (W : Wld) (who : Nat) (b : Nat) (ts : List Value) (G : PH) (h1 : 1 ≤ W.procs.length) (h3 : W.procs.length ≤ 3) (ht : Tds G W.procs ts) (hw : who < W.procs.length) (hq0 : W.q0.length ≤ 1000000) (hq1 : W.q1.length ≤ 1000000) (hroom : W.room who = 0 ∨ W.room who = 1) (a : Int) (ha : a = 0 ∨ a = 1) :
  Mod Tryz.prog 167 [.agg #[.int .i64 a], .pointer (some ⟨b, 0, none⟩), .int .i64 (who : Nat)] G (worldP b W ts) fun v G' A' => G' = G ∧ A' = worldP b (((W.setRm (W.room who) 0).upd who (fun p => { p with mode := 1, on := a })).setQue a (W.que a ++ [(who : Int)])) ts := by
 refine Mod.intro Tryz.func167 Tryz.ntmps167 J J fun w S => ?_;refine Va J J ?_;refine S_box J J J J J fun b3 => ?_;obtain ⟨ps, x0, x1, x2, m0, m1, q0, q1, sd⟩ := W
 rcases shape h1 h3 ht with ⟨⟨a0, a1, a2, td0, mo0, on0, ro0⟩, A0, k0, rfl, rfl, s0⟩ | ⟨⟨a0, a1, a2, td0, mo0, on0, ro0⟩, A0, k0, ⟨b0, b1, b2, td1, mo1, on1, ro1⟩, A1, k1, rfl, rfl, s0, s1⟩ | ⟨⟨a0, a1, a2, td0, mo0, on0, ro0⟩, A0, k0, ⟨b0, b1, b2, td1, mo1, on1, ro1⟩, A1, k1, ⟨d0, d1, d2, td2, mo2, on2, ro2⟩, A2, k2, rfl, rfl, s0, s1, s2⟩
 ·obtain rfl : who = 0 := by simpa using hw
  replace hq0 : q0.length ≤ 1000000 := hq0
  replace hq1 : q1.length ≤ 1000000 := hq1
  have hro : ro0 = 0 ∨ ro0 = 1 := hroom
  refine OpP 1 1 J J J J fun bp bc br bs bg kp sp asd ksd aq0 kq0 aq1 kq1 kc spc kr spr ks sps kg spg hbg hmk => ?_; obtain ⟨g0, rfl⟩ := len1 hbg; clear hbg; refine NM J J ?_; dsimp only [wEnts, wCels, procCs, regEs, WX.of, vi]
  refine Va J J ?_;refine Ds J J J ?_
  rcases hro with rfl | rfl
  ·rcases ha with rfl | rfl
   ·refine Da J J ?_
    refine Ns 9 J J J J J J J J J ?_;refine DD ?_;refine Va J J ?_;refine Ds J J J ?_;refine Da J J ?_;refine Ns 6 J J J J J J J J J ?_;refine Da J J ?_;refine Ns 9 J J J J J J J J J ?_;refine DD ?_;refine Va J J ?_;refine Ds J J J ?_;refine Da J J ?_;refine Nt 15 J J J J J J fun back => ?_;refine S_slice Tk ZT_ok J J J J (by decide) (by decide) J J J J fun b45 => ?_;refine back _ _ _ _ (by kernel_rfl) ?_; clear back
    refine Nt 16 J J J J J J fun back => ?_;refine S_appInt Tk 1005 45 J J J J J J J J J J J J J (fun _ _ => J) (by assumption) (Nat.zero_le _) fun A' c' => ?_;refine back _ _ _ _ (by kernel_rfl) ?_; clear back
    refine Da J J ?_;refine Ns 18 J J J J J J J J J ?_;refine DD ?_;refine Va J J ?_;exact EK (1007 :: wKeys 1) (Res.t0 Tryz.results167) ⟨J, J⟩ (Wpp [_] kg spg J ‹_› J J J J J J J J) J (.blk J J (Wsub 5 J J J J J J J J J J J J J J J J (Bs 3 J J J J .nil))) XR
   ·refine Da J J ?_
    refine Ns 9 J J J J J J J J J ?_;refine DD ?_;refine Va J J ?_;refine Ds J J J ?_;refine Da J J ?_;refine Ns 6 J J J J J J J J J ?_;refine Da J J ?_;refine Ns 9 J J J J J J J J J ?_;refine DD ?_;refine Va J J ?_;refine Ds J J J ?_;refine Da J J ?_;refine Nt 15 J J J J J J fun back => ?_;refine S_slice Tk ZT_ok J J J J (by decide) (by decide) J J J J fun b45 => ?_;refine back _ _ _ _ (by kernel_rfl) ?_; clear back
    refine Nt 16 J J J J J J fun back => ?_;refine S_appInt Tk 1006 45 J J J J J J J J J J J J J (fun _ _ => J) (by assumption) (Nat.zero_le _) fun A' c' => ?_;refine back _ _ _ _ (by kernel_rfl) ?_; clear back
    refine Da J J ?_;refine Ns 18 J J J J J J J J J ?_;refine DD ?_;refine Va J J ?_;exact EK (1007 :: wKeys 1) (Res.t0 Tryz.results167) ⟨J, J⟩ (Wpp [_] kg spg J ‹_› J J J J J J J J) J (.blk J J (Wsub 5 J J J J J J J J J J J J J J J J (Bs 3 J J J J .nil))) XR
  ·rcases ha with rfl | rfl
   ·refine Da J J ?_
    refine Ns 9 J J J J J J J J J ?_;refine DD ?_;refine Va J J ?_;refine Ds J J J ?_;refine Da J J ?_;refine Ns 6 J J J J J J J J J ?_;refine Da J J ?_;refine Ns 9 J J J J J J J J J ?_;refine DD ?_;refine Va J J ?_;refine Ds J J J ?_;refine Da J J ?_;refine Nt 15 J J J J J J fun back => ?_;refine S_slice Tk ZT_ok J J J J (by decide) (by decide) J J J J fun b45 => ?_;refine back _ _ _ _ (by kernel_rfl) ?_; clear back
    refine Nt 16 J J J J J J fun back => ?_;refine S_appInt Tk 1005 45 J J J J J J J J J J J J J (fun _ _ => J) (by assumption) (Nat.zero_le _) fun A' c' => ?_;refine back _ _ _ _ (by kernel_rfl) ?_; clear back
    refine Da J J ?_;refine Ns 18 J J J J J J J J J ?_;refine DD ?_;refine Va J J ?_;exact EK (1007 :: wKeys 1) (Res.t0 Tryz.results167) ⟨J, J⟩ (Wpp [_] kg spg J ‹_› J J J J J J J J) J (.blk J J (Wsub 5 J J J J J J J J J J J J J J J J (Bs 3 J J J J .nil))) XR
   ·refine Da J J ?_
    refine Ns 9 J J J J J J J J J ?_;refine DD ?_;refine Va J J ?_;refine Ds J J J ?_;refine Da J J ?_;refine Ns 6 J J J J J J J J J ?_;refine Da J J ?_;refine Ns 9 J J J J J J J J J ?_;refine DD ?_;refine Va J J ?_;refine Ds J J J ?_;refine Da J J ?_;refine Nt 15 J J J J J J fun back => ?_;refine S_slice Tk ZT_ok J J J J (by decide) (by decide) J J J J fun b45 => ?_;refine back _ _ _ _ (by kernel_rfl) ?_; clear back
    refine Nt 16 J J J J J J fun back => ?_;refine S_appInt Tk 1006 45 J J J J J J J J J J J J J (fun _ _ => J) (by assumption) (Nat.zero_le _) fun A' c' => ?_;refine back _ _ _ _ (by kernel_rfl) ?_; clear back
    refine Da J J ?_;refine Ns 18 J J J J J J J J J ?_;refine DD ?_;refine Va J J ?_;exact EK (1007 :: wKeys 1) (Res.t0 Tryz.results167) ⟨J, J⟩ (Wpp [_] kg spg J ‹_› J J J J J J J J) J (.blk J J (Wsub 5 J J J J J J J J J J J J J J J J (Bs 3 J J J J .nil))) XR
 ·rcases (by simp at hw; omega : who = 0 ∨ who = 1) with rfl | rfl
  ·replace hq0 : q0.length ≤ 1000000 := hq0
   replace hq1 : q1.length ≤ 1000000 := hq1
   have hro : ro0 = 0 ∨ ro0 = 1 := hroom
   refine OpP 1 1 J J J J fun bp bc br bs bg kp sp asd ksd aq0 kq0 aq1 kq1 kc spc kr spr ks sps kg spg hbg hmk => ?_; obtain ⟨g0, g1, rfl⟩ := len2 hbg; clear hbg; refine NM J J ?_; dsimp only [wEnts, wCels, procCs, regEs, WX.of, vi]
   refine Va J J ?_;refine Ds J J J ?_
   rcases hro with rfl | rfl
   ·rcases ha with rfl | rfl
    ·refine Da J J ?_
     refine Ns 9 J J J J J J J J J ?_;refine DD ?_;refine Va J J ?_;refine Ds J J J ?_;refine Da J J ?_;refine Ns 6 J J J J J J J J J ?_;refine Da J J ?_;refine Ns 9 J J J J J J J J J ?_;refine DD ?_;refine Va J J ?_;refine Ds J J J ?_;refine Da J J ?_;refine Nt 15 J J J J J J fun back => ?_;refine S_slice Tk ZT_ok J J J J (by decide) (by decide) J J J J fun b45 => ?_;refine back _ _ _ _ (by kernel_rfl) ?_; clear back
     refine Nt 16 J J J J J J fun back => ?_;refine S_appInt Tk 1005 45 J J J J J J J J J J J J J (fun _ _ => J) (by assumption) (Nat.zero_le _) fun A' c' => ?_;refine back _ _ _ _ (by kernel_rfl) ?_; clear back
     refine Da J J ?_;refine Ns 18 J J J J J J J J J ?_;refine DD ?_;refine Va J J ?_;exact EK (1007 :: wKeys 2) (Res.t0 Tryz.results167) ⟨J, J⟩ (Wpp [_, _] kg spg J ‹_› J J J J J J J J) J (.blk J J (Wsub 10 J J J J J J J J J J J J J J J J (Bs 3 J J J J (Bs 3 J J J J .nil)))) XR
    ·refine Da J J ?_
     refine Ns 9 J J J J J J J J J ?_;refine DD ?_;refine Va J J ?_;refine Ds J J J ?_;refine Da J J ?_;refine Ns 6 J J J J J J J J J ?_;refine Da J J ?_;refine Ns 9 J J J J J J J J J ?_;refine DD ?_;refine Va J J ?_;refine Ds J J J ?_;refine Da J J ?_;refine Nt 15 J J J J J J fun back => ?_;refine S_slice Tk ZT_ok J J J J (by decide) (by decide) J J J J fun b45 => ?_;refine back _ _ _ _ (by kernel_rfl) ?_; clear back
     refine Nt 16 J J J J J J fun back => ?_;refine S_appInt Tk 1006 45 J J J J J J J J J J J J J (fun _ _ => J) (by assumption) (Nat.zero_le _) fun A' c' => ?_;refine back _ _ _ _ (by kernel_rfl) ?_; clear back
     refine Da J J ?_;refine Ns 18 J J J J J J J J J ?_;refine DD ?_;refine Va J J ?_;exact EK (1007 :: wKeys 2) (Res.t0 Tryz.results167) ⟨J, J⟩ (Wpp [_, _] kg spg J ‹_› J J J J J J J J) J (.blk J J (Wsub 10 J J J J J J J J J J J J J J J J (Bs 3 J J J J (Bs 3 J J J J .nil)))) XR
   ·rcases ha with rfl | rfl
    ·refine Da J J ?_
     refine Ns 9 J J J J J J J J J ?_;refine DD ?_;refine Va J J ?_;refine Ds J J J ?_;refine Da J J ?_;refine Ns 6 J J J J J J J J J ?_;refine Da J J ?_;refine Ns 9 J J J J J J J J J ?_;refine DD ?_;refine Va J J ?_;refine Ds J J J ?_;refine Da J J ?_;refine Nt 15 J J J J J J fun back => ?_;refine S_slice Tk ZT_ok J J J J (by decide) (by decide) J J J J fun b45 => ?_;refine back _ _ _ _ (by kernel_rfl) ?_; clear back
     refine Nt 16 J J J J J J fun back => ?_;refine S_appInt Tk 1005 45 J J J J J J J J J J J J J (fun _ _ => J) (by assumption) (Nat.zero_le _) fun A' c' => ?_;refine back _ _ _ _ (by kernel_rfl) ?_; clear back
     refine Da J J ?_;refine Ns 18 J J J J J J J J J ?_;refine DD ?_;refine Va J J ?_;exact EK (1007 :: wKeys 2) (Res.t0 Tryz.results167) ⟨J, J⟩ (Wpp [_, _] kg spg J ‹_› J J J J J J J J) J (.blk J J (Wsub 10 J J J J J J J J J J J J J J J J (Bs 3 J J J J (Bs 3 J J J J .nil)))) XR
    ·refine Da J J ?_
     refine Ns 9 J J J J J J J J J ?_;refine DD ?_;refine Va J J ?_;refine Ds J J J ?_;refine Da J J ?_;refine Ns 6 J J J J J J J J J ?_;refine Da J J ?_;refine Ns 9 J J J J J J J J J ?_;refine DD ?_;refine Va J J ?_;refine Ds J J J ?_;refine Da J J ?_;refine Nt 15 J J J J J J fun back => ?_;refine S_slice Tk ZT_ok J J J J (by decide) (by decide) J J J J fun b45 => ?_;refine back _ _ _ _ (by kernel_rfl) ?_; clear back
     refine Nt 16 J J J J J J fun back => ?_;refine S_appInt Tk 1006 45 J J J J J J J J J J J J J (fun _ _ => J) (by assumption) (Nat.zero_le _) fun A' c' => ?_;refine back _ _ _ _ (by kernel_rfl) ?_; clear back
     refine Da J J ?_;refine Ns 18 J J J J J J J J J ?_;refine DD ?_;refine Va J J ?_;exact EK (1007 :: wKeys 2) (Res.t0 Tryz.results167) ⟨J, J⟩ (Wpp [_, _] kg spg J ‹_› J J J J J J J J) J (.blk J J (Wsub 10 J J J J J J J J J J J J J J J J (Bs 3 J J J J (Bs 3 J J J J .nil)))) XR
  ·replace hq0 : q0.length ≤ 1000000 := hq0
   replace hq1 : q1.length ≤ 1000000 := hq1
   have hro : ro1 = 0 ∨ ro1 = 1 := hroom
   refine OpP 1 1 J J J J fun bp bc br bs bg kp sp asd ksd aq0 kq0 aq1 kq1 kc spc kr spr ks sps kg spg hbg hmk => ?_; obtain ⟨g0, g1, rfl⟩ := len2 hbg; clear hbg; refine NM J J ?_; dsimp only [wEnts, wCels, procCs, regEs, WX.of, vi]
   refine Va J J ?_;refine Ds J J J ?_
   rcases hro with rfl | rfl
   ·rcases ha with rfl | rfl
    ·refine Da J J ?_
     refine Ns 9 J J J J J J J J J ?_;refine DD ?_;refine Va J J ?_;refine Ds J J J ?_;refine Da J J ?_;refine Ns 6 J J J J J J J J J ?_;refine Da J J ?_;refine Ns 9 J J J J J J J J J ?_;refine DD ?_;refine Va J J ?_;refine Ds J J J ?_;refine Da J J ?_;refine Nt 15 J J J J J J fun back => ?_;refine S_slice Tk ZT_ok J J J J (by decide) (by decide) J J J J fun b45 => ?_;refine back _ _ _ _ (by kernel_rfl) ?_; clear back
     refine Nt 16 J J J J J J fun back => ?_;refine S_appInt Tk 1005 45 J J J J J J J J J J J J J (fun _ _ => J) (by assumption) (Nat.zero_le _) fun A' c' => ?_;refine back _ _ _ _ (by kernel_rfl) ?_; clear back
     refine Da J J ?_;refine Ns 18 J J J J J J J J J ?_;refine DD ?_;refine Va J J ?_;exact EK (1007 :: wKeys 2) (Res.t0 Tryz.results167) ⟨J, J⟩ (Wpp [_, _] kg spg J ‹_› J J J J J J J J) J (.blk J J (Wsub 10 J J J J J J J J J J J J J J J J (Bs 3 J J J J (Bs 3 J J J J .nil)))) XR
    ·refine Da J J ?_
     refine Ns 9 J J J J J J J J J ?_;refine DD ?_;refine Va J J ?_;refine Ds J J J ?_;refine Da J J ?_;refine Ns 6 J J J J J J J J J ?_;refine Da J J ?_;refine Ns 9 J J J J J J J J J ?_;refine DD ?_;refine Va J J ?_;refine Ds J J J ?_;refine Da J J ?_;refine Nt 15 J J J J J J fun back => ?_;refine S_slice Tk ZT_ok J J J J (by decide) (by decide) J J J J fun b45 => ?_;refine back _ _ _ _ (by kernel_rfl) ?_; clear back
     refine Nt 16 J J J J J J fun back => ?_;refine S_appInt Tk 1006 45 J J J J J J J J J J J J J (fun _ _ => J) (by assumption) (Nat.zero_le _) fun A' c' => ?_;refine back _ _ _ _ (by kernel_rfl) ?_; clear back
     refine Da J J ?_;refine Ns 18 J J J J J J J J J ?_;refine DD ?_;refine Va J J ?_;exact EK (1007 :: wKeys 2) (Res.t0 Tryz.results167) ⟨J, J⟩ (Wpp [_, _] kg spg J ‹_› J J J J J J J J) J (.blk J J (Wsub 10 J J J J J J J J J J J J J J J J (Bs 3 J J J J (Bs 3 J J J J .nil)))) XR
   ·rcases ha with rfl | rfl
    ·refine Da J J ?_
     refine Ns 9 J J J J J J J J J ?_;refine DD ?_;refine Va J J ?_;refine Ds J J J ?_;refine Da J J ?_;refine Ns 6 J J J J J J J J J ?_;refine Da J J ?_;refine Ns 9 J J J J J J J J J ?_;refine DD ?_;refine Va J J ?_;refine Ds J J J ?_;refine Da J J ?_;refine Nt 15 J J J J J J fun back => ?_;refine S_slice Tk ZT_ok J J J J (by decide) (by decide) J J J J fun b45 => ?_;refine back _ _ _ _ (by kernel_rfl) ?_; clear back
     refine Nt 16 J J J J J J fun back => ?_;refine S_appInt Tk 1005 45 J J J J J J J J J J J J J (fun _ _ => J) (by assumption) (Nat.zero_le _) fun A' c' => ?_;refine back _ _ _ _ (by kernel_rfl) ?_; clear back
     refine Da J J ?_;refine Ns 18 J J J J J J J J J ?_;refine DD ?_;refine Va J J ?_;exact EK (1007 :: wKeys 2) (Res.t0 Tryz.results167) ⟨J, J⟩ (Wpp [_, _] kg spg J ‹_› J J J J J J J J) J (.blk J J (Wsub 10 J J J J J J J J J J J J J J J J (Bs 3 J J J J (Bs 3 J J J J .nil)))) XR
    ·refine Da J J ?_
     refine Ns 9 J J J J J J J J J ?_;refine DD ?_;refine Va J J ?_;refine Ds J J J ?_;refine Da J J ?_;refine Ns 6 J J J J J J J J J ?_;refine Da J J ?_;refine Ns 9 J J J J J J J J J ?_;refine DD ?_;refine Va J J ?_;refine Ds J J J ?_;refine Da J J ?_;refine Nt 15 J J J J J J fun back => ?_;refine S_slice Tk ZT_ok J J J J (by decide) (by decide) J J J J fun b45 => ?_;refine back _ _ _ _ (by kernel_rfl) ?_; clear back
     refine Nt 16 J J J J J J fun back => ?_;refine S_appInt Tk 1006 45 J J J J J J J J J J J J J (fun _ _ => J) (by assumption) (Nat.zero_le _) fun A' c' => ?_;refine back _ _ _ _ (by kernel_rfl) ?_; clear back
     refine Da J J ?_;refine Ns 18 J J J J J J J J J ?_;refine DD ?_;refine Va J J ?_;exact EK (1007 :: wKeys 2) (Res.t0 Tryz.results167) ⟨J, J⟩ (Wpp [_, _] kg spg J ‹_› J J J J J J J J) J (.blk J J (Wsub 10 J J J J J J J J J J J J J J J J (Bs 3 J J J J (Bs 3 J J J J .nil)))) XR
 ·rcases (by simp at hw; omega : who = 0 ∨ who = 1 ∨ who = 2) with rfl | rfl | rfl
  ·replace hq0 : q0.length ≤ 1000000 := hq0
   replace hq1 : q1.length ≤ 1000000 := hq1
   have hro : ro0 = 0 ∨ ro0 = 1 := hroom
   refine OpP 1 1 J J J J fun bp bc br bs bg kp sp asd ksd aq0 kq0 aq1 kq1 kc spc kr spr ks sps kg spg hbg hmk => ?_; obtain ⟨g0, g1, g2, rfl⟩ := len3 hbg; clear hbg; refine NM J J ?_; dsimp only [wEnts, wCels, procCs, regEs, WX.of, vi]
   refine Va J J ?_;refine Ds J J J ?_
   rcases hro with rfl | rfl
   ·rcases ha with rfl | rfl
    ·refine Da J J ?_
     refine Ns 9 J J J J J J J J J ?_;refine DD ?_;refine Va J J ?_;refine Ds J J J ?_;refine Da J J ?_;refine Ns 6 J J J J J J J J J ?_;refine Da J J ?_;refine Ns 9 J J J J J J J J J ?_;refine DD ?_;refine Va J J ?_;refine Ds J J J ?_;refine Da J J ?_;refine Nt 15 J J J J J J fun back => ?_;refine S_slice Tk ZT_ok J J J J (by decide) (by decide) J J J J fun b45 => ?_;refine back _ _ _ _ (by kernel_rfl) ?_; clear back
     refine Nt 16 J J J J J J fun back => ?_;refine S_appInt Tk 1005 45 J J J J J J J J J J J J J (fun _ _ => J) (by assumption) (Nat.zero_le _) fun A' c' => ?_;refine back _ _ _ _ (by kernel_rfl) ?_; clear back
     refine Da J J ?_;refine Ns 18 J J J J J J J J J ?_;refine DD ?_;refine Va J J ?_;exact EK (1007 :: wKeys 3) (Res.t0 Tryz.results167) ⟨J, J⟩ (Wpp [_, _, _] kg spg J ‹_› J J J J J J J J) J (.blk J J (Wsub 15 J J J J J J J J J J J J J J J J (Bs 3 J J J J (Bs 3 J J J J (Bs 3 J J J J .nil))))) XR
    ·refine Da J J ?_
     refine Ns 9 J J J J J J J J J ?_;refine DD ?_;refine Va J J ?_;refine Ds J J J ?_;refine Da J J ?_;refine Ns 6 J J J J J J J J J ?_;refine Da J J ?_;refine Ns 9 J J J J J J J J J ?_;refine DD ?_;refine Va J J ?_;refine Ds J J J ?_;refine Da J J ?_;refine Nt 15 J J J J J J fun back => ?_;refine S_slice Tk ZT_ok J J J J (by decide) (by decide) J J J J fun b45 => ?_;refine back _ _ _ _ (by kernel_rfl) ?_; clear back
     refine Nt 16 J J J J J J fun back => ?_;refine S_appInt Tk 1006 45 J J J J J J J J J J J J J (fun _ _ => J) (by assumption) (Nat.zero_le _) fun A' c' => ?_;refine back _ _ _ _ (by kernel_rfl) ?_; clear back
     refine Da J J ?_;refine Ns 18 J J J J J J J J J ?_;refine DD ?_;refine Va J J ?_;exact EK (1007 :: wKeys 3) (Res.t0 Tryz.results167) ⟨J, J⟩ (Wpp [_, _, _] kg spg J ‹_› J J J J J J J J) J (.blk J J (Wsub 15 J J J J J J J J J J J J J J J J (Bs 3 J J J J (Bs 3 J J J J (Bs 3 J J J J .nil))))) XR
   ·rcases ha with rfl | rfl
    ·refine Da J J ?_
     refine Ns 9 J J J J J J J J J ?_;refine DD ?_;refine Va J J ?_;refine Ds J J J ?_;refine Da J J ?_;refine Ns 6 J J J J J J J J J ?_;refine Da J J ?_;refine Ns 9 J J J J J J J J J ?_;refine DD ?_;refine Va J J ?_;refine Ds J J J ?_;refine Da J J ?_;refine Nt 15 J J J J J J fun back => ?_;refine S_slice Tk ZT_ok J J J J (by decide) (by decide) J J J J fun b45 => ?_;refine back _ _ _ _ (by kernel_rfl) ?_; clear back
     refine Nt 16 J J J J J J fun back => ?_;refine S_appInt Tk 1005 45 J J J J J J J J J J J J J (fun _ _ => J) (by assumption) (Nat.zero_le _) fun A' c' => ?_;refine back _ _ _ _ (by kernel_rfl) ?_; clear back
     refine Da J J ?_;refine Ns 18 J J J J J J J J J ?_;refine DD ?_;refine Va J J ?_;exact EK (1007 :: wKeys 3) (Res.t0 Tryz.results167) ⟨J, J⟩ (Wpp [_, _, _] kg spg J ‹_› J J J J J J J J) J (.blk J J (Wsub 15 J J J J J J J J J J J J J J J J (Bs 3 J J J J (Bs 3 J J J J (Bs 3 J J J J .nil))))) XR
    ·refine Da J J ?_
     refine Ns 9 J J J J J J J J J ?_;refine DD ?_;refine Va J J ?_;refine Ds J J J ?_;refine Da J J ?_;refine Ns 6 J J J J J J J J J ?_;refine Da J J ?_;refine Ns 9 J J J J J J J J J ?_;refine DD ?_;refine Va J J ?_;refine Ds J J J ?_;refine Da J J ?_;refine Nt 15 J J J J J J fun back => ?_;refine S_slice Tk ZT_ok J J J J (by decide) (by decide) J J J J fun b45 => ?_;refine back _ _ _ _ (by kernel_rfl) ?_; clear back
     refine Nt 16 J J J J J J fun back => ?_;refine S_appInt Tk 1006 45 J J J J J J J J J J J J J (fun _ _ => J) (by assumption) (Nat.zero_le _) fun A' c' => ?_;refine back _ _ _ _ (by kernel_rfl) ?_; clear back
     refine Da J J ?_;refine Ns 18 J J J J J J J J J ?_;refine DD ?_;refine Va J J ?_;exact EK (1007 :: wKeys 3) (Res.t0 Tryz.results167) ⟨J, J⟩ (Wpp [_, _, _] kg spg J ‹_› J J J J J J J J) J (.blk J J (Wsub 15 J J J J J J J J J J J J J J J J (Bs 3 J J J J (Bs 3 J J J J (Bs 3 J J J J .nil))))) XR
  ·replace hq0 : q0.length ≤ 1000000 := hq0
   replace hq1 : q1.length ≤ 1000000 := hq1
   have hro : ro1 = 0 ∨ ro1 = 1 := hroom
   refine OpP 1 1 J J J J fun bp bc br bs bg kp sp asd ksd aq0 kq0 aq1 kq1 kc spc kr spr ks sps kg spg hbg hmk => ?_; obtain ⟨g0, g1, g2, rfl⟩ := len3 hbg; clear hbg; refine NM J J ?_; dsimp only [wEnts, wCels, procCs, regEs, WX.of, vi]
   refine Va J J ?_;refine Ds J J J ?_
   rcases hro with rfl | rfl
   ·rcases ha with rfl | rfl
    ·refine Da J J ?_
     refine Ns 9 J J J J J J J J J ?_;refine DD ?_;refine Va J J ?_;refine Ds J J J ?_;refine Da J J ?_;refine Ns 6 J J J J J J J J J ?_;refine Da J J ?_;refine Ns 9 J J J J J J J J J ?_;refine DD ?_;refine Va J J ?_;refine Ds J J J ?_;refine Da J J ?_;refine Nt 15 J J J J J J fun back => ?_;refine S_slice Tk ZT_ok J J J J (by decide) (by decide) J J J J fun b45 => ?_;refine back _ _ _ _ (by kernel_rfl) ?_; clear back
     refine Nt 16 J J J J J J fun back => ?_;refine S_appInt Tk 1005 45 J J J J J J J J J J J J J (fun _ _ => J) (by assumption) (Nat.zero_le _) fun A' c' => ?_;refine back _ _ _ _ (by kernel_rfl) ?_; clear back
     refine Da J J ?_;refine Ns 18 J J J J J J J J J ?_;refine DD ?_;refine Va J J ?_;exact EK (1007 :: wKeys 3) (Res.t0 Tryz.results167) ⟨J, J⟩ (Wpp [_, _, _] kg spg J ‹_› J J J J J J J J) J (.blk J J (Wsub 15 J J J J J J J J J J J J J J J J (Bs 3 J J J J (Bs 3 J J J J (Bs 3 J J J J .nil))))) XR
    ·refine Da J J ?_
     refine Ns 9 J J J J J J J J J ?_;refine DD ?_;refine Va J J ?_;refine Ds J J J ?_;refine Da J J ?_;refine Ns 6 J J J J J J J J J ?_;refine Da J J ?_;refine Ns 9 J J J J J J J J J ?_;refine DD ?_;refine Va J J ?_;refine Ds J J J ?_;refine Da J J ?_;refine Nt 15 J J J J J J fun back => ?_;refine S_slice Tk ZT_ok J J J J (by decide) (by decide) J J J J fun b45 => ?_;refine back _ _ _ _ (by kernel_rfl) ?_; clear back
     refine Nt 16 J J J J J J fun back => ?_;refine S_appInt Tk 1006 45 J J J J J J J J J J J J J (fun _ _ => J) (by assumption) (Nat.zero_le _) fun A' c' => ?_;refine back _ _ _ _ (by kernel_rfl) ?_; clear back
     refine Da J J ?_;refine Ns 18 J J J J J J J J J ?_;refine DD ?_;refine Va J J ?_;exact EK (1007 :: wKeys 3) (Res.t0 Tryz.results167) ⟨J, J⟩ (Wpp [_, _, _] kg spg J ‹_› J J J J J J J J) J (.blk J J (Wsub 15 J J J J J J J J J J J J J J J J (Bs 3 J J J J (Bs 3 J J J J (Bs 3 J J J J .nil))))) XR
   ·rcases ha with rfl | rfl
    ·refine Da J J ?_
     refine Ns 9 J J J J J J J J J ?_;refine DD ?_;refine Va J J ?_;refine Ds J J J ?_;refine Da J J ?_;refine Ns 6 J J J J J J J J J ?_;refine Da J J ?_;refine Ns 9 J J J J J J J J J ?_;refine DD ?_;refine Va J J ?_;refine Ds J J J ?_;refine Da J J ?_;refine Nt 15 J J J J J J fun back => ?_;refine S_slice Tk ZT_ok J J J J (by decide) (by decide) J J J J fun b45 => ?_;refine back _ _ _ _ (by kernel_rfl) ?_; clear back
     refine Nt 16 J J J J J J fun back => ?_;refine S_appInt Tk 1005 45 J J J J J J J J J J J J J (fun _ _ => J) (by assumption) (Nat.zero_le _) fun A' c' => ?_;refine back _ _ _ _ (by kernel_rfl) ?_; clear back
     refine Da J J ?_;refine Ns 18 J J J J J J J J J ?_;refine DD ?_;refine Va J J ?_;exact EK (1007 :: wKeys 3) (Res.t0 Tryz.results167) ⟨J, J⟩ (Wpp [_, _, _] kg spg J ‹_› J J J J J J J J) J (.blk J J (Wsub 15 J J J J J J J J J J J J J J J J (Bs 3 J J J J (Bs 3 J J J J (Bs 3 J J J J .nil))))) XR
    ·refine Da J J ?_
     refine Ns 9 J J J J J J J J J ?_;refine DD ?_;refine Va J J ?_;refine Ds J J J ?_;refine Da J J ?_;refine Ns 6 J J J J J J J J J ?_;refine Da J J ?_;refine Ns 9 J J J J J J J J J ?_;refine DD ?_;refine Va J J ?_;refine Ds J J J ?_;refine Da J J ?_;refine Nt 15 J J J J J J fun back => ?_;refine S_slice Tk ZT_ok J J J J (by decide) (by decide) J J J J fun b45 => ?_;refine back _ _ _ _ (by kernel_rfl) ?_; clear back
     refine Nt 16 J J J J J J fun back => ?_;refine S_appInt Tk 1006 45 J J J J J J J J J J J J J (fun _ _ => J) (by assumption) (Nat.zero_le _) fun A' c' => ?_;refine back _ _ _ _ (by kernel_rfl) ?_; clear back
     refine Da J J ?_;refine Ns 18 J J J J J J J J J ?_;refine DD ?_;refine Va J J ?_;exact EK (1007 :: wKeys 3) (Res.t0 Tryz.results167) ⟨J, J⟩ (Wpp [_, _, _] kg spg J ‹_› J J J J J J J J) J (.blk J J (Wsub 15 J J J J J J J J J J J J J J J J (Bs 3 J J J J (Bs 3 J J J J (Bs 3 J J J J .nil))))) XR
  ·replace hq0 : q0.length ≤ 1000000 := hq0
   replace hq1 : q1.length ≤ 1000000 := hq1
   have hro : ro2 = 0 ∨ ro2 = 1 := hroom
   refine OpP 1 1 J J J J fun bp bc br bs bg kp sp asd ksd aq0 kq0 aq1 kq1 kc spc kr spr ks sps kg spg hbg hmk => ?_; obtain ⟨g0, g1, g2, rfl⟩ := len3 hbg; clear hbg; refine NM J J ?_; dsimp only [wEnts, wCels, procCs, regEs, WX.of, vi]
   refine Va J J ?_;refine Ds J J J ?_
   rcases hro with rfl | rfl
   ·rcases ha with rfl | rfl
    ·refine Da J J ?_
     refine Ns 9 J J J J J J J J J ?_;refine DD ?_;refine Va J J ?_;refine Ds J J J ?_;refine Da J J ?_;refine Ns 6 J J J J J J J J J ?_;refine Da J J ?_;refine Ns 9 J J J J J J J J J ?_;refine DD ?_;refine Va J J ?_;refine Ds J J J ?_;refine Da J J ?_;refine Nt 15 J J J J J J fun back => ?_;refine S_slice Tk ZT_ok J J J J (by decide) (by decide) J J J J fun b45 => ?_;refine back _ _ _ _ (by kernel_rfl) ?_; clear back
     refine Nt 16 J J J J J J fun back => ?_;refine S_appInt Tk 1005 45 J J J J J J J J J J J J J (fun _ _ => J) (by assumption) (Nat.zero_le _) fun A' c' => ?_;refine back _ _ _ _ (by kernel_rfl) ?_; clear back
     refine Da J J ?_;refine Ns 18 J J J J J J J J J ?_;refine DD ?_;refine Va J J ?_;exact EK (1007 :: wKeys 3) (Res.t0 Tryz.results167) ⟨J, J⟩ (Wpp [_, _, _] kg spg J ‹_› J J J J J J J J) J (.blk J J (Wsub 15 J J J J J J J J J J J J J J J J (Bs 3 J J J J (Bs 3 J J J J (Bs 3 J J J J .nil))))) XR
    ·refine Da J J ?_
     refine Ns 9 J J J J J J J J J ?_;refine DD ?_;refine Va J J ?_;refine Ds J J J ?_;refine Da J J ?_;refine Ns 6 J J J J J J J J J ?_;refine Da J J ?_;refine Ns 9 J J J J J J J J J ?_;refine DD ?_;refine Va J J ?_;refine Ds J J J ?_;refine Da J J ?_;refine Nt 15 J J J J J J fun back => ?_;refine S_slice Tk ZT_ok J J J J (by decide) (by decide) J J J J fun b45 => ?_;refine back _ _ _ _ (by kernel_rfl) ?_; clear back
     refine Nt 16 J J J J J J fun back => ?_;refine S_appInt Tk 1006 45 J J J J J J J J J J J J J (fun _ _ => J) (by assumption) (Nat.zero_le _) fun A' c' => ?_;refine back _ _ _ _ (by kernel_rfl) ?_; clear back
     refine Da J J ?_;refine Ns 18 J J J J J J J J J ?_;refine DD ?_;refine Va J J ?_;exact EK (1007 :: wKeys 3) (Res.t0 Tryz.results167) ⟨J, J⟩ (Wpp [_, _, _] kg spg J ‹_› J J J J J J J J) J (.blk J J (Wsub 15 J J J J J J J J J J J J J J J J (Bs 3 J J J J (Bs 3 J J J J (Bs 3 J J J J .nil))))) XR
   ·rcases ha with rfl | rfl
    ·refine Da J J ?_
     refine Ns 9 J J J J J J J J J ?_;refine DD ?_;refine Va J J ?_;refine Ds J J J ?_;refine Da J J ?_;refine Ns 6 J J J J J J J J J ?_;refine Da J J ?_;refine Ns 9 J J J J J J J J J ?_;refine DD ?_;refine Va J J ?_;refine Ds J J J ?_;refine Da J J ?_;refine Nt 15 J J J J J J fun back => ?_;refine S_slice Tk ZT_ok J J J J (by decide) (by decide) J J J J fun b45 => ?_;refine back _ _ _ _ (by kernel_rfl) ?_; clear back
     refine Nt 16 J J J J J J fun back => ?_;refine S_appInt Tk 1005 45 J J J J J J J J J J J J J (fun _ _ => J) (by assumption) (Nat.zero_le _) fun A' c' => ?_;refine back _ _ _ _ (by kernel_rfl) ?_; clear back
     refine Da J J ?_;refine Ns 18 J J J J J J J J J ?_;refine DD ?_;refine Va J J ?_;exact EK (1007 :: wKeys 3) (Res.t0 Tryz.results167) ⟨J, J⟩ (Wpp [_, _, _] kg spg J ‹_› J J J J J J J J) J (.blk J J (Wsub 15 J J J J J J J J J J J J J J J J (Bs 3 J J J J (Bs 3 J J J J (Bs 3 J J J J .nil))))) XR
    ·refine Da J J ?_
     refine Ns 9 J J J J J J J J J ?_;refine DD ?_;refine Va J J ?_;refine Ds J J J ?_;refine Da J J ?_;refine Ns 6 J J J J J J J J J ?_;refine Da J J ?_;refine Ns 9 J J J J J J J J J ?_;refine DD ?_;refine Va J J ?_;refine Ds J J J ?_;refine Da J J ?_;refine Nt 15 J J J J J J fun back => ?_;refine S_slice Tk ZT_ok J J J J (by decide) (by decide) J J J J fun b45 => ?_;refine back _ _ _ _ (by kernel_rfl) ?_; clear back
     refine Nt 16 J J J J J J fun back => ?_;refine S_appInt Tk 1006 45 J J J J J J J J J J J J J (fun _ _ => J) (by assumption) (Nat.zero_le _) fun A' c' => ?_;refine back _ _ _ _ (by kernel_rfl) ?_; clear back
     refine Da J J ?_;refine Ns 18 J J J J J J J J J ?_;refine DD ?_;refine Va J J ?_;exact EK (1007 :: wKeys 3) (Res.t0 Tryz.results167) ⟨J, J⟩ (Wpp [_, _, _] kg spg J ‹_› J J J J J J J J) J (.blk J J (Wsub 15 J J J J J J J J J J J J J J J J (Bs 3 J J J J (Bs 3 J J J J (Bs 3 J J J J .nil))))) XR
end
section
attribute [local irreducible] X Pure Mod
def Wld.signal (W : Wld) (a : Int) : Wld := match W.que a with
 | [] => W
 | f :: r => (W.upd f.toNat (fun p => { p with mode := 2, on := 0 })).setQue a r
theorem c_dSignal (W : Wld) (who : Int) (b : Nat) (ts : List Value) (G : PH) (h1 : 1 ≤ W.procs.length) (h3 : W.procs.length ≤ 3) (ht : Tds G W.procs ts) (hq0 : W.q0.length ≤ 1000000) (hq1 : W.q1.length ≤ 1000000) (hf0 : ∀ f ∈ W.q0, 0 ≤ f ∧ f < W.procs.length) (hf1 : ∀ f ∈ W.q1, 0 ≤ f ∧ f < W.procs.length) (a : Int) (ha : a = 0 ∨ a = 1) :
  Mod Tryz.prog 168 [.agg #[.int .i64 a], .pointer (some ⟨b, 0, none⟩), .int .i64 who] G (worldP b W ts) fun v G' A' => G' = G ∧ A' = worldP b (W.signal a) ts := by
 refine Mod.intro Tryz.func168 Tryz.ntmps168 J J fun w S => ?_;refine Va J J ?_;refine S_box J J J J J fun b3 => ?_;obtain ⟨ps, x0, x1, x2, m0, m1, q0, q1, sd⟩ := W
 replace hq0 : q0.length ≤ 1000000 := hq0
 replace hq1 : q1.length ≤ 1000000 := hq1
 replace hf0 : ∀ f ∈ q0, 0 ≤ f ∧ f < ps.length := hf0
 replace hf1 : ∀ f ∈ q1, 0 ≤ f ∧ f < ps.length := hf1
 rcases shape h1 h3 ht with ⟨⟨a0, a1, a2, td0, mo0, on0, ro0⟩, A0, k0, rfl, rfl, s0⟩ | ⟨⟨a0, a1, a2, td0, mo0, on0, ro0⟩, A0, k0, ⟨b0, b1, b2, td1, mo1, on1, ro1⟩, A1, k1, rfl, rfl, s0, s1⟩ | ⟨⟨a0, a1, a2, td0, mo0, on0, ro0⟩, A0, k0, ⟨b0, b1, b2, td1, mo1, on1, ro1⟩, A1, k1, ⟨d0, d1, d2, td2, mo2, on2, ro2⟩, A2, k2, rfl, rfl, s0, s1, s2⟩
 ·rcases ha with rfl | rfl
  ·rcases hQ : q0 with _ | ⟨f, r⟩
   ·subst hQ
    refine OpP 1 1 J J J J fun bp bc br bs bg kp sp asd ksd aq0 kq0 aq1 kq1 kc spc kr spr ks sps kg spg hbg hmk => ?_; obtain ⟨g0, rfl⟩ := len1 hbg; clear hbg; refine NM J J ?_; dsimp only [wEnts, wCels, procCs, regEs, WX.of, vi]
    refine Va J J ?_;refine Ds J J J ?_;refine Da J J ?_;refine DD ?_;refine Va J J ?_;refine RT J J ?_;refine Va J J ?_;exact RK (1007 :: wKeys 1) (Res.t0 Tryz.results168) ⟨J, J⟩ (Wpp [_] kg spg J ‹_› J J J J J J J J) J (.blk J J (Wsub 5 J J J J J J J J J J J J J J J J (Bs 3 J J J J .nil))) XR
   ·subst hQ
    have hf := hf0 f (List.mem_cons_self ..)
    refine OpP 1 1 J J J J fun bp bc br bs bg kp sp asd ksd aq0 kq0 aq1 kq1 kc spc kr spr ks sps kg spg hbg hmk => ?_; obtain ⟨g0, rfl⟩ := len1 hbg; clear hbg; refine NM J J ?_; dsimp only [wEnts, wCels, procCs, regEs, WX.of, vi]
    refine Va J J ?_;refine Ds J J J ?_;refine Da J J ?_;refine DD ?_;refine Va J J ?_;refine RF J (by simp; omega) ?_;refine Va J J ?_;refine S_capO 1005 J fun hnc0 _ _ => ?_;refine S_someO 1005 J (by simp at hnc0; omega) fun gq offq hAq => ?_
    subst hAq
    refine Ds J J J ?_;obtain rfl : f = 0 := by simp at hf; omega
    refine Da J J ?_;refine D_val 5 J J J J J J J J J (V_index Tk J J J J (by omega) (by simp)) ?_;refine D_val 6 J J J J J J J J J (V_loadR (o := 0) Tk 1005 J J J J J) ?_;refine Da J J ?_;refine DD ?_;refine Va J J ?_;refine Ds J J J ?_;refine Da J J ?_;refine Nt 7 J J J J J J fun back => ?_;refine S_tailO Tk 1005 J J J J J J (fun _ => J) fun A' => ?_;refine back _ _ _ _ (by kernel_rfl) ?_; clear back
    refine Da J J ?_;refine Nt 8 J J J J J J fun back => ?_;refine S_lendO 1005 J J (fun hA hn hc hx => ?_) (fun g off cur hA hbg hnc hcm hl hfit ht' hG hb hcells => ?_)
    ·subst hA
     refine S_callN 1005 Tryz.call61 (c_CloneIntN _ _ (intC r) _ ⟨none, _, J, by simp at hq0; omega, by omega, by rw [hc]; simp [maxLen], by rw [intC_length]; simp, .inl hn⟩ (intC_one r)) rfl rfl rfl ?_;rintro v G' A'' ⟨A, c, base, rfl, rfl, rfl⟩ hext
     refine S_newRow 1005 J J ?_;refine S_base0 1005 J J ?_;refine back _ _ _ _ (by kernel_rfl) ?_; clear back
     refine Da J J ?_;refine Ns 10 J J J J J J J J J ?_;refine DD ?_;refine Va J J ?_;exact EK (1007 :: wKeys 1) (Res.t0 Tryz.results168) ⟨J, J⟩ (Wpp [_] kg spg J ‹_› J J J J J J J J) J (.blk J J (Wsub 5 J J J J J J J J J J J J J J J J (Bs 3 J J J J .nil))) XR
    ·subst hA
     refine S_callN 1005 Tryz.call61 (c_CloneIntN _ _ (intC r) _ ⟨_, _, J, by simp at hq0; omega, hnc, hcm, by rw [intC_length]; simp, .inr ⟨_, rfl, hcells⟩⟩ (intC_one r)) rfl rfl rfl ?_;rintro v G' A'' ⟨A, c, base, rfl, rfl, rfl⟩ hext
     refine S_newRow 1005 J J ?_;refine S_base0 1005 J J ?_;refine S_backO 2005 (base := 0) (PH.add_self _ _ _) hb (Nat.zero_le _) hnc hcm hl hfit ht' ?_
     rw [PH.del_add hG]
     refine back _ _ _ _ (by kernel_rfl) ?_; clear back
     refine Da J J ?_;refine Ns 10 J J J J J J J J J ?_;refine DD ?_;refine Va J J ?_;exact EK (1007 :: wKeys 1) (Res.t0 Tryz.results168) ⟨J, J⟩ (Wpp [_] kg spg J ‹_› J J J J J J J J) J (.blk J J (Wsub 5 J J J J J J J J J J J J J J J J (Bs 3 J J J J .nil))) XR
  ·rcases hQ : q1 with _ | ⟨f, r⟩
   ·subst hQ
    refine OpP 1 1 J J J J fun bp bc br bs bg kp sp asd ksd aq0 kq0 aq1 kq1 kc spc kr spr ks sps kg spg hbg hmk => ?_; obtain ⟨g0, rfl⟩ := len1 hbg; clear hbg; refine NM J J ?_; dsimp only [wEnts, wCels, procCs, regEs, WX.of, vi]
    refine Va J J ?_;refine Ds J J J ?_;refine Da J J ?_;refine DD ?_;refine Va J J ?_;refine RT J J ?_;refine Va J J ?_;exact RK (1007 :: wKeys 1) (Res.t0 Tryz.results168) ⟨J, J⟩ (Wpp [_] kg spg J ‹_› J J J J J J J J) J (.blk J J (Wsub 5 J J J J J J J J J J J J J J J J (Bs 3 J J J J .nil))) XR
   ·subst hQ
    have hf := hf1 f (List.mem_cons_self ..)
    refine OpP 1 1 J J J J fun bp bc br bs bg kp sp asd ksd aq0 kq0 aq1 kq1 kc spc kr spr ks sps kg spg hbg hmk => ?_; obtain ⟨g0, rfl⟩ := len1 hbg; clear hbg; refine NM J J ?_; dsimp only [wEnts, wCels, procCs, regEs, WX.of, vi]
    refine Va J J ?_;refine Ds J J J ?_;refine Da J J ?_;refine DD ?_;refine Va J J ?_;refine RF J (by simp; omega) ?_;refine Va J J ?_;refine S_capO 1006 J fun hnc0 _ _ => ?_;refine S_someO 1006 J (by simp at hnc0; omega) fun gq offq hAq => ?_
    subst hAq
    refine Ds J J J ?_;obtain rfl : f = 0 := by simp at hf; omega
    refine Da J J ?_;refine D_val 5 J J J J J J J J J (V_index Tk J J J J (by omega) (by simp)) ?_;refine D_val 6 J J J J J J J J J (V_loadR (o := 0) Tk 1006 J J J J J) ?_;refine Da J J ?_;refine DD ?_;refine Va J J ?_;refine Ds J J J ?_;refine Da J J ?_;refine Nt 7 J J J J J J fun back => ?_;refine S_tailO Tk 1006 J J J J J J (fun _ => J) fun A' => ?_;refine back _ _ _ _ (by kernel_rfl) ?_; clear back
    refine Da J J ?_;refine Nt 8 J J J J J J fun back => ?_;refine S_lendO 1006 J J (fun hA hn hc hx => ?_) (fun g off cur hA hbg hnc hcm hl hfit ht' hG hb hcells => ?_)
    ·subst hA
     refine S_callN 1006 Tryz.call61 (c_CloneIntN _ _ (intC r) _ ⟨none, _, J, by simp at hq1; omega, by omega, by rw [hc]; simp [maxLen], by rw [intC_length]; simp, .inl hn⟩ (intC_one r)) rfl rfl rfl ?_;rintro v G' A'' ⟨A, c, base, rfl, rfl, rfl⟩ hext
     refine S_newRow 1006 J J ?_;refine S_base0 1006 J J ?_;refine back _ _ _ _ (by kernel_rfl) ?_; clear back
     refine Da J J ?_;refine Ns 10 J J J J J J J J J ?_;refine DD ?_;refine Va J J ?_;exact EK (1007 :: wKeys 1) (Res.t0 Tryz.results168) ⟨J, J⟩ (Wpp [_] kg spg J ‹_› J J J J J J J J) J (.blk J J (Wsub 5 J J J J J J J J J J J J J J J J (Bs 3 J J J J .nil))) XR
    ·subst hA
     refine S_callN 1006 Tryz.call61 (c_CloneIntN _ _ (intC r) _ ⟨_, _, J, by simp at hq1; omega, hnc, hcm, by rw [intC_length]; simp, .inr ⟨_, rfl, hcells⟩⟩ (intC_one r)) rfl rfl rfl ?_;rintro v G' A'' ⟨A, c, base, rfl, rfl, rfl⟩ hext
     refine S_newRow 1006 J J ?_;refine S_base0 1006 J J ?_;refine S_backO 2005 (base := 0) (PH.add_self _ _ _) hb (Nat.zero_le _) hnc hcm hl hfit ht' ?_
     rw [PH.del_add hG]
     refine back _ _ _ _ (by kernel_rfl) ?_; clear back
     refine Da J J ?_;refine Ns 10 J J J J J J J J J ?_;refine DD ?_;refine Va J J ?_;exact EK (1007 :: wKeys 1) (Res.t0 Tryz.results168) ⟨J, J⟩ (Wpp [_] kg spg J ‹_› J J J J J J J J) J (.blk J J (Wsub 5 J J J J J J J J J J J J J J J J (Bs 3 J J J J .nil))) XR
 ·rcases ha with rfl | rfl
  ·rcases hQ : q0 with _ | ⟨f, r⟩
   ·subst hQ
    refine OpP 1 1 J J J J fun bp bc br bs bg kp sp asd ksd aq0 kq0 aq1 kq1 kc spc kr spr ks sps kg spg hbg hmk => ?_; obtain ⟨g0, g1, rfl⟩ := len2 hbg; clear hbg; refine NM J J ?_; dsimp only [wEnts, wCels, procCs, regEs, WX.of, vi]
    refine Va J J ?_;refine Ds J J J ?_;refine Da J J ?_;refine DD ?_;refine Va J J ?_;refine RT J J ?_;refine Va J J ?_;exact RK (1007 :: wKeys 2) (Res.t0 Tryz.results168) ⟨J, J⟩ (Wpp [_, _] kg spg J ‹_› J J J J J J J J) J (.blk J J (Wsub 10 J J J J J J J J J J J J J J J J (Bs 3 J J J J (Bs 3 J J J J .nil)))) XR
   ·subst hQ
    have hf := hf0 f (List.mem_cons_self ..)
    refine OpP 1 1 J J J J fun bp bc br bs bg kp sp asd ksd aq0 kq0 aq1 kq1 kc spc kr spr ks sps kg spg hbg hmk => ?_; obtain ⟨g0, g1, rfl⟩ := len2 hbg; clear hbg; refine NM J J ?_; dsimp only [wEnts, wCels, procCs, regEs, WX.of, vi]
    refine Va J J ?_;refine Ds J J J ?_;refine Da J J ?_;refine DD ?_;refine Va J J ?_;refine RF J (by simp; omega) ?_;refine Va J J ?_;refine S_capO 1005 J fun hnc0 _ _ => ?_;refine S_someO 1005 J (by simp at hnc0; omega) fun gq offq hAq => ?_
    subst hAq
    refine Ds J J J ?_
    rcases (by simp at hf; omega : f = 0 ∨ f = 1) with rfl | rfl
    ·refine Da J J ?_
     refine D_val 5 J J J J J J J J J (V_index Tk J J J J (by omega) (by simp)) ?_;refine D_val 6 J J J J J J J J J (V_loadR (o := 0) Tk 1005 J J J J J) ?_;refine Da J J ?_;refine DD ?_;refine Va J J ?_;refine Ds J J J ?_;refine Da J J ?_;refine Nt 7 J J J J J J fun back => ?_;refine S_tailO Tk 1005 J J J J J J (fun _ => J) fun A' => ?_;refine back _ _ _ _ (by kernel_rfl) ?_; clear back
     refine Da J J ?_;refine Nt 8 J J J J J J fun back => ?_;refine S_lendO 1005 J J (fun hA hn hc hx => ?_) (fun g off cur hA hbg hnc hcm hl hfit ht' hG hb hcells => ?_)
     ·subst hA
      refine S_callN 1005 Tryz.call61 (c_CloneIntN _ _ (intC r) _ ⟨none, _, J, by simp at hq0; omega, by omega, by rw [hc]; simp [maxLen], by rw [intC_length]; simp, .inl hn⟩ (intC_one r)) rfl rfl rfl ?_;rintro v G' A'' ⟨A, c, base, rfl, rfl, rfl⟩ hext
      refine S_newRow 1005 J J ?_;refine S_base0 1005 J J ?_;refine back _ _ _ _ (by kernel_rfl) ?_; clear back
      refine Da J J ?_;refine Ns 10 J J J J J J J J J ?_;refine DD ?_;refine Va J J ?_;exact EK (1007 :: wKeys 2) (Res.t0 Tryz.results168) ⟨J, J⟩ (Wpp [_, _] kg spg J ‹_› J J J J J J J J) J (.blk J J (Wsub 10 J J J J J J J J J J J J J J J J (Bs 3 J J J J (Bs 3 J J J J .nil)))) XR
     ·subst hA
      refine S_callN 1005 Tryz.call61 (c_CloneIntN _ _ (intC r) _ ⟨_, _, J, by simp at hq0; omega, hnc, hcm, by rw [intC_length]; simp, .inr ⟨_, rfl, hcells⟩⟩ (intC_one r)) rfl rfl rfl ?_;rintro v G' A'' ⟨A, c, base, rfl, rfl, rfl⟩ hext
      refine S_newRow 1005 J J ?_;refine S_base0 1005 J J ?_;refine S_backO 2005 (base := 0) (PH.add_self _ _ _) hb (Nat.zero_le _) hnc hcm hl hfit ht' ?_
      rw [PH.del_add hG]
      refine back _ _ _ _ (by kernel_rfl) ?_; clear back
      refine Da J J ?_;refine Ns 10 J J J J J J J J J ?_;refine DD ?_;refine Va J J ?_;exact EK (1007 :: wKeys 2) (Res.t0 Tryz.results168) ⟨J, J⟩ (Wpp [_, _] kg spg J ‹_› J J J J J J J J) J (.blk J J (Wsub 10 J J J J J J J J J J J J J J J J (Bs 3 J J J J (Bs 3 J J J J .nil)))) XR
    ·refine Da J J ?_
     refine D_val 5 J J J J J J J J J (V_index Tk J J J J (by omega) (by simp)) ?_;refine D_val 6 J J J J J J J J J (V_loadR (o := 0) Tk 1005 J J J J J) ?_;refine Da J J ?_;refine DD ?_;refine Va J J ?_;refine Ds J J J ?_;refine Da J J ?_;refine Nt 7 J J J J J J fun back => ?_;refine S_tailO Tk 1005 J J J J J J (fun _ => J) fun A' => ?_;refine back _ _ _ _ (by kernel_rfl) ?_; clear back
     refine Da J J ?_;refine Nt 8 J J J J J J fun back => ?_;refine S_lendO 1005 J J (fun hA hn hc hx => ?_) (fun g off cur hA hbg hnc hcm hl hfit ht' hG hb hcells => ?_)
     ·subst hA
      refine S_callN 1005 Tryz.call61 (c_CloneIntN _ _ (intC r) _ ⟨none, _, J, by simp at hq0; omega, by omega, by rw [hc]; simp [maxLen], by rw [intC_length]; simp, .inl hn⟩ (intC_one r)) rfl rfl rfl ?_;rintro v G' A'' ⟨A, c, base, rfl, rfl, rfl⟩ hext
      refine S_newRow 1005 J J ?_;refine S_base0 1005 J J ?_;refine back _ _ _ _ (by kernel_rfl) ?_; clear back
      refine Da J J ?_;refine Ns 10 J J J J J J J J J ?_;refine DD ?_;refine Va J J ?_;exact EK (1007 :: wKeys 2) (Res.t0 Tryz.results168) ⟨J, J⟩ (Wpp [_, _] kg spg J ‹_› J J J J J J J J) J (.blk J J (Wsub 10 J J J J J J J J J J J J J J J J (Bs 3 J J J J (Bs 3 J J J J .nil)))) XR
     ·subst hA
      refine S_callN 1005 Tryz.call61 (c_CloneIntN _ _ (intC r) _ ⟨_, _, J, by simp at hq0; omega, hnc, hcm, by rw [intC_length]; simp, .inr ⟨_, rfl, hcells⟩⟩ (intC_one r)) rfl rfl rfl ?_;rintro v G' A'' ⟨A, c, base, rfl, rfl, rfl⟩ hext
      refine S_newRow 1005 J J ?_;refine S_base0 1005 J J ?_;refine S_backO 2005 (base := 0) (PH.add_self _ _ _) hb (Nat.zero_le _) hnc hcm hl hfit ht' ?_
      rw [PH.del_add hG]
      refine back _ _ _ _ (by kernel_rfl) ?_; clear back
      refine Da J J ?_;refine Ns 10 J J J J J J J J J ?_;refine DD ?_;refine Va J J ?_;exact EK (1007 :: wKeys 2) (Res.t0 Tryz.results168) ⟨J, J⟩ (Wpp [_, _] kg spg J ‹_› J J J J J J J J) J (.blk J J (Wsub 10 J J J J J J J J J J J J J J J J (Bs 3 J J J J (Bs 3 J J J J .nil)))) XR
  ·rcases hQ : q1 with _ | ⟨f, r⟩
   ·subst hQ
    refine OpP 1 1 J J J J fun bp bc br bs bg kp sp asd ksd aq0 kq0 aq1 kq1 kc spc kr spr ks sps kg spg hbg hmk => ?_; obtain ⟨g0, g1, rfl⟩ := len2 hbg; clear hbg; refine NM J J ?_; dsimp only [wEnts, wCels, procCs, regEs, WX.of, vi]
    refine Va J J ?_;refine Ds J J J ?_;refine Da J J ?_;refine DD ?_;refine Va J J ?_;refine RT J J ?_;refine Va J J ?_;exact RK (1007 :: wKeys 2) (Res.t0 Tryz.results168) ⟨J, J⟩ (Wpp [_, _] kg spg J ‹_› J J J J J J J J) J (.blk J J (Wsub 10 J J J J J J J J J J J J J J J J (Bs 3 J J J J (Bs 3 J J J J .nil)))) XR
   ·subst hQ
    have hf := hf1 f (List.mem_cons_self ..)
    refine OpP 1 1 J J J J fun bp bc br bs bg kp sp asd ksd aq0 kq0 aq1 kq1 kc spc kr spr ks sps kg spg hbg hmk => ?_; obtain ⟨g0, g1, rfl⟩ := len2 hbg; clear hbg; refine NM J J ?_; dsimp only [wEnts, wCels, procCs, regEs, WX.of, vi]
    refine Va J J ?_;refine Ds J J J ?_;refine Da J J ?_;refine DD ?_;refine Va J J ?_;refine RF J (by simp; omega) ?_;refine Va J J ?_;refine S_capO 1006 J fun hnc0 _ _ => ?_;refine S_someO 1006 J (by simp at hnc0; omega) fun gq offq hAq => ?_
    subst hAq
    refine Ds J J J ?_
    rcases (by simp at hf; omega : f = 0 ∨ f = 1) with rfl | rfl
    ·refine Da J J ?_
     refine D_val 5 J J J J J J J J J (V_index Tk J J J J (by omega) (by simp)) ?_;refine D_val 6 J J J J J J J J J (V_loadR (o := 0) Tk 1006 J J J J J) ?_;refine Da J J ?_;refine DD ?_;refine Va J J ?_;refine Ds J J J ?_;refine Da J J ?_;refine Nt 7 J J J J J J fun back => ?_;refine S_tailO Tk 1006 J J J J J J (fun _ => J) fun A' => ?_;refine back _ _ _ _ (by kernel_rfl) ?_; clear back
     refine Da J J ?_;refine Nt 8 J J J J J J fun back => ?_;refine S_lendO 1006 J J (fun hA hn hc hx => ?_) (fun g off cur hA hbg hnc hcm hl hfit ht' hG hb hcells => ?_)
     ·subst hA
      refine S_callN 1006 Tryz.call61 (c_CloneIntN _ _ (intC r) _ ⟨none, _, J, by simp at hq1; omega, by omega, by rw [hc]; simp [maxLen], by rw [intC_length]; simp, .inl hn⟩ (intC_one r)) rfl rfl rfl ?_;rintro v G' A'' ⟨A, c, base, rfl, rfl, rfl⟩ hext
      refine S_newRow 1006 J J ?_;refine S_base0 1006 J J ?_;refine back _ _ _ _ (by kernel_rfl) ?_; clear back
      refine Da J J ?_;refine Ns 10 J J J J J J J J J ?_;refine DD ?_;refine Va J J ?_;exact EK (1007 :: wKeys 2) (Res.t0 Tryz.results168) ⟨J, J⟩ (Wpp [_, _] kg spg J ‹_› J J J J J J J J) J (.blk J J (Wsub 10 J J J J J J J J J J J J J J J J (Bs 3 J J J J (Bs 3 J J J J .nil)))) XR
     ·subst hA
      refine S_callN 1006 Tryz.call61 (c_CloneIntN _ _ (intC r) _ ⟨_, _, J, by simp at hq1; omega, hnc, hcm, by rw [intC_length]; simp, .inr ⟨_, rfl, hcells⟩⟩ (intC_one r)) rfl rfl rfl ?_;rintro v G' A'' ⟨A, c, base, rfl, rfl, rfl⟩ hext
      refine S_newRow 1006 J J ?_;refine S_base0 1006 J J ?_;refine S_backO 2005 (base := 0) (PH.add_self _ _ _) hb (Nat.zero_le _) hnc hcm hl hfit ht' ?_
      rw [PH.del_add hG]
      refine back _ _ _ _ (by kernel_rfl) ?_; clear back
      refine Da J J ?_;refine Ns 10 J J J J J J J J J ?_;refine DD ?_;refine Va J J ?_;exact EK (1007 :: wKeys 2) (Res.t0 Tryz.results168) ⟨J, J⟩ (Wpp [_, _] kg spg J ‹_› J J J J J J J J) J (.blk J J (Wsub 10 J J J J J J J J J J J J J J J J (Bs 3 J J J J (Bs 3 J J J J .nil)))) XR
    ·refine Da J J ?_
     refine D_val 5 J J J J J J J J J (V_index Tk J J J J (by omega) (by simp)) ?_;refine D_val 6 J J J J J J J J J (V_loadR (o := 0) Tk 1006 J J J J J) ?_;refine Da J J ?_;refine DD ?_;refine Va J J ?_;refine Ds J J J ?_;refine Da J J ?_;refine Nt 7 J J J J J J fun back => ?_;refine S_tailO Tk 1006 J J J J J J (fun _ => J) fun A' => ?_;refine back _ _ _ _ (by kernel_rfl) ?_; clear back
     refine Da J J ?_;refine Nt 8 J J J J J J fun back => ?_;refine S_lendO 1006 J J (fun hA hn hc hx => ?_) (fun g off cur hA hbg hnc hcm hl hfit ht' hG hb hcells => ?_)
     ·subst hA
      refine S_callN 1006 Tryz.call61 (c_CloneIntN _ _ (intC r) _ ⟨none, _, J, by simp at hq1; omega, by omega, by rw [hc]; simp [maxLen], by rw [intC_length]; simp, .inl hn⟩ (intC_one r)) rfl rfl rfl ?_;rintro v G' A'' ⟨A, c, base, rfl, rfl, rfl⟩ hext
      refine S_newRow 1006 J J ?_;refine S_base0 1006 J J ?_;refine back _ _ _ _ (by kernel_rfl) ?_; clear back
      refine Da J J ?_;refine Ns 10 J J J J J J J J J ?_;refine DD ?_;refine Va J J ?_;exact EK (1007 :: wKeys 2) (Res.t0 Tryz.results168) ⟨J, J⟩ (Wpp [_, _] kg spg J ‹_› J J J J J J J J) J (.blk J J (Wsub 10 J J J J J J J J J J J J J J J J (Bs 3 J J J J (Bs 3 J J J J .nil)))) XR
     ·subst hA
      refine S_callN 1006 Tryz.call61 (c_CloneIntN _ _ (intC r) _ ⟨_, _, J, by simp at hq1; omega, hnc, hcm, by rw [intC_length]; simp, .inr ⟨_, rfl, hcells⟩⟩ (intC_one r)) rfl rfl rfl ?_;rintro v G' A'' ⟨A, c, base, rfl, rfl, rfl⟩ hext
      refine S_newRow 1006 J J ?_;refine S_base0 1006 J J ?_;refine S_backO 2005 (base := 0) (PH.add_self _ _ _) hb (Nat.zero_le _) hnc hcm hl hfit ht' ?_
      rw [PH.del_add hG]
      refine back _ _ _ _ (by kernel_rfl) ?_; clear back
      refine Da J J ?_;refine Ns 10 J J J J J J J J J ?_;refine DD ?_;refine Va J J ?_;exact EK (1007 :: wKeys 2) (Res.t0 Tryz.results168) ⟨J, J⟩ (Wpp [_, _] kg spg J ‹_› J J J J J J J J) J (.blk J J (Wsub 10 J J J J J J J J J J J J J J J J (Bs 3 J J J J (Bs 3 J J J J .nil)))) XR
 ·rcases ha with rfl | rfl
  ·rcases hQ : q0 with _ | ⟨f, r⟩
   ·subst hQ
    refine OpP 1 1 J J J J fun bp bc br bs bg kp sp asd ksd aq0 kq0 aq1 kq1 kc spc kr spr ks sps kg spg hbg hmk => ?_; obtain ⟨g0, g1, g2, rfl⟩ := len3 hbg; clear hbg; refine NM J J ?_; dsimp only [wEnts, wCels, procCs, regEs, WX.of, vi]
    refine Va J J ?_;refine Ds J J J ?_;refine Da J J ?_;refine DD ?_;refine Va J J ?_;refine RT J J ?_;refine Va J J ?_;exact RK (1007 :: wKeys 3) (Res.t0 Tryz.results168) ⟨J, J⟩ (Wpp [_, _, _] kg spg J ‹_› J J J J J J J J) J (.blk J J (Wsub 15 J J J J J J J J J J J J J J J J (Bs 3 J J J J (Bs 3 J J J J (Bs 3 J J J J .nil))))) XR
   ·subst hQ
    have hf := hf0 f (List.mem_cons_self ..)
    refine OpP 1 1 J J J J fun bp bc br bs bg kp sp asd ksd aq0 kq0 aq1 kq1 kc spc kr spr ks sps kg spg hbg hmk => ?_; obtain ⟨g0, g1, g2, rfl⟩ := len3 hbg; clear hbg; refine NM J J ?_; dsimp only [wEnts, wCels, procCs, regEs, WX.of, vi]
    refine Va J J ?_;refine Ds J J J ?_;refine Da J J ?_;refine DD ?_;refine Va J J ?_;refine RF J (by simp; omega) ?_;refine Va J J ?_;refine S_capO 1005 J fun hnc0 _ _ => ?_;refine S_someO 1005 J (by simp at hnc0; omega) fun gq offq hAq => ?_
    subst hAq
    refine Ds J J J ?_
    rcases (by simp at hf; omega : f = 0 ∨ f = 1 ∨ f = 2) with rfl | rfl | rfl
    ·refine Da J J ?_
     refine D_val 5 J J J J J J J J J (V_index Tk J J J J (by omega) (by simp)) ?_;refine D_val 6 J J J J J J J J J (V_loadR (o := 0) Tk 1005 J J J J J) ?_;refine Da J J ?_;refine DD ?_;refine Va J J ?_;refine Ds J J J ?_;refine Da J J ?_;refine Nt 7 J J J J J J fun back => ?_;refine S_tailO Tk 1005 J J J J J J (fun _ => J) fun A' => ?_;refine back _ _ _ _ (by kernel_rfl) ?_; clear back
     refine Da J J ?_;refine Nt 8 J J J J J J fun back => ?_;refine S_lendO 1005 J J (fun hA hn hc hx => ?_) (fun g off cur hA hbg hnc hcm hl hfit ht' hG hb hcells => ?_)
     ·subst hA
      refine S_callN 1005 Tryz.call61 (c_CloneIntN _ _ (intC r) _ ⟨none, _, J, by simp at hq0; omega, by omega, by rw [hc]; simp [maxLen], by rw [intC_length]; simp, .inl hn⟩ (intC_one r)) rfl rfl rfl ?_;rintro v G' A'' ⟨A, c, base, rfl, rfl, rfl⟩ hext
      refine S_newRow 1005 J J ?_;refine S_base0 1005 J J ?_;refine back _ _ _ _ (by kernel_rfl) ?_; clear back
      refine Da J J ?_;refine Ns 10 J J J J J J J J J ?_;refine DD ?_;refine Va J J ?_;exact EK (1007 :: wKeys 3) (Res.t0 Tryz.results168) ⟨J, J⟩ (Wpp [_, _, _] kg spg J ‹_› J J J J J J J J) J (.blk J J (Wsub 15 J J J J J J J J J J J J J J J J (Bs 3 J J J J (Bs 3 J J J J (Bs 3 J J J J .nil))))) XR
     ·subst hA
      refine S_callN 1005 Tryz.call61 (c_CloneIntN _ _ (intC r) _ ⟨_, _, J, by simp at hq0; omega, hnc, hcm, by rw [intC_length]; simp, .inr ⟨_, rfl, hcells⟩⟩ (intC_one r)) rfl rfl rfl ?_;rintro v G' A'' ⟨A, c, base, rfl, rfl, rfl⟩ hext
      refine S_newRow 1005 J J ?_;refine S_base0 1005 J J ?_;refine S_backO 2005 (base := 0) (PH.add_self _ _ _) hb (Nat.zero_le _) hnc hcm hl hfit ht' ?_
      rw [PH.del_add hG]
      refine back _ _ _ _ (by kernel_rfl) ?_; clear back
      refine Da J J ?_;refine Ns 10 J J J J J J J J J ?_;refine DD ?_;refine Va J J ?_;exact EK (1007 :: wKeys 3) (Res.t0 Tryz.results168) ⟨J, J⟩ (Wpp [_, _, _] kg spg J ‹_› J J J J J J J J) J (.blk J J (Wsub 15 J J J J J J J J J J J J J J J J (Bs 3 J J J J (Bs 3 J J J J (Bs 3 J J J J .nil))))) XR
    ·refine Da J J ?_
     refine D_val 5 J J J J J J J J J (V_index Tk J J J J (by omega) (by simp)) ?_;refine D_val 6 J J J J J J J J J (V_loadR (o := 0) Tk 1005 J J J J J) ?_;refine Da J J ?_;refine DD ?_;refine Va J J ?_;refine Ds J J J ?_;refine Da J J ?_;refine Nt 7 J J J J J J fun back => ?_;refine S_tailO Tk 1005 J J J J J J (fun _ => J) fun A' => ?_;refine back _ _ _ _ (by kernel_rfl) ?_; clear back
     refine Da J J ?_;refine Nt 8 J J J J J J fun back => ?_;refine S_lendO 1005 J J (fun hA hn hc hx => ?_) (fun g off cur hA hbg hnc hcm hl hfit ht' hG hb hcells => ?_)
     ·subst hA
      refine S_callN 1005 Tryz.call61 (c_CloneIntN _ _ (intC r) _ ⟨none, _, J, by simp at hq0; omega, by omega, by rw [hc]; simp [maxLen], by rw [intC_length]; simp, .inl hn⟩ (intC_one r)) rfl rfl rfl ?_;rintro v G' A'' ⟨A, c, base, rfl, rfl, rfl⟩ hext
      refine S_newRow 1005 J J ?_;refine S_base0 1005 J J ?_;refine back _ _ _ _ (by kernel_rfl) ?_; clear back
      refine Da J J ?_;refine Ns 10 J J J J J J J J J ?_;refine DD ?_;refine Va J J ?_;exact EK (1007 :: wKeys 3) (Res.t0 Tryz.results168) ⟨J, J⟩ (Wpp [_, _, _] kg spg J ‹_› J J J J J J J J) J (.blk J J (Wsub 15 J J J J J J J J J J J J J J J J (Bs 3 J J J J (Bs 3 J J J J (Bs 3 J J J J .nil))))) XR
     ·subst hA
      refine S_callN 1005 Tryz.call61 (c_CloneIntN _ _ (intC r) _ ⟨_, _, J, by simp at hq0; omega, hnc, hcm, by rw [intC_length]; simp, .inr ⟨_, rfl, hcells⟩⟩ (intC_one r)) rfl rfl rfl ?_;rintro v G' A'' ⟨A, c, base, rfl, rfl, rfl⟩ hext
      refine S_newRow 1005 J J ?_;refine S_base0 1005 J J ?_;refine S_backO 2005 (base := 0) (PH.add_self _ _ _) hb (Nat.zero_le _) hnc hcm hl hfit ht' ?_
      rw [PH.del_add hG]
      refine back _ _ _ _ (by kernel_rfl) ?_; clear back
      refine Da J J ?_;refine Ns 10 J J J J J J J J J ?_;refine DD ?_;refine Va J J ?_;exact EK (1007 :: wKeys 3) (Res.t0 Tryz.results168) ⟨J, J⟩ (Wpp [_, _, _] kg spg J ‹_› J J J J J J J J) J (.blk J J (Wsub 15 J J J J J J J J J J J J J J J J (Bs 3 J J J J (Bs 3 J J J J (Bs 3 J J J J .nil))))) XR
    ·refine Da J J ?_
     refine D_val 5 J J J J J J J J J (V_index Tk J J J J (by omega) (by simp)) ?_;refine D_val 6 J J J J J J J J J (V_loadR (o := 0) Tk 1005 J J J J J) ?_;refine Da J J ?_;refine DD ?_;refine Va J J ?_;refine Ds J J J ?_;refine Da J J ?_;refine Nt 7 J J J J J J fun back => ?_;refine S_tailO Tk 1005 J J J J J J (fun _ => J) fun A' => ?_;refine back _ _ _ _ (by kernel_rfl) ?_; clear back
     refine Da J J ?_;refine Nt 8 J J J J J J fun back => ?_;refine S_lendO 1005 J J (fun hA hn hc hx => ?_) (fun g off cur hA hbg hnc hcm hl hfit ht' hG hb hcells => ?_)
     ·subst hA
      refine S_callN 1005 Tryz.call61 (c_CloneIntN _ _ (intC r) _ ⟨none, _, J, by simp at hq0; omega, by omega, by rw [hc]; simp [maxLen], by rw [intC_length]; simp, .inl hn⟩ (intC_one r)) rfl rfl rfl ?_;rintro v G' A'' ⟨A, c, base, rfl, rfl, rfl⟩ hext
      refine S_newRow 1005 J J ?_;refine S_base0 1005 J J ?_;refine back _ _ _ _ (by kernel_rfl) ?_; clear back
      refine Da J J ?_;refine Ns 10 J J J J J J J J J ?_;refine DD ?_;refine Va J J ?_;exact EK (1007 :: wKeys 3) (Res.t0 Tryz.results168) ⟨J, J⟩ (Wpp [_, _, _] kg spg J ‹_› J J J J J J J J) J (.blk J J (Wsub 15 J J J J J J J J J J J J J J J J (Bs 3 J J J J (Bs 3 J J J J (Bs 3 J J J J .nil))))) XR
     ·subst hA
      refine S_callN 1005 Tryz.call61 (c_CloneIntN _ _ (intC r) _ ⟨_, _, J, by simp at hq0; omega, hnc, hcm, by rw [intC_length]; simp, .inr ⟨_, rfl, hcells⟩⟩ (intC_one r)) rfl rfl rfl ?_;rintro v G' A'' ⟨A, c, base, rfl, rfl, rfl⟩ hext
      refine S_newRow 1005 J J ?_;refine S_base0 1005 J J ?_;refine S_backO 2005 (base := 0) (PH.add_self _ _ _) hb (Nat.zero_le _) hnc hcm hl hfit ht' ?_
      rw [PH.del_add hG]
      refine back _ _ _ _ (by kernel_rfl) ?_; clear back
      refine Da J J ?_;refine Ns 10 J J J J J J J J J ?_;refine DD ?_;refine Va J J ?_;exact EK (1007 :: wKeys 3) (Res.t0 Tryz.results168) ⟨J, J⟩ (Wpp [_, _, _] kg spg J ‹_› J J J J J J J J) J (.blk J J (Wsub 15 J J J J J J J J J J J J J J J J (Bs 3 J J J J (Bs 3 J J J J (Bs 3 J J J J .nil))))) XR
  ·rcases hQ : q1 with _ | ⟨f, r⟩
   ·subst hQ
    refine OpP 1 1 J J J J fun bp bc br bs bg kp sp asd ksd aq0 kq0 aq1 kq1 kc spc kr spr ks sps kg spg hbg hmk => ?_; obtain ⟨g0, g1, g2, rfl⟩ := len3 hbg; clear hbg; refine NM J J ?_; dsimp only [wEnts, wCels, procCs, regEs, WX.of, vi]
    refine Va J J ?_;refine Ds J J J ?_;refine Da J J ?_;refine DD ?_;refine Va J J ?_;refine RT J J ?_;refine Va J J ?_;exact RK (1007 :: wKeys 3) (Res.t0 Tryz.results168) ⟨J, J⟩ (Wpp [_, _, _] kg spg J ‹_› J J J J J J J J) J (.blk J J (Wsub 15 J J J J J J J J J J J J J J J J (Bs 3 J J J J (Bs 3 J J J J (Bs 3 J J J J .nil))))) XR
   ·subst hQ
    have hf := hf1 f (List.mem_cons_self ..)
    refine OpP 1 1 J J J J fun bp bc br bs bg kp sp asd ksd aq0 kq0 aq1 kq1 kc spc kr spr ks sps kg spg hbg hmk => ?_; obtain ⟨g0, g1, g2, rfl⟩ := len3 hbg; clear hbg; refine NM J J ?_; dsimp only [wEnts, wCels, procCs, regEs, WX.of, vi]
    refine Va J J ?_;refine Ds J J J ?_;refine Da J J ?_;refine DD ?_;refine Va J J ?_;refine RF J (by simp; omega) ?_;refine Va J J ?_;refine S_capO 1006 J fun hnc0 _ _ => ?_;refine S_someO 1006 J (by simp at hnc0; omega) fun gq offq hAq => ?_
    subst hAq
    refine Ds J J J ?_
    rcases (by simp at hf; omega : f = 0 ∨ f = 1 ∨ f = 2) with rfl | rfl | rfl
    ·refine Da J J ?_
     refine D_val 5 J J J J J J J J J (V_index Tk J J J J (by omega) (by simp)) ?_;refine D_val 6 J J J J J J J J J (V_loadR (o := 0) Tk 1006 J J J J J) ?_;refine Da J J ?_;refine DD ?_;refine Va J J ?_;refine Ds J J J ?_;refine Da J J ?_;refine Nt 7 J J J J J J fun back => ?_;refine S_tailO Tk 1006 J J J J J J (fun _ => J) fun A' => ?_;refine back _ _ _ _ (by kernel_rfl) ?_; clear back
     refine Da J J ?_;refine Nt 8 J J J J J J fun back => ?_;refine S_lendO 1006 J J (fun hA hn hc hx => ?_) (fun g off cur hA hbg hnc hcm hl hfit ht' hG hb hcells => ?_)
     ·subst hA
      refine S_callN 1006 Tryz.call61 (c_CloneIntN _ _ (intC r) _ ⟨none, _, J, by simp at hq1; omega, by omega, by rw [hc]; simp [maxLen], by rw [intC_length]; simp, .inl hn⟩ (intC_one r)) rfl rfl rfl ?_;rintro v G' A'' ⟨A, c, base, rfl, rfl, rfl⟩ hext
      refine S_newRow 1006 J J ?_;refine S_base0 1006 J J ?_;refine back _ _ _ _ (by kernel_rfl) ?_; clear back
      refine Da J J ?_;refine Ns 10 J J J J J J J J J ?_;refine DD ?_;refine Va J J ?_;exact EK (1007 :: wKeys 3) (Res.t0 Tryz.results168) ⟨J, J⟩ (Wpp [_, _, _] kg spg J ‹_› J J J J J J J J) J (.blk J J (Wsub 15 J J J J J J J J J J J J J J J J (Bs 3 J J J J (Bs 3 J J J J (Bs 3 J J J J .nil))))) XR
     ·subst hA
      refine S_callN 1006 Tryz.call61 (c_CloneIntN _ _ (intC r) _ ⟨_, _, J, by simp at hq1; omega, hnc, hcm, by rw [intC_length]; simp, .inr ⟨_, rfl, hcells⟩⟩ (intC_one r)) rfl rfl rfl ?_;rintro v G' A'' ⟨A, c, base, rfl, rfl, rfl⟩ hext
      refine S_newRow 1006 J J ?_;refine S_base0 1006 J J ?_;refine S_backO 2005 (base := 0) (PH.add_self _ _ _) hb (Nat.zero_le _) hnc hcm hl hfit ht' ?_
      rw [PH.del_add hG]
      refine back _ _ _ _ (by kernel_rfl) ?_; clear back
      refine Da J J ?_;refine Ns 10 J J J J J J J J J ?_;refine DD ?_;refine Va J J ?_;exact EK (1007 :: wKeys 3) (Res.t0 Tryz.results168) ⟨J, J⟩ (Wpp [_, _, _] kg spg J ‹_› J J J J J J J J) J (.blk J J (Wsub 15 J J J J J J J J J J J J J J J J (Bs 3 J J J J (Bs 3 J J J J (Bs 3 J J J J .nil))))) XR
    ·refine Da J J ?_
     refine D_val 5 J J J J J J J J J (V_index Tk J J J J (by omega) (by simp)) ?_;refine D_val 6 J J J J J J J J J (V_loadR (o := 0) Tk 1006 J J J J J) ?_;refine Da J J ?_;refine DD ?_;refine Va J J ?_;refine Ds J J J ?_;refine Da J J ?_;refine Nt 7 J J J J J J fun back => ?_;refine S_tailO Tk 1006 J J J J J J (fun _ => J) fun A' => ?_;refine back _ _ _ _ (by kernel_rfl) ?_; clear back
     refine Da J J ?_;refine Nt 8 J J J J J J fun back => ?_;refine S_lendO 1006 J J (fun hA hn hc hx => ?_) (fun g off cur hA hbg hnc hcm hl hfit ht' hG hb hcells => ?_)
     ·subst hA
      refine S_callN 1006 Tryz.call61 (c_CloneIntN _ _ (intC r) _ ⟨none, _, J, by simp at hq1; omega, by omega, by rw [hc]; simp [maxLen], by rw [intC_length]; simp, .inl hn⟩ (intC_one r)) rfl rfl rfl ?_;rintro v G' A'' ⟨A, c, base, rfl, rfl, rfl⟩ hext
      refine S_newRow 1006 J J ?_;refine S_base0 1006 J J ?_;refine back _ _ _ _ (by kernel_rfl) ?_; clear back
      refine Da J J ?_;refine Ns 10 J J J J J J J J J ?_;refine DD ?_;refine Va J J ?_;exact EK (1007 :: wKeys 3) (Res.t0 Tryz.results168) ⟨J, J⟩ (Wpp [_, _, _] kg spg J ‹_› J J J J J J J J) J (.blk J J (Wsub 15 J J J J J J J J J J J J J J J J (Bs 3 J J J J (Bs 3 J J J J (Bs 3 J J J J .nil))))) XR
     ·subst hA
      refine S_callN 1006 Tryz.call61 (c_CloneIntN _ _ (intC r) _ ⟨_, _, J, by simp at hq1; omega, hnc, hcm, by rw [intC_length]; simp, .inr ⟨_, rfl, hcells⟩⟩ (intC_one r)) rfl rfl rfl ?_;rintro v G' A'' ⟨A, c, base, rfl, rfl, rfl⟩ hext
      refine S_newRow 1006 J J ?_;refine S_base0 1006 J J ?_;refine S_backO 2005 (base := 0) (PH.add_self _ _ _) hb (Nat.zero_le _) hnc hcm hl hfit ht' ?_
      rw [PH.del_add hG]
      refine back _ _ _ _ (by kernel_rfl) ?_; clear back
      refine Da J J ?_;refine Ns 10 J J J J J J J J J ?_;refine DD ?_;refine Va J J ?_;exact EK (1007 :: wKeys 3) (Res.t0 Tryz.results168) ⟨J, J⟩ (Wpp [_, _, _] kg spg J ‹_› J J J J J J J J) J (.blk J J (Wsub 15 J J J J J J J J J J J J J J J J (Bs 3 J J J J (Bs 3 J J J J (Bs 3 J J J J .nil))))) XR
    ·refine Da J J ?_
     refine D_val 5 J J J J J J J J J (V_index Tk J J J J (by omega) (by simp)) ?_;refine D_val 6 J J J J J J J J J (V_loadR (o := 0) Tk 1006 J J J J J) ?_;refine Da J J ?_;refine DD ?_;refine Va J J ?_;refine Ds J J J ?_;refine Da J J ?_;refine Nt 7 J J J J J J fun back => ?_;refine S_tailO Tk 1006 J J J J J J (fun _ => J) fun A' => ?_;refine back _ _ _ _ (by kernel_rfl) ?_; clear back
     refine Da J J ?_;refine Nt 8 J J J J J J fun back => ?_;refine S_lendO 1006 J J (fun hA hn hc hx => ?_) (fun g off cur hA hbg hnc hcm hl hfit ht' hG hb hcells => ?_)
     ·subst hA
      refine S_callN 1006 Tryz.call61 (c_CloneIntN _ _ (intC r) _ ⟨none, _, J, by simp at hq1; omega, by omega, by rw [hc]; simp [maxLen], by rw [intC_length]; simp, .inl hn⟩ (intC_one r)) rfl rfl rfl ?_;rintro v G' A'' ⟨A, c, base, rfl, rfl, rfl⟩ hext
      refine S_newRow 1006 J J ?_;refine S_base0 1006 J J ?_;refine back _ _ _ _ (by kernel_rfl) ?_; clear back
      refine Da J J ?_;refine Ns 10 J J J J J J J J J ?_;refine DD ?_;refine Va J J ?_;exact EK (1007 :: wKeys 3) (Res.t0 Tryz.results168) ⟨J, J⟩ (Wpp [_, _, _] kg spg J ‹_› J J J J J J J J) J (.blk J J (Wsub 15 J J J J J J J J J J J J J J J J (Bs 3 J J J J (Bs 3 J J J J (Bs 3 J J J J .nil))))) XR
     ·subst hA
      refine S_callN 1006 Tryz.call61 (c_CloneIntN _ _ (intC r) _ ⟨_, _, J, by simp at hq1; omega, hnc, hcm, by rw [intC_length]; simp, .inr ⟨_, rfl, hcells⟩⟩ (intC_one r)) rfl rfl rfl ?_;rintro v G' A'' ⟨A, c, base, rfl, rfl, rfl⟩ hext
      refine S_newRow 1006 J J ?_;refine S_base0 1006 J J ?_;refine S_backO 2005 (base := 0) (PH.add_self _ _ _) hb (Nat.zero_le _) hnc hcm hl hfit ht' ?_
      rw [PH.del_add hG]
      refine back _ _ _ _ (by kernel_rfl) ?_; clear back
      refine Da J J ?_;refine Ns 10 J J J J J J J J J ?_;refine DD ?_;refine Va J J ?_;exact EK (1007 :: wKeys 3) (Res.t0 Tryz.results168) ⟨J, J⟩ (Wpp [_, _, _] kg spg J ‹_› J J J J J J J J) J (.blk J J (Wsub 15 J J J J J J J J J J J J J J J J (Bs 3 J J J J (Bs 3 J J J J (Bs 3 J J J J .nil))))) XR
end
section
attribute [local irreducible] X Pure Mod
theorem c_copyStmts_of (L : List Stm) (hb : ∀ k (hk : k < L.length) v G, Sts G L[k].body v → Pure Tryz.prog 63 [v] G fun v' G' => Sts G' L[k].body v') (he : ∀ k (hk : k < L.length) v G, Sts G L[k].els v → Pure Tryz.prog 63 [v] G fun v' G' => Sts G' L[k].els v')
  (v : Value) (G : PH) (hL : Sts G L v) : Pure Tryz.prog 63 [v] G fun v' G' => Sts G' L v' := by
 obtain ⟨A, c, rfl, hn, hc1, hc2, hr⟩ := id hL
 refine Pure.intro Tryz.func63 Tryz.ntmps63 J J fun w => ?_;refine S_row0 (base := w.heap.size) (e := 83) (size := 6) 3 ?_;refine Va J J ?_;refine S_loop (α := Nat × PH × Value × List Value) (fun x => x.1 ≤ L.length ∧ PH.ext w.heap.size G x.2.1 ∧ Cs 6 (Stm.rep x.2.1) (L.take x.1) x.2.2.2) (fun x => L.length - x.1) []
  (fun x => [(8, .val (.int .i64 x.1)), (6, .val (.slice A L.length c)), (7, .val (.int .i64 L.length)), (3, .val x.2.2.1)]) (fun x => [.hp 3 (rowHP w.heap.size 83 6 x.2.2.1 x.1 x.2.2.2)]) (fun x => x.2.1) (0, G, .slice none 0 0, []) ⟨Nat.zero_le _, PH.ext.refl _ _, rfl⟩ rfl
  ⟨⟨_, rfl, rfl⟩, ⟨_, rfl, rfl⟩, ⟨_, rfl, rfl⟩, ⟨_, rfl, rfl⟩, trivial⟩ (.hp .nil) ?_
 rintro ⟨k, G1, out, xs⟩ ⟨hk, hext, hcs⟩
 simp only at hk hext hcs ⊢
 refine Va J J ?_
 refine S_condp J (fun h => ?_) (fun h => ?_) <;> refine Va J J ?_
 ·have hkl : k < L.length := by omega
  obtain ⟨ad, cs, rfl, hcs1, hrep⟩ := Sr_at (Sts_le hext.le hL) hkl
  have hbk := hb k hkl
  have hek := he k hkl
  rcases hs : L[k] with ⟨q1, q2, q3, q4, x, y⟩
  rw [hs] at hrep hbk hek
  obtain ⟨vx, vy, rfl, i1, i2, i3, i4, hx, hy⟩ := Stm.rep_iff.1 hrep
  obtain ⟨Ax, cx, rfl, _⟩ := id hx
  obtain ⟨Ay, cy, rfl, _⟩ := id hy
  refine S_index Tk J J J J J J (by omega) (by omega) ?_;refine Va J J ?_;refine S_loadA Tk J J J J J (by simpa using hcs1) ?_;refine Va J J ?_;refine AZ ZT_ok J J J J fun b => ?_;refine Va J J ?_;refine Ds J J J ?_;refine Da J J ?_;refine D_sole 2 J J (N_call 2 Tryz.call63 (hbk _ _ hx) J J J J J J J J J J ?_)
  rintro vb G2 hvb hext2
  obtain ⟨Ab, cb, rfl, _⟩ := id hvb
  refine Da J J ?_;refine D_sole 5 J J (N_call 5 Tryz.call63 (hek _ _ (Sts_le hext2.le hy)) J J J J J J J J J J ?_)
  rintro ve G3 hve hext3
  obtain ⟨Ae, ce, rfl, _⟩ := id hve
  refine Da J J ?_;refine Ns 7 J J J J J J J J J ?_;refine Da J J ?_;refine Ns 9 J J J J J J J J J ?_;refine DD ?_;refine Va J J ?_;refine S_slice Tk ZT_ok J J J J (by decide) (by decide) J J J J fun b2 => ?_;refine S_app Tk ZT_ok 3 22 J J J J J J J J J J J J J J J (fun _ => J) (by simp only; omega) (by unfold maxLen; omega) (Nat.le_refl _) fun g cap hcap => ?_;refine Va J J ?_;refine S_add J J J J (by omega) ?_
  refine Va J J ?_
  have hle : G1.le G3 := hext2.le.trans hext3.le
  refine S_again (k + 1, G3, _, _) ⟨by simp only; omega, (hext.trans hext2).trans hext3, ?_⟩ (by simp only; omega) rfl ⟨⟨_, rfl, rfl⟩, ⟨_, rfl, rfl⟩, ⟨_, rfl, rfl⟩, ⟨_, rfl, rfl⟩, trivial⟩ (.drop (.drop (.hp .nil)))
  simp only
  rw [List.take_succ_eq_append_getElem hkl]
  refine Cs_append (Cs_mono (fun s _ cs h => Stm.rep_le hle s cs h) hcs) ?_ J
  rw [hs]
  exact Stm.rep_iff.2 ⟨_, _, J, i1, i2, i3, i4, Sts_le hext3.le hvb, hve⟩
 ·refine S_freeze 3 J J (Nat.le_refl _) fun G' hext' hv => ?_
  have hkL : k = L.length := by omega
  refine S_retP Tryz.results63 J J (hext.trans hext') ?_
  rw [hkL, List.take_length] at hcs
  exact Sr_of (Cs_mono (fun s _ cs h => Stm.rep_le hext'.le s cs h) hcs) hkL hn (by decide) hv
mutual
theorem c_copyStm : ∀ (s : Stm), (∀ v G, Sts G s.body v → Pure Tryz.prog 63 [v] G fun v' G' => Sts G' s.body v') ∧ (∀ v G, Sts G s.els v → Pure Tryz.prog 63 [v] G fun v' G' => Sts G' s.els v')
 | .mk k a b n x y => ⟨fun v G h => c_copyStmts x v G h, fun v G h => c_copyStmts y v G h⟩
theorem c_copyAll : ∀ (L : List Stm), ∀ k (hk : k < L.length), (∀ v G, Sts G L[k].body v → Pure Tryz.prog 63 [v] G fun v' G' => Sts G' L[k].body v') ∧ (∀ v G, Sts G L[k].els v → Pure Tryz.prog 63 [v] G fun v' G' => Sts G' L[k].els v')
 | [], k, hk => absurd hk (by simp)
 | s :: L, 0, _ => c_copyStm s
 | s :: L, k + 1, hk => c_copyAll L k (by simpa using hk)
theorem c_copyStmts : ∀ (L : List Stm) (v : Value) (G : PH), Sts G L v → Pure Tryz.prog 63 [v] G fun v' G' => Sts G' L v'
 | L, v, G, h => c_copyStmts_of L (fun k hk v G h => (c_copyAll L k hk).1 v G h) (fun k hk v G h => (c_copyAll L k hk).2 v G h) v G h
end
end
section
def blkHP (b ty : Nat) (vs : List Value) : HP := packHP fun ι L => ι = [(900, b)] ∧ L = [.blk 900 ty (vL vs)]
theorem le_del {G G3 : PH} {b : Nat} {o : Obj} (h : (G.add b o).le G3) (hb : G b = none) : G.le (G3.del b) := by
 intro x o' hx
 unfold PH.del
 have hne : x ≠ b := by rintro rfl; rw [hb] at hx; cases hx
 rw [if_neg hne]
 refine h x o' ?_
 unfold PH.add
 rw [if_neg hne]; exact hx
theorem gcells_own {G : PH} {b ty : Nat} {vs : List Value} : gcells (G.add b (.cells vs.toArray ty (0, 0))) ⟨b, 0, none⟩ vs := by
 refine gcells_row (cur := vs.toArray) (e := ty) (fr := (0, 0)) (by simp [PH.add]) vs 0 ?_
 simp
theorem blkHP_holds {b ty : Nat} {vs : List Value} {w : World} {S : Nat → Prop} : (blkHP b ty vs).holds w S ↔ w.heap[b]? = some (.cells vs.toArray ty (0, 0)) ∧ ∀ x, S x ↔ x = b := by
 constructor
 ·rintro ⟨ι, L, Ss, ⟨rfl, rfl⟩, ho, hS⟩
  match Ss, ho with
  | [T], ⟨⟨c, us, h1, h2, h3, h4⟩, _⟩ =>
   simp only [lookI, if_true, Option.some.injEq] at h1
   subst h1
   rw [denL_vL] at h2; cases h2
   exact ⟨h3, fun x => by rw [hS x, ← h4 x]; simp⟩
 ·rintro ⟨h1, h2⟩
  exact ⟨_, _, [S], ⟨rfl, rfl⟩, ⟨⟨b, vs, by simp [lookI], denL_vL _ _, h1, h2⟩, by simp, trivial⟩, fun x => by simp⟩
theorem denL_spV {ι : Ids} (n : Nat) {cs l : List Cel} {sp us : List Value} (h : takeC n cs = some (l, vL sp)) (hd : denL ι l = some us) : denL ι cs = some (us ++ sp) := by
 rw [takeC_eq h, denL_app, hd, denL_vL]
theorem denL_put {ι : Ids} {o : Nat} {c : Cel} {v : Value} {cs cs' : List Cel} {us : List Value} (hp : putN o [c] cs = some cs') (hd : denL ι cs = some us) (hv : denC ι c = some v) : denL ι cs' = some (us.set o v) := by
 obtain ⟨rfl, hle⟩ := putN_eq hp
 have hl := denL_length hd
 have h1 : denL ι (cs.take o ++ [c] ++ cs.drop (o + [c].length)) = some (us.take o ++ [v] ++ us.drop (o + 1)) := denL_append (denL_append (denL_take hd o) (by simp [denL, hv])) (denL_drop hd _)
 rw [h1]
 congr 1
 simp at hle
 rw [List.set_eq_take_append_cons_drop, if_pos (by omega)]
 simp
section
variable {C : Ctx} {k : List It} {E : Env} {ι : Ids} {L : List Ent} {G : PH} {all : Array Oper} {l : List Oper}
theorem S_callIns (key o : Nat) {d f b ty : Nat} {xs : Array Operand} {ats : Array TypeId} {ty' : Nat} {pos : String} {af : Array Edge} {g : Option (Nat × Bool)} {vs us : List Value} {cs : List Cel} {Qp : PH → Value → Prop} {L1 : List Ent} {cs' : Value → List Cel} (hcf : ∀ args w, (callFunc f args).run C.P w = .ok (.enter f args) w)
  (hB : lookB key L = some (ty, cs)) (hj : lookI key ι = some b) (hd : denL ι cs = some us) (hc : Mod C.P f vs G (blkHP b ty us) fun _ G' A' => ∃ tv', Qp G' tv' ∧ A' = blkHP b ty (us.set o tv')) (hdel : delB key L = some L1) (hput : ∀ tv', putN o [.v tv'] cs = some (cs' tv'))
  (hg : guardOf all E g = .on) (hN : Nat.ble (d + 1) C.n = true) (hxs : evs ι E xs.toList = some vs)
  (hk : ∀ v G' tv', Qp G' tv' → PH.ext C.w0.heap.size G G' → X C (.ops all l :: k) ((d, .val v) :: E) ι (.blk key ty (cs' tv') :: L1) G') : X C (.ops all (⟨some d, .call ⟨.value (.func f), xs, ats⟩, ty', pos, af, g⟩ :: l) :: k) E ι L G := by
 intro a w h1 h2 h3 h4
 obtain ⟨Ss, ho, hS⟩ := h4.own
 obtain ⟨S, Ss', b', hb', hh, hSb, hm, ho', hT⟩ := owns_delB hd ho hB hdel
 rw [hj] at hb'; cases hb'
 have h4' : SatW C ι (.hp 0 (blkHP b ty us) :: L1) G w := by
  refine ⟨h4.os, h4.tape, h4.output, h4.size, h4.keep, h4.emb, S :: Ss', ⟨blkHP_holds.2 ⟨hh, hSb⟩, fun T hT' x hx hx' => (hT T hT').2 x hx' hx, ho'⟩, ?_⟩
  intro T hT' x hx
  rcases List.mem_cons.1 hT' with rfl | hT'
  ·exact hS T hm x hx
  ·exact hS T (hT T hT').1 x hx
 refine S_callM (L' := fun A' => .hp 0 A' :: L1) 0 hcf hc hg hN hxs (by simp [getH]) (fun A' => by simp [setH]) ?_ a w h1 h2 h3 h4'
 rintro v G' A' ⟨tv', hq, rfl⟩ hext a w h1 h2 h3 h4
 refine hk v G' tv' hq hext a w h1 h2 h3 ?_;obtain ⟨Ss, ho, hS⟩ := h4.own
 match Ss, ho with
 | T :: Ss, ⟨hA, hd', ho'⟩ =>
  obtain ⟨q1, q2⟩ := blkHP_holds.1 hA
  exact ⟨h4.os, h4.tape, h4.output, h4.size, h4.keep, h4.emb, T :: Ss, ⟨⟨b, _, hj, denL_put (hput tv') hd J, q1, q2⟩, hd', ho'⟩, hS⟩
end
end
section
attribute [local irreducible] X Pure Mod
theorem c_insert (i : Nat) (hi : i = 0 ∨ i = 1 ∨ i = 2) (b : Nat) (pre rest : List Value) (x0 tv : Value) (hpre : pre.length = 5 * i) (L1 L2 : List Stm) (v : Value) (G : PH) (h1 : Sts G L1 v) (h2 : Sts G L2 tv) (hlen : L1.length + L2.length ≤ 1000000000) :
  Mod Tryz.prog 147 [.pointer (some ⟨b, 5 * i, none⟩), v] G (blkHP b 62 (pre ++ x0 :: tv :: rest)) fun _ G' A' => ∃ tv', Sts G' (L1 ++ L2) tv' ∧ A' = blkHP b 62 (pre ++ x0 :: tv' :: rest) := by
 obtain ⟨A0, c0, rfl, _⟩ := id h1
 obtain ⟨A2, c2, rfl, _⟩ := id h2
 refine Mod.intro Tryz.func147 Tryz.ntmps147 J J fun w S => ?_;refine S_unpack 1 [900] rfl rfl (by rintro _ _ ⟨rfl, rfl⟩; rfl) rfl ?_;rintro _ _ ⟨rfl, rfl⟩
 refine NM J J ?_;refine S_reE 0 (.ptr 900 (5 * i)) J J ?_;refine Va J J ?_;refine Ds J J J ?_
 rcases hi with rfl | rfl | rfl
 ·obtain rfl : pre = [] := List.eq_nil_of_length_eq_zero (by simpa using hpre)
  refine Da J J ?_;refine D_sole 2 J J (N_call 2 Tryz.call63 (c_copyStmts L1 _ _ h1) J J J J J J J J J J ?_)
  rintro v1 G1 hv1 hext1
  obtain ⟨A1, c1, rfl, _⟩ := id hv1
  obtain ⟨xs1, hx1, hc1⟩ := Sr_Sx (fun s cs h => Stm.rep_len h) hv1
  obtain ⟨xs2, hx2, hc2⟩ := Sr_Sx (fun s cs h => Stm.rep_len h) (Sts_le hext1.le h2)
  refine Da J J ?_;refine Nt 7 J J J J J J fun back => ?_;refine S_slice Tk ZT_ok J J J J (by decide) (by decide) J J J J fun b11 => ?_;refine back _ _ _ _ (by kernel_rfl) ?_; clear back
  refine Da J J ?_;refine Nt 8 J J J J J J fun back => ?_;refine S_lendB 11 J J J J fun hG hb => ?_;refine S_call Tryz.call162 (c_Concat _ _ _ _ _ xs1 xs2 _ ⟨_, _, J, by omega, by omega, by simp [maxLen], J, .inr ⟨_, J, gcells_own⟩⟩ (Sx_le (le_add hG) hx1) (Sx_le (le_add hG) hx2) (Cs_one Stm.rep_one hc1) (Cs_one Stm.rep_one hc2) hlen) J J J ?_;rintro v' G3 hv' hext3
  obtain ⟨A', c', rfl, _⟩ := id hv'
  refine S_backB 11 [.v (.slice A1 L1.length c1), .v (.slice A2 L2.length c2)] (hext3.le _ _ (PH.add_self _ _ _)) J J hb ?_;refine back _ _ _ _ (by kernel_rfl) ?_; clear back
  refine Da J J ?_;refine Ns 11 J J J J J J J J J ?_;refine DD ?_;refine Va J J ?_
  have hle := le_del hext3.le hG
  refine EK [900] (Res.t0 Tryz.results147) ⟨_, ?_, J⟩ ⟨J, J⟩ J (Bs 2 J J J J .nil) (hext1.trans (PH.ext.del hG hext3))
  refine Sx_Sr (Sx_le newp_add_le hv') (by simp) (Cs_append2 (Cs_mono (Stm.reps_le hle L1) hc1) (Cs_mono (Stm.reps_le hle L2) hc2))
 ·obtain ⟨y0, y1, y2, y3, y4, rfl⟩ : ∃ y0 y1 y2 y3 y4, pre = [y0, y1, y2, y3, y4] := by
   match pre, hpre with
   | [y0, y1, y2, y3, y4], _ => exact ⟨_, _, _, _, _, rfl⟩
  refine Da J J ?_;refine D_sole 2 J J (N_call 2 Tryz.call63 (c_copyStmts L1 _ _ h1) J J J J J J J J J J ?_)
  rintro v1 G1 hv1 hext1
  obtain ⟨A1, c1, rfl, _⟩ := id hv1
  obtain ⟨xs1, hx1, hc1⟩ := Sr_Sx (fun s cs h => Stm.rep_len h) hv1
  obtain ⟨xs2, hx2, hc2⟩ := Sr_Sx (fun s cs h => Stm.rep_len h) (Sts_le hext1.le h2)
  refine Da J J ?_;refine Nt 7 J J J J J J fun back => ?_;refine S_slice Tk ZT_ok J J J J (by decide) (by decide) J J J J fun b11 => ?_;refine back _ _ _ _ (by kernel_rfl) ?_; clear back
  refine Da J J ?_;refine Nt 8 J J J J J J fun back => ?_;refine S_lendB 11 J J J J fun hG hb => ?_;refine S_call Tryz.call162 (c_Concat _ _ _ _ _ xs1 xs2 _ ⟨_, _, J, by omega, by omega, by simp [maxLen], J, .inr ⟨_, J, gcells_own⟩⟩ (Sx_le (le_add hG) hx1) (Sx_le (le_add hG) hx2) (Cs_one Stm.rep_one hc1) (Cs_one Stm.rep_one hc2) hlen) J J J ?_;rintro v' G3 hv' hext3
  obtain ⟨A', c', rfl, _⟩ := id hv'
  refine S_backB 11 [.v (.slice A1 L1.length c1), .v (.slice A2 L2.length c2)] (hext3.le _ _ (PH.add_self _ _ _)) J J hb ?_;refine back _ _ _ _ (by kernel_rfl) ?_; clear back
  refine Da J J ?_;refine Ns 11 J J J J J J J J J ?_;refine DD ?_;refine Va J J ?_
  have hle := le_del hext3.le hG
  refine EK [900] (Res.t0 Tryz.results147) ⟨_, ?_, J⟩ ⟨J, J⟩ J (Bs 7 J J J J .nil) (hext1.trans (PH.ext.del hG hext3))
  refine Sx_Sr (Sx_le newp_add_le hv') (by simp) (Cs_append2 (Cs_mono (Stm.reps_le hle L1) hc1) (Cs_mono (Stm.reps_le hle L2) hc2))
 ·obtain ⟨y0, y1, y2, y3, y4, y5, y6, y7, y8, y9, rfl⟩ : ∃ y0 y1 y2 y3 y4 y5 y6 y7 y8 y9, pre = [y0, y1, y2, y3, y4, y5, y6, y7, y8, y9] := by
   match pre, hpre with
   | [y0, y1, y2, y3, y4, y5, y6, y7, y8, y9], _ => exact ⟨_, _, _, _, _, _, _, _, _, _, rfl⟩
  refine Da J J ?_;refine D_sole 2 J J (N_call 2 Tryz.call63 (c_copyStmts L1 _ _ h1) J J J J J J J J J J ?_)
  rintro v1 G1 hv1 hext1
  obtain ⟨A1, c1, rfl, _⟩ := id hv1
  obtain ⟨xs1, hx1, hc1⟩ := Sr_Sx (fun s cs h => Stm.rep_len h) hv1
  obtain ⟨xs2, hx2, hc2⟩ := Sr_Sx (fun s cs h => Stm.rep_len h) (Sts_le hext1.le h2)
  refine Da J J ?_;refine Nt 7 J J J J J J fun back => ?_;refine S_slice Tk ZT_ok J J J J (by decide) (by decide) J J J J fun b11 => ?_;refine back _ _ _ _ (by kernel_rfl) ?_; clear back
  refine Da J J ?_;refine Nt 8 J J J J J J fun back => ?_;refine S_lendB 11 J J J J fun hG hb => ?_;refine S_call Tryz.call162 (c_Concat _ _ _ _ _ xs1 xs2 _ ⟨_, _, J, by omega, by omega, by simp [maxLen], J, .inr ⟨_, J, gcells_own⟩⟩ (Sx_le (le_add hG) hx1) (Sx_le (le_add hG) hx2) (Cs_one Stm.rep_one hc1) (Cs_one Stm.rep_one hc2) hlen) J J J ?_;rintro v' G3 hv' hext3
  obtain ⟨A', c', rfl, _⟩ := id hv'
  refine S_backB 11 [.v (.slice A1 L1.length c1), .v (.slice A2 L2.length c2)] (hext3.le _ _ (PH.add_self _ _ _)) J J hb ?_;refine back _ _ _ _ (by kernel_rfl) ?_; clear back
  refine Da J J ?_;refine Ns 11 J J J J J J J J J ?_;refine DD ?_;refine Va J J ?_
  have hle := le_del hext3.le hG
  refine EK [900] (Res.t0 Tryz.results147) ⟨_, ?_, J⟩ ⟨J, J⟩ J (Bs 12 J J J J .nil) (hext1.trans (PH.ext.del hG hext3))
  refine Sx_Sr (Sx_le newp_add_le hv') (by simp) (Cs_append2 (Cs_mono (Stm.reps_le hle L1) hc1) (Cs_mono (Stm.reps_le hle L2) hc2))
theorem c_insertS (i : Nat) (hi : i = 0 ∨ i = 1 ∨ i = 2) (b : Nat) (pre rest : List Value) (x0 tv : Value) (hpre : pre.length = 5 * i) (L1 L2 : List Stm) (v : Value) (G : PH) (h1 : Sts G L1 v) (h2 : Sts G L2 tv) (hlen : L1.length + L2.length ≤ 1000000000) :
  Mod Tryz.prog 147 [.pointer (some ⟨b, 5 * i, none⟩), v] G (blkHP b 62 (pre ++ x0 :: tv :: rest)) fun _ G' A' => ∃ tv', Sts G' (L1 ++ L2) tv' ∧ A' = blkHP b 62 ((pre ++ x0 :: tv :: rest).set (5 * i + 1) tv') := by
 have e : ∀ tv', (pre ++ x0 :: tv :: rest).set (5 * i + 1) tv' = pre ++ x0 :: tv' :: rest := by
  intro tv'
  rw [List.set_append_right _ _ (by omega), hpre]
  simp
 simp only [e]
 exact c_insert i hi b pre rest x0 tv hpre L1 L2 v G h1 h2 hlen
end
end Go.Proofs.YtcbdilccmjpnbaaGreatDoor
