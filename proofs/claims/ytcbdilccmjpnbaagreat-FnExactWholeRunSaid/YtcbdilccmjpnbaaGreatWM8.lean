/- Walks of the program's functions, one after the other (part 8); without conditions of their own. -/
import Derived.Test.YtcbdilccmjpnbaaGreatWM7
import Derived.Test.YtcbdilccmjpnbaaGreatWM2
set_option linter.unusedVariables false
set_option linter.unusedSimpArgs false
set_option maxRecDepth 100000
set_option maxHeartbeats 4000000
open Go.RowKit
namespace Go.Proofs.YtcbdilccmjpnbaaGreat
section
attribute [local irreducible] X Pure Mod
theorem c_l3Code (W : Wld) (who : Int) (cs : List Value) (ts : List Value) (G : PH) (h1 : 1 ≤ W.procs.length) (h3 : W.procs.length ≤ 3) (ht : Tds G W.procs ts) (hh : ∀ p ∈ W.procs, HeadOk p) (hm : 0 ≤ W.m0 ∧ 0 ≤ W.m1) :
  Mod Tryz.prog 44 [.agg cs.toArray, .int .i64 who] G (worldV cs W ts) fun v G' A' => v = .int .i64 (codeOf W who) ∧ G' = G ∧ A' = worldV cs W ts := by
 refine Mod.intro Tryz.func44 Tryz.ntmps44 J J fun w S => ?_;obtain ⟨ps, x0, x1, x2, m0, m1, q0, q1, sd⟩ := W
 replace hm : 0 ≤ m0 ∧ 0 ≤ m1 := hm
 rcases shape h1 h3 ht with ⟨⟨a0, a1, a2, td0, mo0, on0, ro0⟩, A0, k0, rfl, rfl, s0⟩ | ⟨⟨a0, a1, a2, td0, mo0, on0, ro0⟩, A0, k0, ⟨b0, b1, b2, td1, mo1, on1, ro1⟩, A1, k1, rfl, rfl, s0, s1⟩ | ⟨⟨a0, a1, a2, td0, mo0, on0, ro0⟩, A0, k0, ⟨b0, b1, b2, td1, mo1, on1, ro1⟩, A1, k1, ⟨d0, d1, d2, td2, mo2, on2, ro2⟩, A2, k2, rfl, rfl, s0, s1, s2⟩
 ·have hh0 := hh _ (List.mem_cons_self ..)
  by_cases hw : who < 0 ∨ 1 ≤ who
  ·refine OvV 1 0 J J J J fun bp bc br bs bg kp sp asd ksd aq0 kq0 aq1 kq1 kc spc kr spr ks sps kg spg hbg hmk hce => ?_; subst hce; obtain ⟨g0, rfl⟩ := len1 hbg; clear hbg; refine NM J J ?_; dsimp only [wEnts, wCels, procCs, regEs, WX.of, vi]
   refine Va J J ?_;refine S_box J J J J J fun b2 => ?_;refine Va J J ?_
   refine RT J (by simp <;> omega) ?_
   refine Va J J ?_
   exact RK (wKeys 1) (Res.t1 Tryz.results44 J J) ⟨by rw [codeOf, if_pos (by simp <;> omega)], rfl, rfl⟩ (Wvp [_] kg spg rfl ‹_› rfl rfl rfl rfl rfl rfl rfl rfl rfl) rfl (Wsub 5 rfl rfl rfl rfl rfl rfl rfl rfl rfl rfl rfl rfl rfl rfl rfl rfl (Bs 3 rfl rfl rfl rfl .nil)) XR
  obtain rfl : who = 0 := by omega
  refine OvV 1 0 J J J J fun bp bc br bs bg kp sp asd ksd aq0 kq0 aq1 kq1 kc spc kr spr ks sps kg spg hbg hmk hce => ?_; subst hce; obtain ⟨g0, rfl⟩ := len1 hbg; clear hbg; refine NM J J ?_; dsimp only [wEnts, wCels, procCs, regEs, WX.of, vi]
  refine Va J J ?_;refine S_box J J J J J fun b2 => ?_;refine Va J J ?_;refine RF J J ?_;refine Va J J ?_;refine AZ ZT_ok J J J J fun b5 => ?_;refine Va J J ?_
  by_cases hm1 : mo0 = 1
  ·refine GT J J (by simp [hm1]) ?_
   refine Va J J ?_;exact RK (wKeys 1) (Res.t1 Tryz.results44 J J) ⟨by simp [codeOf, codeP, hm1], J, J⟩ (Wvp [_] kg spg J ‹_› J J J J J J J J J) J (Wsub 5 J J J J J J J J J J J J J J J J (Bs 3 J J J J .nil)) XR
  refine GF J J (by simp [hm1]) ?_
  by_cases hm2 : mo0 = 2
  ·subst hm2
   have hro := hh0.1 rfl
   simp only at hro
   rcases hro with rfl | rfl <;>
   ·refine Va J J ?_
    refine GT J J J ?_;refine Va J J ?_
    refine S_condp J (fun h => ?_) (fun h => ?_) <;> refine Va J J ?_
    ·exact RK (wKeys 1) (Res.t1 Tryz.results44 J J) ⟨by first | (simp [codeOf, codeP, Wld.rm, show ¬ m0 = 0 by omega]; done) | (simp [codeOf, codeP, Wld.rm, show ¬ m1 = 0 by omega]; done), rfl, rfl⟩ (Wvp [_] kg spg rfl ‹_› rfl rfl rfl rfl rfl rfl rfl rfl rfl) rfl (Wsub 5 rfl rfl rfl rfl rfl rfl rfl rfl rfl rfl rfl rfl rfl rfl rfl rfl (Bs 3 rfl rfl rfl rfl .nil)) XR
    ·refine RT J J ?_
     refine Va J J ?_;exact RK (wKeys 1) (Res.t1 Tryz.results44 J J) ⟨by first | (simp [codeOf, codeP, Wld.rm, show m0 = 0 by omega]; done) | (simp [codeOf, codeP, Wld.rm, show m1 = 0 by omega]; done), rfl, rfl⟩ (Wvp [_] kg spg rfl ‹_› rfl rfl rfl rfl rfl rfl rfl rfl rfl) rfl (Wsub 5 rfl rfl rfl rfl rfl rfl rfl rfl rfl rfl rfl rfl rfl rfl rfl rfl (Bs 3 rfl rfl rfl rfl .nil)) XR
  refine Va J J ?_;refine GF J J (by simp [hm2]) ?_;refine Va J J ?_;refine RF J (by simp [hm2]) ?_;refine Va J J ?_
  rcases hTD : td0 with _ | ⟨s, r⟩
  ·subst hTD
   refine RT J J ?_;refine Va J J ?_;exact RK (wKeys 1) (Res.t1 Tryz.results44 J J) ⟨by simp [codeOf, codeP, hm1, hm2], J, J⟩ (Wvp [_] kg spg J ‹_› J J J J J J J J J) J (Wsub 5 J J J J J J J J J J J J J J J J (Bs 3 J J J J .nil)) XR
  subst hTD
  obtain ⟨ad, vx, vy, rfl, hcs, _⟩ := Sts_head s0
  refine RF J (by simp <;> omega) ?_
  refine Va J J ?_
  by_cases hk8 : s.kind = 8
  ·have hsa := hh0.2 s r rfl hk8
   obtain ⟨sk, sa, sb, sn, sx, sy⟩ := s
   simp only [Stm.kind, Stm.a] at hk8 hsa hcs
   subst hk8
   rcases hsa with rfl | rfl <;>
   ·refine Ds J J J ?_
    refine Da J J ?_
    refine D_val 2 J J J J J J J J J (V_index Tk J J J J (by omega) (by simp <;> omega)) ?_
    refine Da J J ?_;refine D_val 4 J J J J J J J J J (V_load Tk J J J (by simpa [add_add', add_zero'] using gcells_at hcs 0 _ J)) ?_;refine Da J J ?_;refine D_setP 54 (b := true) J J ?_;refine Da J J ?_
    refine D_val 11 J J J J J J J J J (V_index Tk J J J J (by omega) (by simp <;> omega)) ?_
    refine Da J J ?_;refine D_val 13 J J J J J J J J J (V_load Tk J J J (by simpa [add_add', add_zero'] using gcells_at hcs 1 _ J)) ?_;refine Da J J ?_;refine DD ?_;refine Va J J ?_
    refine S_condp J (fun h => ?_) (fun h => ?_) <;> refine Va J J ?_
    ·exact RK (wKeys 1) (Res.t1 Tryz.results44 J J) ⟨by first | (simp [codeOf, codeP, Wld.rm, hm1, hm2, Stm.kind, Stm.a, show ¬ m0 = 0 by omega]; done) | (simp [codeOf, codeP, Wld.rm, hm1, hm2, Stm.kind, Stm.a, show ¬ m1 = 0 by omega]; done), rfl, rfl⟩ (Wvp [_] kg spg rfl ‹_› rfl rfl rfl rfl rfl rfl rfl rfl rfl) rfl (Wsub 5 rfl rfl rfl rfl rfl rfl rfl rfl rfl rfl rfl rfl rfl rfl rfl rfl (Bs 3 rfl rfl rfl rfl .nil)) XR
    ·exact RK (wKeys 1) (Res.t1 Tryz.results44 J J) ⟨by first | (simp [codeOf, codeP, Wld.rm, hm1, hm2, Stm.kind, Stm.a, show m0 = 0 by omega]; done) | (simp [codeOf, codeP, Wld.rm, hm1, hm2, Stm.kind, Stm.a, show m1 = 0 by omega]; done), rfl, rfl⟩ (Wvp [_] kg spg rfl ‹_› rfl rfl rfl rfl rfl rfl rfl rfl rfl) rfl (Wsub 5 rfl rfl rfl rfl rfl rfl rfl rfl rfl rfl rfl rfl rfl rfl rfl rfl (Bs 3 rfl rfl rfl rfl .nil)) XR
  refine Ds J J J ?_;refine Da J J ?_
  refine D_val 2 J J J J J J J J J (V_index Tk J J J J (by omega) (by simp <;> omega)) ?_
  refine Da J J ?_;refine D_val 4 J J J J J J J J J (V_load Tk J J J (by simpa [add_add', add_zero'] using gcells_at hcs 0 _ J)) ?_;refine Da J J ?_;refine D_split 54 J (fun _ => J) (fun h => absurd h (by simp [hk8])) (fun h => ?_)
  refine Da J J ?_;refine DD ?_;refine Va J J ?_;exact RK (wKeys 1) (Res.t1 Tryz.results44 J J) ⟨by simp [codeOf, codeP, hm1, hm2, hk8], J, J⟩ (Wvp [_] kg spg J ‹_› J J J J J J J J J) J (Wsub 5 J J J J J J J J J J J J J J J J (Bs 3 J J J J .nil)) XR
 ·have hh0 := hh _ (List.mem_cons_self ..)
  have hh1 := hh _ (List.mem_cons_of_mem _ (List.mem_cons_self ..))
  by_cases hw : who < 0 ∨ 2 ≤ who
  ·refine OvV 1 0 J J J J fun bp bc br bs bg kp sp asd ksd aq0 kq0 aq1 kq1 kc spc kr spr ks sps kg spg hbg hmk hce => ?_; subst hce; obtain ⟨g0, g1, rfl⟩ := len2 hbg; clear hbg; refine NM J J ?_; dsimp only [wEnts, wCels, procCs, regEs, WX.of, vi]
   refine Va J J ?_;refine S_box J J J J J fun b2 => ?_;refine Va J J ?_
   refine RT J (by simp <;> omega) ?_
   refine Va J J ?_
   exact RK (wKeys 2) (Res.t1 Tryz.results44 J J) ⟨by rw [codeOf, if_pos (by simp <;> omega)], rfl, rfl⟩ (Wvp [_, _] kg spg rfl ‹_› rfl rfl rfl rfl rfl rfl rfl rfl rfl) rfl (Wsub 10 rfl rfl rfl rfl rfl rfl rfl rfl rfl rfl rfl rfl rfl rfl rfl rfl (Bs 3 rfl rfl rfl rfl (Bs 3 rfl rfl rfl rfl .nil))) XR
  rcases (by omega : who = 0 ∨ who = 1) with rfl | rfl
  ·refine OvV 1 0 J J J J fun bp bc br bs bg kp sp asd ksd aq0 kq0 aq1 kq1 kc spc kr spr ks sps kg spg hbg hmk hce => ?_; subst hce; obtain ⟨g0, g1, rfl⟩ := len2 hbg; clear hbg; refine NM J J ?_; dsimp only [wEnts, wCels, procCs, regEs, WX.of, vi]
   refine Va J J ?_;refine S_box J J J J J fun b2 => ?_;refine Va J J ?_;refine RF J J ?_;refine Va J J ?_;refine AZ ZT_ok J J J J fun b5 => ?_;refine Va J J ?_
   by_cases hm1 : mo0 = 1
   ·refine GT J J (by simp [hm1]) ?_
    refine Va J J ?_;exact RK (wKeys 2) (Res.t1 Tryz.results44 J J) ⟨by simp [codeOf, codeP, hm1], J, J⟩ (Wvp [_, _] kg spg J ‹_› J J J J J J J J J) J (Wsub 10 J J J J J J J J J J J J J J J J (Bs 3 J J J J (Bs 3 J J J J .nil))) XR
   refine GF J J (by simp [hm1]) ?_
   by_cases hm2 : mo0 = 2
   ·subst hm2
    have hro := hh0.1 rfl
    simp only at hro
    rcases hro with rfl | rfl <;>
    ·refine Va J J ?_
     refine GT J J J ?_;refine Va J J ?_
     refine S_condp J (fun h => ?_) (fun h => ?_) <;> refine Va J J ?_
     ·exact RK (wKeys 2) (Res.t1 Tryz.results44 J J) ⟨by first | (simp [codeOf, codeP, Wld.rm, show ¬ m0 = 0 by omega]; done) | (simp [codeOf, codeP, Wld.rm, show ¬ m1 = 0 by omega]; done), rfl, rfl⟩ (Wvp [_, _] kg spg rfl ‹_› rfl rfl rfl rfl rfl rfl rfl rfl rfl) rfl (Wsub 10 rfl rfl rfl rfl rfl rfl rfl rfl rfl rfl rfl rfl rfl rfl rfl rfl (Bs 3 rfl rfl rfl rfl (Bs 3 rfl rfl rfl rfl .nil))) XR
     ·refine RT J J ?_
      refine Va J J ?_;exact RK (wKeys 2) (Res.t1 Tryz.results44 J J) ⟨by first | (simp [codeOf, codeP, Wld.rm, show m0 = 0 by omega]; done) | (simp [codeOf, codeP, Wld.rm, show m1 = 0 by omega]; done), rfl, rfl⟩ (Wvp [_, _] kg spg rfl ‹_› rfl rfl rfl rfl rfl rfl rfl rfl rfl) rfl (Wsub 10 rfl rfl rfl rfl rfl rfl rfl rfl rfl rfl rfl rfl rfl rfl rfl rfl (Bs 3 rfl rfl rfl rfl (Bs 3 rfl rfl rfl rfl .nil))) XR
   refine Va J J ?_;refine GF J J (by simp [hm2]) ?_;refine Va J J ?_;refine RF J (by simp [hm2]) ?_;refine Va J J ?_
   rcases hTD : td0 with _ | ⟨s, r⟩
   ·subst hTD
    refine RT J J ?_;refine Va J J ?_;exact RK (wKeys 2) (Res.t1 Tryz.results44 J J) ⟨by simp [codeOf, codeP, hm1, hm2], J, J⟩ (Wvp [_, _] kg spg J ‹_› J J J J J J J J J) J (Wsub 10 J J J J J J J J J J J J J J J J (Bs 3 J J J J (Bs 3 J J J J .nil))) XR
   subst hTD
   obtain ⟨ad, vx, vy, rfl, hcs, _⟩ := Sts_head s0
   refine RF J (by simp <;> omega) ?_
   refine Va J J ?_
   by_cases hk8 : s.kind = 8
   ·have hsa := hh0.2 s r rfl hk8
    obtain ⟨sk, sa, sb, sn, sx, sy⟩ := s
    simp only [Stm.kind, Stm.a] at hk8 hsa hcs
    subst hk8
    rcases hsa with rfl | rfl <;>
    ·refine Ds J J J ?_
     refine Da J J ?_
     refine D_val 2 J J J J J J J J J (V_index Tk J J J J (by omega) (by simp <;> omega)) ?_
     refine Da J J ?_;refine D_val 4 J J J J J J J J J (V_load Tk J J J (by simpa [add_add', add_zero'] using gcells_at hcs 0 _ J)) ?_;refine Da J J ?_;refine D_setP 54 (b := true) J J ?_;refine Da J J ?_
     refine D_val 11 J J J J J J J J J (V_index Tk J J J J (by omega) (by simp <;> omega)) ?_
     refine Da J J ?_;refine D_val 13 J J J J J J J J J (V_load Tk J J J (by simpa [add_add', add_zero'] using gcells_at hcs 1 _ J)) ?_;refine Da J J ?_;refine DD ?_;refine Va J J ?_
     refine S_condp J (fun h => ?_) (fun h => ?_) <;> refine Va J J ?_
     ·exact RK (wKeys 2) (Res.t1 Tryz.results44 J J) ⟨by first | (simp [codeOf, codeP, Wld.rm, hm1, hm2, Stm.kind, Stm.a, show ¬ m0 = 0 by omega]; done) | (simp [codeOf, codeP, Wld.rm, hm1, hm2, Stm.kind, Stm.a, show ¬ m1 = 0 by omega]; done), rfl, rfl⟩ (Wvp [_, _] kg spg rfl ‹_› rfl rfl rfl rfl rfl rfl rfl rfl rfl) rfl (Wsub 10 rfl rfl rfl rfl rfl rfl rfl rfl rfl rfl rfl rfl rfl rfl rfl rfl (Bs 3 rfl rfl rfl rfl (Bs 3 rfl rfl rfl rfl .nil))) XR
     ·exact RK (wKeys 2) (Res.t1 Tryz.results44 J J) ⟨by first | (simp [codeOf, codeP, Wld.rm, hm1, hm2, Stm.kind, Stm.a, show m0 = 0 by omega]; done) | (simp [codeOf, codeP, Wld.rm, hm1, hm2, Stm.kind, Stm.a, show m1 = 0 by omega]; done), rfl, rfl⟩ (Wvp [_, _] kg spg rfl ‹_› rfl rfl rfl rfl rfl rfl rfl rfl rfl) rfl (Wsub 10 rfl rfl rfl rfl rfl rfl rfl rfl rfl rfl rfl rfl rfl rfl rfl rfl (Bs 3 rfl rfl rfl rfl (Bs 3 rfl rfl rfl rfl .nil))) XR
   refine Ds J J J ?_;refine Da J J ?_
   refine D_val 2 J J J J J J J J J (V_index Tk J J J J (by omega) (by simp <;> omega)) ?_
   refine Da J J ?_;refine D_val 4 J J J J J J J J J (V_load Tk J J J (by simpa [add_add', add_zero'] using gcells_at hcs 0 _ J)) ?_;refine Da J J ?_;refine D_split 54 J (fun _ => J) (fun h => absurd h (by simp [hk8])) (fun h => ?_)
   refine Da J J ?_;refine DD ?_;refine Va J J ?_;exact RK (wKeys 2) (Res.t1 Tryz.results44 J J) ⟨by simp [codeOf, codeP, hm1, hm2, hk8], J, J⟩ (Wvp [_, _] kg spg J ‹_› J J J J J J J J J) J (Wsub 10 J J J J J J J J J J J J J J J J (Bs 3 J J J J (Bs 3 J J J J .nil))) XR
  ·refine OvV 1 0 J J J J fun bp bc br bs bg kp sp asd ksd aq0 kq0 aq1 kq1 kc spc kr spr ks sps kg spg hbg hmk hce => ?_; subst hce; obtain ⟨g0, g1, rfl⟩ := len2 hbg; clear hbg; refine NM J J ?_; dsimp only [wEnts, wCels, procCs, regEs, WX.of, vi]
   refine Va J J ?_;refine S_box J J J J J fun b2 => ?_;refine Va J J ?_;refine RF J J ?_;refine Va J J ?_;refine AZ ZT_ok J J J J fun b5 => ?_;refine Va J J ?_
   by_cases hm1 : mo1 = 1
   ·refine GT J J (by simp [hm1]) ?_
    refine Va J J ?_;exact RK (wKeys 2) (Res.t1 Tryz.results44 J J) ⟨by simp [codeOf, codeP, hm1], J, J⟩ (Wvp [_, _] kg spg J ‹_› J J J J J J J J J) J (Wsub 10 J J J J J J J J J J J J J J J J (Bs 3 J J J J (Bs 3 J J J J .nil))) XR
   refine GF J J (by simp [hm1]) ?_
   by_cases hm2 : mo1 = 2
   ·subst hm2
    have hro := hh1.1 rfl
    simp only at hro
    rcases hro with rfl | rfl <;>
    ·refine Va J J ?_
     refine GT J J J ?_;refine Va J J ?_
     refine S_condp J (fun h => ?_) (fun h => ?_) <;> refine Va J J ?_
     ·exact RK (wKeys 2) (Res.t1 Tryz.results44 J J) ⟨by first | (simp [codeOf, codeP, Wld.rm, show ¬ m0 = 0 by omega]; done) | (simp [codeOf, codeP, Wld.rm, show ¬ m1 = 0 by omega]; done), rfl, rfl⟩ (Wvp [_, _] kg spg rfl ‹_› rfl rfl rfl rfl rfl rfl rfl rfl rfl) rfl (Wsub 10 rfl rfl rfl rfl rfl rfl rfl rfl rfl rfl rfl rfl rfl rfl rfl rfl (Bs 3 rfl rfl rfl rfl (Bs 3 rfl rfl rfl rfl .nil))) XR
     ·refine RT J J ?_
      refine Va J J ?_;exact RK (wKeys 2) (Res.t1 Tryz.results44 J J) ⟨by first | (simp [codeOf, codeP, Wld.rm, show m0 = 0 by omega]; done) | (simp [codeOf, codeP, Wld.rm, show m1 = 0 by omega]; done), rfl, rfl⟩ (Wvp [_, _] kg spg rfl ‹_› rfl rfl rfl rfl rfl rfl rfl rfl rfl) rfl (Wsub 10 rfl rfl rfl rfl rfl rfl rfl rfl rfl rfl rfl rfl rfl rfl rfl rfl (Bs 3 rfl rfl rfl rfl (Bs 3 rfl rfl rfl rfl .nil))) XR
   refine Va J J ?_;refine GF J J (by simp [hm2]) ?_;refine Va J J ?_;refine RF J (by simp [hm2]) ?_;refine Va J J ?_
   rcases hTD : td1 with _ | ⟨s, r⟩
   ·subst hTD
    refine RT J J ?_;refine Va J J ?_;exact RK (wKeys 2) (Res.t1 Tryz.results44 J J) ⟨by simp [codeOf, codeP, hm1, hm2], J, J⟩ (Wvp [_, _] kg spg J ‹_› J J J J J J J J J) J (Wsub 10 J J J J J J J J J J J J J J J J (Bs 3 J J J J (Bs 3 J J J J .nil))) XR
   subst hTD
   obtain ⟨ad, vx, vy, rfl, hcs, _⟩ := Sts_head s1
   refine RF J (by simp <;> omega) ?_
   refine Va J J ?_
   by_cases hk8 : s.kind = 8
   ·have hsa := hh1.2 s r rfl hk8
    obtain ⟨sk, sa, sb, sn, sx, sy⟩ := s
    simp only [Stm.kind, Stm.a] at hk8 hsa hcs
    subst hk8
    rcases hsa with rfl | rfl <;>
    ·refine Ds J J J ?_
     refine Da J J ?_
     refine D_val 2 J J J J J J J J J (V_index Tk J J J J (by omega) (by simp <;> omega)) ?_
     refine Da J J ?_;refine D_val 4 J J J J J J J J J (V_load Tk J J J (by simpa [add_add', add_zero'] using gcells_at hcs 0 _ J)) ?_;refine Da J J ?_;refine D_setP 54 (b := true) J J ?_;refine Da J J ?_
     refine D_val 11 J J J J J J J J J (V_index Tk J J J J (by omega) (by simp <;> omega)) ?_
     refine Da J J ?_;refine D_val 13 J J J J J J J J J (V_load Tk J J J (by simpa [add_add', add_zero'] using gcells_at hcs 1 _ J)) ?_;refine Da J J ?_;refine DD ?_;refine Va J J ?_
     refine S_condp J (fun h => ?_) (fun h => ?_) <;> refine Va J J ?_
     ·exact RK (wKeys 2) (Res.t1 Tryz.results44 J J) ⟨by first | (simp [codeOf, codeP, Wld.rm, hm1, hm2, Stm.kind, Stm.a, show ¬ m0 = 0 by omega]; done) | (simp [codeOf, codeP, Wld.rm, hm1, hm2, Stm.kind, Stm.a, show ¬ m1 = 0 by omega]; done), rfl, rfl⟩ (Wvp [_, _] kg spg rfl ‹_› rfl rfl rfl rfl rfl rfl rfl rfl rfl) rfl (Wsub 10 rfl rfl rfl rfl rfl rfl rfl rfl rfl rfl rfl rfl rfl rfl rfl rfl (Bs 3 rfl rfl rfl rfl (Bs 3 rfl rfl rfl rfl .nil))) XR
     ·exact RK (wKeys 2) (Res.t1 Tryz.results44 J J) ⟨by first | (simp [codeOf, codeP, Wld.rm, hm1, hm2, Stm.kind, Stm.a, show m0 = 0 by omega]; done) | (simp [codeOf, codeP, Wld.rm, hm1, hm2, Stm.kind, Stm.a, show m1 = 0 by omega]; done), rfl, rfl⟩ (Wvp [_, _] kg spg rfl ‹_› rfl rfl rfl rfl rfl rfl rfl rfl rfl) rfl (Wsub 10 rfl rfl rfl rfl rfl rfl rfl rfl rfl rfl rfl rfl rfl rfl rfl rfl (Bs 3 rfl rfl rfl rfl (Bs 3 rfl rfl rfl rfl .nil))) XR
   refine Ds J J J ?_;refine Da J J ?_
   refine D_val 2 J J J J J J J J J (V_index Tk J J J J (by omega) (by simp <;> omega)) ?_
   refine Da J J ?_;refine D_val 4 J J J J J J J J J (V_load Tk J J J (by simpa [add_add', add_zero'] using gcells_at hcs 0 _ J)) ?_;refine Da J J ?_;refine D_split 54 J (fun _ => J) (fun h => absurd h (by simp [hk8])) (fun h => ?_)
   refine Da J J ?_;refine DD ?_;refine Va J J ?_;exact RK (wKeys 2) (Res.t1 Tryz.results44 J J) ⟨by simp [codeOf, codeP, hm1, hm2, hk8], J, J⟩ (Wvp [_, _] kg spg J ‹_› J J J J J J J J J) J (Wsub 10 J J J J J J J J J J J J J J J J (Bs 3 J J J J (Bs 3 J J J J .nil))) XR
 ·have hh0 := hh _ (List.mem_cons_self ..)
  have hh1 := hh _ (List.mem_cons_of_mem _ (List.mem_cons_self ..))
  have hh2 := hh _ (List.mem_cons_of_mem _ (List.mem_cons_of_mem _ (List.mem_cons_self ..)))
  by_cases hw : who < 0 ∨ 3 ≤ who
  ·refine OvV 1 0 J J J J fun bp bc br bs bg kp sp asd ksd aq0 kq0 aq1 kq1 kc spc kr spr ks sps kg spg hbg hmk hce => ?_; subst hce; obtain ⟨g0, g1, g2, rfl⟩ := len3 hbg; clear hbg; refine NM J J ?_; dsimp only [wEnts, wCels, procCs, regEs, WX.of, vi]
   refine Va J J ?_;refine S_box J J J J J fun b2 => ?_;refine Va J J ?_
   refine RT J (by simp <;> omega) ?_
   refine Va J J ?_
   exact RK (wKeys 3) (Res.t1 Tryz.results44 J J) ⟨by rw [codeOf, if_pos (by simp <;> omega)], rfl, rfl⟩ (Wvp [_, _, _] kg spg rfl ‹_› rfl rfl rfl rfl rfl rfl rfl rfl rfl) rfl (Wsub 15 rfl rfl rfl rfl rfl rfl rfl rfl rfl rfl rfl rfl rfl rfl rfl rfl (Bs 3 rfl rfl rfl rfl (Bs 3 rfl rfl rfl rfl (Bs 3 rfl rfl rfl rfl .nil)))) XR
  rcases (by omega : who = 0 ∨ who = 1 ∨ who = 2) with rfl | rfl | rfl
  ·refine OvV 1 0 J J J J fun bp bc br bs bg kp sp asd ksd aq0 kq0 aq1 kq1 kc spc kr spr ks sps kg spg hbg hmk hce => ?_; subst hce; obtain ⟨g0, g1, g2, rfl⟩ := len3 hbg; clear hbg; refine NM J J ?_; dsimp only [wEnts, wCels, procCs, regEs, WX.of, vi]
   refine Va J J ?_;refine S_box J J J J J fun b2 => ?_;refine Va J J ?_;refine RF J J ?_;refine Va J J ?_;refine AZ ZT_ok J J J J fun b5 => ?_;refine Va J J ?_
   by_cases hm1 : mo0 = 1
   ·refine GT J J (by simp [hm1]) ?_
    refine Va J J ?_;exact RK (wKeys 3) (Res.t1 Tryz.results44 J J) ⟨by simp [codeOf, codeP, hm1], J, J⟩ (Wvp [_, _, _] kg spg J ‹_› J J J J J J J J J) J (Wsub 15 J J J J J J J J J J J J J J J J (Bs 3 J J J J (Bs 3 J J J J (Bs 3 J J J J .nil)))) XR
   refine GF J J (by simp [hm1]) ?_
   by_cases hm2 : mo0 = 2
   ·subst hm2
    have hro := hh0.1 rfl
    simp only at hro
    rcases hro with rfl | rfl <;>
    ·refine Va J J ?_
     refine GT J J J ?_;refine Va J J ?_
     refine S_condp J (fun h => ?_) (fun h => ?_) <;> refine Va J J ?_
     ·exact RK (wKeys 3) (Res.t1 Tryz.results44 J J) ⟨by first | (simp [codeOf, codeP, Wld.rm, show ¬ m0 = 0 by omega]; done) | (simp [codeOf, codeP, Wld.rm, show ¬ m1 = 0 by omega]; done), rfl, rfl⟩ (Wvp [_, _, _] kg spg rfl ‹_› rfl rfl rfl rfl rfl rfl rfl rfl rfl) rfl (Wsub 15 rfl rfl rfl rfl rfl rfl rfl rfl rfl rfl rfl rfl rfl rfl rfl rfl (Bs 3 rfl rfl rfl rfl (Bs 3 rfl rfl rfl rfl (Bs 3 rfl rfl rfl rfl .nil)))) XR
     ·refine RT J J ?_
      refine Va J J ?_;exact RK (wKeys 3) (Res.t1 Tryz.results44 J J) ⟨by first | (simp [codeOf, codeP, Wld.rm, show m0 = 0 by omega]; done) | (simp [codeOf, codeP, Wld.rm, show m1 = 0 by omega]; done), rfl, rfl⟩ (Wvp [_, _, _] kg spg rfl ‹_› rfl rfl rfl rfl rfl rfl rfl rfl rfl) rfl (Wsub 15 rfl rfl rfl rfl rfl rfl rfl rfl rfl rfl rfl rfl rfl rfl rfl rfl (Bs 3 rfl rfl rfl rfl (Bs 3 rfl rfl rfl rfl (Bs 3 rfl rfl rfl rfl .nil)))) XR
   refine Va J J ?_;refine GF J J (by simp [hm2]) ?_;refine Va J J ?_;refine RF J (by simp [hm2]) ?_;refine Va J J ?_
   rcases hTD : td0 with _ | ⟨s, r⟩
   ·subst hTD
    refine RT J J ?_;refine Va J J ?_;exact RK (wKeys 3) (Res.t1 Tryz.results44 J J) ⟨by simp [codeOf, codeP, hm1, hm2], J, J⟩ (Wvp [_, _, _] kg spg J ‹_› J J J J J J J J J) J (Wsub 15 J J J J J J J J J J J J J J J J (Bs 3 J J J J (Bs 3 J J J J (Bs 3 J J J J .nil)))) XR
   subst hTD
   obtain ⟨ad, vx, vy, rfl, hcs, _⟩ := Sts_head s0
   refine RF J (by simp <;> omega) ?_
   refine Va J J ?_
   by_cases hk8 : s.kind = 8
   ·have hsa := hh0.2 s r rfl hk8
    obtain ⟨sk, sa, sb, sn, sx, sy⟩ := s
    simp only [Stm.kind, Stm.a] at hk8 hsa hcs
    subst hk8
    rcases hsa with rfl | rfl <;>
    ·refine Ds J J J ?_
     refine Da J J ?_
     refine D_val 2 J J J J J J J J J (V_index Tk J J J J (by omega) (by simp <;> omega)) ?_
     refine Da J J ?_;refine D_val 4 J J J J J J J J J (V_load Tk J J J (by simpa [add_add', add_zero'] using gcells_at hcs 0 _ J)) ?_;refine Da J J ?_;refine D_setP 54 (b := true) J J ?_;refine Da J J ?_
     refine D_val 11 J J J J J J J J J (V_index Tk J J J J (by omega) (by simp <;> omega)) ?_
     refine Da J J ?_;refine D_val 13 J J J J J J J J J (V_load Tk J J J (by simpa [add_add', add_zero'] using gcells_at hcs 1 _ J)) ?_;refine Da J J ?_;refine DD ?_;refine Va J J ?_
     refine S_condp J (fun h => ?_) (fun h => ?_) <;> refine Va J J ?_
     ·exact RK (wKeys 3) (Res.t1 Tryz.results44 J J) ⟨by first | (simp [codeOf, codeP, Wld.rm, hm1, hm2, Stm.kind, Stm.a, show ¬ m0 = 0 by omega]; done) | (simp [codeOf, codeP, Wld.rm, hm1, hm2, Stm.kind, Stm.a, show ¬ m1 = 0 by omega]; done), rfl, rfl⟩ (Wvp [_, _, _] kg spg rfl ‹_› rfl rfl rfl rfl rfl rfl rfl rfl rfl) rfl (Wsub 15 rfl rfl rfl rfl rfl rfl rfl rfl rfl rfl rfl rfl rfl rfl rfl rfl (Bs 3 rfl rfl rfl rfl (Bs 3 rfl rfl rfl rfl (Bs 3 rfl rfl rfl rfl .nil)))) XR
     ·exact RK (wKeys 3) (Res.t1 Tryz.results44 J J) ⟨by first | (simp [codeOf, codeP, Wld.rm, hm1, hm2, Stm.kind, Stm.a, show m0 = 0 by omega]; done) | (simp [codeOf, codeP, Wld.rm, hm1, hm2, Stm.kind, Stm.a, show m1 = 0 by omega]; done), rfl, rfl⟩ (Wvp [_, _, _] kg spg rfl ‹_› rfl rfl rfl rfl rfl rfl rfl rfl rfl) rfl (Wsub 15 rfl rfl rfl rfl rfl rfl rfl rfl rfl rfl rfl rfl rfl rfl rfl rfl (Bs 3 rfl rfl rfl rfl (Bs 3 rfl rfl rfl rfl (Bs 3 rfl rfl rfl rfl .nil)))) XR
   refine Ds J J J ?_;refine Da J J ?_
   refine D_val 2 J J J J J J J J J (V_index Tk J J J J (by omega) (by simp <;> omega)) ?_
   refine Da J J ?_;refine D_val 4 J J J J J J J J J (V_load Tk J J J (by simpa [add_add', add_zero'] using gcells_at hcs 0 _ J)) ?_;refine Da J J ?_;refine D_split 54 J (fun _ => J) (fun h => absurd h (by simp [hk8])) (fun h => ?_)
   refine Da J J ?_;refine DD ?_;refine Va J J ?_;exact RK (wKeys 3) (Res.t1 Tryz.results44 J J) ⟨by simp [codeOf, codeP, hm1, hm2, hk8], J, J⟩ (Wvp [_, _, _] kg spg J ‹_› J J J J J J J J J) J (Wsub 15 J J J J J J J J J J J J J J J J (Bs 3 J J J J (Bs 3 J J J J (Bs 3 J J J J .nil)))) XR
  ·refine OvV 1 0 J J J J fun bp bc br bs bg kp sp asd ksd aq0 kq0 aq1 kq1 kc spc kr spr ks sps kg spg hbg hmk hce => ?_; subst hce; obtain ⟨g0, g1, g2, rfl⟩ := len3 hbg; clear hbg; refine NM J J ?_; dsimp only [wEnts, wCels, procCs, regEs, WX.of, vi]
   refine Va J J ?_;refine S_box J J J J J fun b2 => ?_;refine Va J J ?_;refine RF J J ?_;refine Va J J ?_;refine AZ ZT_ok J J J J fun b5 => ?_;refine Va J J ?_
   by_cases hm1 : mo1 = 1
   ·refine GT J J (by simp [hm1]) ?_
    refine Va J J ?_;exact RK (wKeys 3) (Res.t1 Tryz.results44 J J) ⟨by simp [codeOf, codeP, hm1], J, J⟩ (Wvp [_, _, _] kg spg J ‹_› J J J J J J J J J) J (Wsub 15 J J J J J J J J J J J J J J J J (Bs 3 J J J J (Bs 3 J J J J (Bs 3 J J J J .nil)))) XR
   refine GF J J (by simp [hm1]) ?_
   by_cases hm2 : mo1 = 2
   ·subst hm2
    have hro := hh1.1 rfl
    simp only at hro
    rcases hro with rfl | rfl <;>
    ·refine Va J J ?_
     refine GT J J J ?_;refine Va J J ?_
     refine S_condp J (fun h => ?_) (fun h => ?_) <;> refine Va J J ?_
     ·exact RK (wKeys 3) (Res.t1 Tryz.results44 J J) ⟨by first | (simp [codeOf, codeP, Wld.rm, show ¬ m0 = 0 by omega]; done) | (simp [codeOf, codeP, Wld.rm, show ¬ m1 = 0 by omega]; done), rfl, rfl⟩ (Wvp [_, _, _] kg spg rfl ‹_› rfl rfl rfl rfl rfl rfl rfl rfl rfl) rfl (Wsub 15 rfl rfl rfl rfl rfl rfl rfl rfl rfl rfl rfl rfl rfl rfl rfl rfl (Bs 3 rfl rfl rfl rfl (Bs 3 rfl rfl rfl rfl (Bs 3 rfl rfl rfl rfl .nil)))) XR
     ·refine RT J J ?_
      refine Va J J ?_;exact RK (wKeys 3) (Res.t1 Tryz.results44 J J) ⟨by first | (simp [codeOf, codeP, Wld.rm, show m0 = 0 by omega]; done) | (simp [codeOf, codeP, Wld.rm, show m1 = 0 by omega]; done), rfl, rfl⟩ (Wvp [_, _, _] kg spg rfl ‹_› rfl rfl rfl rfl rfl rfl rfl rfl rfl) rfl (Wsub 15 rfl rfl rfl rfl rfl rfl rfl rfl rfl rfl rfl rfl rfl rfl rfl rfl (Bs 3 rfl rfl rfl rfl (Bs 3 rfl rfl rfl rfl (Bs 3 rfl rfl rfl rfl .nil)))) XR
   refine Va J J ?_;refine GF J J (by simp [hm2]) ?_;refine Va J J ?_;refine RF J (by simp [hm2]) ?_;refine Va J J ?_
   rcases hTD : td1 with _ | ⟨s, r⟩
   ·subst hTD
    refine RT J J ?_;refine Va J J ?_;exact RK (wKeys 3) (Res.t1 Tryz.results44 J J) ⟨by simp [codeOf, codeP, hm1, hm2], J, J⟩ (Wvp [_, _, _] kg spg J ‹_› J J J J J J J J J) J (Wsub 15 J J J J J J J J J J J J J J J J (Bs 3 J J J J (Bs 3 J J J J (Bs 3 J J J J .nil)))) XR
   subst hTD
   obtain ⟨ad, vx, vy, rfl, hcs, _⟩ := Sts_head s1
   refine RF J (by simp <;> omega) ?_
   refine Va J J ?_
   by_cases hk8 : s.kind = 8
   ·have hsa := hh1.2 s r rfl hk8
    obtain ⟨sk, sa, sb, sn, sx, sy⟩ := s
    simp only [Stm.kind, Stm.a] at hk8 hsa hcs
    subst hk8
    rcases hsa with rfl | rfl <;>
    ·refine Ds J J J ?_
     refine Da J J ?_
     refine D_val 2 J J J J J J J J J (V_index Tk J J J J (by omega) (by simp <;> omega)) ?_
     refine Da J J ?_;refine D_val 4 J J J J J J J J J (V_load Tk J J J (by simpa [add_add', add_zero'] using gcells_at hcs 0 _ J)) ?_;refine Da J J ?_;refine D_setP 54 (b := true) J J ?_;refine Da J J ?_
     refine D_val 11 J J J J J J J J J (V_index Tk J J J J (by omega) (by simp <;> omega)) ?_
     refine Da J J ?_;refine D_val 13 J J J J J J J J J (V_load Tk J J J (by simpa [add_add', add_zero'] using gcells_at hcs 1 _ J)) ?_;refine Da J J ?_;refine DD ?_;refine Va J J ?_
     refine S_condp J (fun h => ?_) (fun h => ?_) <;> refine Va J J ?_
     ·exact RK (wKeys 3) (Res.t1 Tryz.results44 J J) ⟨by first | (simp [codeOf, codeP, Wld.rm, hm1, hm2, Stm.kind, Stm.a, show ¬ m0 = 0 by omega]; done) | (simp [codeOf, codeP, Wld.rm, hm1, hm2, Stm.kind, Stm.a, show ¬ m1 = 0 by omega]; done), rfl, rfl⟩ (Wvp [_, _, _] kg spg rfl ‹_› rfl rfl rfl rfl rfl rfl rfl rfl rfl) rfl (Wsub 15 rfl rfl rfl rfl rfl rfl rfl rfl rfl rfl rfl rfl rfl rfl rfl rfl (Bs 3 rfl rfl rfl rfl (Bs 3 rfl rfl rfl rfl (Bs 3 rfl rfl rfl rfl .nil)))) XR
     ·exact RK (wKeys 3) (Res.t1 Tryz.results44 J J) ⟨by first | (simp [codeOf, codeP, Wld.rm, hm1, hm2, Stm.kind, Stm.a, show m0 = 0 by omega]; done) | (simp [codeOf, codeP, Wld.rm, hm1, hm2, Stm.kind, Stm.a, show m1 = 0 by omega]; done), rfl, rfl⟩ (Wvp [_, _, _] kg spg rfl ‹_› rfl rfl rfl rfl rfl rfl rfl rfl rfl) rfl (Wsub 15 rfl rfl rfl rfl rfl rfl rfl rfl rfl rfl rfl rfl rfl rfl rfl rfl (Bs 3 rfl rfl rfl rfl (Bs 3 rfl rfl rfl rfl (Bs 3 rfl rfl rfl rfl .nil)))) XR
   refine Ds J J J ?_;refine Da J J ?_
   refine D_val 2 J J J J J J J J J (V_index Tk J J J J (by omega) (by simp <;> omega)) ?_
   refine Da J J ?_;refine D_val 4 J J J J J J J J J (V_load Tk J J J (by simpa [add_add', add_zero'] using gcells_at hcs 0 _ J)) ?_;refine Da J J ?_;refine D_split 54 J (fun _ => J) (fun h => absurd h (by simp [hk8])) (fun h => ?_)
   refine Da J J ?_;refine DD ?_;refine Va J J ?_;exact RK (wKeys 3) (Res.t1 Tryz.results44 J J) ⟨by simp [codeOf, codeP, hm1, hm2, hk8], J, J⟩ (Wvp [_, _, _] kg spg J ‹_› J J J J J J J J J) J (Wsub 15 J J J J J J J J J J J J J J J J (Bs 3 J J J J (Bs 3 J J J J (Bs 3 J J J J .nil)))) XR
  ·refine OvV 1 0 J J J J fun bp bc br bs bg kp sp asd ksd aq0 kq0 aq1 kq1 kc spc kr spr ks sps kg spg hbg hmk hce => ?_; subst hce; obtain ⟨g0, g1, g2, rfl⟩ := len3 hbg; clear hbg; refine NM J J ?_; dsimp only [wEnts, wCels, procCs, regEs, WX.of, vi]
   refine Va J J ?_;refine S_box J J J J J fun b2 => ?_;refine Va J J ?_;refine RF J J ?_;refine Va J J ?_;refine AZ ZT_ok J J J J fun b5 => ?_;refine Va J J ?_
   by_cases hm1 : mo2 = 1
   ·refine GT J J (by simp [hm1]) ?_
    refine Va J J ?_;exact RK (wKeys 3) (Res.t1 Tryz.results44 J J) ⟨by simp [codeOf, codeP, hm1], J, J⟩ (Wvp [_, _, _] kg spg J ‹_› J J J J J J J J J) J (Wsub 15 J J J J J J J J J J J J J J J J (Bs 3 J J J J (Bs 3 J J J J (Bs 3 J J J J .nil)))) XR
   refine GF J J (by simp [hm1]) ?_
   by_cases hm2 : mo2 = 2
   ·subst hm2
    have hro := hh2.1 rfl
    simp only at hro
    rcases hro with rfl | rfl <;>
    ·refine Va J J ?_
     refine GT J J J ?_;refine Va J J ?_
     refine S_condp J (fun h => ?_) (fun h => ?_) <;> refine Va J J ?_
     ·exact RK (wKeys 3) (Res.t1 Tryz.results44 J J) ⟨by first | (simp [codeOf, codeP, Wld.rm, show ¬ m0 = 0 by omega]; done) | (simp [codeOf, codeP, Wld.rm, show ¬ m1 = 0 by omega]; done), rfl, rfl⟩ (Wvp [_, _, _] kg spg rfl ‹_› rfl rfl rfl rfl rfl rfl rfl rfl rfl) rfl (Wsub 15 rfl rfl rfl rfl rfl rfl rfl rfl rfl rfl rfl rfl rfl rfl rfl rfl (Bs 3 rfl rfl rfl rfl (Bs 3 rfl rfl rfl rfl (Bs 3 rfl rfl rfl rfl .nil)))) XR
     ·refine RT J J ?_
      refine Va J J ?_;exact RK (wKeys 3) (Res.t1 Tryz.results44 J J) ⟨by first | (simp [codeOf, codeP, Wld.rm, show m0 = 0 by omega]; done) | (simp [codeOf, codeP, Wld.rm, show m1 = 0 by omega]; done), rfl, rfl⟩ (Wvp [_, _, _] kg spg rfl ‹_› rfl rfl rfl rfl rfl rfl rfl rfl rfl) rfl (Wsub 15 rfl rfl rfl rfl rfl rfl rfl rfl rfl rfl rfl rfl rfl rfl rfl rfl (Bs 3 rfl rfl rfl rfl (Bs 3 rfl rfl rfl rfl (Bs 3 rfl rfl rfl rfl .nil)))) XR
   refine Va J J ?_;refine GF J J (by simp [hm2]) ?_;refine Va J J ?_;refine RF J (by simp [hm2]) ?_;refine Va J J ?_
   rcases hTD : td2 with _ | ⟨s, r⟩
   ·subst hTD
    refine RT J J ?_;refine Va J J ?_;exact RK (wKeys 3) (Res.t1 Tryz.results44 J J) ⟨by simp [codeOf, codeP, hm1, hm2], J, J⟩ (Wvp [_, _, _] kg spg J ‹_› J J J J J J J J J) J (Wsub 15 J J J J J J J J J J J J J J J J (Bs 3 J J J J (Bs 3 J J J J (Bs 3 J J J J .nil)))) XR
   subst hTD
   obtain ⟨ad, vx, vy, rfl, hcs, _⟩ := Sts_head s2
   refine RF J (by simp <;> omega) ?_
   refine Va J J ?_
   by_cases hk8 : s.kind = 8
   ·have hsa := hh2.2 s r rfl hk8
    obtain ⟨sk, sa, sb, sn, sx, sy⟩ := s
    simp only [Stm.kind, Stm.a] at hk8 hsa hcs
    subst hk8
    rcases hsa with rfl | rfl <;>
    ·refine Ds J J J ?_
     refine Da J J ?_
     refine D_val 2 J J J J J J J J J (V_index Tk J J J J (by omega) (by simp <;> omega)) ?_
     refine Da J J ?_;refine D_val 4 J J J J J J J J J (V_load Tk J J J (by simpa [add_add', add_zero'] using gcells_at hcs 0 _ J)) ?_;refine Da J J ?_;refine D_setP 54 (b := true) J J ?_;refine Da J J ?_
     refine D_val 11 J J J J J J J J J (V_index Tk J J J J (by omega) (by simp <;> omega)) ?_
     refine Da J J ?_;refine D_val 13 J J J J J J J J J (V_load Tk J J J (by simpa [add_add', add_zero'] using gcells_at hcs 1 _ J)) ?_;refine Da J J ?_;refine DD ?_;refine Va J J ?_
     refine S_condp J (fun h => ?_) (fun h => ?_) <;> refine Va J J ?_
     ·exact RK (wKeys 3) (Res.t1 Tryz.results44 J J) ⟨by first | (simp [codeOf, codeP, Wld.rm, hm1, hm2, Stm.kind, Stm.a, show ¬ m0 = 0 by omega]; done) | (simp [codeOf, codeP, Wld.rm, hm1, hm2, Stm.kind, Stm.a, show ¬ m1 = 0 by omega]; done), rfl, rfl⟩ (Wvp [_, _, _] kg spg rfl ‹_› rfl rfl rfl rfl rfl rfl rfl rfl rfl) rfl (Wsub 15 rfl rfl rfl rfl rfl rfl rfl rfl rfl rfl rfl rfl rfl rfl rfl rfl (Bs 3 rfl rfl rfl rfl (Bs 3 rfl rfl rfl rfl (Bs 3 rfl rfl rfl rfl .nil)))) XR
     ·exact RK (wKeys 3) (Res.t1 Tryz.results44 J J) ⟨by first | (simp [codeOf, codeP, Wld.rm, hm1, hm2, Stm.kind, Stm.a, show m0 = 0 by omega]; done) | (simp [codeOf, codeP, Wld.rm, hm1, hm2, Stm.kind, Stm.a, show m1 = 0 by omega]; done), rfl, rfl⟩ (Wvp [_, _, _] kg spg rfl ‹_› rfl rfl rfl rfl rfl rfl rfl rfl rfl) rfl (Wsub 15 rfl rfl rfl rfl rfl rfl rfl rfl rfl rfl rfl rfl rfl rfl rfl rfl (Bs 3 rfl rfl rfl rfl (Bs 3 rfl rfl rfl rfl (Bs 3 rfl rfl rfl rfl .nil)))) XR
   refine Ds J J J ?_;refine Da J J ?_
   refine D_val 2 J J J J J J J J J (V_index Tk J J J J (by omega) (by simp <;> omega)) ?_
   refine Da J J ?_;refine D_val 4 J J J J J J J J J (V_load Tk J J J (by simpa [add_add', add_zero'] using gcells_at hcs 0 _ J)) ?_;refine Da J J ?_;refine D_split 54 J (fun _ => J) (fun h => absurd h (by simp [hk8])) (fun h => ?_)
   refine Da J J ?_;refine DD ?_;refine Va J J ?_;exact RK (wKeys 3) (Res.t1 Tryz.results44 J J) ⟨by simp [codeOf, codeP, hm1, hm2, hk8], J, J⟩ (Wvp [_, _, _] kg spg J ‹_› J J J J J J J J J) J (Wsub 15 J J J J J J J J J J J J J J J J (Bs 3 J J J J (Bs 3 J J J J (Bs 3 J J J J .nil)))) XR
end
section
attribute [local irreducible] X Pure Mod
theorem c_l3Ahead (v1 v2 : Value) (n1 n2 : Nat) (xs1 xs2 : List Value) (G : PH) (h1 : Sx G 6 v1 n1 xs1) (h2 : Sx G 6 v2 n2 xs2) (o1 : ∀ u ∈ xs1, u.oneCell' = true) (o2 : ∀ u ∈ xs2, u.oneCell' = true) (hsum : n1 + n2 ≤ 1000000000) :
  Pure Tryz.prog 76 [v1, v2] G fun v' G' => Sx (newp G G') 6 v' (n1 + n2) (xs1 ++ xs2) := by
 obtain ⟨A1, c1, rfl, hn1, hnc1, hcm1, hlen1, hrow1⟩ := h1
 obtain ⟨A2, c2, rfl, hn2, hnc2, hcm2, hlen2, hrow2⟩ := h2
 refine Pure.intro Tryz.func76 Tryz.ntmps76 J J fun w => ?_; refine Va J J ?_;refine S_emptyO Tk 5 J J J J fun A => ?_;refine Va J J ?_;refine S_appO Tk 5 J J J J J J J J J J J (fun _ _ => J) (src_G hlen1 hrow1) o1 (by simp only; omega) (by simp only [maxLen]; omega) (Nat.le_refl _) fun A1' c1' => ?_;refine Va J J ?_;refine S_appO Tk 5 J J J J J J J J J J J (fun _ _ => J) (src_G hlen2 hrow2) o2 (by simp only; omega) (by simp only [maxLen]; omega) (Nat.le_refl _) fun A2' c2' => ?_
 refine Va J J ?_;refine S_freezeR 5 J J (Nat.le_refl _) fun G' hext' hnc' hcm' hcl => ?_;refine S_retp (Res.t1 Tryz.results76 J J) hext' ⟨A2', c2', by simp, hsum, by simpa using hnc', hcm', by rw [List.length_append, hlen1, hlen2, Nat.add_mul], ?_⟩
 simpa using hcl
theorem ahead_Sts {G Gf : PH} {G' : PH} {L1 L2 : List Stm} {v' : Value} {xs1 xs2 : List Value} (h : Sx (newp G G') 6 v' (L1.length + L2.length) (xs1 ++ xs2)) (c1 : Cs 6 (Stm.rep Gf) L1 xs1) (c2 : Cs 6 (Stm.rep Gf) L2 xs2) (hle : (newp G G').le Gf) : Sts Gf (L1 ++ L2) v' :=
 Sx_Sr (Sx_le hle h) (by simp) (Cs_append2 c1 c2)
theorem c_l3AheadS (L1 L2 : List Stm) (v1 v2 : Value) (G : PH) (h1 : Sts G L1 v1) (h2 : Sts G L2 v2) (hsum : L1.length + L2.length ≤ 1000000000) : Pure Tryz.prog 76 [v1, v2] G fun v' G' => G.le G' → Sts G' (L1 ++ L2) v' := by
 obtain ⟨xs1, hx1, hc1⟩ := Sr_Sx (fun s cs h => Stm.rep_len h) h1
 obtain ⟨xs2, hx2, hc2⟩ := Sr_Sx (fun s cs h => Stm.rep_len h) h2
 exact (c_l3Ahead v1 v2 _ _ xs1 xs2 G hx1 hx2 (Cs_one Stm.rep_one hc1) (Cs_one Stm.rep_one hc2) hsum).mono fun v G' hle h _ => ahead_Sts h (Cs_mono (Stm.reps_le hle L1) hc1) (Cs_mono (Stm.reps_le hle L2) hc2) (newp_le _ _)
abbrev VPost (W' : Wld) : Value → PH → HP → Prop := fun v G' A' => ∃ cs' ts', v = .agg cs'.toArray ∧ A' = worldV cs' W' ts' ∧ Tds G' W'.procs ts'
def goesL (W : Wld) (who : Nat) (s : Stm) : List Stm := if W.reg who s.a = 0 then (if s.kind = 6 then s.els else []) else if s.kind = 7 then s.body ++ [s] else s.body
theorem c_l3Goes (W : Wld) (who : Nat) (cs : List Value) (ts : List Value) (G : PH) (h1 : 1 ≤ W.procs.length) (h3 : W.procs.length ≤ 3) (ht : Tds G W.procs ts) (hw : who < W.procs.length) (kk a bb n : Int) (x y rest : List Stm) (vx vy vr : Value) (hx : Sts G x vx) (hy : Sts G y vy) (hrest : Sts G rest vr) (hi : I64 kk ∧ I64 a ∧ I64 bb ∧ I64 n) (hxl : x.length ≤ 1000) (hyl : y.length ≤ 1000) (hrl : rest.length ≤ 1000000) (ha : is3 a) (hk : kk = 6 ∨ kk = 7) :
  Mod Tryz.prog 68 [.agg cs.toArray, .int .i64 (who : Nat), .agg #[.int .i64 kk, .int .i64 a, .int .i64 bb, .int .i64 n, vx, vy], vr] G (worldV cs W ts) (VPost (W.upd who (fun p => { p with todo := goesL W who (.mk kk a bb n x y) ++ rest }))) := by
 have hs1 : Stm.rep G (.mk kk a bb n x y) [.int .i64 kk, .int .i64 a, .int .i64 bb, .int .i64 n, vx, vy] := Stm.rep_iff.2 ⟨vx, vy, rfl, hi.1, hi.2.1, hi.2.2.1, hi.2.2.2, hx, hy⟩
 obtain ⟨Ax, cx, rfl, _⟩ := id hx
 obtain ⟨Ay, cy, rfl, _⟩ := id hy
 obtain ⟨Ar, cr, rfl, _⟩ := id hrest
 obtain ⟨xs, hxs, hcs⟩ := Sr_Sx (fun s cs h => Stm.rep_len h) hx
 refine Mod.intro Tryz.func68 Tryz.ntmps68 J J fun w S => ?_;obtain ⟨ps, x0, x1, x2, m0, m1, q0, q1, sd⟩ := W
 rcases shape h1 h3 ht with ⟨⟨a0, a1, a2, td0, mo0, on0, ro0⟩, A0, k0, rfl, rfl, s0⟩ | ⟨⟨a0, a1, a2, td0, mo0, on0, ro0⟩, A0, k0, ⟨b0, b1, b2, td1, mo1, on1, ro1⟩, A1, k1, rfl, rfl, s0, s1⟩ | ⟨⟨a0, a1, a2, td0, mo0, on0, ro0⟩, A0, k0, ⟨b0, b1, b2, td1, mo1, on1, ro1⟩, A1, k1, ⟨d0, d1, d2, td2, mo2, on2, ro2⟩, A2, k2, rfl, rfl, s0, s1, s2⟩
 ·obtain rfl : who = 0 := by simpa using hw
  refine OvV 1 0 J J J J fun bp bc br bs bg kp sp asd ksd aq0 kq0 aq1 kq1 kc spc kr spr ks sps kg spg hbg hmk hce => ?_; subst hce; obtain ⟨g0, rfl⟩ := len1 hbg; clear hbg; refine NM J J ?_; dsimp only [wEnts, wCels, procCs, regEs, WX.of, vi]
  refine Va J J ?_;refine S_box J J J J J fun b4 => ?_;refine Va J J ?_;refine S_box J J J J J fun b6 => ?_;refine Va J J ?_;refine AZ ZT_ok J J J J fun b8 => ?_;refine Va J J ?_
  rcases ha with rfl | rfl | rfl <;>
  ·refine Ds J J J ?_
   refine Da J J ?_;refine DD ?_;refine Va J J ?_;refine S_emptyO Tk 22 J J J J fun A22 => ?_;refine Va J J ?_
   refine S_cond J (fun h => ?_) (fun h => ?_) <;> refine Va J J ?_
   ·simp only [Bool.and_eq_true, decide_eq_true_eq] at h
    obtain ⟨h, rfl⟩ := h
    refine S_slice Tk ZT_ok J J J J (by decide) (by decide) J J J J fun b33 => ?_;refine Va J J ?_;refine S_lendB 33 J J J J fun hG hb => ?_;refine S_call Tryz.call76 (c_l3Ahead _ _ x.length 1 xs [.int .i64 7, .int .i64 _, .int .i64 bb, .int .i64 n, .slice Ax x.length cx, .slice Ay y.length cy] _ (Sx_le (le_add hG) hxs) ⟨_, _, J, by omega, by omega, by simp [maxLen], J, .inr ⟨_, J, gcells_own⟩⟩ (Cs_one Stm.rep_one hcs) one6 (by omega)) J J J ?_
    rintro v1 G3 hv1 hext3
    refine S_backB 33 [.v (.int .i64 7), .v (.int .i64 _), .v (.int .i64 bb), .v (.int .i64 n), .v (.slice Ax x.length cx), .v (.slice Ay y.length cy)] (hext3.le _ _ (PH.add_self _ _ _)) J J hb ?_
    have hle := le_del hext3.le hG
    have hv2 : Sts (G3.del b33) (x ++ [.mk 7 _ bb n x y]) v1 := ahead_Sts hv1 (Cs_mono (Stm.reps_le hle x) hcs) ⟨_, [], by simp, rfl, Stm.rep_le hle _ _ hs1, rfl⟩ newp_add_le
    obtain ⟨A1, c1, rfl, _⟩ := id hv2
    have hext1 := PH.ext.del hG hext3
    refine Va J J ?_;refine Ds J J J ?_;refine Da J J ?_;refine D_sole 5 J J (N_call 5 Tryz.call76 (c_l3AheadS (x++[_]) rest _ _ _ hv2 (Sts_le hle hrest) (by (try simp only [List.length_append, List.length_singleton, List.length_nil]); omega)) rfl rfl rfl rfl rfl rfl rfl rfl rfl rfl ?_)
    rintro v' G' hv' hext
    replace hv' := hv' hext.le
    obtain ⟨A', c', rfl, _⟩ := id hv'
    refine Da J J ?_;refine Ns 8 J J J J J J J J J ?_;refine DD ?_;refine Va J J ?_;exact RK (wKeys 1) (Res.c1 Tk Tryz.results68 J J) ⟨_, _, J, J, Tds_upd (PH.le.trans hle hext.le) _ hw ht (by simpa [goesL, Wld.reg, Prc.get, Stm.kind, Stm.a, Stm.body, Stm.els, h] using hv')⟩ (Wvp [_] kg spg J ‹_› J J J J J J J J J) J (Wsub 5 J J J J J J J J J J J J J J J J (Bs 3 J J J J .nil)) (hext1.trans hext)
   ·refine S_condp J (fun h2 => ?_) (fun h2 => ?_) <;> refine Va J J ?_
    ·obtain rfl : kk = 6 := by
      rcases hk with rfl | rfl
      ·rfl
      ·simp [h2] at h
     refine Ds J J J ?_;refine Da J J ?_;refine D_sole 5 J J (N_call 5 Tryz.call76 (c_l3AheadS x rest _ _ _ hx (Sts_le (PH.le.refl _) hrest) (by (try simp only [List.length_append, List.length_singleton, List.length_nil]); omega)) rfl rfl rfl rfl rfl rfl rfl rfl rfl rfl ?_)
     rintro v' G' hv' hext
     replace hv' := hv' hext.le
     obtain ⟨A', c', rfl, _⟩ := id hv'
     refine Da J J ?_;refine Ns 8 J J J J J J J J J ?_;refine DD ?_;refine Va J J ?_;exact RK (wKeys 1) (Res.c1 Tk Tryz.results68 J J) ⟨_, _, J, J, Tds_upd (PH.le.trans (PH.le.refl _) hext.le) _ hw ht (by simpa [goesL, Wld.reg, Prc.get, Stm.kind, Stm.a, Stm.body, Stm.els, h2] using hv')⟩ (Wvp [_] kg spg J ‹_› J J J J J J J J J) J (Wsub 5 J J J J J J J J J J J J J J J J (Bs 3 J J J J .nil)) hext
    ·replace h2 := Classical.not_not.1 h2
     refine S_condp J (fun h3 => ?_) (fun h3 => ?_) <;> refine Va J J ?_
     ·subst h3
      refine Ds J J J ?_;refine Da J J ?_;refine D_sole 5 J J (N_call 5 Tryz.call76 (c_l3AheadS y rest _ _ _ hy (Sts_le (PH.le.refl _) hrest) (by (try simp only [List.length_append, List.length_singleton, List.length_nil]); omega)) rfl rfl rfl rfl rfl rfl rfl rfl rfl rfl ?_)
      rintro v' G' hv' hext
      replace hv' := hv' hext.le
      obtain ⟨A', c', rfl, _⟩ := id hv'
      refine Da J J ?_;refine Ns 8 J J J J J J J J J ?_;refine DD ?_;refine Va J J ?_;exact RK (wKeys 1) (Res.c1 Tk Tryz.results68 J J) ⟨_, _, J, J, Tds_upd (PH.le.trans (PH.le.refl _) hext.le) _ hw ht (by simpa [goesL, Wld.reg, Prc.get, Stm.kind, Stm.a, Stm.body, Stm.els, h2] using hv')⟩ (Wvp [_] kg spg J ‹_› J J J J J J J J J) J (Wsub 5 J J J J J J J J J J J J J J J J (Bs 3 J J J J .nil)) hext
     ·refine Ds J J J ?_
      refine Da J J ?_;refine D_sole 5 J J (N_call 5 Tryz.call76 (c_l3AheadS [] rest _ _ _ (Sx_Sr (n:=0) (xs:=[]) ⟨_,_,J,by omega,by omega,by simp [maxLen],J,(.inl J)⟩ J J) (Sts_le (PH.le.refl _) hrest) (by (try simp only [List.length_append, List.length_singleton, List.length_nil]); omega)) rfl rfl rfl rfl rfl rfl rfl rfl rfl rfl ?_)
      rintro v' G' hv' hext
      replace hv' := hv' hext.le
      obtain ⟨A', c', rfl, _⟩ := id hv'
      refine Da J J ?_;refine Ns 8 J J J J J J J J J ?_;refine DD ?_;refine Va J J ?_;exact RK (wKeys 1) (Res.c1 Tk Tryz.results68 J J) ⟨_, _, J, J, Tds_upd (PH.le.trans (PH.le.refl _) hext.le) _ hw ht (by simpa [goesL, Wld.reg, Prc.get, Stm.kind, Stm.a, Stm.body, Stm.els, h2, h3] using hv')⟩ (Wvp [_] kg spg J ‹_› J J J J J J J J J) J (Wsub 5 J J J J J J J J J J J J J J J J (Bs 3 J J J J .nil)) hext
 ·rcases (by simp at hw; omega : who = 0 ∨ who = 1) with rfl | rfl
  ·refine OvV 1 0 J J J J fun bp bc br bs bg kp sp asd ksd aq0 kq0 aq1 kq1 kc spc kr spr ks sps kg spg hbg hmk hce => ?_; subst hce; obtain ⟨g0, g1, rfl⟩ := len2 hbg; clear hbg; refine NM J J ?_; dsimp only [wEnts, wCels, procCs, regEs, WX.of, vi]
   refine Va J J ?_;refine S_box J J J J J fun b4 => ?_;refine Va J J ?_;refine S_box J J J J J fun b6 => ?_;refine Va J J ?_;refine AZ ZT_ok J J J J fun b8 => ?_;refine Va J J ?_
   rcases ha with rfl | rfl | rfl <;>
   ·refine Ds J J J ?_
    refine Da J J ?_;refine DD ?_;refine Va J J ?_;refine S_emptyO Tk 22 J J J J fun A22 => ?_;refine Va J J ?_
    refine S_cond J (fun h => ?_) (fun h => ?_) <;> refine Va J J ?_
    ·simp only [Bool.and_eq_true, decide_eq_true_eq] at h
     obtain ⟨h, rfl⟩ := h
     refine S_slice Tk ZT_ok J J J J (by decide) (by decide) J J J J fun b33 => ?_;refine Va J J ?_;refine S_lendB 33 J J J J fun hG hb => ?_;refine S_call Tryz.call76 (c_l3Ahead _ _ x.length 1 xs [.int .i64 7, .int .i64 _, .int .i64 bb, .int .i64 n, .slice Ax x.length cx, .slice Ay y.length cy] _ (Sx_le (le_add hG) hxs) ⟨_, _, J, by omega, by omega, by simp [maxLen], J, .inr ⟨_, J, gcells_own⟩⟩ (Cs_one Stm.rep_one hcs) one6 (by omega)) J J J ?_
     rintro v1 G3 hv1 hext3
     refine S_backB 33 [.v (.int .i64 7), .v (.int .i64 _), .v (.int .i64 bb), .v (.int .i64 n), .v (.slice Ax x.length cx), .v (.slice Ay y.length cy)] (hext3.le _ _ (PH.add_self _ _ _)) J J hb ?_
     have hle := le_del hext3.le hG
     have hv2 : Sts (G3.del b33) (x ++ [.mk 7 _ bb n x y]) v1 := ahead_Sts hv1 (Cs_mono (Stm.reps_le hle x) hcs) ⟨_, [], by simp, rfl, Stm.rep_le hle _ _ hs1, rfl⟩ newp_add_le
     obtain ⟨A1, c1, rfl, _⟩ := id hv2
     have hext1 := PH.ext.del hG hext3
     refine Va J J ?_;refine Ds J J J ?_;refine Da J J ?_;refine D_sole 5 J J (N_call 5 Tryz.call76 (c_l3AheadS (x++[_]) rest _ _ _ hv2 (Sts_le hle hrest) (by (try simp only [List.length_append, List.length_singleton, List.length_nil]); omega)) rfl rfl rfl rfl rfl rfl rfl rfl rfl rfl ?_)
     rintro v' G' hv' hext
     replace hv' := hv' hext.le
     obtain ⟨A', c', rfl, _⟩ := id hv'
     refine Da J J ?_;refine Ns 8 J J J J J J J J J ?_;refine DD ?_;refine Va J J ?_;exact RK (wKeys 2) (Res.c1 Tk Tryz.results68 J J) ⟨_, _, J, J, Tds_upd (PH.le.trans hle hext.le) _ hw ht (by simpa [goesL, Wld.reg, Prc.get, Stm.kind, Stm.a, Stm.body, Stm.els, h] using hv')⟩ (Wvp [_, _] kg spg J ‹_› J J J J J J J J J) J (Wsub 10 J J J J J J J J J J J J J J J J (Bs 3 J J J J (Bs 3 J J J J .nil))) (hext1.trans hext)
    ·refine S_condp J (fun h2 => ?_) (fun h2 => ?_) <;> refine Va J J ?_
     ·obtain rfl : kk = 6 := by
       rcases hk with rfl | rfl
       ·rfl
       ·simp [h2] at h
      refine Ds J J J ?_;refine Da J J ?_;refine D_sole 5 J J (N_call 5 Tryz.call76 (c_l3AheadS x rest _ _ _ hx (Sts_le (PH.le.refl _) hrest) (by (try simp only [List.length_append, List.length_singleton, List.length_nil]); omega)) rfl rfl rfl rfl rfl rfl rfl rfl rfl rfl ?_)
      rintro v' G' hv' hext
      replace hv' := hv' hext.le
      obtain ⟨A', c', rfl, _⟩ := id hv'
      refine Da J J ?_;refine Ns 8 J J J J J J J J J ?_;refine DD ?_;refine Va J J ?_;exact RK (wKeys 2) (Res.c1 Tk Tryz.results68 J J) ⟨_, _, J, J, Tds_upd (PH.le.trans (PH.le.refl _) hext.le) _ hw ht (by simpa [goesL, Wld.reg, Prc.get, Stm.kind, Stm.a, Stm.body, Stm.els, h2] using hv')⟩ (Wvp [_, _] kg spg J ‹_› J J J J J J J J J) J (Wsub 10 J J J J J J J J J J J J J J J J (Bs 3 J J J J (Bs 3 J J J J .nil))) hext
     ·replace h2 := Classical.not_not.1 h2
      refine S_condp J (fun h3 => ?_) (fun h3 => ?_) <;> refine Va J J ?_
      ·subst h3
       refine Ds J J J ?_;refine Da J J ?_;refine D_sole 5 J J (N_call 5 Tryz.call76 (c_l3AheadS y rest _ _ _ hy (Sts_le (PH.le.refl _) hrest) (by (try simp only [List.length_append, List.length_singleton, List.length_nil]); omega)) rfl rfl rfl rfl rfl rfl rfl rfl rfl rfl ?_)
       rintro v' G' hv' hext
       replace hv' := hv' hext.le
       obtain ⟨A', c', rfl, _⟩ := id hv'
       refine Da J J ?_;refine Ns 8 J J J J J J J J J ?_;refine DD ?_;refine Va J J ?_;exact RK (wKeys 2) (Res.c1 Tk Tryz.results68 J J) ⟨_, _, J, J, Tds_upd (PH.le.trans (PH.le.refl _) hext.le) _ hw ht (by simpa [goesL, Wld.reg, Prc.get, Stm.kind, Stm.a, Stm.body, Stm.els, h2] using hv')⟩ (Wvp [_, _] kg spg J ‹_› J J J J J J J J J) J (Wsub 10 J J J J J J J J J J J J J J J J (Bs 3 J J J J (Bs 3 J J J J .nil))) hext
      ·refine Ds J J J ?_
       refine Da J J ?_;refine D_sole 5 J J (N_call 5 Tryz.call76 (c_l3AheadS [] rest _ _ _ (Sx_Sr (n:=0) (xs:=[]) ⟨_,_,J,by omega,by omega,by simp [maxLen],J,(.inl J)⟩ J J) (Sts_le (PH.le.refl _) hrest) (by (try simp only [List.length_append, List.length_singleton, List.length_nil]); omega)) rfl rfl rfl rfl rfl rfl rfl rfl rfl rfl ?_)
       rintro v' G' hv' hext
       replace hv' := hv' hext.le
       obtain ⟨A', c', rfl, _⟩ := id hv'
       refine Da J J ?_;refine Ns 8 J J J J J J J J J ?_;refine DD ?_;refine Va J J ?_;exact RK (wKeys 2) (Res.c1 Tk Tryz.results68 J J) ⟨_, _, J, J, Tds_upd (PH.le.trans (PH.le.refl _) hext.le) _ hw ht (by simpa [goesL, Wld.reg, Prc.get, Stm.kind, Stm.a, Stm.body, Stm.els, h2, h3] using hv')⟩ (Wvp [_, _] kg spg J ‹_› J J J J J J J J J) J (Wsub 10 J J J J J J J J J J J J J J J J (Bs 3 J J J J (Bs 3 J J J J .nil))) hext
  ·refine OvV 1 0 J J J J fun bp bc br bs bg kp sp asd ksd aq0 kq0 aq1 kq1 kc spc kr spr ks sps kg spg hbg hmk hce => ?_; subst hce; obtain ⟨g0, g1, rfl⟩ := len2 hbg; clear hbg; refine NM J J ?_; dsimp only [wEnts, wCels, procCs, regEs, WX.of, vi]
   refine Va J J ?_;refine S_box J J J J J fun b4 => ?_;refine Va J J ?_;refine S_box J J J J J fun b6 => ?_;refine Va J J ?_;refine AZ ZT_ok J J J J fun b8 => ?_;refine Va J J ?_
   rcases ha with rfl | rfl | rfl <;>
   ·refine Ds J J J ?_
    refine Da J J ?_;refine DD ?_;refine Va J J ?_;refine S_emptyO Tk 22 J J J J fun A22 => ?_;refine Va J J ?_
    refine S_cond J (fun h => ?_) (fun h => ?_) <;> refine Va J J ?_
    ·simp only [Bool.and_eq_true, decide_eq_true_eq] at h
     obtain ⟨h, rfl⟩ := h
     refine S_slice Tk ZT_ok J J J J (by decide) (by decide) J J J J fun b33 => ?_;refine Va J J ?_;refine S_lendB 33 J J J J fun hG hb => ?_;refine S_call Tryz.call76 (c_l3Ahead _ _ x.length 1 xs [.int .i64 7, .int .i64 _, .int .i64 bb, .int .i64 n, .slice Ax x.length cx, .slice Ay y.length cy] _ (Sx_le (le_add hG) hxs) ⟨_, _, J, by omega, by omega, by simp [maxLen], J, .inr ⟨_, J, gcells_own⟩⟩ (Cs_one Stm.rep_one hcs) one6 (by omega)) J J J ?_
     rintro v1 G3 hv1 hext3
     refine S_backB 33 [.v (.int .i64 7), .v (.int .i64 _), .v (.int .i64 bb), .v (.int .i64 n), .v (.slice Ax x.length cx), .v (.slice Ay y.length cy)] (hext3.le _ _ (PH.add_self _ _ _)) J J hb ?_
     have hle := le_del hext3.le hG
     have hv2 : Sts (G3.del b33) (x ++ [.mk 7 _ bb n x y]) v1 := ahead_Sts hv1 (Cs_mono (Stm.reps_le hle x) hcs) ⟨_, [], by simp, rfl, Stm.rep_le hle _ _ hs1, rfl⟩ newp_add_le
     obtain ⟨A1, c1, rfl, _⟩ := id hv2
     have hext1 := PH.ext.del hG hext3
     refine Va J J ?_;refine Ds J J J ?_;refine Da J J ?_;refine D_sole 5 J J (N_call 5 Tryz.call76 (c_l3AheadS (x++[_]) rest _ _ _ hv2 (Sts_le hle hrest) (by (try simp only [List.length_append, List.length_singleton, List.length_nil]); omega)) rfl rfl rfl rfl rfl rfl rfl rfl rfl rfl ?_)
     rintro v' G' hv' hext
     replace hv' := hv' hext.le
     obtain ⟨A', c', rfl, _⟩ := id hv'
     refine Da J J ?_;refine Ns 8 J J J J J J J J J ?_;refine DD ?_;refine Va J J ?_;exact RK (wKeys 2) (Res.c1 Tk Tryz.results68 J J) ⟨_, _, J, J, Tds_upd (PH.le.trans hle hext.le) _ hw ht (by simpa [goesL, Wld.reg, Prc.get, Stm.kind, Stm.a, Stm.body, Stm.els, h] using hv')⟩ (Wvp [_, _] kg spg J ‹_› J J J J J J J J J) J (Wsub 10 J J J J J J J J J J J J J J J J (Bs 3 J J J J (Bs 3 J J J J .nil))) (hext1.trans hext)
    ·refine S_condp J (fun h2 => ?_) (fun h2 => ?_) <;> refine Va J J ?_
     ·obtain rfl : kk = 6 := by
       rcases hk with rfl | rfl
       ·rfl
       ·simp [h2] at h
      refine Ds J J J ?_;refine Da J J ?_;refine D_sole 5 J J (N_call 5 Tryz.call76 (c_l3AheadS x rest _ _ _ hx (Sts_le (PH.le.refl _) hrest) (by (try simp only [List.length_append, List.length_singleton, List.length_nil]); omega)) rfl rfl rfl rfl rfl rfl rfl rfl rfl rfl ?_)
      rintro v' G' hv' hext
      replace hv' := hv' hext.le
      obtain ⟨A', c', rfl, _⟩ := id hv'
      refine Da J J ?_;refine Ns 8 J J J J J J J J J ?_;refine DD ?_;refine Va J J ?_;exact RK (wKeys 2) (Res.c1 Tk Tryz.results68 J J) ⟨_, _, J, J, Tds_upd (PH.le.trans (PH.le.refl _) hext.le) _ hw ht (by simpa [goesL, Wld.reg, Prc.get, Stm.kind, Stm.a, Stm.body, Stm.els, h2] using hv')⟩ (Wvp [_, _] kg spg J ‹_› J J J J J J J J J) J (Wsub 10 J J J J J J J J J J J J J J J J (Bs 3 J J J J (Bs 3 J J J J .nil))) hext
     ·replace h2 := Classical.not_not.1 h2
      refine S_condp J (fun h3 => ?_) (fun h3 => ?_) <;> refine Va J J ?_
      ·subst h3
       refine Ds J J J ?_;refine Da J J ?_;refine D_sole 5 J J (N_call 5 Tryz.call76 (c_l3AheadS y rest _ _ _ hy (Sts_le (PH.le.refl _) hrest) (by (try simp only [List.length_append, List.length_singleton, List.length_nil]); omega)) rfl rfl rfl rfl rfl rfl rfl rfl rfl rfl ?_)
       rintro v' G' hv' hext
       replace hv' := hv' hext.le
       obtain ⟨A', c', rfl, _⟩ := id hv'
       refine Da J J ?_;refine Ns 8 J J J J J J J J J ?_;refine DD ?_;refine Va J J ?_;exact RK (wKeys 2) (Res.c1 Tk Tryz.results68 J J) ⟨_, _, J, J, Tds_upd (PH.le.trans (PH.le.refl _) hext.le) _ hw ht (by simpa [goesL, Wld.reg, Prc.get, Stm.kind, Stm.a, Stm.body, Stm.els, h2] using hv')⟩ (Wvp [_, _] kg spg J ‹_› J J J J J J J J J) J (Wsub 10 J J J J J J J J J J J J J J J J (Bs 3 J J J J (Bs 3 J J J J .nil))) hext
      ·refine Ds J J J ?_
       refine Da J J ?_;refine D_sole 5 J J (N_call 5 Tryz.call76 (c_l3AheadS [] rest _ _ _ (Sx_Sr (n:=0) (xs:=[]) ⟨_,_,J,by omega,by omega,by simp [maxLen],J,(.inl J)⟩ J J) (Sts_le (PH.le.refl _) hrest) (by (try simp only [List.length_append, List.length_singleton, List.length_nil]); omega)) rfl rfl rfl rfl rfl rfl rfl rfl rfl rfl ?_)
       rintro v' G' hv' hext
       replace hv' := hv' hext.le
       obtain ⟨A', c', rfl, _⟩ := id hv'
       refine Da J J ?_;refine Ns 8 J J J J J J J J J ?_;refine DD ?_;refine Va J J ?_;exact RK (wKeys 2) (Res.c1 Tk Tryz.results68 J J) ⟨_, _, J, J, Tds_upd (PH.le.trans (PH.le.refl _) hext.le) _ hw ht (by simpa [goesL, Wld.reg, Prc.get, Stm.kind, Stm.a, Stm.body, Stm.els, h2, h3] using hv')⟩ (Wvp [_, _] kg spg J ‹_› J J J J J J J J J) J (Wsub 10 J J J J J J J J J J J J J J J J (Bs 3 J J J J (Bs 3 J J J J .nil))) hext
 ·rcases (by simp at hw; omega : who = 0 ∨ who = 1 ∨ who = 2) with rfl | rfl | rfl
  ·refine OvV 1 0 J J J J fun bp bc br bs bg kp sp asd ksd aq0 kq0 aq1 kq1 kc spc kr spr ks sps kg spg hbg hmk hce => ?_; subst hce; obtain ⟨g0, g1, g2, rfl⟩ := len3 hbg; clear hbg; refine NM J J ?_; dsimp only [wEnts, wCels, procCs, regEs, WX.of, vi]
   refine Va J J ?_;refine S_box J J J J J fun b4 => ?_;refine Va J J ?_;refine S_box J J J J J fun b6 => ?_;refine Va J J ?_;refine AZ ZT_ok J J J J fun b8 => ?_;refine Va J J ?_
   rcases ha with rfl | rfl | rfl <;>
   ·refine Ds J J J ?_
    refine Da J J ?_;refine DD ?_;refine Va J J ?_;refine S_emptyO Tk 22 J J J J fun A22 => ?_;refine Va J J ?_
    refine S_cond J (fun h => ?_) (fun h => ?_) <;> refine Va J J ?_
    ·simp only [Bool.and_eq_true, decide_eq_true_eq] at h
     obtain ⟨h, rfl⟩ := h
     refine S_slice Tk ZT_ok J J J J (by decide) (by decide) J J J J fun b33 => ?_;refine Va J J ?_;refine S_lendB 33 J J J J fun hG hb => ?_;refine S_call Tryz.call76 (c_l3Ahead _ _ x.length 1 xs [.int .i64 7, .int .i64 _, .int .i64 bb, .int .i64 n, .slice Ax x.length cx, .slice Ay y.length cy] _ (Sx_le (le_add hG) hxs) ⟨_, _, J, by omega, by omega, by simp [maxLen], J, .inr ⟨_, J, gcells_own⟩⟩ (Cs_one Stm.rep_one hcs) one6 (by omega)) J J J ?_
     rintro v1 G3 hv1 hext3
     refine S_backB 33 [.v (.int .i64 7), .v (.int .i64 _), .v (.int .i64 bb), .v (.int .i64 n), .v (.slice Ax x.length cx), .v (.slice Ay y.length cy)] (hext3.le _ _ (PH.add_self _ _ _)) J J hb ?_
     have hle := le_del hext3.le hG
     have hv2 : Sts (G3.del b33) (x ++ [.mk 7 _ bb n x y]) v1 := ahead_Sts hv1 (Cs_mono (Stm.reps_le hle x) hcs) ⟨_, [], by simp, rfl, Stm.rep_le hle _ _ hs1, rfl⟩ newp_add_le
     obtain ⟨A1, c1, rfl, _⟩ := id hv2
     have hext1 := PH.ext.del hG hext3
     refine Va J J ?_;refine Ds J J J ?_;refine Da J J ?_;refine D_sole 5 J J (N_call 5 Tryz.call76 (c_l3AheadS (x++[_]) rest _ _ _ hv2 (Sts_le hle hrest) (by (try simp only [List.length_append, List.length_singleton, List.length_nil]); omega)) rfl rfl rfl rfl rfl rfl rfl rfl rfl rfl ?_)
     rintro v' G' hv' hext
     replace hv' := hv' hext.le
     obtain ⟨A', c', rfl, _⟩ := id hv'
     refine Da J J ?_;refine Ns 8 J J J J J J J J J ?_;refine DD ?_;refine Va J J ?_;exact RK (wKeys 3) (Res.c1 Tk Tryz.results68 J J) ⟨_, _, J, J, Tds_upd (PH.le.trans hle hext.le) _ hw ht (by simpa [goesL, Wld.reg, Prc.get, Stm.kind, Stm.a, Stm.body, Stm.els, h] using hv')⟩ (Wvp [_, _, _] kg spg J ‹_› J J J J J J J J J) J (Wsub 15 J J J J J J J J J J J J J J J J (Bs 3 J J J J (Bs 3 J J J J (Bs 3 J J J J .nil)))) (hext1.trans hext)
    ·refine S_condp J (fun h2 => ?_) (fun h2 => ?_) <;> refine Va J J ?_
     ·obtain rfl : kk = 6 := by
       rcases hk with rfl | rfl
       ·rfl
       ·simp [h2] at h
      refine Ds J J J ?_;refine Da J J ?_;refine D_sole 5 J J (N_call 5 Tryz.call76 (c_l3AheadS x rest _ _ _ hx (Sts_le (PH.le.refl _) hrest) (by (try simp only [List.length_append, List.length_singleton, List.length_nil]); omega)) rfl rfl rfl rfl rfl rfl rfl rfl rfl rfl ?_)
      rintro v' G' hv' hext
      replace hv' := hv' hext.le
      obtain ⟨A', c', rfl, _⟩ := id hv'
      refine Da J J ?_;refine Ns 8 J J J J J J J J J ?_;refine DD ?_;refine Va J J ?_;exact RK (wKeys 3) (Res.c1 Tk Tryz.results68 J J) ⟨_, _, J, J, Tds_upd (PH.le.trans (PH.le.refl _) hext.le) _ hw ht (by simpa [goesL, Wld.reg, Prc.get, Stm.kind, Stm.a, Stm.body, Stm.els, h2] using hv')⟩ (Wvp [_, _, _] kg spg J ‹_› J J J J J J J J J) J (Wsub 15 J J J J J J J J J J J J J J J J (Bs 3 J J J J (Bs 3 J J J J (Bs 3 J J J J .nil)))) hext
     ·replace h2 := Classical.not_not.1 h2
      refine S_condp J (fun h3 => ?_) (fun h3 => ?_) <;> refine Va J J ?_
      ·subst h3
       refine Ds J J J ?_;refine Da J J ?_;refine D_sole 5 J J (N_call 5 Tryz.call76 (c_l3AheadS y rest _ _ _ hy (Sts_le (PH.le.refl _) hrest) (by (try simp only [List.length_append, List.length_singleton, List.length_nil]); omega)) rfl rfl rfl rfl rfl rfl rfl rfl rfl rfl ?_)
       rintro v' G' hv' hext
       replace hv' := hv' hext.le
       obtain ⟨A', c', rfl, _⟩ := id hv'
       refine Da J J ?_;refine Ns 8 J J J J J J J J J ?_;refine DD ?_;refine Va J J ?_;exact RK (wKeys 3) (Res.c1 Tk Tryz.results68 J J) ⟨_, _, J, J, Tds_upd (PH.le.trans (PH.le.refl _) hext.le) _ hw ht (by simpa [goesL, Wld.reg, Prc.get, Stm.kind, Stm.a, Stm.body, Stm.els, h2] using hv')⟩ (Wvp [_, _, _] kg spg J ‹_› J J J J J J J J J) J (Wsub 15 J J J J J J J J J J J J J J J J (Bs 3 J J J J (Bs 3 J J J J (Bs 3 J J J J .nil)))) hext
      ·refine Ds J J J ?_
       refine Da J J ?_;refine D_sole 5 J J (N_call 5 Tryz.call76 (c_l3AheadS [] rest _ _ _ (Sx_Sr (n:=0) (xs:=[]) ⟨_,_,J,by omega,by omega,by simp [maxLen],J,(.inl J)⟩ J J) (Sts_le (PH.le.refl _) hrest) (by (try simp only [List.length_append, List.length_singleton, List.length_nil]); omega)) rfl rfl rfl rfl rfl rfl rfl rfl rfl rfl ?_)
       rintro v' G' hv' hext
       replace hv' := hv' hext.le
       obtain ⟨A', c', rfl, _⟩ := id hv'
       refine Da J J ?_;refine Ns 8 J J J J J J J J J ?_;refine DD ?_;refine Va J J ?_;exact RK (wKeys 3) (Res.c1 Tk Tryz.results68 J J) ⟨_, _, J, J, Tds_upd (PH.le.trans (PH.le.refl _) hext.le) _ hw ht (by simpa [goesL, Wld.reg, Prc.get, Stm.kind, Stm.a, Stm.body, Stm.els, h2, h3] using hv')⟩ (Wvp [_, _, _] kg spg J ‹_› J J J J J J J J J) J (Wsub 15 J J J J J J J J J J J J J J J J (Bs 3 J J J J (Bs 3 J J J J (Bs 3 J J J J .nil)))) hext
  ·refine OvV 1 0 J J J J fun bp bc br bs bg kp sp asd ksd aq0 kq0 aq1 kq1 kc spc kr spr ks sps kg spg hbg hmk hce => ?_; subst hce; obtain ⟨g0, g1, g2, rfl⟩ := len3 hbg; clear hbg; refine NM J J ?_; dsimp only [wEnts, wCels, procCs, regEs, WX.of, vi]
   refine Va J J ?_;refine S_box J J J J J fun b4 => ?_;refine Va J J ?_;refine S_box J J J J J fun b6 => ?_;refine Va J J ?_;refine AZ ZT_ok J J J J fun b8 => ?_;refine Va J J ?_
   rcases ha with rfl | rfl | rfl <;>
   ·refine Ds J J J ?_
    refine Da J J ?_;refine DD ?_;refine Va J J ?_;refine S_emptyO Tk 22 J J J J fun A22 => ?_;refine Va J J ?_
    refine S_cond J (fun h => ?_) (fun h => ?_) <;> refine Va J J ?_
    ·simp only [Bool.and_eq_true, decide_eq_true_eq] at h
     obtain ⟨h, rfl⟩ := h
     refine S_slice Tk ZT_ok J J J J (by decide) (by decide) J J J J fun b33 => ?_;refine Va J J ?_;refine S_lendB 33 J J J J fun hG hb => ?_;refine S_call Tryz.call76 (c_l3Ahead _ _ x.length 1 xs [.int .i64 7, .int .i64 _, .int .i64 bb, .int .i64 n, .slice Ax x.length cx, .slice Ay y.length cy] _ (Sx_le (le_add hG) hxs) ⟨_, _, J, by omega, by omega, by simp [maxLen], J, .inr ⟨_, J, gcells_own⟩⟩ (Cs_one Stm.rep_one hcs) one6 (by omega)) J J J ?_
     rintro v1 G3 hv1 hext3
     refine S_backB 33 [.v (.int .i64 7), .v (.int .i64 _), .v (.int .i64 bb), .v (.int .i64 n), .v (.slice Ax x.length cx), .v (.slice Ay y.length cy)] (hext3.le _ _ (PH.add_self _ _ _)) J J hb ?_
     have hle := le_del hext3.le hG
     have hv2 : Sts (G3.del b33) (x ++ [.mk 7 _ bb n x y]) v1 := ahead_Sts hv1 (Cs_mono (Stm.reps_le hle x) hcs) ⟨_, [], by simp, rfl, Stm.rep_le hle _ _ hs1, rfl⟩ newp_add_le
     obtain ⟨A1, c1, rfl, _⟩ := id hv2
     have hext1 := PH.ext.del hG hext3
     refine Va J J ?_;refine Ds J J J ?_;refine Da J J ?_;refine D_sole 5 J J (N_call 5 Tryz.call76 (c_l3AheadS (x++[_]) rest _ _ _ hv2 (Sts_le hle hrest) (by (try simp only [List.length_append, List.length_singleton, List.length_nil]); omega)) rfl rfl rfl rfl rfl rfl rfl rfl rfl rfl ?_)
     rintro v' G' hv' hext
     replace hv' := hv' hext.le
     obtain ⟨A', c', rfl, _⟩ := id hv'
     refine Da J J ?_;refine Ns 8 J J J J J J J J J ?_;refine DD ?_;refine Va J J ?_;exact RK (wKeys 3) (Res.c1 Tk Tryz.results68 J J) ⟨_, _, J, J, Tds_upd (PH.le.trans hle hext.le) _ hw ht (by simpa [goesL, Wld.reg, Prc.get, Stm.kind, Stm.a, Stm.body, Stm.els, h] using hv')⟩ (Wvp [_, _, _] kg spg J ‹_› J J J J J J J J J) J (Wsub 15 J J J J J J J J J J J J J J J J (Bs 3 J J J J (Bs 3 J J J J (Bs 3 J J J J .nil)))) (hext1.trans hext)
    ·refine S_condp J (fun h2 => ?_) (fun h2 => ?_) <;> refine Va J J ?_
     ·obtain rfl : kk = 6 := by
       rcases hk with rfl | rfl
       ·rfl
       ·simp [h2] at h
      refine Ds J J J ?_;refine Da J J ?_;refine D_sole 5 J J (N_call 5 Tryz.call76 (c_l3AheadS x rest _ _ _ hx (Sts_le (PH.le.refl _) hrest) (by (try simp only [List.length_append, List.length_singleton, List.length_nil]); omega)) rfl rfl rfl rfl rfl rfl rfl rfl rfl rfl ?_)
      rintro v' G' hv' hext
      replace hv' := hv' hext.le
      obtain ⟨A', c', rfl, _⟩ := id hv'
      refine Da J J ?_;refine Ns 8 J J J J J J J J J ?_;refine DD ?_;refine Va J J ?_;exact RK (wKeys 3) (Res.c1 Tk Tryz.results68 J J) ⟨_, _, J, J, Tds_upd (PH.le.trans (PH.le.refl _) hext.le) _ hw ht (by simpa [goesL, Wld.reg, Prc.get, Stm.kind, Stm.a, Stm.body, Stm.els, h2] using hv')⟩ (Wvp [_, _, _] kg spg J ‹_› J J J J J J J J J) J (Wsub 15 J J J J J J J J J J J J J J J J (Bs 3 J J J J (Bs 3 J J J J (Bs 3 J J J J .nil)))) hext
     ·replace h2 := Classical.not_not.1 h2
      refine S_condp J (fun h3 => ?_) (fun h3 => ?_) <;> refine Va J J ?_
      ·subst h3
       refine Ds J J J ?_;refine Da J J ?_;refine D_sole 5 J J (N_call 5 Tryz.call76 (c_l3AheadS y rest _ _ _ hy (Sts_le (PH.le.refl _) hrest) (by (try simp only [List.length_append, List.length_singleton, List.length_nil]); omega)) rfl rfl rfl rfl rfl rfl rfl rfl rfl rfl ?_)
       rintro v' G' hv' hext
       replace hv' := hv' hext.le
       obtain ⟨A', c', rfl, _⟩ := id hv'
       refine Da J J ?_;refine Ns 8 J J J J J J J J J ?_;refine DD ?_;refine Va J J ?_;exact RK (wKeys 3) (Res.c1 Tk Tryz.results68 J J) ⟨_, _, J, J, Tds_upd (PH.le.trans (PH.le.refl _) hext.le) _ hw ht (by simpa [goesL, Wld.reg, Prc.get, Stm.kind, Stm.a, Stm.body, Stm.els, h2] using hv')⟩ (Wvp [_, _, _] kg spg J ‹_› J J J J J J J J J) J (Wsub 15 J J J J J J J J J J J J J J J J (Bs 3 J J J J (Bs 3 J J J J (Bs 3 J J J J .nil)))) hext
      ·refine Ds J J J ?_
       refine Da J J ?_;refine D_sole 5 J J (N_call 5 Tryz.call76 (c_l3AheadS [] rest _ _ _ (Sx_Sr (n:=0) (xs:=[]) ⟨_,_,J,by omega,by omega,by simp [maxLen],J,(.inl J)⟩ J J) (Sts_le (PH.le.refl _) hrest) (by (try simp only [List.length_append, List.length_singleton, List.length_nil]); omega)) rfl rfl rfl rfl rfl rfl rfl rfl rfl rfl ?_)
       rintro v' G' hv' hext
       replace hv' := hv' hext.le
       obtain ⟨A', c', rfl, _⟩ := id hv'
       refine Da J J ?_;refine Ns 8 J J J J J J J J J ?_;refine DD ?_;refine Va J J ?_;exact RK (wKeys 3) (Res.c1 Tk Tryz.results68 J J) ⟨_, _, J, J, Tds_upd (PH.le.trans (PH.le.refl _) hext.le) _ hw ht (by simpa [goesL, Wld.reg, Prc.get, Stm.kind, Stm.a, Stm.body, Stm.els, h2, h3] using hv')⟩ (Wvp [_, _, _] kg spg J ‹_› J J J J J J J J J) J (Wsub 15 J J J J J J J J J J J J J J J J (Bs 3 J J J J (Bs 3 J J J J (Bs 3 J J J J .nil)))) hext
  ·refine OvV 1 0 J J J J fun bp bc br bs bg kp sp asd ksd aq0 kq0 aq1 kq1 kc spc kr spr ks sps kg spg hbg hmk hce => ?_; subst hce; obtain ⟨g0, g1, g2, rfl⟩ := len3 hbg; clear hbg; refine NM J J ?_; dsimp only [wEnts, wCels, procCs, regEs, WX.of, vi]
   refine Va J J ?_;refine S_box J J J J J fun b4 => ?_;refine Va J J ?_;refine S_box J J J J J fun b6 => ?_;refine Va J J ?_;refine AZ ZT_ok J J J J fun b8 => ?_;refine Va J J ?_
   rcases ha with rfl | rfl | rfl <;>
   ·refine Ds J J J ?_
    refine Da J J ?_;refine DD ?_;refine Va J J ?_;refine S_emptyO Tk 22 J J J J fun A22 => ?_;refine Va J J ?_
    refine S_cond J (fun h => ?_) (fun h => ?_) <;> refine Va J J ?_
    ·simp only [Bool.and_eq_true, decide_eq_true_eq] at h
     obtain ⟨h, rfl⟩ := h
     refine S_slice Tk ZT_ok J J J J (by decide) (by decide) J J J J fun b33 => ?_;refine Va J J ?_;refine S_lendB 33 J J J J fun hG hb => ?_;refine S_call Tryz.call76 (c_l3Ahead _ _ x.length 1 xs [.int .i64 7, .int .i64 _, .int .i64 bb, .int .i64 n, .slice Ax x.length cx, .slice Ay y.length cy] _ (Sx_le (le_add hG) hxs) ⟨_, _, J, by omega, by omega, by simp [maxLen], J, .inr ⟨_, J, gcells_own⟩⟩ (Cs_one Stm.rep_one hcs) one6 (by omega)) J J J ?_
     rintro v1 G3 hv1 hext3
     refine S_backB 33 [.v (.int .i64 7), .v (.int .i64 _), .v (.int .i64 bb), .v (.int .i64 n), .v (.slice Ax x.length cx), .v (.slice Ay y.length cy)] (hext3.le _ _ (PH.add_self _ _ _)) J J hb ?_
     have hle := le_del hext3.le hG
     have hv2 : Sts (G3.del b33) (x ++ [.mk 7 _ bb n x y]) v1 := ahead_Sts hv1 (Cs_mono (Stm.reps_le hle x) hcs) ⟨_, [], by simp, rfl, Stm.rep_le hle _ _ hs1, rfl⟩ newp_add_le
     obtain ⟨A1, c1, rfl, _⟩ := id hv2
     have hext1 := PH.ext.del hG hext3
     refine Va J J ?_;refine Ds J J J ?_;refine Da J J ?_;refine D_sole 5 J J (N_call 5 Tryz.call76 (c_l3AheadS (x++[_]) rest _ _ _ hv2 (Sts_le hle hrest) (by (try simp only [List.length_append, List.length_singleton, List.length_nil]); omega)) rfl rfl rfl rfl rfl rfl rfl rfl rfl rfl ?_)
     rintro v' G' hv' hext
     replace hv' := hv' hext.le
     obtain ⟨A', c', rfl, _⟩ := id hv'
     refine Da J J ?_;refine Ns 8 J J J J J J J J J ?_;refine DD ?_;refine Va J J ?_;exact RK (wKeys 3) (Res.c1 Tk Tryz.results68 J J) ⟨_, _, J, J, Tds_upd (PH.le.trans hle hext.le) _ hw ht (by simpa [goesL, Wld.reg, Prc.get, Stm.kind, Stm.a, Stm.body, Stm.els, h] using hv')⟩ (Wvp [_, _, _] kg spg J ‹_› J J J J J J J J J) J (Wsub 15 J J J J J J J J J J J J J J J J (Bs 3 J J J J (Bs 3 J J J J (Bs 3 J J J J .nil)))) (hext1.trans hext)
    ·refine S_condp J (fun h2 => ?_) (fun h2 => ?_) <;> refine Va J J ?_
     ·obtain rfl : kk = 6 := by
       rcases hk with rfl | rfl
       ·rfl
       ·simp [h2] at h
      refine Ds J J J ?_;refine Da J J ?_;refine D_sole 5 J J (N_call 5 Tryz.call76 (c_l3AheadS x rest _ _ _ hx (Sts_le (PH.le.refl _) hrest) (by (try simp only [List.length_append, List.length_singleton, List.length_nil]); omega)) rfl rfl rfl rfl rfl rfl rfl rfl rfl rfl ?_)
      rintro v' G' hv' hext
      replace hv' := hv' hext.le
      obtain ⟨A', c', rfl, _⟩ := id hv'
      refine Da J J ?_;refine Ns 8 J J J J J J J J J ?_;refine DD ?_;refine Va J J ?_;exact RK (wKeys 3) (Res.c1 Tk Tryz.results68 J J) ⟨_, _, J, J, Tds_upd (PH.le.trans (PH.le.refl _) hext.le) _ hw ht (by simpa [goesL, Wld.reg, Prc.get, Stm.kind, Stm.a, Stm.body, Stm.els, h2] using hv')⟩ (Wvp [_, _, _] kg spg J ‹_› J J J J J J J J J) J (Wsub 15 J J J J J J J J J J J J J J J J (Bs 3 J J J J (Bs 3 J J J J (Bs 3 J J J J .nil)))) hext
     ·replace h2 := Classical.not_not.1 h2
      refine S_condp J (fun h3 => ?_) (fun h3 => ?_) <;> refine Va J J ?_
      ·subst h3
       refine Ds J J J ?_;refine Da J J ?_;refine D_sole 5 J J (N_call 5 Tryz.call76 (c_l3AheadS y rest _ _ _ hy (Sts_le (PH.le.refl _) hrest) (by (try simp only [List.length_append, List.length_singleton, List.length_nil]); omega)) rfl rfl rfl rfl rfl rfl rfl rfl rfl rfl ?_)
       rintro v' G' hv' hext
       replace hv' := hv' hext.le
       obtain ⟨A', c', rfl, _⟩ := id hv'
       refine Da J J ?_;refine Ns 8 J J J J J J J J J ?_;refine DD ?_;refine Va J J ?_;exact RK (wKeys 3) (Res.c1 Tk Tryz.results68 J J) ⟨_, _, J, J, Tds_upd (PH.le.trans (PH.le.refl _) hext.le) _ hw ht (by simpa [goesL, Wld.reg, Prc.get, Stm.kind, Stm.a, Stm.body, Stm.els, h2] using hv')⟩ (Wvp [_, _, _] kg spg J ‹_› J J J J J J J J J) J (Wsub 15 J J J J J J J J J J J J J J J J (Bs 3 J J J J (Bs 3 J J J J (Bs 3 J J J J .nil)))) hext
      ·refine Ds J J J ?_
       refine Da J J ?_;refine D_sole 5 J J (N_call 5 Tryz.call76 (c_l3AheadS [] rest _ _ _ (Sx_Sr (n:=0) (xs:=[]) ⟨_,_,J,by omega,by omega,by simp [maxLen],J,(.inl J)⟩ J J) (Sts_le (PH.le.refl _) hrest) (by (try simp only [List.length_append, List.length_singleton, List.length_nil]); omega)) rfl rfl rfl rfl rfl rfl rfl rfl rfl rfl ?_)
       rintro v' G' hv' hext
       replace hv' := hv' hext.le
       obtain ⟨A', c', rfl, _⟩ := id hv'
       refine Da J J ?_;refine Ns 8 J J J J J J J J J ?_;refine DD ?_;refine Va J J ?_;exact RK (wKeys 3) (Res.c1 Tk Tryz.results68 J J) ⟨_, _, J, J, Tds_upd (PH.le.trans (PH.le.refl _) hext.le) _ hw ht (by simpa [goesL, Wld.reg, Prc.get, Stm.kind, Stm.a, Stm.body, Stm.els, h2, h3] using hv')⟩ (Wvp [_, _, _] kg spg J ‹_› J J J J J J J J J) J (Wsub 15 J J J J J J J J J J J J J J J J (Bs 3 J J J J (Bs 3 J J J J (Bs 3 J J J J .nil)))) hext
end
section
attribute [local irreducible] X Pure Mod
theorem c_l3Signal (W : Wld) (cs : List Value) (ts : List Value) (G : PH) (h1 : 1 ≤ W.procs.length) (h3 : W.procs.length ≤ 3) (ht : Tds G W.procs ts) (hf0 : ∀ f ∈ W.q0, 0 ≤ f ∧ f < W.procs.length) (hf1 : ∀ f ∈ W.q1, 0 ≤ f ∧ f < W.procs.length) (a : Int) (ha : is2 a) :
  Mod Tryz.prog 77 [.agg cs.toArray, .int .i64 a] G (worldV cs W ts) (VPost (W.signal a)) := by
 refine Mod.intro Tryz.func77 Tryz.ntmps77 J J fun w S => ?_;obtain ⟨ps, x0, x1, x2, m0, m1, q0, q1, sd⟩ := W
 replace hf0 : ∀ f ∈ q0, 0 ≤ f ∧ f < ps.length := hf0
 replace hf1 : ∀ f ∈ q1, 0 ≤ f ∧ f < ps.length := hf1
 rcases shape h1 h3 ht with ⟨⟨a0, a1, a2, td0, mo0, on0, ro0⟩, A0, k0, rfl, rfl, s0⟩ | ⟨⟨a0, a1, a2, td0, mo0, on0, ro0⟩, A0, k0, ⟨b0, b1, b2, td1, mo1, on1, ro1⟩, A1, k1, rfl, rfl, s0, s1⟩ | ⟨⟨a0, a1, a2, td0, mo0, on0, ro0⟩, A0, k0, ⟨b0, b1, b2, td1, mo1, on1, ro1⟩, A1, k1, ⟨d0, d1, d2, td2, mo2, on2, ro2⟩, A2, k2, rfl, rfl, s0, s1, s2⟩
 ·rcases ha with rfl | rfl
  ·rcases hQ : q0 with _ | ⟨f, r⟩
   ·subst hQ
    refine OvV 1 0 J J J J fun bp bc br bs bg kp sp asd ksd aq0 kq0 aq1 kq1 kc spc kr spr ks sps kg spg hbg hmk hce => ?_; subst hce; obtain ⟨g0, rfl⟩ := len1 hbg; clear hbg; refine NM J J ?_; dsimp only [wEnts, wCels, procCs, regEs, WX.of, vi]
    refine Va J J ?_;refine S_box J J J J J fun b2 => ?_;refine Va J J ?_;refine AZ ZT_ok J J J J fun b4 => ?_;refine Va J J ?_;refine RT J J ?_;refine Va J J ?_;exact RK (wKeys 1) (Res.c1 Tk Tryz.results77 J J) ⟨_, _, J, J, signal_tds (W := ⟨_, _, _, _, _, _, _, _, _⟩) _ ht⟩ (Wvp [_] kg spg J ‹_› J J J J J J J J J) J (Wsub 5 J J J J J J J J J J J J J J J J (Bs 3 J J J J .nil)) XR
   ·subst hQ
    have hf := hf0 f (List.mem_cons_self ..)
    refine OvV 1 0 J J J J fun bp bc br bs bg kp sp asd ksd aq0 kq0 aq1 kq1 kc spc kr spr ks sps kg spg hbg hmk hce => ?_; subst hce; obtain ⟨g0, rfl⟩ := len1 hbg; clear hbg; refine NM J J ?_; dsimp only [wEnts, wCels, procCs, regEs, WX.of, vi]
    refine Va J J ?_;refine S_box J J J J J fun b2 => ?_;refine Va J J ?_;refine AZ ZT_ok J J J J fun b4 => ?_;refine Va J J ?_
    refine RF J (by simp <;> omega) ?_
    refine Va J J ?_;refine S_capO 1005 J fun hnc0 _ _ => ?_;refine S_someO 1005 J (by simp at hnc0; omega) fun gq offq hAq => ?_
    subst hAq
    obtain rfl : f = 0 := by simp at hf; omega
    refine S_index Tk J J J J J J (by omega) (by simp) ?_;refine S_valV J J J (V_loadR (o := 0) Tk 1005 J J J J J) ?_;refine Va J J ?_;refine Ds J J J ?_;refine Da J J ?_;refine Nt 8 J J J J J J fun back => ?_;refine S_tailO Tk 1005 J J J J J J (fun _ => J) fun A' => ?_;refine back _ _ _ _ (by kernel_rfl) ?_; clear back
    refine Da J J ?_;refine Ns 10 J J J J J J J J J ?_;refine DD ?_;refine Va J J ?_;exact RK (wKeys 1) (Res.c1 Tk Tryz.results77 J J) ⟨_, _, J, J, signal_tds (W := ⟨_, _, _, _, _, _, _, _, _⟩) _ ht⟩ (Wvp [_] kg spg J ‹_› J J J J J J J J J) J (Wsub 5 J J J J J J J J J J J J J J J J (Bs 3 J J J J .nil)) XR
  ·rcases hQ : q1 with _ | ⟨f, r⟩
   ·subst hQ
    refine OvV 1 0 J J J J fun bp bc br bs bg kp sp asd ksd aq0 kq0 aq1 kq1 kc spc kr spr ks sps kg spg hbg hmk hce => ?_; subst hce; obtain ⟨g0, rfl⟩ := len1 hbg; clear hbg; refine NM J J ?_; dsimp only [wEnts, wCels, procCs, regEs, WX.of, vi]
    refine Va J J ?_;refine S_box J J J J J fun b2 => ?_;refine Va J J ?_;refine AZ ZT_ok J J J J fun b4 => ?_;refine Va J J ?_;refine RT J J ?_;refine Va J J ?_;exact RK (wKeys 1) (Res.c1 Tk Tryz.results77 J J) ⟨_, _, J, J, signal_tds (W := ⟨_, _, _, _, _, _, _, _, _⟩) _ ht⟩ (Wvp [_] kg spg J ‹_› J J J J J J J J J) J (Wsub 5 J J J J J J J J J J J J J J J J (Bs 3 J J J J .nil)) XR
   ·subst hQ
    have hf := hf1 f (List.mem_cons_self ..)
    refine OvV 1 0 J J J J fun bp bc br bs bg kp sp asd ksd aq0 kq0 aq1 kq1 kc spc kr spr ks sps kg spg hbg hmk hce => ?_; subst hce; obtain ⟨g0, rfl⟩ := len1 hbg; clear hbg; refine NM J J ?_; dsimp only [wEnts, wCels, procCs, regEs, WX.of, vi]
    refine Va J J ?_;refine S_box J J J J J fun b2 => ?_;refine Va J J ?_;refine AZ ZT_ok J J J J fun b4 => ?_;refine Va J J ?_
    refine RF J (by simp <;> omega) ?_
    refine Va J J ?_;refine S_capO 1006 J fun hnc0 _ _ => ?_;refine S_someO 1006 J (by simp at hnc0; omega) fun gq offq hAq => ?_
    subst hAq
    obtain rfl : f = 0 := by simp at hf; omega
    refine S_index Tk J J J J J J (by omega) (by simp) ?_;refine S_valV J J J (V_loadR (o := 0) Tk 1006 J J J J J) ?_;refine Va J J ?_;refine Ds J J J ?_;refine Da J J ?_;refine Nt 8 J J J J J J fun back => ?_;refine S_tailO Tk 1006 J J J J J J (fun _ => J) fun A' => ?_;refine back _ _ _ _ (by kernel_rfl) ?_; clear back
    refine Da J J ?_;refine Ns 10 J J J J J J J J J ?_;refine DD ?_;refine Va J J ?_;exact RK (wKeys 1) (Res.c1 Tk Tryz.results77 J J) ⟨_, _, J, J, signal_tds (W := ⟨_, _, _, _, _, _, _, _, _⟩) _ ht⟩ (Wvp [_] kg spg J ‹_› J J J J J J J J J) J (Wsub 5 J J J J J J J J J J J J J J J J (Bs 3 J J J J .nil)) XR
 ·rcases ha with rfl | rfl
  ·rcases hQ : q0 with _ | ⟨f, r⟩
   ·subst hQ
    refine OvV 1 0 J J J J fun bp bc br bs bg kp sp asd ksd aq0 kq0 aq1 kq1 kc spc kr spr ks sps kg spg hbg hmk hce => ?_; subst hce; obtain ⟨g0, g1, rfl⟩ := len2 hbg; clear hbg; refine NM J J ?_; dsimp only [wEnts, wCels, procCs, regEs, WX.of, vi]
    refine Va J J ?_;refine S_box J J J J J fun b2 => ?_;refine Va J J ?_;refine AZ ZT_ok J J J J fun b4 => ?_;refine Va J J ?_;refine RT J J ?_;refine Va J J ?_;exact RK (wKeys 2) (Res.c1 Tk Tryz.results77 J J) ⟨_, _, J, J, signal_tds (W := ⟨_, _, _, _, _, _, _, _, _⟩) _ ht⟩ (Wvp [_, _] kg spg J ‹_› J J J J J J J J J) J (Wsub 10 J J J J J J J J J J J J J J J J (Bs 3 J J J J (Bs 3 J J J J .nil))) XR
   ·subst hQ
    have hf := hf0 f (List.mem_cons_self ..)
    refine OvV 1 0 J J J J fun bp bc br bs bg kp sp asd ksd aq0 kq0 aq1 kq1 kc spc kr spr ks sps kg spg hbg hmk hce => ?_; subst hce; obtain ⟨g0, g1, rfl⟩ := len2 hbg; clear hbg; refine NM J J ?_; dsimp only [wEnts, wCels, procCs, regEs, WX.of, vi]
    refine Va J J ?_;refine S_box J J J J J fun b2 => ?_;refine Va J J ?_;refine AZ ZT_ok J J J J fun b4 => ?_;refine Va J J ?_
    refine RF J (by simp <;> omega) ?_
    refine Va J J ?_;refine S_capO 1005 J fun hnc0 _ _ => ?_;refine S_someO 1005 J (by simp at hnc0; omega) fun gq offq hAq => ?_
    subst hAq
    rcases (by simp at hf; omega : f = 0 ∨ f = 1) with rfl | rfl
    ·refine S_index Tk J J J J J J (by omega) (by simp) ?_
     refine S_valV J J J (V_loadR (o := 0) Tk 1005 J J J J J) ?_;refine Va J J ?_;refine Ds J J J ?_;refine Da J J ?_;refine Nt 8 J J J J J J fun back => ?_;refine S_tailO Tk 1005 J J J J J J (fun _ => J) fun A' => ?_;refine back _ _ _ _ (by kernel_rfl) ?_; clear back
     refine Da J J ?_;refine Ns 10 J J J J J J J J J ?_;refine DD ?_;refine Va J J ?_;exact RK (wKeys 2) (Res.c1 Tk Tryz.results77 J J) ⟨_, _, J, J, signal_tds (W := ⟨_, _, _, _, _, _, _, _, _⟩) _ ht⟩ (Wvp [_, _] kg spg J ‹_› J J J J J J J J J) J (Wsub 10 J J J J J J J J J J J J J J J J (Bs 3 J J J J (Bs 3 J J J J .nil))) XR
    ·refine S_index Tk J J J J J J (by omega) (by simp) ?_
     refine S_valV J J J (V_loadR (o := 0) Tk 1005 J J J J J) ?_;refine Va J J ?_;refine Ds J J J ?_;refine Da J J ?_;refine Nt 8 J J J J J J fun back => ?_;refine S_tailO Tk 1005 J J J J J J (fun _ => J) fun A' => ?_;refine back _ _ _ _ (by kernel_rfl) ?_; clear back
     refine Da J J ?_;refine Ns 10 J J J J J J J J J ?_;refine DD ?_;refine Va J J ?_;exact RK (wKeys 2) (Res.c1 Tk Tryz.results77 J J) ⟨_, _, J, J, signal_tds (W := ⟨_, _, _, _, _, _, _, _, _⟩) _ ht⟩ (Wvp [_, _] kg spg J ‹_› J J J J J J J J J) J (Wsub 10 J J J J J J J J J J J J J J J J (Bs 3 J J J J (Bs 3 J J J J .nil))) XR
  ·rcases hQ : q1 with _ | ⟨f, r⟩
   ·subst hQ
    refine OvV 1 0 J J J J fun bp bc br bs bg kp sp asd ksd aq0 kq0 aq1 kq1 kc spc kr spr ks sps kg spg hbg hmk hce => ?_; subst hce; obtain ⟨g0, g1, rfl⟩ := len2 hbg; clear hbg; refine NM J J ?_; dsimp only [wEnts, wCels, procCs, regEs, WX.of, vi]
    refine Va J J ?_;refine S_box J J J J J fun b2 => ?_;refine Va J J ?_;refine AZ ZT_ok J J J J fun b4 => ?_;refine Va J J ?_;refine RT J J ?_;refine Va J J ?_;exact RK (wKeys 2) (Res.c1 Tk Tryz.results77 J J) ⟨_, _, J, J, signal_tds (W := ⟨_, _, _, _, _, _, _, _, _⟩) _ ht⟩ (Wvp [_, _] kg spg J ‹_› J J J J J J J J J) J (Wsub 10 J J J J J J J J J J J J J J J J (Bs 3 J J J J (Bs 3 J J J J .nil))) XR
   ·subst hQ
    have hf := hf1 f (List.mem_cons_self ..)
    refine OvV 1 0 J J J J fun bp bc br bs bg kp sp asd ksd aq0 kq0 aq1 kq1 kc spc kr spr ks sps kg spg hbg hmk hce => ?_; subst hce; obtain ⟨g0, g1, rfl⟩ := len2 hbg; clear hbg; refine NM J J ?_; dsimp only [wEnts, wCels, procCs, regEs, WX.of, vi]
    refine Va J J ?_;refine S_box J J J J J fun b2 => ?_;refine Va J J ?_;refine AZ ZT_ok J J J J fun b4 => ?_;refine Va J J ?_
    refine RF J (by simp <;> omega) ?_
    refine Va J J ?_;refine S_capO 1006 J fun hnc0 _ _ => ?_;refine S_someO 1006 J (by simp at hnc0; omega) fun gq offq hAq => ?_
    subst hAq
    rcases (by simp at hf; omega : f = 0 ∨ f = 1) with rfl | rfl
    ·refine S_index Tk J J J J J J (by omega) (by simp) ?_
     refine S_valV J J J (V_loadR (o := 0) Tk 1006 J J J J J) ?_;refine Va J J ?_;refine Ds J J J ?_;refine Da J J ?_;refine Nt 8 J J J J J J fun back => ?_;refine S_tailO Tk 1006 J J J J J J (fun _ => J) fun A' => ?_;refine back _ _ _ _ (by kernel_rfl) ?_; clear back
     refine Da J J ?_;refine Ns 10 J J J J J J J J J ?_;refine DD ?_;refine Va J J ?_;exact RK (wKeys 2) (Res.c1 Tk Tryz.results77 J J) ⟨_, _, J, J, signal_tds (W := ⟨_, _, _, _, _, _, _, _, _⟩) _ ht⟩ (Wvp [_, _] kg spg J ‹_› J J J J J J J J J) J (Wsub 10 J J J J J J J J J J J J J J J J (Bs 3 J J J J (Bs 3 J J J J .nil))) XR
    ·refine S_index Tk J J J J J J (by omega) (by simp) ?_
     refine S_valV J J J (V_loadR (o := 0) Tk 1006 J J J J J) ?_;refine Va J J ?_;refine Ds J J J ?_;refine Da J J ?_;refine Nt 8 J J J J J J fun back => ?_;refine S_tailO Tk 1006 J J J J J J (fun _ => J) fun A' => ?_;refine back _ _ _ _ (by kernel_rfl) ?_; clear back
     refine Da J J ?_;refine Ns 10 J J J J J J J J J ?_;refine DD ?_;refine Va J J ?_;exact RK (wKeys 2) (Res.c1 Tk Tryz.results77 J J) ⟨_, _, J, J, signal_tds (W := ⟨_, _, _, _, _, _, _, _, _⟩) _ ht⟩ (Wvp [_, _] kg spg J ‹_› J J J J J J J J J) J (Wsub 10 J J J J J J J J J J J J J J J J (Bs 3 J J J J (Bs 3 J J J J .nil))) XR
 ·rcases ha with rfl | rfl
  ·rcases hQ : q0 with _ | ⟨f, r⟩
   ·subst hQ
    refine OvV 1 0 J J J J fun bp bc br bs bg kp sp asd ksd aq0 kq0 aq1 kq1 kc spc kr spr ks sps kg spg hbg hmk hce => ?_; subst hce; obtain ⟨g0, g1, g2, rfl⟩ := len3 hbg; clear hbg; refine NM J J ?_; dsimp only [wEnts, wCels, procCs, regEs, WX.of, vi]
    refine Va J J ?_;refine S_box J J J J J fun b2 => ?_;refine Va J J ?_;refine AZ ZT_ok J J J J fun b4 => ?_;refine Va J J ?_;refine RT J J ?_;refine Va J J ?_;exact RK (wKeys 3) (Res.c1 Tk Tryz.results77 J J) ⟨_, _, J, J, signal_tds (W := ⟨_, _, _, _, _, _, _, _, _⟩) _ ht⟩ (Wvp [_, _, _] kg spg J ‹_› J J J J J J J J J) J (Wsub 15 J J J J J J J J J J J J J J J J (Bs 3 J J J J (Bs 3 J J J J (Bs 3 J J J J .nil)))) XR
   ·subst hQ
    have hf := hf0 f (List.mem_cons_self ..)
    refine OvV 1 0 J J J J fun bp bc br bs bg kp sp asd ksd aq0 kq0 aq1 kq1 kc spc kr spr ks sps kg spg hbg hmk hce => ?_; subst hce; obtain ⟨g0, g1, g2, rfl⟩ := len3 hbg; clear hbg; refine NM J J ?_; dsimp only [wEnts, wCels, procCs, regEs, WX.of, vi]
    refine Va J J ?_;refine S_box J J J J J fun b2 => ?_;refine Va J J ?_;refine AZ ZT_ok J J J J fun b4 => ?_;refine Va J J ?_
    refine RF J (by simp <;> omega) ?_
    refine Va J J ?_;refine S_capO 1005 J fun hnc0 _ _ => ?_;refine S_someO 1005 J (by simp at hnc0; omega) fun gq offq hAq => ?_
    subst hAq
    rcases (by simp at hf; omega : f = 0 ∨ f = 1 ∨ f = 2) with rfl | rfl | rfl
    ·refine S_index Tk J J J J J J (by omega) (by simp) ?_
     refine S_valV J J J (V_loadR (o := 0) Tk 1005 J J J J J) ?_;refine Va J J ?_;refine Ds J J J ?_;refine Da J J ?_;refine Nt 8 J J J J J J fun back => ?_;refine S_tailO Tk 1005 J J J J J J (fun _ => J) fun A' => ?_;refine back _ _ _ _ (by kernel_rfl) ?_; clear back
     refine Da J J ?_;refine Ns 10 J J J J J J J J J ?_;refine DD ?_;refine Va J J ?_;exact RK (wKeys 3) (Res.c1 Tk Tryz.results77 J J) ⟨_, _, J, J, signal_tds (W := ⟨_, _, _, _, _, _, _, _, _⟩) _ ht⟩ (Wvp [_, _, _] kg spg J ‹_› J J J J J J J J J) J (Wsub 15 J J J J J J J J J J J J J J J J (Bs 3 J J J J (Bs 3 J J J J (Bs 3 J J J J .nil)))) XR
    ·refine S_index Tk J J J J J J (by omega) (by simp) ?_
     refine S_valV J J J (V_loadR (o := 0) Tk 1005 J J J J J) ?_;refine Va J J ?_;refine Ds J J J ?_;refine Da J J ?_;refine Nt 8 J J J J J J fun back => ?_;refine S_tailO Tk 1005 J J J J J J (fun _ => J) fun A' => ?_;refine back _ _ _ _ (by kernel_rfl) ?_; clear back
     refine Da J J ?_;refine Ns 10 J J J J J J J J J ?_;refine DD ?_;refine Va J J ?_;exact RK (wKeys 3) (Res.c1 Tk Tryz.results77 J J) ⟨_, _, J, J, signal_tds (W := ⟨_, _, _, _, _, _, _, _, _⟩) _ ht⟩ (Wvp [_, _, _] kg spg J ‹_› J J J J J J J J J) J (Wsub 15 J J J J J J J J J J J J J J J J (Bs 3 J J J J (Bs 3 J J J J (Bs 3 J J J J .nil)))) XR
    ·refine S_index Tk J J J J J J (by omega) (by simp) ?_
     refine S_valV J J J (V_loadR (o := 0) Tk 1005 J J J J J) ?_;refine Va J J ?_;refine Ds J J J ?_;refine Da J J ?_;refine Nt 8 J J J J J J fun back => ?_;refine S_tailO Tk 1005 J J J J J J (fun _ => J) fun A' => ?_;refine back _ _ _ _ (by kernel_rfl) ?_; clear back
     refine Da J J ?_;refine Ns 10 J J J J J J J J J ?_;refine DD ?_;refine Va J J ?_;exact RK (wKeys 3) (Res.c1 Tk Tryz.results77 J J) ⟨_, _, J, J, signal_tds (W := ⟨_, _, _, _, _, _, _, _, _⟩) _ ht⟩ (Wvp [_, _, _] kg spg J ‹_› J J J J J J J J J) J (Wsub 15 J J J J J J J J J J J J J J J J (Bs 3 J J J J (Bs 3 J J J J (Bs 3 J J J J .nil)))) XR
  ·rcases hQ : q1 with _ | ⟨f, r⟩
   ·subst hQ
    refine OvV 1 0 J J J J fun bp bc br bs bg kp sp asd ksd aq0 kq0 aq1 kq1 kc spc kr spr ks sps kg spg hbg hmk hce => ?_; subst hce; obtain ⟨g0, g1, g2, rfl⟩ := len3 hbg; clear hbg; refine NM J J ?_; dsimp only [wEnts, wCels, procCs, regEs, WX.of, vi]
    refine Va J J ?_;refine S_box J J J J J fun b2 => ?_;refine Va J J ?_;refine AZ ZT_ok J J J J fun b4 => ?_;refine Va J J ?_;refine RT J J ?_;refine Va J J ?_;exact RK (wKeys 3) (Res.c1 Tk Tryz.results77 J J) ⟨_, _, J, J, signal_tds (W := ⟨_, _, _, _, _, _, _, _, _⟩) _ ht⟩ (Wvp [_, _, _] kg spg J ‹_› J J J J J J J J J) J (Wsub 15 J J J J J J J J J J J J J J J J (Bs 3 J J J J (Bs 3 J J J J (Bs 3 J J J J .nil)))) XR
   ·subst hQ
    have hf := hf1 f (List.mem_cons_self ..)
    refine OvV 1 0 J J J J fun bp bc br bs bg kp sp asd ksd aq0 kq0 aq1 kq1 kc spc kr spr ks sps kg spg hbg hmk hce => ?_; subst hce; obtain ⟨g0, g1, g2, rfl⟩ := len3 hbg; clear hbg; refine NM J J ?_; dsimp only [wEnts, wCels, procCs, regEs, WX.of, vi]
    refine Va J J ?_;refine S_box J J J J J fun b2 => ?_;refine Va J J ?_;refine AZ ZT_ok J J J J fun b4 => ?_;refine Va J J ?_
    refine RF J (by simp <;> omega) ?_
    refine Va J J ?_;refine S_capO 1006 J fun hnc0 _ _ => ?_;refine S_someO 1006 J (by simp at hnc0; omega) fun gq offq hAq => ?_
    subst hAq
    rcases (by simp at hf; omega : f = 0 ∨ f = 1 ∨ f = 2) with rfl | rfl | rfl
    ·refine S_index Tk J J J J J J (by omega) (by simp) ?_
     refine S_valV J J J (V_loadR (o := 0) Tk 1006 J J J J J) ?_;refine Va J J ?_;refine Ds J J J ?_;refine Da J J ?_;refine Nt 8 J J J J J J fun back => ?_;refine S_tailO Tk 1006 J J J J J J (fun _ => J) fun A' => ?_;refine back _ _ _ _ (by kernel_rfl) ?_; clear back
     refine Da J J ?_;refine Ns 10 J J J J J J J J J ?_;refine DD ?_;refine Va J J ?_;exact RK (wKeys 3) (Res.c1 Tk Tryz.results77 J J) ⟨_, _, J, J, signal_tds (W := ⟨_, _, _, _, _, _, _, _, _⟩) _ ht⟩ (Wvp [_, _, _] kg spg J ‹_› J J J J J J J J J) J (Wsub 15 J J J J J J J J J J J J J J J J (Bs 3 J J J J (Bs 3 J J J J (Bs 3 J J J J .nil)))) XR
    ·refine S_index Tk J J J J J J (by omega) (by simp) ?_
     refine S_valV J J J (V_loadR (o := 0) Tk 1006 J J J J J) ?_;refine Va J J ?_;refine Ds J J J ?_;refine Da J J ?_;refine Nt 8 J J J J J J fun back => ?_;refine S_tailO Tk 1006 J J J J J J (fun _ => J) fun A' => ?_;refine back _ _ _ _ (by kernel_rfl) ?_; clear back
     refine Da J J ?_;refine Ns 10 J J J J J J J J J ?_;refine DD ?_;refine Va J J ?_;exact RK (wKeys 3) (Res.c1 Tk Tryz.results77 J J) ⟨_, _, J, J, signal_tds (W := ⟨_, _, _, _, _, _, _, _, _⟩) _ ht⟩ (Wvp [_, _, _] kg spg J ‹_› J J J J J J J J J) J (Wsub 15 J J J J J J J J J J J J J J J J (Bs 3 J J J J (Bs 3 J J J J (Bs 3 J J J J .nil)))) XR
    ·refine S_index Tk J J J J J J (by omega) (by simp) ?_
     refine S_valV J J J (V_loadR (o := 0) Tk 1006 J J J J J) ?_;refine Va J J ?_;refine Ds J J J ?_;refine Da J J ?_;refine Nt 8 J J J J J J fun back => ?_;refine S_tailO Tk 1006 J J J J J J (fun _ => J) fun A' => ?_;refine back _ _ _ _ (by kernel_rfl) ?_; clear back
     refine Da J J ?_;refine Ns 10 J J J J J J J J J ?_;refine DD ?_;refine Va J J ?_;exact RK (wKeys 3) (Res.c1 Tk Tryz.results77 J J) ⟨_, _, J, J, signal_tds (W := ⟨_, _, _, _, _, _, _, _, _⟩) _ ht⟩ (Wvp [_, _, _] kg spg J ‹_› J J J J J J J J J) J (Wsub 15 J J J J J J J J J J J J J J J J (Bs 3 J J J J (Bs 3 J J J J (Bs 3 J J J J .nil)))) XR
end
section
attribute [local irreducible] X Pure Mod
def Wld.leaf (W : Wld) (who : Nat) (s : Stm) : Wld :=
 if s.kind = 1 then W.upd who (·.set s.a s.n)
 else if s.kind = 2 then W.upd who (fun p => p.set s.a (numDo s.n (p.get s.a) (p.get s.b)).1)
 else if s.kind = 3 then W.upd who (·.set s.a (W.cell s.b))
 else if s.kind = 4 then W.setCell s.a (W.reg who s.b)
 else if s.kind = 5 then { W with said := W.said ++ [((who : Int), W.reg who s.a)] }
 else W
theorem leaf_tds {G : PH} {W : Wld} {ts : List Value} (who : Nat) (s : Stm) (h : Tds G W.procs ts) : Tds G (W.leaf who s).procs ts := by
 unfold Wld.leaf
 split
 ·exact upd_tds (fun p => Prc.set_todo _ _ _) h
 split
 ·exact upd_tds (fun p => Prc.set_todo _ _ _) h
 split
 ·exact upd_tds (fun p => Prc.set_todo _ _ _) h
 split
 ·rw [setCell_procs]; exact h
 split
 ·exact h
 ·exact h
theorem c_l3Leaf (W : Wld) (who : Nat) (cs : List Value) (ts : List Value) (G : PH) (h1 : 1 ≤ W.procs.length) (h3 : W.procs.length ≤ 3) (ht : Tds G W.procs ts) (hw : who < W.procs.length) (hsd : W.said.length ≤ 1000000) (k a bb n : Int) (x y : List Stm) (A1 : Option Addr) (n1 c1 : Nat) (A2 : Option Addr) (n2 c2 : Nat) (q1' : k = 1 ∨ k = 5 → is3 a) (q2' : k = 2 ∨ k = 3 ∨ k = 4 → is3 a ∧ is3 bb) :
  Mod Tryz.prog 70 [.agg cs.toArray, .int .i64 (who : Nat), .agg #[.int .i64 k, .int .i64 a, .int .i64 bb, .int .i64 n, .slice A1 n1 c1, .slice A2 n2 c2]] G (worldV cs W ts) (VPost (W.leaf who (.mk k a bb n x y))) := by
 refine Mod.intro Tryz.func70 Tryz.ntmps70 J J fun w S => ?_;obtain ⟨ps, x0, x1, x2, m0, m1, q0, q1, sd⟩ := W
 replace hsd : sd.length ≤ 1000000 := hsd
 rcases shape h1 h3 ht with ⟨⟨a0, a1, a2, td0, mo0, on0, ro0⟩, A0, k0, rfl, rfl, s0⟩ | ⟨⟨a0, a1, a2, td0, mo0, on0, ro0⟩, A0, k0, ⟨b0, b1, b2, td1, mo1, on1, ro1⟩, A1, k1, rfl, rfl, s0, s1⟩ | ⟨⟨a0, a1, a2, td0, mo0, on0, ro0⟩, A0, k0, ⟨b0, b1, b2, td1, mo1, on1, ro1⟩, A1, k1, ⟨d0, d1, d2, td2, mo2, on2, ro2⟩, A2, k2, rfl, rfl, s0, s1, s2⟩
 ·obtain rfl : who = 0 := by simpa using hw
  refine OvV 1 0 J J J J fun bp bc br bs bg kp sp asd ksd aq0 kq0 aq1 kq1 kc spc kr spr ks sps kg spg hbg hmk hce => ?_; subst hce; obtain ⟨g0, rfl⟩ := len1 hbg; clear hbg; refine NM J J ?_; dsimp only [wEnts, wCels, procCs, regEs, WX.of, vi]
  refine Va J J ?_;refine S_box J J J J J fun b3 => ?_;refine Va J J ?_;refine S_box J J J J J fun b5 => ?_;refine Va J J ?_;refine AZ ZT_ok J J J J fun b6 => ?_;refine Va J J ?_
  by_cases e1 : k = 1
  ·subst e1
   rcases q1' (.inl rfl) with rfl | rfl | rfl <;>
   ·refine RT J J ?_
    refine Va J J ?_;exact RK (wKeys 1) (Res.c1 Tk Tryz.results70 J J) ⟨_, _, J, J, leaf_tds (W := ⟨_, _, _, _, _, _, _, _, _⟩) _ (.mk _ _ _ _ x y) ht⟩ (Wvp [_] kg spg J ‹_› J J J J J J J J J) J (Wsub 5 J J J J J J J J J J J J J J J J (Bs 3 J J J J .nil)) XR
  refine RF J (by simp [e1]) ?_;refine Va J J ?_
  by_cases e2 : k = 2
  ·subst e2
   obtain ⟨ha, hb⟩ := q2' (.inl rfl)
   rcases ha with rfl | rfl | rfl <;> rcases hb with rfl | rfl | rfl <;>
   ·refine RT J J ?_
    refine Va J J ?_;refine Ds J J J ?_;refine Da J J ?_;refine D_sole 12 J J (N_call 12 Tryz.call78 (c_NumDo _ _ _ _) J J J J J J J J J J ?_)
    rintro v G' ⟨rfl, rfl⟩ _
    refine Da J J ?_;refine DD ?_;refine Va J J ?_;exact RK (wKeys 1) (Res.c1 Tk Tryz.results70 J J) ⟨_, _, J, J, leaf_tds (W := ⟨_, _, _, _, _, _, _, _, _⟩) _ (.mk _ _ _ _ x y) ht⟩ (Wvp [_] kg spg J ‹_› J J J J J J J J J) J (Wsub 5 J J J J J J J J J J J J J J J J (Bs 3 J J J J .nil)) XR
  refine RF J (by simp [e2]) ?_;refine Va J J ?_
  by_cases e3 : k = 3
  ·subst e3
   obtain ⟨ha, hb⟩ := q2' (.inr (.inl rfl))
   rcases ha with rfl | rfl | rfl <;> rcases hb with rfl | rfl | rfl <;>
   ·refine RT J J ?_
    refine Va J J ?_;refine Ds J J J ?_;refine Da J J ?_;refine Ns 10 J J J J J J J J J ?_;refine DD ?_;refine Va J J ?_;exact RK (wKeys 1) (Res.c1 Tk Tryz.results70 J J) ⟨_, _, J, J, leaf_tds (W := ⟨_, _, _, _, _, _, _, _, _⟩) _ (.mk _ _ _ _ x y) ht⟩ (Wvp [_] kg spg J ‹_› J J J J J J J J J) J (Wsub 5 J J J J J J J J J J J J J J J J (Bs 3 J J J J .nil)) XR
  refine RF J (by simp [e3]) ?_;refine Va J J ?_
  by_cases e4 : k = 4
  ·subst e4
   obtain ⟨ha, hb⟩ := q2' (.inr (.inr rfl))
   rcases ha with rfl | rfl | rfl <;> rcases hb with rfl | rfl | rfl <;>
   ·refine RT J J ?_
    refine Va J J ?_;refine Ds J J J ?_;refine Da J J ?_;refine Ns 10 J J J J J J J J J ?_;refine DD ?_;refine Va J J ?_;exact RK (wKeys 1) (Res.c1 Tk Tryz.results70 J J) ⟨_, _, J, J, leaf_tds (W := ⟨_, _, _, _, _, _, _, _, _⟩) _ (.mk _ _ _ _ x y) ht⟩ (Wvp [_] kg spg J ‹_› J J J J J J J J J) J (Wsub 5 J J J J J J J J J J J J J J J J (Bs 3 J J J J .nil)) XR
  refine RF J (by simp [e4]) ?_;refine Va J J ?_
  by_cases e5 : k = 5
  ·subst e5
   rcases q1' (.inr rfl) with rfl | rfl | rfl <;>
   ·refine RT J J ?_
    refine Va J J ?_;refine Ds J J J ?_;refine Da J J ?_;refine Nt 9 J J J J J J fun back => ?_;refine S_slice Tk ZT_ok J J J J (by decide) (by decide) J J J J fun b84 => ?_;refine back _ _ _ _ (by kernel_rfl) ?_; clear back
    refine Da J J ?_;refine Nt 10 J J J J J J fun back => ?_;refine S_appSaid Tk 1004 84 J J J J J J J J J J J J J (fun _ _ => J) hsd fun A' c' => ?_;refine back _ _ _ _ (by kernel_rfl) ?_; clear back
    refine Da J J ?_;refine Ns 12 J J J J J J J J J ?_;refine DD ?_;refine Va J J ?_;exact RK (wKeys 1) (Res.c1 Tk Tryz.results70 J J) ⟨_, _, J, J, leaf_tds (W := ⟨_, _, _, _, _, _, _, _, _⟩) _ (.mk _ _ _ _ x y) ht⟩ (Wvp [_] kg spg J ‹_› J J J J J J J J J) J (Wsub 5 J J J J J J J J J J J J J J J J (Bs 3 J J J J .nil)) XR
  refine RF J (by simp [e5]) ?_;refine Va J J ?_
  have hlf : ∀ W : Wld, ∀ w : Nat, W.leaf w (.mk k a bb n x y) = W := fun W w => by simp [Wld.leaf, Stm.kind, e1, e2, e3, e4, e5]
  rw [hlf]
  exact RK (wKeys 1) (Res.c1 Tk Tryz.results70 J J) ⟨_, _, J, J, ht⟩ (Wvp [_] kg spg J ‹_› J J J J J J J J J) J (Wsub 5 J J J J J J J J J J J J J J J J (Bs 3 J J J J .nil)) XR
 ·rcases (by simp at hw; omega : who = 0 ∨ who = 1) with rfl | rfl
  ·refine OvV 1 0 J J J J fun bp bc br bs bg kp sp asd ksd aq0 kq0 aq1 kq1 kc spc kr spr ks sps kg spg hbg hmk hce => ?_; subst hce; obtain ⟨g0, g1, rfl⟩ := len2 hbg; clear hbg; refine NM J J ?_; dsimp only [wEnts, wCels, procCs, regEs, WX.of, vi]
   refine Va J J ?_;refine S_box J J J J J fun b3 => ?_;refine Va J J ?_;refine S_box J J J J J fun b5 => ?_;refine Va J J ?_;refine AZ ZT_ok J J J J fun b6 => ?_;refine Va J J ?_
   by_cases e1 : k = 1
   ·subst e1
    rcases q1' (.inl rfl) with rfl | rfl | rfl <;>
    ·refine RT J J ?_
     refine Va J J ?_;exact RK (wKeys 2) (Res.c1 Tk Tryz.results70 J J) ⟨_, _, J, J, leaf_tds (W := ⟨_, _, _, _, _, _, _, _, _⟩) _ (.mk _ _ _ _ x y) ht⟩ (Wvp [_, _] kg spg J ‹_› J J J J J J J J J) J (Wsub 10 J J J J J J J J J J J J J J J J (Bs 3 J J J J (Bs 3 J J J J .nil))) XR
   refine RF J (by simp [e1]) ?_;refine Va J J ?_
   by_cases e2 : k = 2
   ·subst e2
    obtain ⟨ha, hb⟩ := q2' (.inl rfl)
    rcases ha with rfl | rfl | rfl <;> rcases hb with rfl | rfl | rfl <;>
    ·refine RT J J ?_
     refine Va J J ?_;refine Ds J J J ?_;refine Da J J ?_;refine D_sole 12 J J (N_call 12 Tryz.call78 (c_NumDo _ _ _ _) J J J J J J J J J J ?_)
     rintro v G' ⟨rfl, rfl⟩ _
     refine Da J J ?_;refine DD ?_;refine Va J J ?_;exact RK (wKeys 2) (Res.c1 Tk Tryz.results70 J J) ⟨_, _, J, J, leaf_tds (W := ⟨_, _, _, _, _, _, _, _, _⟩) _ (.mk _ _ _ _ x y) ht⟩ (Wvp [_, _] kg spg J ‹_› J J J J J J J J J) J (Wsub 10 J J J J J J J J J J J J J J J J (Bs 3 J J J J (Bs 3 J J J J .nil))) XR
   refine RF J (by simp [e2]) ?_;refine Va J J ?_
   by_cases e3 : k = 3
   ·subst e3
    obtain ⟨ha, hb⟩ := q2' (.inr (.inl rfl))
    rcases ha with rfl | rfl | rfl <;> rcases hb with rfl | rfl | rfl <;>
    ·refine RT J J ?_
     refine Va J J ?_;refine Ds J J J ?_;refine Da J J ?_;refine Ns 10 J J J J J J J J J ?_;refine DD ?_;refine Va J J ?_;exact RK (wKeys 2) (Res.c1 Tk Tryz.results70 J J) ⟨_, _, J, J, leaf_tds (W := ⟨_, _, _, _, _, _, _, _, _⟩) _ (.mk _ _ _ _ x y) ht⟩ (Wvp [_, _] kg spg J ‹_› J J J J J J J J J) J (Wsub 10 J J J J J J J J J J J J J J J J (Bs 3 J J J J (Bs 3 J J J J .nil))) XR
   refine RF J (by simp [e3]) ?_;refine Va J J ?_
   by_cases e4 : k = 4
   ·subst e4
    obtain ⟨ha, hb⟩ := q2' (.inr (.inr rfl))
    rcases ha with rfl | rfl | rfl <;> rcases hb with rfl | rfl | rfl <;>
    ·refine RT J J ?_
     refine Va J J ?_;refine Ds J J J ?_;refine Da J J ?_;refine Ns 10 J J J J J J J J J ?_;refine DD ?_;refine Va J J ?_;exact RK (wKeys 2) (Res.c1 Tk Tryz.results70 J J) ⟨_, _, J, J, leaf_tds (W := ⟨_, _, _, _, _, _, _, _, _⟩) _ (.mk _ _ _ _ x y) ht⟩ (Wvp [_, _] kg spg J ‹_› J J J J J J J J J) J (Wsub 10 J J J J J J J J J J J J J J J J (Bs 3 J J J J (Bs 3 J J J J .nil))) XR
   refine RF J (by simp [e4]) ?_;refine Va J J ?_
   by_cases e5 : k = 5
   ·subst e5
    rcases q1' (.inr rfl) with rfl | rfl | rfl <;>
    ·refine RT J J ?_
     refine Va J J ?_;refine Ds J J J ?_;refine Da J J ?_;refine Nt 9 J J J J J J fun back => ?_;refine S_slice Tk ZT_ok J J J J (by decide) (by decide) J J J J fun b84 => ?_;refine back _ _ _ _ (by kernel_rfl) ?_; clear back
     refine Da J J ?_;refine Nt 10 J J J J J J fun back => ?_;refine S_appSaid Tk 1004 84 J J J J J J J J J J J J J (fun _ _ => J) hsd fun A' c' => ?_;refine back _ _ _ _ (by kernel_rfl) ?_; clear back
     refine Da J J ?_;refine Ns 12 J J J J J J J J J ?_;refine DD ?_;refine Va J J ?_;exact RK (wKeys 2) (Res.c1 Tk Tryz.results70 J J) ⟨_, _, J, J, leaf_tds (W := ⟨_, _, _, _, _, _, _, _, _⟩) _ (.mk _ _ _ _ x y) ht⟩ (Wvp [_, _] kg spg J ‹_› J J J J J J J J J) J (Wsub 10 J J J J J J J J J J J J J J J J (Bs 3 J J J J (Bs 3 J J J J .nil))) XR
   refine RF J (by simp [e5]) ?_;refine Va J J ?_
   have hlf : ∀ W : Wld, ∀ w : Nat, W.leaf w (.mk k a bb n x y) = W := fun W w => by simp [Wld.leaf, Stm.kind, e1, e2, e3, e4, e5]
   rw [hlf]
   exact RK (wKeys 2) (Res.c1 Tk Tryz.results70 J J) ⟨_, _, J, J, ht⟩ (Wvp [_, _] kg spg J ‹_› J J J J J J J J J) J (Wsub 10 J J J J J J J J J J J J J J J J (Bs 3 J J J J (Bs 3 J J J J .nil))) XR
  ·refine OvV 1 0 J J J J fun bp bc br bs bg kp sp asd ksd aq0 kq0 aq1 kq1 kc spc kr spr ks sps kg spg hbg hmk hce => ?_; subst hce; obtain ⟨g0, g1, rfl⟩ := len2 hbg; clear hbg; refine NM J J ?_; dsimp only [wEnts, wCels, procCs, regEs, WX.of, vi]
   refine Va J J ?_;refine S_box J J J J J fun b3 => ?_;refine Va J J ?_;refine S_box J J J J J fun b5 => ?_;refine Va J J ?_;refine AZ ZT_ok J J J J fun b6 => ?_;refine Va J J ?_
   by_cases e1 : k = 1
   ·subst e1
    rcases q1' (.inl rfl) with rfl | rfl | rfl <;>
    ·refine RT J J ?_
     refine Va J J ?_;exact RK (wKeys 2) (Res.c1 Tk Tryz.results70 J J) ⟨_, _, J, J, leaf_tds (W := ⟨_, _, _, _, _, _, _, _, _⟩) _ (.mk _ _ _ _ x y) ht⟩ (Wvp [_, _] kg spg J ‹_› J J J J J J J J J) J (Wsub 10 J J J J J J J J J J J J J J J J (Bs 3 J J J J (Bs 3 J J J J .nil))) XR
   refine RF J (by simp [e1]) ?_;refine Va J J ?_
   by_cases e2 : k = 2
   ·subst e2
    obtain ⟨ha, hb⟩ := q2' (.inl rfl)
    rcases ha with rfl | rfl | rfl <;> rcases hb with rfl | rfl | rfl <;>
    ·refine RT J J ?_
     refine Va J J ?_;refine Ds J J J ?_;refine Da J J ?_;refine D_sole 12 J J (N_call 12 Tryz.call78 (c_NumDo _ _ _ _) J J J J J J J J J J ?_)
     rintro v G' ⟨rfl, rfl⟩ _
     refine Da J J ?_;refine DD ?_;refine Va J J ?_;exact RK (wKeys 2) (Res.c1 Tk Tryz.results70 J J) ⟨_, _, J, J, leaf_tds (W := ⟨_, _, _, _, _, _, _, _, _⟩) _ (.mk _ _ _ _ x y) ht⟩ (Wvp [_, _] kg spg J ‹_› J J J J J J J J J) J (Wsub 10 J J J J J J J J J J J J J J J J (Bs 3 J J J J (Bs 3 J J J J .nil))) XR
   refine RF J (by simp [e2]) ?_;refine Va J J ?_
   by_cases e3 : k = 3
   ·subst e3
    obtain ⟨ha, hb⟩ := q2' (.inr (.inl rfl))
    rcases ha with rfl | rfl | rfl <;> rcases hb with rfl | rfl | rfl <;>
    ·refine RT J J ?_
     refine Va J J ?_;refine Ds J J J ?_;refine Da J J ?_;refine Ns 10 J J J J J J J J J ?_;refine DD ?_;refine Va J J ?_;exact RK (wKeys 2) (Res.c1 Tk Tryz.results70 J J) ⟨_, _, J, J, leaf_tds (W := ⟨_, _, _, _, _, _, _, _, _⟩) _ (.mk _ _ _ _ x y) ht⟩ (Wvp [_, _] kg spg J ‹_› J J J J J J J J J) J (Wsub 10 J J J J J J J J J J J J J J J J (Bs 3 J J J J (Bs 3 J J J J .nil))) XR
   refine RF J (by simp [e3]) ?_;refine Va J J ?_
   by_cases e4 : k = 4
   ·subst e4
    obtain ⟨ha, hb⟩ := q2' (.inr (.inr rfl))
    rcases ha with rfl | rfl | rfl <;> rcases hb with rfl | rfl | rfl <;>
    ·refine RT J J ?_
     refine Va J J ?_;refine Ds J J J ?_;refine Da J J ?_;refine Ns 10 J J J J J J J J J ?_;refine DD ?_;refine Va J J ?_;exact RK (wKeys 2) (Res.c1 Tk Tryz.results70 J J) ⟨_, _, J, J, leaf_tds (W := ⟨_, _, _, _, _, _, _, _, _⟩) _ (.mk _ _ _ _ x y) ht⟩ (Wvp [_, _] kg spg J ‹_› J J J J J J J J J) J (Wsub 10 J J J J J J J J J J J J J J J J (Bs 3 J J J J (Bs 3 J J J J .nil))) XR
   refine RF J (by simp [e4]) ?_;refine Va J J ?_
   by_cases e5 : k = 5
   ·subst e5
    rcases q1' (.inr rfl) with rfl | rfl | rfl <;>
    ·refine RT J J ?_
     refine Va J J ?_;refine Ds J J J ?_;refine Da J J ?_;refine Nt 9 J J J J J J fun back => ?_;refine S_slice Tk ZT_ok J J J J (by decide) (by decide) J J J J fun b84 => ?_;refine back _ _ _ _ (by kernel_rfl) ?_; clear back
     refine Da J J ?_;refine Nt 10 J J J J J J fun back => ?_;refine S_appSaid Tk 1004 84 J J J J J J J J J J J J J (fun _ _ => J) hsd fun A' c' => ?_;refine back _ _ _ _ (by kernel_rfl) ?_; clear back
     refine Da J J ?_;refine Ns 12 J J J J J J J J J ?_;refine DD ?_;refine Va J J ?_;exact RK (wKeys 2) (Res.c1 Tk Tryz.results70 J J) ⟨_, _, J, J, leaf_tds (W := ⟨_, _, _, _, _, _, _, _, _⟩) _ (.mk _ _ _ _ x y) ht⟩ (Wvp [_, _] kg spg J ‹_› J J J J J J J J J) J (Wsub 10 J J J J J J J J J J J J J J J J (Bs 3 J J J J (Bs 3 J J J J .nil))) XR
   refine RF J (by simp [e5]) ?_;refine Va J J ?_
   have hlf : ∀ W : Wld, ∀ w : Nat, W.leaf w (.mk k a bb n x y) = W := fun W w => by simp [Wld.leaf, Stm.kind, e1, e2, e3, e4, e5]
   rw [hlf]
   exact RK (wKeys 2) (Res.c1 Tk Tryz.results70 J J) ⟨_, _, J, J, ht⟩ (Wvp [_, _] kg spg J ‹_› J J J J J J J J J) J (Wsub 10 J J J J J J J J J J J J J J J J (Bs 3 J J J J (Bs 3 J J J J .nil))) XR
 ·rcases (by simp at hw; omega : who = 0 ∨ who = 1 ∨ who = 2) with rfl | rfl | rfl
  ·refine OvV 1 0 J J J J fun bp bc br bs bg kp sp asd ksd aq0 kq0 aq1 kq1 kc spc kr spr ks sps kg spg hbg hmk hce => ?_; subst hce; obtain ⟨g0, g1, g2, rfl⟩ := len3 hbg; clear hbg; refine NM J J ?_; dsimp only [wEnts, wCels, procCs, regEs, WX.of, vi]
   refine Va J J ?_;refine S_box J J J J J fun b3 => ?_;refine Va J J ?_;refine S_box J J J J J fun b5 => ?_;refine Va J J ?_;refine AZ ZT_ok J J J J fun b6 => ?_;refine Va J J ?_
   by_cases e1 : k = 1
   ·subst e1
    rcases q1' (.inl rfl) with rfl | rfl | rfl <;>
    ·refine RT J J ?_
     refine Va J J ?_;exact RK (wKeys 3) (Res.c1 Tk Tryz.results70 J J) ⟨_, _, J, J, leaf_tds (W := ⟨_, _, _, _, _, _, _, _, _⟩) _ (.mk _ _ _ _ x y) ht⟩ (Wvp [_, _, _] kg spg J ‹_› J J J J J J J J J) J (Wsub 15 J J J J J J J J J J J J J J J J (Bs 3 J J J J (Bs 3 J J J J (Bs 3 J J J J .nil)))) XR
   refine RF J (by simp [e1]) ?_;refine Va J J ?_
   by_cases e2 : k = 2
   ·subst e2
    obtain ⟨ha, hb⟩ := q2' (.inl rfl)
    rcases ha with rfl | rfl | rfl <;> rcases hb with rfl | rfl | rfl <;>
    ·refine RT J J ?_
     refine Va J J ?_;refine Ds J J J ?_;refine Da J J ?_;refine D_sole 12 J J (N_call 12 Tryz.call78 (c_NumDo _ _ _ _) J J J J J J J J J J ?_)
     rintro v G' ⟨rfl, rfl⟩ _
     refine Da J J ?_;refine DD ?_;refine Va J J ?_;exact RK (wKeys 3) (Res.c1 Tk Tryz.results70 J J) ⟨_, _, J, J, leaf_tds (W := ⟨_, _, _, _, _, _, _, _, _⟩) _ (.mk _ _ _ _ x y) ht⟩ (Wvp [_, _, _] kg spg J ‹_› J J J J J J J J J) J (Wsub 15 J J J J J J J J J J J J J J J J (Bs 3 J J J J (Bs 3 J J J J (Bs 3 J J J J .nil)))) XR
   refine RF J (by simp [e2]) ?_;refine Va J J ?_
   by_cases e3 : k = 3
   ·subst e3
    obtain ⟨ha, hb⟩ := q2' (.inr (.inl rfl))
    rcases ha with rfl | rfl | rfl <;> rcases hb with rfl | rfl | rfl <;>
    ·refine RT J J ?_
     refine Va J J ?_;refine Ds J J J ?_;refine Da J J ?_;refine Ns 10 J J J J J J J J J ?_;refine DD ?_;refine Va J J ?_;exact RK (wKeys 3) (Res.c1 Tk Tryz.results70 J J) ⟨_, _, J, J, leaf_tds (W := ⟨_, _, _, _, _, _, _, _, _⟩) _ (.mk _ _ _ _ x y) ht⟩ (Wvp [_, _, _] kg spg J ‹_› J J J J J J J J J) J (Wsub 15 J J J J J J J J J J J J J J J J (Bs 3 J J J J (Bs 3 J J J J (Bs 3 J J J J .nil)))) XR
   refine RF J (by simp [e3]) ?_;refine Va J J ?_
   by_cases e4 : k = 4
   ·subst e4
    obtain ⟨ha, hb⟩ := q2' (.inr (.inr rfl))
    rcases ha with rfl | rfl | rfl <;> rcases hb with rfl | rfl | rfl <;>
    ·refine RT J J ?_
     refine Va J J ?_;refine Ds J J J ?_;refine Da J J ?_;refine Ns 10 J J J J J J J J J ?_;refine DD ?_;refine Va J J ?_;exact RK (wKeys 3) (Res.c1 Tk Tryz.results70 J J) ⟨_, _, J, J, leaf_tds (W := ⟨_, _, _, _, _, _, _, _, _⟩) _ (.mk _ _ _ _ x y) ht⟩ (Wvp [_, _, _] kg spg J ‹_› J J J J J J J J J) J (Wsub 15 J J J J J J J J J J J J J J J J (Bs 3 J J J J (Bs 3 J J J J (Bs 3 J J J J .nil)))) XR
   refine RF J (by simp [e4]) ?_;refine Va J J ?_
   by_cases e5 : k = 5
   ·subst e5
    rcases q1' (.inr rfl) with rfl | rfl | rfl <;>
    ·refine RT J J ?_
     refine Va J J ?_;refine Ds J J J ?_;refine Da J J ?_;refine Nt 9 J J J J J J fun back => ?_;refine S_slice Tk ZT_ok J J J J (by decide) (by decide) J J J J fun b84 => ?_;refine back _ _ _ _ (by kernel_rfl) ?_; clear back
     refine Da J J ?_;refine Nt 10 J J J J J J fun back => ?_;refine S_appSaid Tk 1004 84 J J J J J J J J J J J J J (fun _ _ => J) hsd fun A' c' => ?_;refine back _ _ _ _ (by kernel_rfl) ?_; clear back
     refine Da J J ?_;refine Ns 12 J J J J J J J J J ?_;refine DD ?_;refine Va J J ?_;exact RK (wKeys 3) (Res.c1 Tk Tryz.results70 J J) ⟨_, _, J, J, leaf_tds (W := ⟨_, _, _, _, _, _, _, _, _⟩) _ (.mk _ _ _ _ x y) ht⟩ (Wvp [_, _, _] kg spg J ‹_› J J J J J J J J J) J (Wsub 15 J J J J J J J J J J J J J J J J (Bs 3 J J J J (Bs 3 J J J J (Bs 3 J J J J .nil)))) XR
   refine RF J (by simp [e5]) ?_;refine Va J J ?_
   have hlf : ∀ W : Wld, ∀ w : Nat, W.leaf w (.mk k a bb n x y) = W := fun W w => by simp [Wld.leaf, Stm.kind, e1, e2, e3, e4, e5]
   rw [hlf]
   exact RK (wKeys 3) (Res.c1 Tk Tryz.results70 J J) ⟨_, _, J, J, ht⟩ (Wvp [_, _, _] kg spg J ‹_› J J J J J J J J J) J (Wsub 15 J J J J J J J J J J J J J J J J (Bs 3 J J J J (Bs 3 J J J J (Bs 3 J J J J .nil)))) XR
  ·refine OvV 1 0 J J J J fun bp bc br bs bg kp sp asd ksd aq0 kq0 aq1 kq1 kc spc kr spr ks sps kg spg hbg hmk hce => ?_; subst hce; obtain ⟨g0, g1, g2, rfl⟩ := len3 hbg; clear hbg; refine NM J J ?_; dsimp only [wEnts, wCels, procCs, regEs, WX.of, vi]
   refine Va J J ?_;refine S_box J J J J J fun b3 => ?_;refine Va J J ?_;refine S_box J J J J J fun b5 => ?_;refine Va J J ?_;refine AZ ZT_ok J J J J fun b6 => ?_;refine Va J J ?_
   by_cases e1 : k = 1
   ·subst e1
    rcases q1' (.inl rfl) with rfl | rfl | rfl <;>
    ·refine RT J J ?_
     refine Va J J ?_;exact RK (wKeys 3) (Res.c1 Tk Tryz.results70 J J) ⟨_, _, J, J, leaf_tds (W := ⟨_, _, _, _, _, _, _, _, _⟩) _ (.mk _ _ _ _ x y) ht⟩ (Wvp [_, _, _] kg spg J ‹_› J J J J J J J J J) J (Wsub 15 J J J J J J J J J J J J J J J J (Bs 3 J J J J (Bs 3 J J J J (Bs 3 J J J J .nil)))) XR
   refine RF J (by simp [e1]) ?_;refine Va J J ?_
   by_cases e2 : k = 2
   ·subst e2
    obtain ⟨ha, hb⟩ := q2' (.inl rfl)
    rcases ha with rfl | rfl | rfl <;> rcases hb with rfl | rfl | rfl <;>
    ·refine RT J J ?_
     refine Va J J ?_;refine Ds J J J ?_;refine Da J J ?_;refine D_sole 12 J J (N_call 12 Tryz.call78 (c_NumDo _ _ _ _) J J J J J J J J J J ?_)
     rintro v G' ⟨rfl, rfl⟩ _
     refine Da J J ?_;refine DD ?_;refine Va J J ?_;exact RK (wKeys 3) (Res.c1 Tk Tryz.results70 J J) ⟨_, _, J, J, leaf_tds (W := ⟨_, _, _, _, _, _, _, _, _⟩) _ (.mk _ _ _ _ x y) ht⟩ (Wvp [_, _, _] kg spg J ‹_› J J J J J J J J J) J (Wsub 15 J J J J J J J J J J J J J J J J (Bs 3 J J J J (Bs 3 J J J J (Bs 3 J J J J .nil)))) XR
   refine RF J (by simp [e2]) ?_;refine Va J J ?_
   by_cases e3 : k = 3
   ·subst e3
    obtain ⟨ha, hb⟩ := q2' (.inr (.inl rfl))
    rcases ha with rfl | rfl | rfl <;> rcases hb with rfl | rfl | rfl <;>
    ·refine RT J J ?_
     refine Va J J ?_;refine Ds J J J ?_;refine Da J J ?_;refine Ns 10 J J J J J J J J J ?_;refine DD ?_;refine Va J J ?_;exact RK (wKeys 3) (Res.c1 Tk Tryz.results70 J J) ⟨_, _, J, J, leaf_tds (W := ⟨_, _, _, _, _, _, _, _, _⟩) _ (.mk _ _ _ _ x y) ht⟩ (Wvp [_, _, _] kg spg J ‹_› J J J J J J J J J) J (Wsub 15 J J J J J J J J J J J J J J J J (Bs 3 J J J J (Bs 3 J J J J (Bs 3 J J J J .nil)))) XR
   refine RF J (by simp [e3]) ?_;refine Va J J ?_
   by_cases e4 : k = 4
   ·subst e4
    obtain ⟨ha, hb⟩ := q2' (.inr (.inr rfl))
    rcases ha with rfl | rfl | rfl <;> rcases hb with rfl | rfl | rfl <;>
    ·refine RT J J ?_
     refine Va J J ?_;refine Ds J J J ?_;refine Da J J ?_;refine Ns 10 J J J J J J J J J ?_;refine DD ?_;refine Va J J ?_;exact RK (wKeys 3) (Res.c1 Tk Tryz.results70 J J) ⟨_, _, J, J, leaf_tds (W := ⟨_, _, _, _, _, _, _, _, _⟩) _ (.mk _ _ _ _ x y) ht⟩ (Wvp [_, _, _] kg spg J ‹_› J J J J J J J J J) J (Wsub 15 J J J J J J J J J J J J J J J J (Bs 3 J J J J (Bs 3 J J J J (Bs 3 J J J J .nil)))) XR
   refine RF J (by simp [e4]) ?_;refine Va J J ?_
   by_cases e5 : k = 5
   ·subst e5
    rcases q1' (.inr rfl) with rfl | rfl | rfl <;>
    ·refine RT J J ?_
     refine Va J J ?_;refine Ds J J J ?_;refine Da J J ?_;refine Nt 9 J J J J J J fun back => ?_;refine S_slice Tk ZT_ok J J J J (by decide) (by decide) J J J J fun b84 => ?_;refine back _ _ _ _ (by kernel_rfl) ?_; clear back
     refine Da J J ?_;refine Nt 10 J J J J J J fun back => ?_;refine S_appSaid Tk 1004 84 J J J J J J J J J J J J J (fun _ _ => J) hsd fun A' c' => ?_;refine back _ _ _ _ (by kernel_rfl) ?_; clear back
     refine Da J J ?_;refine Ns 12 J J J J J J J J J ?_;refine DD ?_;refine Va J J ?_;exact RK (wKeys 3) (Res.c1 Tk Tryz.results70 J J) ⟨_, _, J, J, leaf_tds (W := ⟨_, _, _, _, _, _, _, _, _⟩) _ (.mk _ _ _ _ x y) ht⟩ (Wvp [_, _, _] kg spg J ‹_› J J J J J J J J J) J (Wsub 15 J J J J J J J J J J J J J J J J (Bs 3 J J J J (Bs 3 J J J J (Bs 3 J J J J .nil)))) XR
   refine RF J (by simp [e5]) ?_;refine Va J J ?_
   have hlf : ∀ W : Wld, ∀ w : Nat, W.leaf w (.mk k a bb n x y) = W := fun W w => by simp [Wld.leaf, Stm.kind, e1, e2, e3, e4, e5]
   rw [hlf]
   exact RK (wKeys 3) (Res.c1 Tk Tryz.results70 J J) ⟨_, _, J, J, ht⟩ (Wvp [_, _, _] kg spg J ‹_› J J J J J J J J J) J (Wsub 15 J J J J J J J J J J J J J J J J (Bs 3 J J J J (Bs 3 J J J J (Bs 3 J J J J .nil)))) XR
  ·refine OvV 1 0 J J J J fun bp bc br bs bg kp sp asd ksd aq0 kq0 aq1 kq1 kc spc kr spr ks sps kg spg hbg hmk hce => ?_; subst hce; obtain ⟨g0, g1, g2, rfl⟩ := len3 hbg; clear hbg; refine NM J J ?_; dsimp only [wEnts, wCels, procCs, regEs, WX.of, vi]
   refine Va J J ?_;refine S_box J J J J J fun b3 => ?_;refine Va J J ?_;refine S_box J J J J J fun b5 => ?_;refine Va J J ?_;refine AZ ZT_ok J J J J fun b6 => ?_;refine Va J J ?_
   by_cases e1 : k = 1
   ·subst e1
    rcases q1' (.inl rfl) with rfl | rfl | rfl <;>
    ·refine RT J J ?_
     refine Va J J ?_;exact RK (wKeys 3) (Res.c1 Tk Tryz.results70 J J) ⟨_, _, J, J, leaf_tds (W := ⟨_, _, _, _, _, _, _, _, _⟩) _ (.mk _ _ _ _ x y) ht⟩ (Wvp [_, _, _] kg spg J ‹_› J J J J J J J J J) J (Wsub 15 J J J J J J J J J J J J J J J J (Bs 3 J J J J (Bs 3 J J J J (Bs 3 J J J J .nil)))) XR
   refine RF J (by simp [e1]) ?_;refine Va J J ?_
   by_cases e2 : k = 2
   ·subst e2
    obtain ⟨ha, hb⟩ := q2' (.inl rfl)
    rcases ha with rfl | rfl | rfl <;> rcases hb with rfl | rfl | rfl <;>
    ·refine RT J J ?_
     refine Va J J ?_;refine Ds J J J ?_;refine Da J J ?_;refine D_sole 12 J J (N_call 12 Tryz.call78 (c_NumDo _ _ _ _) J J J J J J J J J J ?_)
     rintro v G' ⟨rfl, rfl⟩ _
     refine Da J J ?_;refine DD ?_;refine Va J J ?_;exact RK (wKeys 3) (Res.c1 Tk Tryz.results70 J J) ⟨_, _, J, J, leaf_tds (W := ⟨_, _, _, _, _, _, _, _, _⟩) _ (.mk _ _ _ _ x y) ht⟩ (Wvp [_, _, _] kg spg J ‹_› J J J J J J J J J) J (Wsub 15 J J J J J J J J J J J J J J J J (Bs 3 J J J J (Bs 3 J J J J (Bs 3 J J J J .nil)))) XR
   refine RF J (by simp [e2]) ?_;refine Va J J ?_
   by_cases e3 : k = 3
   ·subst e3
    obtain ⟨ha, hb⟩ := q2' (.inr (.inl rfl))
    rcases ha with rfl | rfl | rfl <;> rcases hb with rfl | rfl | rfl <;>
    ·refine RT J J ?_
     refine Va J J ?_;refine Ds J J J ?_;refine Da J J ?_;refine Ns 10 J J J J J J J J J ?_;refine DD ?_;refine Va J J ?_;exact RK (wKeys 3) (Res.c1 Tk Tryz.results70 J J) ⟨_, _, J, J, leaf_tds (W := ⟨_, _, _, _, _, _, _, _, _⟩) _ (.mk _ _ _ _ x y) ht⟩ (Wvp [_, _, _] kg spg J ‹_› J J J J J J J J J) J (Wsub 15 J J J J J J J J J J J J J J J J (Bs 3 J J J J (Bs 3 J J J J (Bs 3 J J J J .nil)))) XR
   refine RF J (by simp [e3]) ?_;refine Va J J ?_
   by_cases e4 : k = 4
   ·subst e4
    obtain ⟨ha, hb⟩ := q2' (.inr (.inr rfl))
    rcases ha with rfl | rfl | rfl <;> rcases hb with rfl | rfl | rfl <;>
    ·refine RT J J ?_
     refine Va J J ?_;refine Ds J J J ?_;refine Da J J ?_;refine Ns 10 J J J J J J J J J ?_;refine DD ?_;refine Va J J ?_;exact RK (wKeys 3) (Res.c1 Tk Tryz.results70 J J) ⟨_, _, J, J, leaf_tds (W := ⟨_, _, _, _, _, _, _, _, _⟩) _ (.mk _ _ _ _ x y) ht⟩ (Wvp [_, _, _] kg spg J ‹_› J J J J J J J J J) J (Wsub 15 J J J J J J J J J J J J J J J J (Bs 3 J J J J (Bs 3 J J J J (Bs 3 J J J J .nil)))) XR
   refine RF J (by simp [e4]) ?_;refine Va J J ?_
   by_cases e5 : k = 5
   ·subst e5
    rcases q1' (.inr rfl) with rfl | rfl | rfl <;>
    ·refine RT J J ?_
     refine Va J J ?_;refine Ds J J J ?_;refine Da J J ?_;refine Nt 9 J J J J J J fun back => ?_;refine S_slice Tk ZT_ok J J J J (by decide) (by decide) J J J J fun b84 => ?_;refine back _ _ _ _ (by kernel_rfl) ?_; clear back
     refine Da J J ?_;refine Nt 10 J J J J J J fun back => ?_;refine S_appSaid Tk 1004 84 J J J J J J J J J J J J J (fun _ _ => J) hsd fun A' c' => ?_;refine back _ _ _ _ (by kernel_rfl) ?_; clear back
     refine Da J J ?_;refine Ns 12 J J J J J J J J J ?_;refine DD ?_;refine Va J J ?_;exact RK (wKeys 3) (Res.c1 Tk Tryz.results70 J J) ⟨_, _, J, J, leaf_tds (W := ⟨_, _, _, _, _, _, _, _, _⟩) _ (.mk _ _ _ _ x y) ht⟩ (Wvp [_, _, _] kg spg J ‹_› J J J J J J J J J) J (Wsub 15 J J J J J J J J J J J J J J J J (Bs 3 J J J J (Bs 3 J J J J (Bs 3 J J J J .nil)))) XR
   refine RF J (by simp [e5]) ?_;refine Va J J ?_
   have hlf : ∀ W : Wld, ∀ w : Nat, W.leaf w (.mk k a bb n x y) = W := fun W w => by simp [Wld.leaf, Stm.kind, e1, e2, e3, e4, e5]
   rw [hlf]
   exact RK (wKeys 3) (Res.c1 Tk Tryz.results70 J J) ⟨_, _, J, J, ht⟩ (Wvp [_, _, _] kg spg J ‹_› J J J J J J J J J) J (Wsub 15 J J J J J J J J J J J J J J J J (Bs 3 J J J J (Bs 3 J J J J (Bs 3 J J J J .nil)))) XR
end
end Go.Proofs.YtcbdilccmjpnbaaGreat
