/- Walks of the program's functions, one after the other (part 8); without conditions of their own. -/
import Derived.Test.YtcbdilccmjpnbaaGreatDoorWDM7
import Derived.Test.YtcbdilccmjpnbaaGreatDoorWDM2
set_option linter.unusedVariables false
set_option linter.unusedSimpArgs false
set_option maxRecDepth 100000
set_option maxHeartbeats 4000000
open Go.RowKit
namespace Go.Proofs.YtcbdilccmjpnbaaGreatDoor
section
attribute [local irreducible] X Pure Mod
theorem c_l3Ahead (v1 v2 : Value) (n1 n2 : Nat) (xs1 xs2 : List Value) (G : PH) (h1 : Sx G 6 v1 n1 xs1) (h2 : Sx G 6 v2 n2 xs2) (o1 : ∀ u ∈ xs1, u.oneCell' = true) (o2 : ∀ u ∈ xs2, u.oneCell' = true) (hsum : n1 + n2 ≤ 1000000000) :
  Pure Tryz.prog 85 [v1, v2] G fun v' G' => Sx (newp G G') 6 v' (n1 + n2) (xs1 ++ xs2) := by
 obtain ⟨A1, c1, rfl, hn1, hnc1, hcm1, hlen1, hrow1⟩ := h1
 obtain ⟨A2, c2, rfl, hn2, hnc2, hcm2, hlen2, hrow2⟩ := h2
 refine Pure.intro Tryz.func85 Tryz.ntmps85 J J fun w => ?_; refine Va J J ?_;refine S_emptyO Tk 5 J J J J fun A => ?_;refine Va J J ?_;refine S_appO Tk 5 J J J J J J J J J J J (fun _ _ => J) (src_G hlen1 hrow1) o1 (by simp only; omega) (by simp only [maxLen]; omega) (Nat.le_refl _) fun A1' c1' => ?_;refine Va J J ?_;refine S_appO Tk 5 J J J J J J J J J J J (fun _ _ => J) (src_G hlen2 hrow2) o2 (by simp only; omega) (by simp only [maxLen]; omega) (Nat.le_refl _) fun A2' c2' => ?_
 refine Va J J ?_;refine S_freezeR 5 J J (Nat.le_refl _) fun G' hext' hnc' hcm' hcl => ?_;refine S_retp (Res.t1 Tryz.results85 J J) hext' ⟨A2', c2', by simp, hsum, by simpa using hnc', hcm', by rw [List.length_append, hlen1, hlen2, Nat.add_mul], ?_⟩
 simpa using hcl
theorem ahead_Sts {G Gf : PH} {G' : PH} {L1 L2 : List Stm} {v' : Value} {xs1 xs2 : List Value} (h : Sx (newp G G') 6 v' (L1.length + L2.length) (xs1 ++ xs2)) (c1 : Cs 6 (Stm.rep Gf) L1 xs1) (c2 : Cs 6 (Stm.rep Gf) L2 xs2) (hle : (newp G G').le Gf) : Sts Gf (L1 ++ L2) v' :=
 Sx_Sr (Sx_le hle h) (by simp) (Cs_append2 c1 c2)
theorem c_l3AheadS (L1 L2 : List Stm) (v1 v2 : Value) (G : PH) (h1 : Sts G L1 v1) (h2 : Sts G L2 v2) (hsum : L1.length + L2.length ≤ 1000000000) : Pure Tryz.prog 85 [v1, v2] G fun v' G' => G.le G' → Sts G' (L1 ++ L2) v' := by
 obtain ⟨xs1, hx1, hc1⟩ := Sr_Sx (fun s cs h => Stm.rep_len h) h1
 obtain ⟨xs2, hx2, hc2⟩ := Sr_Sx (fun s cs h => Stm.rep_len h) h2
 exact (c_l3Ahead v1 v2 _ _ xs1 xs2 G hx1 hx2 (Cs_one Stm.rep_one hc1) (Cs_one Stm.rep_one hc2) hsum).mono fun v G' hle h _ => ahead_Sts h (Cs_mono (Stm.reps_le hle L1) hc1) (Cs_mono (Stm.reps_le hle L2) hc2) (newp_le _ _)
abbrev VPost (W' : Wld) : Value → PH → HP → Prop := fun v G' A' => ∃ cs' ts', v = .agg cs'.toArray ∧ A' = worldV cs' W' ts' ∧ Tds G' W'.procs ts'
def goesL (W : Wld) (who : Nat) (s : Stm) : List Stm := if W.reg who s.a = 0 then (if s.kind = 6 then s.els else []) else if s.kind = 7 then s.body ++ [s] else s.body
theorem c_l3Goes (W : Wld) (who : Nat) (cs : List Value) (ts : List Value) (G : PH) (h1 : 1 ≤ W.procs.length) (h3 : W.procs.length ≤ 3) (ht : Tds G W.procs ts) (hw : who < W.procs.length) (kk a bb n : Int) (x y rest : List Stm) (vx vy vr : Value) (hx : Sts G x vx) (hy : Sts G y vy) (hrest : Sts G rest vr) (hi : I64 kk ∧ I64 a ∧ I64 bb ∧ I64 n) (hxl : x.length ≤ 1000) (hyl : y.length ≤ 1000) (hrl : rest.length ≤ 1000000) (ha : is3 a) (hk : kk = 6 ∨ kk = 7) :
  Mod Tryz.prog 73 [.agg cs.toArray, .int .i64 (who : Nat), .agg #[.int .i64 kk, .int .i64 a, .int .i64 bb, .int .i64 n, vx, vy], vr] G (worldV cs W ts) (VPost (W.upd who (fun p => { p with todo := goesL W who (.mk kk a bb n x y) ++ rest }))) := by
 have hs1 : Stm.rep G (.mk kk a bb n x y) [.int .i64 kk, .int .i64 a, .int .i64 bb, .int .i64 n, vx, vy] := Stm.rep_iff.2 ⟨vx, vy, rfl, hi.1, hi.2.1, hi.2.2.1, hi.2.2.2, hx, hy⟩
 obtain ⟨Ax, cx, rfl, _⟩ := id hx
 obtain ⟨Ay, cy, rfl, _⟩ := id hy
 obtain ⟨Ar, cr, rfl, _⟩ := id hrest
 obtain ⟨xs, hxs, hcs⟩ := Sr_Sx (fun s cs h => Stm.rep_len h) hx
 refine Mod.intro Tryz.func73 Tryz.ntmps73 J J fun w S => ?_;obtain ⟨ps, x0, x1, x2, m0, m1, q0, q1, sd⟩ := W
 rcases shape h1 h3 ht with ⟨⟨a0, a1, a2, td0, mo0, on0, ro0⟩, A0, k0, rfl, rfl, s0⟩ | ⟨⟨a0, a1, a2, td0, mo0, on0, ro0⟩, A0, k0, ⟨b0, b1, b2, td1, mo1, on1, ro1⟩, A1, k1, rfl, rfl, s0, s1⟩ | ⟨⟨a0, a1, a2, td0, mo0, on0, ro0⟩, A0, k0, ⟨b0, b1, b2, td1, mo1, on1, ro1⟩, A1, k1, ⟨d0, d1, d2, td2, mo2, on2, ro2⟩, A2, k2, rfl, rfl, s0, s1, s2⟩
 ·obtain rfl : who = 0 := by simpa using hw
  refine OvV 1 0 J J J J fun bp bc br bs bg kp sp asd ksd aq0 kq0 aq1 kq1 kc spc kr spr ks sps kg spg hbg hmk hce => ?_; subst hce; obtain ⟨g0, rfl⟩ := len1 hbg; clear hbg; refine NM J J ?_; dsimp only [wEnts, wCels, procCs, regEs, WX.of, vi]
  refine Va J J ?_;refine S_box J J J J J fun b4 => ?_;refine Va J J ?_;refine S_box J J J J J fun b6 => ?_;refine Va J J ?_;refine AZ ZT_ok J J J J fun b8 => ?_;refine Va J J ?_
  rcases ha with rfl | rfl | rfl <;>
  ·refine Ds J J J ?_
   refine Da J J ?_;refine DD ?_;refine Va J J ?_;refine S_emptyO Tk 22 J J J J fun A22 => ?_;refine Va J J ?_
   refine S_cond J (fun h => ?_) (fun h => ?_) <;> refine Va J J ?_
   ·simp only [Bool.and_eq_true, decide_eq_true_eq] at h
    obtain ⟨h, rfl⟩ := h
    refine S_slice Tk ZT_ok J J J J (by decide) (by decide) J J J J fun b33 => ?_;refine Va J J ?_;refine S_lendB 33 J J J J fun hG hb => ?_;refine S_call Tryz.call85 (c_l3Ahead _ _ x.length 1 xs [.int .i64 7, .int .i64 _, .int .i64 bb, .int .i64 n, .slice Ax x.length cx, .slice Ay y.length cy] _ (Sx_le (le_add hG) hxs) ⟨_, _, J, by omega, by omega, by simp [maxLen], J, .inr ⟨_, J, gcells_own⟩⟩ (Cs_one Stm.rep_one hcs) one6 (by omega)) J J J ?_
    rintro v1 G3 hv1 hext3
    refine S_backB 33 [.v (.int .i64 7), .v (.int .i64 _), .v (.int .i64 bb), .v (.int .i64 n), .v (.slice Ax x.length cx), .v (.slice Ay y.length cy)] (hext3.le _ _ (PH.add_self _ _ _)) J J hb ?_
    have hle := le_del hext3.le hG
    have hv2 : Sts (G3.del b33) (x ++ [.mk 7 _ bb n x y]) v1 := ahead_Sts hv1 (Cs_mono (Stm.reps_le hle x) hcs) ⟨_, [], by simp, rfl, Stm.rep_le hle _ _ hs1, rfl⟩ newp_add_le
    obtain ⟨A1, c1, rfl, _⟩ := id hv2
    have hext1 := PH.ext.del hG hext3
    refine Va J J ?_;refine Ds J J J ?_;refine Da J J ?_;refine D_sole 5 J J (N_call 5 Tryz.call85 (c_l3AheadS (x++[_]) rest _ _ _ hv2 (Sts_le hle hrest) (by (try simp only [List.length_append, List.length_singleton, List.length_nil]); omega)) rfl rfl rfl rfl rfl rfl rfl rfl rfl rfl ?_)
    rintro v' G' hv' hext
    replace hv' := hv' hext.le
    obtain ⟨A', c', rfl, _⟩ := id hv'
    refine Da J J ?_;refine Ns 8 J J J J J J J J J ?_;refine DD ?_;refine Va J J ?_;exact RK (wKeys 1) (Res.c1 Tk Tryz.results73 J J) ⟨_, _, J, J, Tds_upd (PH.le.trans hle hext.le) _ hw ht (by simpa [goesL, Wld.reg, Prc.get, Stm.kind, Stm.a, Stm.body, Stm.els, h] using hv')⟩ (Wvp [_] kg spg J ‹_› J J J J J J J J J) J (Wsub 5 J J J J J J J J J J J J J J J J (Bs 3 J J J J .nil)) (hext1.trans hext)
   ·refine S_condp J (fun h2 => ?_) (fun h2 => ?_) <;> refine Va J J ?_
    ·obtain rfl : kk = 6 := by
      rcases hk with rfl | rfl
      ·rfl
      ·simp [h2] at h
     refine Ds J J J ?_;refine Da J J ?_;refine D_sole 5 J J (N_call 5 Tryz.call85 (c_l3AheadS x rest _ _ _ hx (Sts_le (PH.le.refl _) hrest) (by (try simp only [List.length_append, List.length_singleton, List.length_nil]); omega)) rfl rfl rfl rfl rfl rfl rfl rfl rfl rfl ?_)
     rintro v' G' hv' hext
     replace hv' := hv' hext.le
     obtain ⟨A', c', rfl, _⟩ := id hv'
     refine Da J J ?_;refine Ns 8 J J J J J J J J J ?_;refine DD ?_;refine Va J J ?_;exact RK (wKeys 1) (Res.c1 Tk Tryz.results73 J J) ⟨_, _, J, J, Tds_upd (PH.le.trans (PH.le.refl _) hext.le) _ hw ht (by simpa [goesL, Wld.reg, Prc.get, Stm.kind, Stm.a, Stm.body, Stm.els, h2] using hv')⟩ (Wvp [_] kg spg J ‹_› J J J J J J J J J) J (Wsub 5 J J J J J J J J J J J J J J J J (Bs 3 J J J J .nil)) hext
    ·replace h2 := Classical.not_not.1 h2
     refine S_condp J (fun h3 => ?_) (fun h3 => ?_) <;> refine Va J J ?_
     ·subst h3
      refine Ds J J J ?_;refine Da J J ?_;refine D_sole 5 J J (N_call 5 Tryz.call85 (c_l3AheadS y rest _ _ _ hy (Sts_le (PH.le.refl _) hrest) (by (try simp only [List.length_append, List.length_singleton, List.length_nil]); omega)) rfl rfl rfl rfl rfl rfl rfl rfl rfl rfl ?_)
      rintro v' G' hv' hext
      replace hv' := hv' hext.le
      obtain ⟨A', c', rfl, _⟩ := id hv'
      refine Da J J ?_;refine Ns 8 J J J J J J J J J ?_;refine DD ?_;refine Va J J ?_;exact RK (wKeys 1) (Res.c1 Tk Tryz.results73 J J) ⟨_, _, J, J, Tds_upd (PH.le.trans (PH.le.refl _) hext.le) _ hw ht (by simpa [goesL, Wld.reg, Prc.get, Stm.kind, Stm.a, Stm.body, Stm.els, h2] using hv')⟩ (Wvp [_] kg spg J ‹_› J J J J J J J J J) J (Wsub 5 J J J J J J J J J J J J J J J J (Bs 3 J J J J .nil)) hext
     ·refine Ds J J J ?_
      refine Da J J ?_;refine D_sole 5 J J (N_call 5 Tryz.call85 (c_l3AheadS [] rest _ _ _ (Sx_Sr (n:=0) (xs:=[]) ⟨_,_,J,by omega,by omega,by simp [maxLen],J,(.inl J)⟩ J J) (Sts_le (PH.le.refl _) hrest) (by (try simp only [List.length_append, List.length_singleton, List.length_nil]); omega)) rfl rfl rfl rfl rfl rfl rfl rfl rfl rfl ?_)
      rintro v' G' hv' hext
      replace hv' := hv' hext.le
      obtain ⟨A', c', rfl, _⟩ := id hv'
      refine Da J J ?_;refine Ns 8 J J J J J J J J J ?_;refine DD ?_;refine Va J J ?_;exact RK (wKeys 1) (Res.c1 Tk Tryz.results73 J J) ⟨_, _, J, J, Tds_upd (PH.le.trans (PH.le.refl _) hext.le) _ hw ht (by simpa [goesL, Wld.reg, Prc.get, Stm.kind, Stm.a, Stm.body, Stm.els, h2, h3] using hv')⟩ (Wvp [_] kg spg J ‹_› J J J J J J J J J) J (Wsub 5 J J J J J J J J J J J J J J J J (Bs 3 J J J J .nil)) hext
 ·rcases (by simp at hw; omega : who = 0 ∨ who = 1) with rfl | rfl
  ·refine OvV 1 0 J J J J fun bp bc br bs bg kp sp asd ksd aq0 kq0 aq1 kq1 kc spc kr spr ks sps kg spg hbg hmk hce => ?_; subst hce; obtain ⟨g0, g1, rfl⟩ := len2 hbg; clear hbg; refine NM J J ?_; dsimp only [wEnts, wCels, procCs, regEs, WX.of, vi]
   refine Va J J ?_;refine S_box J J J J J fun b4 => ?_;refine Va J J ?_;refine S_box J J J J J fun b6 => ?_;refine Va J J ?_;refine AZ ZT_ok J J J J fun b8 => ?_;refine Va J J ?_
   rcases ha with rfl | rfl | rfl <;>
   ·refine Ds J J J ?_
    refine Da J J ?_;refine DD ?_;refine Va J J ?_;refine S_emptyO Tk 22 J J J J fun A22 => ?_;refine Va J J ?_
    refine S_cond J (fun h => ?_) (fun h => ?_) <;> refine Va J J ?_
    ·simp only [Bool.and_eq_true, decide_eq_true_eq] at h
     obtain ⟨h, rfl⟩ := h
     refine S_slice Tk ZT_ok J J J J (by decide) (by decide) J J J J fun b33 => ?_;refine Va J J ?_;refine S_lendB 33 J J J J fun hG hb => ?_;refine S_call Tryz.call85 (c_l3Ahead _ _ x.length 1 xs [.int .i64 7, .int .i64 _, .int .i64 bb, .int .i64 n, .slice Ax x.length cx, .slice Ay y.length cy] _ (Sx_le (le_add hG) hxs) ⟨_, _, J, by omega, by omega, by simp [maxLen], J, .inr ⟨_, J, gcells_own⟩⟩ (Cs_one Stm.rep_one hcs) one6 (by omega)) J J J ?_
     rintro v1 G3 hv1 hext3
     refine S_backB 33 [.v (.int .i64 7), .v (.int .i64 _), .v (.int .i64 bb), .v (.int .i64 n), .v (.slice Ax x.length cx), .v (.slice Ay y.length cy)] (hext3.le _ _ (PH.add_self _ _ _)) J J hb ?_
     have hle := le_del hext3.le hG
     have hv2 : Sts (G3.del b33) (x ++ [.mk 7 _ bb n x y]) v1 := ahead_Sts hv1 (Cs_mono (Stm.reps_le hle x) hcs) ⟨_, [], by simp, rfl, Stm.rep_le hle _ _ hs1, rfl⟩ newp_add_le
     obtain ⟨A1, c1, rfl, _⟩ := id hv2
     have hext1 := PH.ext.del hG hext3
     refine Va J J ?_;refine Ds J J J ?_;refine Da J J ?_;refine D_sole 5 J J (N_call 5 Tryz.call85 (c_l3AheadS (x++[_]) rest _ _ _ hv2 (Sts_le hle hrest) (by (try simp only [List.length_append, List.length_singleton, List.length_nil]); omega)) rfl rfl rfl rfl rfl rfl rfl rfl rfl rfl ?_)
     rintro v' G' hv' hext
     replace hv' := hv' hext.le
     obtain ⟨A', c', rfl, _⟩ := id hv'
     refine Da J J ?_;refine Ns 8 J J J J J J J J J ?_;refine DD ?_;refine Va J J ?_;exact RK (wKeys 2) (Res.c1 Tk Tryz.results73 J J) ⟨_, _, J, J, Tds_upd (PH.le.trans hle hext.le) _ hw ht (by simpa [goesL, Wld.reg, Prc.get, Stm.kind, Stm.a, Stm.body, Stm.els, h] using hv')⟩ (Wvp [_, _] kg spg J ‹_› J J J J J J J J J) J (Wsub 10 J J J J J J J J J J J J J J J J (Bs 3 J J J J (Bs 3 J J J J .nil))) (hext1.trans hext)
    ·refine S_condp J (fun h2 => ?_) (fun h2 => ?_) <;> refine Va J J ?_
     ·obtain rfl : kk = 6 := by
       rcases hk with rfl | rfl
       ·rfl
       ·simp [h2] at h
      refine Ds J J J ?_;refine Da J J ?_;refine D_sole 5 J J (N_call 5 Tryz.call85 (c_l3AheadS x rest _ _ _ hx (Sts_le (PH.le.refl _) hrest) (by (try simp only [List.length_append, List.length_singleton, List.length_nil]); omega)) rfl rfl rfl rfl rfl rfl rfl rfl rfl rfl ?_)
      rintro v' G' hv' hext
      replace hv' := hv' hext.le
      obtain ⟨A', c', rfl, _⟩ := id hv'
      refine Da J J ?_;refine Ns 8 J J J J J J J J J ?_;refine DD ?_;refine Va J J ?_;exact RK (wKeys 2) (Res.c1 Tk Tryz.results73 J J) ⟨_, _, J, J, Tds_upd (PH.le.trans (PH.le.refl _) hext.le) _ hw ht (by simpa [goesL, Wld.reg, Prc.get, Stm.kind, Stm.a, Stm.body, Stm.els, h2] using hv')⟩ (Wvp [_, _] kg spg J ‹_› J J J J J J J J J) J (Wsub 10 J J J J J J J J J J J J J J J J (Bs 3 J J J J (Bs 3 J J J J .nil))) hext
     ·replace h2 := Classical.not_not.1 h2
      refine S_condp J (fun h3 => ?_) (fun h3 => ?_) <;> refine Va J J ?_
      ·subst h3
       refine Ds J J J ?_;refine Da J J ?_;refine D_sole 5 J J (N_call 5 Tryz.call85 (c_l3AheadS y rest _ _ _ hy (Sts_le (PH.le.refl _) hrest) (by (try simp only [List.length_append, List.length_singleton, List.length_nil]); omega)) rfl rfl rfl rfl rfl rfl rfl rfl rfl rfl ?_)
       rintro v' G' hv' hext
       replace hv' := hv' hext.le
       obtain ⟨A', c', rfl, _⟩ := id hv'
       refine Da J J ?_;refine Ns 8 J J J J J J J J J ?_;refine DD ?_;refine Va J J ?_;exact RK (wKeys 2) (Res.c1 Tk Tryz.results73 J J) ⟨_, _, J, J, Tds_upd (PH.le.trans (PH.le.refl _) hext.le) _ hw ht (by simpa [goesL, Wld.reg, Prc.get, Stm.kind, Stm.a, Stm.body, Stm.els, h2] using hv')⟩ (Wvp [_, _] kg spg J ‹_› J J J J J J J J J) J (Wsub 10 J J J J J J J J J J J J J J J J (Bs 3 J J J J (Bs 3 J J J J .nil))) hext
      ·refine Ds J J J ?_
       refine Da J J ?_;refine D_sole 5 J J (N_call 5 Tryz.call85 (c_l3AheadS [] rest _ _ _ (Sx_Sr (n:=0) (xs:=[]) ⟨_,_,J,by omega,by omega,by simp [maxLen],J,(.inl J)⟩ J J) (Sts_le (PH.le.refl _) hrest) (by (try simp only [List.length_append, List.length_singleton, List.length_nil]); omega)) rfl rfl rfl rfl rfl rfl rfl rfl rfl rfl ?_)
       rintro v' G' hv' hext
       replace hv' := hv' hext.le
       obtain ⟨A', c', rfl, _⟩ := id hv'
       refine Da J J ?_;refine Ns 8 J J J J J J J J J ?_;refine DD ?_;refine Va J J ?_;exact RK (wKeys 2) (Res.c1 Tk Tryz.results73 J J) ⟨_, _, J, J, Tds_upd (PH.le.trans (PH.le.refl _) hext.le) _ hw ht (by simpa [goesL, Wld.reg, Prc.get, Stm.kind, Stm.a, Stm.body, Stm.els, h2, h3] using hv')⟩ (Wvp [_, _] kg spg J ‹_› J J J J J J J J J) J (Wsub 10 J J J J J J J J J J J J J J J J (Bs 3 J J J J (Bs 3 J J J J .nil))) hext
  ·refine OvV 1 0 J J J J fun bp bc br bs bg kp sp asd ksd aq0 kq0 aq1 kq1 kc spc kr spr ks sps kg spg hbg hmk hce => ?_; subst hce; obtain ⟨g0, g1, rfl⟩ := len2 hbg; clear hbg; refine NM J J ?_; dsimp only [wEnts, wCels, procCs, regEs, WX.of, vi]
   refine Va J J ?_;refine S_box J J J J J fun b4 => ?_;refine Va J J ?_;refine S_box J J J J J fun b6 => ?_;refine Va J J ?_;refine AZ ZT_ok J J J J fun b8 => ?_;refine Va J J ?_
   rcases ha with rfl | rfl | rfl <;>
   ·refine Ds J J J ?_
    refine Da J J ?_;refine DD ?_;refine Va J J ?_;refine S_emptyO Tk 22 J J J J fun A22 => ?_;refine Va J J ?_
    refine S_cond J (fun h => ?_) (fun h => ?_) <;> refine Va J J ?_
    ·simp only [Bool.and_eq_true, decide_eq_true_eq] at h
     obtain ⟨h, rfl⟩ := h
     refine S_slice Tk ZT_ok J J J J (by decide) (by decide) J J J J fun b33 => ?_;refine Va J J ?_;refine S_lendB 33 J J J J fun hG hb => ?_;refine S_call Tryz.call85 (c_l3Ahead _ _ x.length 1 xs [.int .i64 7, .int .i64 _, .int .i64 bb, .int .i64 n, .slice Ax x.length cx, .slice Ay y.length cy] _ (Sx_le (le_add hG) hxs) ⟨_, _, J, by omega, by omega, by simp [maxLen], J, .inr ⟨_, J, gcells_own⟩⟩ (Cs_one Stm.rep_one hcs) one6 (by omega)) J J J ?_
     rintro v1 G3 hv1 hext3
     refine S_backB 33 [.v (.int .i64 7), .v (.int .i64 _), .v (.int .i64 bb), .v (.int .i64 n), .v (.slice Ax x.length cx), .v (.slice Ay y.length cy)] (hext3.le _ _ (PH.add_self _ _ _)) J J hb ?_
     have hle := le_del hext3.le hG
     have hv2 : Sts (G3.del b33) (x ++ [.mk 7 _ bb n x y]) v1 := ahead_Sts hv1 (Cs_mono (Stm.reps_le hle x) hcs) ⟨_, [], by simp, rfl, Stm.rep_le hle _ _ hs1, rfl⟩ newp_add_le
     obtain ⟨A1, c1, rfl, _⟩ := id hv2
     have hext1 := PH.ext.del hG hext3
     refine Va J J ?_;refine Ds J J J ?_;refine Da J J ?_;refine D_sole 5 J J (N_call 5 Tryz.call85 (c_l3AheadS (x++[_]) rest _ _ _ hv2 (Sts_le hle hrest) (by (try simp only [List.length_append, List.length_singleton, List.length_nil]); omega)) rfl rfl rfl rfl rfl rfl rfl rfl rfl rfl ?_)
     rintro v' G' hv' hext
     replace hv' := hv' hext.le
     obtain ⟨A', c', rfl, _⟩ := id hv'
     refine Da J J ?_;refine Ns 8 J J J J J J J J J ?_;refine DD ?_;refine Va J J ?_;exact RK (wKeys 2) (Res.c1 Tk Tryz.results73 J J) ⟨_, _, J, J, Tds_upd (PH.le.trans hle hext.le) _ hw ht (by simpa [goesL, Wld.reg, Prc.get, Stm.kind, Stm.a, Stm.body, Stm.els, h] using hv')⟩ (Wvp [_, _] kg spg J ‹_› J J J J J J J J J) J (Wsub 10 J J J J J J J J J J J J J J J J (Bs 3 J J J J (Bs 3 J J J J .nil))) (hext1.trans hext)
    ·refine S_condp J (fun h2 => ?_) (fun h2 => ?_) <;> refine Va J J ?_
     ·obtain rfl : kk = 6 := by
       rcases hk with rfl | rfl
       ·rfl
       ·simp [h2] at h
      refine Ds J J J ?_;refine Da J J ?_;refine D_sole 5 J J (N_call 5 Tryz.call85 (c_l3AheadS x rest _ _ _ hx (Sts_le (PH.le.refl _) hrest) (by (try simp only [List.length_append, List.length_singleton, List.length_nil]); omega)) rfl rfl rfl rfl rfl rfl rfl rfl rfl rfl ?_)
      rintro v' G' hv' hext
      replace hv' := hv' hext.le
      obtain ⟨A', c', rfl, _⟩ := id hv'
      refine Da J J ?_;refine Ns 8 J J J J J J J J J ?_;refine DD ?_;refine Va J J ?_;exact RK (wKeys 2) (Res.c1 Tk Tryz.results73 J J) ⟨_, _, J, J, Tds_upd (PH.le.trans (PH.le.refl _) hext.le) _ hw ht (by simpa [goesL, Wld.reg, Prc.get, Stm.kind, Stm.a, Stm.body, Stm.els, h2] using hv')⟩ (Wvp [_, _] kg spg J ‹_› J J J J J J J J J) J (Wsub 10 J J J J J J J J J J J J J J J J (Bs 3 J J J J (Bs 3 J J J J .nil))) hext
     ·replace h2 := Classical.not_not.1 h2
      refine S_condp J (fun h3 => ?_) (fun h3 => ?_) <;> refine Va J J ?_
      ·subst h3
       refine Ds J J J ?_;refine Da J J ?_;refine D_sole 5 J J (N_call 5 Tryz.call85 (c_l3AheadS y rest _ _ _ hy (Sts_le (PH.le.refl _) hrest) (by (try simp only [List.length_append, List.length_singleton, List.length_nil]); omega)) rfl rfl rfl rfl rfl rfl rfl rfl rfl rfl ?_)
       rintro v' G' hv' hext
       replace hv' := hv' hext.le
       obtain ⟨A', c', rfl, _⟩ := id hv'
       refine Da J J ?_;refine Ns 8 J J J J J J J J J ?_;refine DD ?_;refine Va J J ?_;exact RK (wKeys 2) (Res.c1 Tk Tryz.results73 J J) ⟨_, _, J, J, Tds_upd (PH.le.trans (PH.le.refl _) hext.le) _ hw ht (by simpa [goesL, Wld.reg, Prc.get, Stm.kind, Stm.a, Stm.body, Stm.els, h2] using hv')⟩ (Wvp [_, _] kg spg J ‹_› J J J J J J J J J) J (Wsub 10 J J J J J J J J J J J J J J J J (Bs 3 J J J J (Bs 3 J J J J .nil))) hext
      ·refine Ds J J J ?_
       refine Da J J ?_;refine D_sole 5 J J (N_call 5 Tryz.call85 (c_l3AheadS [] rest _ _ _ (Sx_Sr (n:=0) (xs:=[]) ⟨_,_,J,by omega,by omega,by simp [maxLen],J,(.inl J)⟩ J J) (Sts_le (PH.le.refl _) hrest) (by (try simp only [List.length_append, List.length_singleton, List.length_nil]); omega)) rfl rfl rfl rfl rfl rfl rfl rfl rfl rfl ?_)
       rintro v' G' hv' hext
       replace hv' := hv' hext.le
       obtain ⟨A', c', rfl, _⟩ := id hv'
       refine Da J J ?_;refine Ns 8 J J J J J J J J J ?_;refine DD ?_;refine Va J J ?_;exact RK (wKeys 2) (Res.c1 Tk Tryz.results73 J J) ⟨_, _, J, J, Tds_upd (PH.le.trans (PH.le.refl _) hext.le) _ hw ht (by simpa [goesL, Wld.reg, Prc.get, Stm.kind, Stm.a, Stm.body, Stm.els, h2, h3] using hv')⟩ (Wvp [_, _] kg spg J ‹_› J J J J J J J J J) J (Wsub 10 J J J J J J J J J J J J J J J J (Bs 3 J J J J (Bs 3 J J J J .nil))) hext
 ·rcases (by simp at hw; omega : who = 0 ∨ who = 1 ∨ who = 2) with rfl | rfl | rfl
  ·refine OvV 1 0 J J J J fun bp bc br bs bg kp sp asd ksd aq0 kq0 aq1 kq1 kc spc kr spr ks sps kg spg hbg hmk hce => ?_; subst hce; obtain ⟨g0, g1, g2, rfl⟩ := len3 hbg; clear hbg; refine NM J J ?_; dsimp only [wEnts, wCels, procCs, regEs, WX.of, vi]
   refine Va J J ?_;refine S_box J J J J J fun b4 => ?_;refine Va J J ?_;refine S_box J J J J J fun b6 => ?_;refine Va J J ?_;refine AZ ZT_ok J J J J fun b8 => ?_;refine Va J J ?_
   rcases ha with rfl | rfl | rfl <;>
   ·refine Ds J J J ?_
    refine Da J J ?_;refine DD ?_;refine Va J J ?_;refine S_emptyO Tk 22 J J J J fun A22 => ?_;refine Va J J ?_
    refine S_cond J (fun h => ?_) (fun h => ?_) <;> refine Va J J ?_
    ·simp only [Bool.and_eq_true, decide_eq_true_eq] at h
     obtain ⟨h, rfl⟩ := h
     refine S_slice Tk ZT_ok J J J J (by decide) (by decide) J J J J fun b33 => ?_;refine Va J J ?_;refine S_lendB 33 J J J J fun hG hb => ?_;refine S_call Tryz.call85 (c_l3Ahead _ _ x.length 1 xs [.int .i64 7, .int .i64 _, .int .i64 bb, .int .i64 n, .slice Ax x.length cx, .slice Ay y.length cy] _ (Sx_le (le_add hG) hxs) ⟨_, _, J, by omega, by omega, by simp [maxLen], J, .inr ⟨_, J, gcells_own⟩⟩ (Cs_one Stm.rep_one hcs) one6 (by omega)) J J J ?_
     rintro v1 G3 hv1 hext3
     refine S_backB 33 [.v (.int .i64 7), .v (.int .i64 _), .v (.int .i64 bb), .v (.int .i64 n), .v (.slice Ax x.length cx), .v (.slice Ay y.length cy)] (hext3.le _ _ (PH.add_self _ _ _)) J J hb ?_
     have hle := le_del hext3.le hG
     have hv2 : Sts (G3.del b33) (x ++ [.mk 7 _ bb n x y]) v1 := ahead_Sts hv1 (Cs_mono (Stm.reps_le hle x) hcs) ⟨_, [], by simp, rfl, Stm.rep_le hle _ _ hs1, rfl⟩ newp_add_le
     obtain ⟨A1, c1, rfl, _⟩ := id hv2
     have hext1 := PH.ext.del hG hext3
     refine Va J J ?_;refine Ds J J J ?_;refine Da J J ?_;refine D_sole 5 J J (N_call 5 Tryz.call85 (c_l3AheadS (x++[_]) rest _ _ _ hv2 (Sts_le hle hrest) (by (try simp only [List.length_append, List.length_singleton, List.length_nil]); omega)) rfl rfl rfl rfl rfl rfl rfl rfl rfl rfl ?_)
     rintro v' G' hv' hext
     replace hv' := hv' hext.le
     obtain ⟨A', c', rfl, _⟩ := id hv'
     refine Da J J ?_;refine Ns 8 J J J J J J J J J ?_;refine DD ?_;refine Va J J ?_;exact RK (wKeys 3) (Res.c1 Tk Tryz.results73 J J) ⟨_, _, J, J, Tds_upd (PH.le.trans hle hext.le) _ hw ht (by simpa [goesL, Wld.reg, Prc.get, Stm.kind, Stm.a, Stm.body, Stm.els, h] using hv')⟩ (Wvp [_, _, _] kg spg J ‹_› J J J J J J J J J) J (Wsub 15 J J J J J J J J J J J J J J J J (Bs 3 J J J J (Bs 3 J J J J (Bs 3 J J J J .nil)))) (hext1.trans hext)
    ·refine S_condp J (fun h2 => ?_) (fun h2 => ?_) <;> refine Va J J ?_
     ·obtain rfl : kk = 6 := by
       rcases hk with rfl | rfl
       ·rfl
       ·simp [h2] at h
      refine Ds J J J ?_;refine Da J J ?_;refine D_sole 5 J J (N_call 5 Tryz.call85 (c_l3AheadS x rest _ _ _ hx (Sts_le (PH.le.refl _) hrest) (by (try simp only [List.length_append, List.length_singleton, List.length_nil]); omega)) rfl rfl rfl rfl rfl rfl rfl rfl rfl rfl ?_)
      rintro v' G' hv' hext
      replace hv' := hv' hext.le
      obtain ⟨A', c', rfl, _⟩ := id hv'
      refine Da J J ?_;refine Ns 8 J J J J J J J J J ?_;refine DD ?_;refine Va J J ?_;exact RK (wKeys 3) (Res.c1 Tk Tryz.results73 J J) ⟨_, _, J, J, Tds_upd (PH.le.trans (PH.le.refl _) hext.le) _ hw ht (by simpa [goesL, Wld.reg, Prc.get, Stm.kind, Stm.a, Stm.body, Stm.els, h2] using hv')⟩ (Wvp [_, _, _] kg spg J ‹_› J J J J J J J J J) J (Wsub 15 J J J J J J J J J J J J J J J J (Bs 3 J J J J (Bs 3 J J J J (Bs 3 J J J J .nil)))) hext
     ·replace h2 := Classical.not_not.1 h2
      refine S_condp J (fun h3 => ?_) (fun h3 => ?_) <;> refine Va J J ?_
      ·subst h3
       refine Ds J J J ?_;refine Da J J ?_;refine D_sole 5 J J (N_call 5 Tryz.call85 (c_l3AheadS y rest _ _ _ hy (Sts_le (PH.le.refl _) hrest) (by (try simp only [List.length_append, List.length_singleton, List.length_nil]); omega)) rfl rfl rfl rfl rfl rfl rfl rfl rfl rfl ?_)
       rintro v' G' hv' hext
       replace hv' := hv' hext.le
       obtain ⟨A', c', rfl, _⟩ := id hv'
       refine Da J J ?_;refine Ns 8 J J J J J J J J J ?_;refine DD ?_;refine Va J J ?_;exact RK (wKeys 3) (Res.c1 Tk Tryz.results73 J J) ⟨_, _, J, J, Tds_upd (PH.le.trans (PH.le.refl _) hext.le) _ hw ht (by simpa [goesL, Wld.reg, Prc.get, Stm.kind, Stm.a, Stm.body, Stm.els, h2] using hv')⟩ (Wvp [_, _, _] kg spg J ‹_› J J J J J J J J J) J (Wsub 15 J J J J J J J J J J J J J J J J (Bs 3 J J J J (Bs 3 J J J J (Bs 3 J J J J .nil)))) hext
      ·refine Ds J J J ?_
       refine Da J J ?_;refine D_sole 5 J J (N_call 5 Tryz.call85 (c_l3AheadS [] rest _ _ _ (Sx_Sr (n:=0) (xs:=[]) ⟨_,_,J,by omega,by omega,by simp [maxLen],J,(.inl J)⟩ J J) (Sts_le (PH.le.refl _) hrest) (by (try simp only [List.length_append, List.length_singleton, List.length_nil]); omega)) rfl rfl rfl rfl rfl rfl rfl rfl rfl rfl ?_)
       rintro v' G' hv' hext
       replace hv' := hv' hext.le
       obtain ⟨A', c', rfl, _⟩ := id hv'
       refine Da J J ?_;refine Ns 8 J J J J J J J J J ?_;refine DD ?_;refine Va J J ?_;exact RK (wKeys 3) (Res.c1 Tk Tryz.results73 J J) ⟨_, _, J, J, Tds_upd (PH.le.trans (PH.le.refl _) hext.le) _ hw ht (by simpa [goesL, Wld.reg, Prc.get, Stm.kind, Stm.a, Stm.body, Stm.els, h2, h3] using hv')⟩ (Wvp [_, _, _] kg spg J ‹_› J J J J J J J J J) J (Wsub 15 J J J J J J J J J J J J J J J J (Bs 3 J J J J (Bs 3 J J J J (Bs 3 J J J J .nil)))) hext
  ·refine OvV 1 0 J J J J fun bp bc br bs bg kp sp asd ksd aq0 kq0 aq1 kq1 kc spc kr spr ks sps kg spg hbg hmk hce => ?_; subst hce; obtain ⟨g0, g1, g2, rfl⟩ := len3 hbg; clear hbg; refine NM J J ?_; dsimp only [wEnts, wCels, procCs, regEs, WX.of, vi]
   refine Va J J ?_;refine S_box J J J J J fun b4 => ?_;refine Va J J ?_;refine S_box J J J J J fun b6 => ?_;refine Va J J ?_;refine AZ ZT_ok J J J J fun b8 => ?_;refine Va J J ?_
   rcases ha with rfl | rfl | rfl <;>
   ·refine Ds J J J ?_
    refine Da J J ?_;refine DD ?_;refine Va J J ?_;refine S_emptyO Tk 22 J J J J fun A22 => ?_;refine Va J J ?_
    refine S_cond J (fun h => ?_) (fun h => ?_) <;> refine Va J J ?_
    ·simp only [Bool.and_eq_true, decide_eq_true_eq] at h
     obtain ⟨h, rfl⟩ := h
     refine S_slice Tk ZT_ok J J J J (by decide) (by decide) J J J J fun b33 => ?_;refine Va J J ?_;refine S_lendB 33 J J J J fun hG hb => ?_;refine S_call Tryz.call85 (c_l3Ahead _ _ x.length 1 xs [.int .i64 7, .int .i64 _, .int .i64 bb, .int .i64 n, .slice Ax x.length cx, .slice Ay y.length cy] _ (Sx_le (le_add hG) hxs) ⟨_, _, J, by omega, by omega, by simp [maxLen], J, .inr ⟨_, J, gcells_own⟩⟩ (Cs_one Stm.rep_one hcs) one6 (by omega)) J J J ?_
     rintro v1 G3 hv1 hext3
     refine S_backB 33 [.v (.int .i64 7), .v (.int .i64 _), .v (.int .i64 bb), .v (.int .i64 n), .v (.slice Ax x.length cx), .v (.slice Ay y.length cy)] (hext3.le _ _ (PH.add_self _ _ _)) J J hb ?_
     have hle := le_del hext3.le hG
     have hv2 : Sts (G3.del b33) (x ++ [.mk 7 _ bb n x y]) v1 := ahead_Sts hv1 (Cs_mono (Stm.reps_le hle x) hcs) ⟨_, [], by simp, rfl, Stm.rep_le hle _ _ hs1, rfl⟩ newp_add_le
     obtain ⟨A1, c1, rfl, _⟩ := id hv2
     have hext1 := PH.ext.del hG hext3
     refine Va J J ?_;refine Ds J J J ?_;refine Da J J ?_;refine D_sole 5 J J (N_call 5 Tryz.call85 (c_l3AheadS (x++[_]) rest _ _ _ hv2 (Sts_le hle hrest) (by (try simp only [List.length_append, List.length_singleton, List.length_nil]); omega)) rfl rfl rfl rfl rfl rfl rfl rfl rfl rfl ?_)
     rintro v' G' hv' hext
     replace hv' := hv' hext.le
     obtain ⟨A', c', rfl, _⟩ := id hv'
     refine Da J J ?_;refine Ns 8 J J J J J J J J J ?_;refine DD ?_;refine Va J J ?_;exact RK (wKeys 3) (Res.c1 Tk Tryz.results73 J J) ⟨_, _, J, J, Tds_upd (PH.le.trans hle hext.le) _ hw ht (by simpa [goesL, Wld.reg, Prc.get, Stm.kind, Stm.a, Stm.body, Stm.els, h] using hv')⟩ (Wvp [_, _, _] kg spg J ‹_› J J J J J J J J J) J (Wsub 15 J J J J J J J J J J J J J J J J (Bs 3 J J J J (Bs 3 J J J J (Bs 3 J J J J .nil)))) (hext1.trans hext)
    ·refine S_condp J (fun h2 => ?_) (fun h2 => ?_) <;> refine Va J J ?_
     ·obtain rfl : kk = 6 := by
       rcases hk with rfl | rfl
       ·rfl
       ·simp [h2] at h
      refine Ds J J J ?_;refine Da J J ?_;refine D_sole 5 J J (N_call 5 Tryz.call85 (c_l3AheadS x rest _ _ _ hx (Sts_le (PH.le.refl _) hrest) (by (try simp only [List.length_append, List.length_singleton, List.length_nil]); omega)) rfl rfl rfl rfl rfl rfl rfl rfl rfl rfl ?_)
      rintro v' G' hv' hext
      replace hv' := hv' hext.le
      obtain ⟨A', c', rfl, _⟩ := id hv'
      refine Da J J ?_;refine Ns 8 J J J J J J J J J ?_;refine DD ?_;refine Va J J ?_;exact RK (wKeys 3) (Res.c1 Tk Tryz.results73 J J) ⟨_, _, J, J, Tds_upd (PH.le.trans (PH.le.refl _) hext.le) _ hw ht (by simpa [goesL, Wld.reg, Prc.get, Stm.kind, Stm.a, Stm.body, Stm.els, h2] using hv')⟩ (Wvp [_, _, _] kg spg J ‹_› J J J J J J J J J) J (Wsub 15 J J J J J J J J J J J J J J J J (Bs 3 J J J J (Bs 3 J J J J (Bs 3 J J J J .nil)))) hext
     ·replace h2 := Classical.not_not.1 h2
      refine S_condp J (fun h3 => ?_) (fun h3 => ?_) <;> refine Va J J ?_
      ·subst h3
       refine Ds J J J ?_;refine Da J J ?_;refine D_sole 5 J J (N_call 5 Tryz.call85 (c_l3AheadS y rest _ _ _ hy (Sts_le (PH.le.refl _) hrest) (by (try simp only [List.length_append, List.length_singleton, List.length_nil]); omega)) rfl rfl rfl rfl rfl rfl rfl rfl rfl rfl ?_)
       rintro v' G' hv' hext
       replace hv' := hv' hext.le
       obtain ⟨A', c', rfl, _⟩ := id hv'
       refine Da J J ?_;refine Ns 8 J J J J J J J J J ?_;refine DD ?_;refine Va J J ?_;exact RK (wKeys 3) (Res.c1 Tk Tryz.results73 J J) ⟨_, _, J, J, Tds_upd (PH.le.trans (PH.le.refl _) hext.le) _ hw ht (by simpa [goesL, Wld.reg, Prc.get, Stm.kind, Stm.a, Stm.body, Stm.els, h2] using hv')⟩ (Wvp [_, _, _] kg spg J ‹_› J J J J J J J J J) J (Wsub 15 J J J J J J J J J J J J J J J J (Bs 3 J J J J (Bs 3 J J J J (Bs 3 J J J J .nil)))) hext
      ·refine Ds J J J ?_
       refine Da J J ?_;refine D_sole 5 J J (N_call 5 Tryz.call85 (c_l3AheadS [] rest _ _ _ (Sx_Sr (n:=0) (xs:=[]) ⟨_,_,J,by omega,by omega,by simp [maxLen],J,(.inl J)⟩ J J) (Sts_le (PH.le.refl _) hrest) (by (try simp only [List.length_append, List.length_singleton, List.length_nil]); omega)) rfl rfl rfl rfl rfl rfl rfl rfl rfl rfl ?_)
       rintro v' G' hv' hext
       replace hv' := hv' hext.le
       obtain ⟨A', c', rfl, _⟩ := id hv'
       refine Da J J ?_;refine Ns 8 J J J J J J J J J ?_;refine DD ?_;refine Va J J ?_;exact RK (wKeys 3) (Res.c1 Tk Tryz.results73 J J) ⟨_, _, J, J, Tds_upd (PH.le.trans (PH.le.refl _) hext.le) _ hw ht (by simpa [goesL, Wld.reg, Prc.get, Stm.kind, Stm.a, Stm.body, Stm.els, h2, h3] using hv')⟩ (Wvp [_, _, _] kg spg J ‹_› J J J J J J J J J) J (Wsub 15 J J J J J J J J J J J J J J J J (Bs 3 J J J J (Bs 3 J J J J (Bs 3 J J J J .nil)))) hext
  ·refine OvV 1 0 J J J J fun bp bc br bs bg kp sp asd ksd aq0 kq0 aq1 kq1 kc spc kr spr ks sps kg spg hbg hmk hce => ?_; subst hce; obtain ⟨g0, g1, g2, rfl⟩ := len3 hbg; clear hbg; refine NM J J ?_; dsimp only [wEnts, wCels, procCs, regEs, WX.of, vi]
   refine Va J J ?_;refine S_box J J J J J fun b4 => ?_;refine Va J J ?_;refine S_box J J J J J fun b6 => ?_;refine Va J J ?_;refine AZ ZT_ok J J J J fun b8 => ?_;refine Va J J ?_
   rcases ha with rfl | rfl | rfl <;>
   ·refine Ds J J J ?_
    refine Da J J ?_;refine DD ?_;refine Va J J ?_;refine S_emptyO Tk 22 J J J J fun A22 => ?_;refine Va J J ?_
    refine S_cond J (fun h => ?_) (fun h => ?_) <;> refine Va J J ?_
    ·simp only [Bool.and_eq_true, decide_eq_true_eq] at h
     obtain ⟨h, rfl⟩ := h
     refine S_slice Tk ZT_ok J J J J (by decide) (by decide) J J J J fun b33 => ?_;refine Va J J ?_;refine S_lendB 33 J J J J fun hG hb => ?_;refine S_call Tryz.call85 (c_l3Ahead _ _ x.length 1 xs [.int .i64 7, .int .i64 _, .int .i64 bb, .int .i64 n, .slice Ax x.length cx, .slice Ay y.length cy] _ (Sx_le (le_add hG) hxs) ⟨_, _, J, by omega, by omega, by simp [maxLen], J, .inr ⟨_, J, gcells_own⟩⟩ (Cs_one Stm.rep_one hcs) one6 (by omega)) J J J ?_
     rintro v1 G3 hv1 hext3
     refine S_backB 33 [.v (.int .i64 7), .v (.int .i64 _), .v (.int .i64 bb), .v (.int .i64 n), .v (.slice Ax x.length cx), .v (.slice Ay y.length cy)] (hext3.le _ _ (PH.add_self _ _ _)) J J hb ?_
     have hle := le_del hext3.le hG
     have hv2 : Sts (G3.del b33) (x ++ [.mk 7 _ bb n x y]) v1 := ahead_Sts hv1 (Cs_mono (Stm.reps_le hle x) hcs) ⟨_, [], by simp, rfl, Stm.rep_le hle _ _ hs1, rfl⟩ newp_add_le
     obtain ⟨A1, c1, rfl, _⟩ := id hv2
     have hext1 := PH.ext.del hG hext3
     refine Va J J ?_;refine Ds J J J ?_;refine Da J J ?_;refine D_sole 5 J J (N_call 5 Tryz.call85 (c_l3AheadS (x++[_]) rest _ _ _ hv2 (Sts_le hle hrest) (by (try simp only [List.length_append, List.length_singleton, List.length_nil]); omega)) rfl rfl rfl rfl rfl rfl rfl rfl rfl rfl ?_)
     rintro v' G' hv' hext
     replace hv' := hv' hext.le
     obtain ⟨A', c', rfl, _⟩ := id hv'
     refine Da J J ?_;refine Ns 8 J J J J J J J J J ?_;refine DD ?_;refine Va J J ?_;exact RK (wKeys 3) (Res.c1 Tk Tryz.results73 J J) ⟨_, _, J, J, Tds_upd (PH.le.trans hle hext.le) _ hw ht (by simpa [goesL, Wld.reg, Prc.get, Stm.kind, Stm.a, Stm.body, Stm.els, h] using hv')⟩ (Wvp [_, _, _] kg spg J ‹_› J J J J J J J J J) J (Wsub 15 J J J J J J J J J J J J J J J J (Bs 3 J J J J (Bs 3 J J J J (Bs 3 J J J J .nil)))) (hext1.trans hext)
    ·refine S_condp J (fun h2 => ?_) (fun h2 => ?_) <;> refine Va J J ?_
     ·obtain rfl : kk = 6 := by
       rcases hk with rfl | rfl
       ·rfl
       ·simp [h2] at h
      refine Ds J J J ?_;refine Da J J ?_;refine D_sole 5 J J (N_call 5 Tryz.call85 (c_l3AheadS x rest _ _ _ hx (Sts_le (PH.le.refl _) hrest) (by (try simp only [List.length_append, List.length_singleton, List.length_nil]); omega)) rfl rfl rfl rfl rfl rfl rfl rfl rfl rfl ?_)
      rintro v' G' hv' hext
      replace hv' := hv' hext.le
      obtain ⟨A', c', rfl, _⟩ := id hv'
      refine Da J J ?_;refine Ns 8 J J J J J J J J J ?_;refine DD ?_;refine Va J J ?_;exact RK (wKeys 3) (Res.c1 Tk Tryz.results73 J J) ⟨_, _, J, J, Tds_upd (PH.le.trans (PH.le.refl _) hext.le) _ hw ht (by simpa [goesL, Wld.reg, Prc.get, Stm.kind, Stm.a, Stm.body, Stm.els, h2] using hv')⟩ (Wvp [_, _, _] kg spg J ‹_› J J J J J J J J J) J (Wsub 15 J J J J J J J J J J J J J J J J (Bs 3 J J J J (Bs 3 J J J J (Bs 3 J J J J .nil)))) hext
     ·replace h2 := Classical.not_not.1 h2
      refine S_condp J (fun h3 => ?_) (fun h3 => ?_) <;> refine Va J J ?_
      ·subst h3
       refine Ds J J J ?_;refine Da J J ?_;refine D_sole 5 J J (N_call 5 Tryz.call85 (c_l3AheadS y rest _ _ _ hy (Sts_le (PH.le.refl _) hrest) (by (try simp only [List.length_append, List.length_singleton, List.length_nil]); omega)) rfl rfl rfl rfl rfl rfl rfl rfl rfl rfl ?_)
       rintro v' G' hv' hext
       replace hv' := hv' hext.le
       obtain ⟨A', c', rfl, _⟩ := id hv'
       refine Da J J ?_;refine Ns 8 J J J J J J J J J ?_;refine DD ?_;refine Va J J ?_;exact RK (wKeys 3) (Res.c1 Tk Tryz.results73 J J) ⟨_, _, J, J, Tds_upd (PH.le.trans (PH.le.refl _) hext.le) _ hw ht (by simpa [goesL, Wld.reg, Prc.get, Stm.kind, Stm.a, Stm.body, Stm.els, h2] using hv')⟩ (Wvp [_, _, _] kg spg J ‹_› J J J J J J J J J) J (Wsub 15 J J J J J J J J J J J J J J J J (Bs 3 J J J J (Bs 3 J J J J (Bs 3 J J J J .nil)))) hext
      ·refine Ds J J J ?_
       refine Da J J ?_;refine D_sole 5 J J (N_call 5 Tryz.call85 (c_l3AheadS [] rest _ _ _ (Sx_Sr (n:=0) (xs:=[]) ⟨_,_,J,by omega,by omega,by simp [maxLen],J,(.inl J)⟩ J J) (Sts_le (PH.le.refl _) hrest) (by (try simp only [List.length_append, List.length_singleton, List.length_nil]); omega)) rfl rfl rfl rfl rfl rfl rfl rfl rfl rfl ?_)
       rintro v' G' hv' hext
       replace hv' := hv' hext.le
       obtain ⟨A', c', rfl, _⟩ := id hv'
       refine Da J J ?_;refine Ns 8 J J J J J J J J J ?_;refine DD ?_;refine Va J J ?_;exact RK (wKeys 3) (Res.c1 Tk Tryz.results73 J J) ⟨_, _, J, J, Tds_upd (PH.le.trans (PH.le.refl _) hext.le) _ hw ht (by simpa [goesL, Wld.reg, Prc.get, Stm.kind, Stm.a, Stm.body, Stm.els, h2, h3] using hv')⟩ (Wvp [_, _, _] kg spg J ‹_› J J J J J J J J J) J (Wsub 15 J J J J J J J J J J J J J J J J (Bs 3 J J J J (Bs 3 J J J J (Bs 3 J J J J .nil)))) hext
end
section
attribute [local irreducible] X Pure Mod
theorem c_l3Signal (W : Wld) (cs : List Value) (ts : List Value) (G : PH) (h1 : 1 ≤ W.procs.length) (h3 : W.procs.length ≤ 3) (ht : Tds G W.procs ts) (hf0 : ∀ f ∈ W.q0, 0 ≤ f ∧ f < W.procs.length) (hf1 : ∀ f ∈ W.q1, 0 ≤ f ∧ f < W.procs.length) (a : Int) (ha : is2 a) :
  Mod Tryz.prog 86 [.agg cs.toArray, .int .i64 a] G (worldV cs W ts) (VPost (W.signal a)) := by
 refine Mod.intro Tryz.func86 Tryz.ntmps86 J J fun w S => ?_;obtain ⟨ps, x0, x1, x2, m0, m1, q0, q1, sd⟩ := W
 replace hf0 : ∀ f ∈ q0, 0 ≤ f ∧ f < ps.length := hf0
 replace hf1 : ∀ f ∈ q1, 0 ≤ f ∧ f < ps.length := hf1
 rcases shape h1 h3 ht with ⟨⟨a0, a1, a2, td0, mo0, on0, ro0⟩, A0, k0, rfl, rfl, s0⟩ | ⟨⟨a0, a1, a2, td0, mo0, on0, ro0⟩, A0, k0, ⟨b0, b1, b2, td1, mo1, on1, ro1⟩, A1, k1, rfl, rfl, s0, s1⟩ | ⟨⟨a0, a1, a2, td0, mo0, on0, ro0⟩, A0, k0, ⟨b0, b1, b2, td1, mo1, on1, ro1⟩, A1, k1, ⟨d0, d1, d2, td2, mo2, on2, ro2⟩, A2, k2, rfl, rfl, s0, s1, s2⟩
 ·rcases ha with rfl | rfl
  ·rcases hQ : q0 with _ | ⟨f, r⟩
   ·subst hQ
    refine OvV 1 0 J J J J fun bp bc br bs bg kp sp asd ksd aq0 kq0 aq1 kq1 kc spc kr spr ks sps kg spg hbg hmk hce => ?_; subst hce; obtain ⟨g0, rfl⟩ := len1 hbg; clear hbg; refine NM J J ?_; dsimp only [wEnts, wCels, procCs, regEs, WX.of, vi]
    refine Va J J ?_;refine S_box J J J J J fun b2 => ?_;refine Va J J ?_;refine AZ ZT_ok J J J J fun b4 => ?_;refine Va J J ?_;refine RT J J ?_;refine Va J J ?_;exact RK (wKeys 1) (Res.c1 Tk Tryz.results86 J J) ⟨_, _, J, J, signal_tds (W := ⟨_, _, _, _, _, _, _, _, _⟩) _ ht⟩ (Wvp [_] kg spg J ‹_› J J J J J J J J J) J (Wsub 5 J J J J J J J J J J J J J J J J (Bs 3 J J J J .nil)) XR
   ·subst hQ
    have hf := hf0 f (List.mem_cons_self ..)
    refine OvV 1 0 J J J J fun bp bc br bs bg kp sp asd ksd aq0 kq0 aq1 kq1 kc spc kr spr ks sps kg spg hbg hmk hce => ?_; subst hce; obtain ⟨g0, rfl⟩ := len1 hbg; clear hbg; refine NM J J ?_; dsimp only [wEnts, wCels, procCs, regEs, WX.of, vi]
    refine Va J J ?_;refine S_box J J J J J fun b2 => ?_;refine Va J J ?_;refine AZ ZT_ok J J J J fun b4 => ?_;refine Va J J ?_
    refine RF J (by simp <;> omega) ?_
    refine Va J J ?_;refine S_capO 1005 J fun hnc0 _ _ => ?_;refine S_someO 1005 J (by simp at hnc0; omega) fun gq offq hAq => ?_
    subst hAq
    obtain rfl : f = 0 := by simp at hf; omega
    refine S_index Tk J J J J J J (by omega) (by simp) ?_;refine S_valV J J J (V_loadR (o := 0) Tk 1005 J J J J J) ?_;refine Va J J ?_;refine Ds J J J ?_;refine Da J J ?_;refine Nt 8 J J J J J J fun back => ?_;refine S_tailO Tk 1005 J J J J J J (fun _ => J) fun A' => ?_;refine back _ _ _ _ (by kernel_rfl) ?_; clear back
    refine Da J J ?_;refine Ns 10 J J J J J J J J J ?_;refine DD ?_;refine Va J J ?_;exact RK (wKeys 1) (Res.c1 Tk Tryz.results86 J J) ⟨_, _, J, J, signal_tds (W := ⟨_, _, _, _, _, _, _, _, _⟩) _ ht⟩ (Wvp [_] kg spg J ‹_› J J J J J J J J J) J (Wsub 5 J J J J J J J J J J J J J J J J (Bs 3 J J J J .nil)) XR
  ·rcases hQ : q1 with _ | ⟨f, r⟩
   ·subst hQ
    refine OvV 1 0 J J J J fun bp bc br bs bg kp sp asd ksd aq0 kq0 aq1 kq1 kc spc kr spr ks sps kg spg hbg hmk hce => ?_; subst hce; obtain ⟨g0, rfl⟩ := len1 hbg; clear hbg; refine NM J J ?_; dsimp only [wEnts, wCels, procCs, regEs, WX.of, vi]
    refine Va J J ?_;refine S_box J J J J J fun b2 => ?_;refine Va J J ?_;refine AZ ZT_ok J J J J fun b4 => ?_;refine Va J J ?_;refine RT J J ?_;refine Va J J ?_;exact RK (wKeys 1) (Res.c1 Tk Tryz.results86 J J) ⟨_, _, J, J, signal_tds (W := ⟨_, _, _, _, _, _, _, _, _⟩) _ ht⟩ (Wvp [_] kg spg J ‹_› J J J J J J J J J) J (Wsub 5 J J J J J J J J J J J J J J J J (Bs 3 J J J J .nil)) XR
   ·subst hQ
    have hf := hf1 f (List.mem_cons_self ..)
    refine OvV 1 0 J J J J fun bp bc br bs bg kp sp asd ksd aq0 kq0 aq1 kq1 kc spc kr spr ks sps kg spg hbg hmk hce => ?_; subst hce; obtain ⟨g0, rfl⟩ := len1 hbg; clear hbg; refine NM J J ?_; dsimp only [wEnts, wCels, procCs, regEs, WX.of, vi]
    refine Va J J ?_;refine S_box J J J J J fun b2 => ?_;refine Va J J ?_;refine AZ ZT_ok J J J J fun b4 => ?_;refine Va J J ?_
    refine RF J (by simp <;> omega) ?_
    refine Va J J ?_;refine S_capO 1006 J fun hnc0 _ _ => ?_;refine S_someO 1006 J (by simp at hnc0; omega) fun gq offq hAq => ?_
    subst hAq
    obtain rfl : f = 0 := by simp at hf; omega
    refine S_index Tk J J J J J J (by omega) (by simp) ?_;refine S_valV J J J (V_loadR (o := 0) Tk 1006 J J J J J) ?_;refine Va J J ?_;refine Ds J J J ?_;refine Da J J ?_;refine Nt 8 J J J J J J fun back => ?_;refine S_tailO Tk 1006 J J J J J J (fun _ => J) fun A' => ?_;refine back _ _ _ _ (by kernel_rfl) ?_; clear back
    refine Da J J ?_;refine Ns 10 J J J J J J J J J ?_;refine DD ?_;refine Va J J ?_;exact RK (wKeys 1) (Res.c1 Tk Tryz.results86 J J) ⟨_, _, J, J, signal_tds (W := ⟨_, _, _, _, _, _, _, _, _⟩) _ ht⟩ (Wvp [_] kg spg J ‹_› J J J J J J J J J) J (Wsub 5 J J J J J J J J J J J J J J J J (Bs 3 J J J J .nil)) XR
 ·rcases ha with rfl | rfl
  ·rcases hQ : q0 with _ | ⟨f, r⟩
   ·subst hQ
    refine OvV 1 0 J J J J fun bp bc br bs bg kp sp asd ksd aq0 kq0 aq1 kq1 kc spc kr spr ks sps kg spg hbg hmk hce => ?_; subst hce; obtain ⟨g0, g1, rfl⟩ := len2 hbg; clear hbg; refine NM J J ?_; dsimp only [wEnts, wCels, procCs, regEs, WX.of, vi]
    refine Va J J ?_;refine S_box J J J J J fun b2 => ?_;refine Va J J ?_;refine AZ ZT_ok J J J J fun b4 => ?_;refine Va J J ?_;refine RT J J ?_;refine Va J J ?_;exact RK (wKeys 2) (Res.c1 Tk Tryz.results86 J J) ⟨_, _, J, J, signal_tds (W := ⟨_, _, _, _, _, _, _, _, _⟩) _ ht⟩ (Wvp [_, _] kg spg J ‹_› J J J J J J J J J) J (Wsub 10 J J J J J J J J J J J J J J J J (Bs 3 J J J J (Bs 3 J J J J .nil))) XR
   ·subst hQ
    have hf := hf0 f (List.mem_cons_self ..)
    refine OvV 1 0 J J J J fun bp bc br bs bg kp sp asd ksd aq0 kq0 aq1 kq1 kc spc kr spr ks sps kg spg hbg hmk hce => ?_; subst hce; obtain ⟨g0, g1, rfl⟩ := len2 hbg; clear hbg; refine NM J J ?_; dsimp only [wEnts, wCels, procCs, regEs, WX.of, vi]
    refine Va J J ?_;refine S_box J J J J J fun b2 => ?_;refine Va J J ?_;refine AZ ZT_ok J J J J fun b4 => ?_;refine Va J J ?_
    refine RF J (by simp <;> omega) ?_
    refine Va J J ?_;refine S_capO 1005 J fun hnc0 _ _ => ?_;refine S_someO 1005 J (by simp at hnc0; omega) fun gq offq hAq => ?_
    subst hAq
    rcases (by simp at hf; omega : f = 0 ∨ f = 1) with rfl | rfl
    ·refine S_index Tk J J J J J J (by omega) (by simp) ?_
     refine S_valV J J J (V_loadR (o := 0) Tk 1005 J J J J J) ?_;refine Va J J ?_;refine Ds J J J ?_;refine Da J J ?_;refine Nt 8 J J J J J J fun back => ?_;refine S_tailO Tk 1005 J J J J J J (fun _ => J) fun A' => ?_;refine back _ _ _ _ (by kernel_rfl) ?_; clear back
     refine Da J J ?_;refine Ns 10 J J J J J J J J J ?_;refine DD ?_;refine Va J J ?_;exact RK (wKeys 2) (Res.c1 Tk Tryz.results86 J J) ⟨_, _, J, J, signal_tds (W := ⟨_, _, _, _, _, _, _, _, _⟩) _ ht⟩ (Wvp [_, _] kg spg J ‹_› J J J J J J J J J) J (Wsub 10 J J J J J J J J J J J J J J J J (Bs 3 J J J J (Bs 3 J J J J .nil))) XR
    ·refine S_index Tk J J J J J J (by omega) (by simp) ?_
     refine S_valV J J J (V_loadR (o := 0) Tk 1005 J J J J J) ?_;refine Va J J ?_;refine Ds J J J ?_;refine Da J J ?_;refine Nt 8 J J J J J J fun back => ?_;refine S_tailO Tk 1005 J J J J J J (fun _ => J) fun A' => ?_;refine back _ _ _ _ (by kernel_rfl) ?_; clear back
     refine Da J J ?_;refine Ns 10 J J J J J J J J J ?_;refine DD ?_;refine Va J J ?_;exact RK (wKeys 2) (Res.c1 Tk Tryz.results86 J J) ⟨_, _, J, J, signal_tds (W := ⟨_, _, _, _, _, _, _, _, _⟩) _ ht⟩ (Wvp [_, _] kg spg J ‹_› J J J J J J J J J) J (Wsub 10 J J J J J J J J J J J J J J J J (Bs 3 J J J J (Bs 3 J J J J .nil))) XR
  ·rcases hQ : q1 with _ | ⟨f, r⟩
   ·subst hQ
    refine OvV 1 0 J J J J fun bp bc br bs bg kp sp asd ksd aq0 kq0 aq1 kq1 kc spc kr spr ks sps kg spg hbg hmk hce => ?_; subst hce; obtain ⟨g0, g1, rfl⟩ := len2 hbg; clear hbg; refine NM J J ?_; dsimp only [wEnts, wCels, procCs, regEs, WX.of, vi]
    refine Va J J ?_;refine S_box J J J J J fun b2 => ?_;refine Va J J ?_;refine AZ ZT_ok J J J J fun b4 => ?_;refine Va J J ?_;refine RT J J ?_;refine Va J J ?_;exact RK (wKeys 2) (Res.c1 Tk Tryz.results86 J J) ⟨_, _, J, J, signal_tds (W := ⟨_, _, _, _, _, _, _, _, _⟩) _ ht⟩ (Wvp [_, _] kg spg J ‹_› J J J J J J J J J) J (Wsub 10 J J J J J J J J J J J J J J J J (Bs 3 J J J J (Bs 3 J J J J .nil))) XR
   ·subst hQ
    have hf := hf1 f (List.mem_cons_self ..)
    refine OvV 1 0 J J J J fun bp bc br bs bg kp sp asd ksd aq0 kq0 aq1 kq1 kc spc kr spr ks sps kg spg hbg hmk hce => ?_; subst hce; obtain ⟨g0, g1, rfl⟩ := len2 hbg; clear hbg; refine NM J J ?_; dsimp only [wEnts, wCels, procCs, regEs, WX.of, vi]
    refine Va J J ?_;refine S_box J J J J J fun b2 => ?_;refine Va J J ?_;refine AZ ZT_ok J J J J fun b4 => ?_;refine Va J J ?_
    refine RF J (by simp <;> omega) ?_
    refine Va J J ?_;refine S_capO 1006 J fun hnc0 _ _ => ?_;refine S_someO 1006 J (by simp at hnc0; omega) fun gq offq hAq => ?_
    subst hAq
    rcases (by simp at hf; omega : f = 0 ∨ f = 1) with rfl | rfl
    ·refine S_index Tk J J J J J J (by omega) (by simp) ?_
     refine S_valV J J J (V_loadR (o := 0) Tk 1006 J J J J J) ?_;refine Va J J ?_;refine Ds J J J ?_;refine Da J J ?_;refine Nt 8 J J J J J J fun back => ?_;refine S_tailO Tk 1006 J J J J J J (fun _ => J) fun A' => ?_;refine back _ _ _ _ (by kernel_rfl) ?_; clear back
     refine Da J J ?_;refine Ns 10 J J J J J J J J J ?_;refine DD ?_;refine Va J J ?_;exact RK (wKeys 2) (Res.c1 Tk Tryz.results86 J J) ⟨_, _, J, J, signal_tds (W := ⟨_, _, _, _, _, _, _, _, _⟩) _ ht⟩ (Wvp [_, _] kg spg J ‹_› J J J J J J J J J) J (Wsub 10 J J J J J J J J J J J J J J J J (Bs 3 J J J J (Bs 3 J J J J .nil))) XR
    ·refine S_index Tk J J J J J J (by omega) (by simp) ?_
     refine S_valV J J J (V_loadR (o := 0) Tk 1006 J J J J J) ?_;refine Va J J ?_;refine Ds J J J ?_;refine Da J J ?_;refine Nt 8 J J J J J J fun back => ?_;refine S_tailO Tk 1006 J J J J J J (fun _ => J) fun A' => ?_;refine back _ _ _ _ (by kernel_rfl) ?_; clear back
     refine Da J J ?_;refine Ns 10 J J J J J J J J J ?_;refine DD ?_;refine Va J J ?_;exact RK (wKeys 2) (Res.c1 Tk Tryz.results86 J J) ⟨_, _, J, J, signal_tds (W := ⟨_, _, _, _, _, _, _, _, _⟩) _ ht⟩ (Wvp [_, _] kg spg J ‹_› J J J J J J J J J) J (Wsub 10 J J J J J J J J J J J J J J J J (Bs 3 J J J J (Bs 3 J J J J .nil))) XR
 ·rcases ha with rfl | rfl
  ·rcases hQ : q0 with _ | ⟨f, r⟩
   ·subst hQ
    refine OvV 1 0 J J J J fun bp bc br bs bg kp sp asd ksd aq0 kq0 aq1 kq1 kc spc kr spr ks sps kg spg hbg hmk hce => ?_; subst hce; obtain ⟨g0, g1, g2, rfl⟩ := len3 hbg; clear hbg; refine NM J J ?_; dsimp only [wEnts, wCels, procCs, regEs, WX.of, vi]
    refine Va J J ?_;refine S_box J J J J J fun b2 => ?_;refine Va J J ?_;refine AZ ZT_ok J J J J fun b4 => ?_;refine Va J J ?_;refine RT J J ?_;refine Va J J ?_;exact RK (wKeys 3) (Res.c1 Tk Tryz.results86 J J) ⟨_, _, J, J, signal_tds (W := ⟨_, _, _, _, _, _, _, _, _⟩) _ ht⟩ (Wvp [_, _, _] kg spg J ‹_› J J J J J J J J J) J (Wsub 15 J J J J J J J J J J J J J J J J (Bs 3 J J J J (Bs 3 J J J J (Bs 3 J J J J .nil)))) XR
   ·subst hQ
    have hf := hf0 f (List.mem_cons_self ..)
    refine OvV 1 0 J J J J fun bp bc br bs bg kp sp asd ksd aq0 kq0 aq1 kq1 kc spc kr spr ks sps kg spg hbg hmk hce => ?_; subst hce; obtain ⟨g0, g1, g2, rfl⟩ := len3 hbg; clear hbg; refine NM J J ?_; dsimp only [wEnts, wCels, procCs, regEs, WX.of, vi]
    refine Va J J ?_;refine S_box J J J J J fun b2 => ?_;refine Va J J ?_;refine AZ ZT_ok J J J J fun b4 => ?_;refine Va J J ?_
    refine RF J (by simp <;> omega) ?_
    refine Va J J ?_;refine S_capO 1005 J fun hnc0 _ _ => ?_;refine S_someO 1005 J (by simp at hnc0; omega) fun gq offq hAq => ?_
    subst hAq
    rcases (by simp at hf; omega : f = 0 ∨ f = 1 ∨ f = 2) with rfl | rfl | rfl
    ·refine S_index Tk J J J J J J (by omega) (by simp) ?_
     refine S_valV J J J (V_loadR (o := 0) Tk 1005 J J J J J) ?_;refine Va J J ?_;refine Ds J J J ?_;refine Da J J ?_;refine Nt 8 J J J J J J fun back => ?_;refine S_tailO Tk 1005 J J J J J J (fun _ => J) fun A' => ?_;refine back _ _ _ _ (by kernel_rfl) ?_; clear back
     refine Da J J ?_;refine Ns 10 J J J J J J J J J ?_;refine DD ?_;refine Va J J ?_;exact RK (wKeys 3) (Res.c1 Tk Tryz.results86 J J) ⟨_, _, J, J, signal_tds (W := ⟨_, _, _, _, _, _, _, _, _⟩) _ ht⟩ (Wvp [_, _, _] kg spg J ‹_› J J J J J J J J J) J (Wsub 15 J J J J J J J J J J J J J J J J (Bs 3 J J J J (Bs 3 J J J J (Bs 3 J J J J .nil)))) XR
    ·refine S_index Tk J J J J J J (by omega) (by simp) ?_
     refine S_valV J J J (V_loadR (o := 0) Tk 1005 J J J J J) ?_;refine Va J J ?_;refine Ds J J J ?_;refine Da J J ?_;refine Nt 8 J J J J J J fun back => ?_;refine S_tailO Tk 1005 J J J J J J (fun _ => J) fun A' => ?_;refine back _ _ _ _ (by kernel_rfl) ?_; clear back
     refine Da J J ?_;refine Ns 10 J J J J J J J J J ?_;refine DD ?_;refine Va J J ?_;exact RK (wKeys 3) (Res.c1 Tk Tryz.results86 J J) ⟨_, _, J, J, signal_tds (W := ⟨_, _, _, _, _, _, _, _, _⟩) _ ht⟩ (Wvp [_, _, _] kg spg J ‹_› J J J J J J J J J) J (Wsub 15 J J J J J J J J J J J J J J J J (Bs 3 J J J J (Bs 3 J J J J (Bs 3 J J J J .nil)))) XR
    ·refine S_index Tk J J J J J J (by omega) (by simp) ?_
     refine S_valV J J J (V_loadR (o := 0) Tk 1005 J J J J J) ?_;refine Va J J ?_;refine Ds J J J ?_;refine Da J J ?_;refine Nt 8 J J J J J J fun back => ?_;refine S_tailO Tk 1005 J J J J J J (fun _ => J) fun A' => ?_;refine back _ _ _ _ (by kernel_rfl) ?_; clear back
     refine Da J J ?_;refine Ns 10 J J J J J J J J J ?_;refine DD ?_;refine Va J J ?_;exact RK (wKeys 3) (Res.c1 Tk Tryz.results86 J J) ⟨_, _, J, J, signal_tds (W := ⟨_, _, _, _, _, _, _, _, _⟩) _ ht⟩ (Wvp [_, _, _] kg spg J ‹_› J J J J J J J J J) J (Wsub 15 J J J J J J J J J J J J J J J J (Bs 3 J J J J (Bs 3 J J J J (Bs 3 J J J J .nil)))) XR
  ·rcases hQ : q1 with _ | ⟨f, r⟩
   ·subst hQ
    refine OvV 1 0 J J J J fun bp bc br bs bg kp sp asd ksd aq0 kq0 aq1 kq1 kc spc kr spr ks sps kg spg hbg hmk hce => ?_; subst hce; obtain ⟨g0, g1, g2, rfl⟩ := len3 hbg; clear hbg; refine NM J J ?_; dsimp only [wEnts, wCels, procCs, regEs, WX.of, vi]
    refine Va J J ?_;refine S_box J J J J J fun b2 => ?_;refine Va J J ?_;refine AZ ZT_ok J J J J fun b4 => ?_;refine Va J J ?_;refine RT J J ?_;refine Va J J ?_;exact RK (wKeys 3) (Res.c1 Tk Tryz.results86 J J) ⟨_, _, J, J, signal_tds (W := ⟨_, _, _, _, _, _, _, _, _⟩) _ ht⟩ (Wvp [_, _, _] kg spg J ‹_› J J J J J J J J J) J (Wsub 15 J J J J J J J J J J J J J J J J (Bs 3 J J J J (Bs 3 J J J J (Bs 3 J J J J .nil)))) XR
   ·subst hQ
    have hf := hf1 f (List.mem_cons_self ..)
    refine OvV 1 0 J J J J fun bp bc br bs bg kp sp asd ksd aq0 kq0 aq1 kq1 kc spc kr spr ks sps kg spg hbg hmk hce => ?_; subst hce; obtain ⟨g0, g1, g2, rfl⟩ := len3 hbg; clear hbg; refine NM J J ?_; dsimp only [wEnts, wCels, procCs, regEs, WX.of, vi]
    refine Va J J ?_;refine S_box J J J J J fun b2 => ?_;refine Va J J ?_;refine AZ ZT_ok J J J J fun b4 => ?_;refine Va J J ?_
    refine RF J (by simp <;> omega) ?_
    refine Va J J ?_;refine S_capO 1006 J fun hnc0 _ _ => ?_;refine S_someO 1006 J (by simp at hnc0; omega) fun gq offq hAq => ?_
    subst hAq
    rcases (by simp at hf; omega : f = 0 ∨ f = 1 ∨ f = 2) with rfl | rfl | rfl
    ·refine S_index Tk J J J J J J (by omega) (by simp) ?_
     refine S_valV J J J (V_loadR (o := 0) Tk 1006 J J J J J) ?_;refine Va J J ?_;refine Ds J J J ?_;refine Da J J ?_;refine Nt 8 J J J J J J fun back => ?_;refine S_tailO Tk 1006 J J J J J J (fun _ => J) fun A' => ?_;refine back _ _ _ _ (by kernel_rfl) ?_; clear back
     refine Da J J ?_;refine Ns 10 J J J J J J J J J ?_;refine DD ?_;refine Va J J ?_;exact RK (wKeys 3) (Res.c1 Tk Tryz.results86 J J) ⟨_, _, J, J, signal_tds (W := ⟨_, _, _, _, _, _, _, _, _⟩) _ ht⟩ (Wvp [_, _, _] kg spg J ‹_› J J J J J J J J J) J (Wsub 15 J J J J J J J J J J J J J J J J (Bs 3 J J J J (Bs 3 J J J J (Bs 3 J J J J .nil)))) XR
    ·refine S_index Tk J J J J J J (by omega) (by simp) ?_
     refine S_valV J J J (V_loadR (o := 0) Tk 1006 J J J J J) ?_;refine Va J J ?_;refine Ds J J J ?_;refine Da J J ?_;refine Nt 8 J J J J J J fun back => ?_;refine S_tailO Tk 1006 J J J J J J (fun _ => J) fun A' => ?_;refine back _ _ _ _ (by kernel_rfl) ?_; clear back
     refine Da J J ?_;refine Ns 10 J J J J J J J J J ?_;refine DD ?_;refine Va J J ?_;exact RK (wKeys 3) (Res.c1 Tk Tryz.results86 J J) ⟨_, _, J, J, signal_tds (W := ⟨_, _, _, _, _, _, _, _, _⟩) _ ht⟩ (Wvp [_, _, _] kg spg J ‹_› J J J J J J J J J) J (Wsub 15 J J J J J J J J J J J J J J J J (Bs 3 J J J J (Bs 3 J J J J (Bs 3 J J J J .nil)))) XR
    ·refine S_index Tk J J J J J J (by omega) (by simp) ?_
     refine S_valV J J J (V_loadR (o := 0) Tk 1006 J J J J J) ?_;refine Va J J ?_;refine Ds J J J ?_;refine Da J J ?_;refine Nt 8 J J J J J J fun back => ?_;refine S_tailO Tk 1006 J J J J J J (fun _ => J) fun A' => ?_;refine back _ _ _ _ (by kernel_rfl) ?_; clear back
     refine Da J J ?_;refine Ns 10 J J J J J J J J J ?_;refine DD ?_;refine Va J J ?_;exact RK (wKeys 3) (Res.c1 Tk Tryz.results86 J J) ⟨_, _, J, J, signal_tds (W := ⟨_, _, _, _, _, _, _, _, _⟩) _ ht⟩ (Wvp [_, _, _] kg spg J ‹_› J J J J J J J J J) J (Wsub 15 J J J J J J J J J J J J J J J J (Bs 3 J J J J (Bs 3 J J J J (Bs 3 J J J J .nil)))) XR
end
section
attribute [local irreducible] X Pure Mod
def Wld.leaf (W : Wld) (who : Nat) (s : Stm) : Wld :=
 if s.kind = 1 then W.upd who (·.set s.a s.n)
 else if s.kind = 2 then W.upd who (fun p => p.set s.a (numDo s.n (p.get s.a) (p.get s.b)).1)
 else if s.kind = 3 then W.upd who (·.set s.a (W.cell s.b))
 else if s.kind = 4 then W.setCell s.a (W.reg who s.b)
 else if s.kind = 5 then { W with said := W.said ++ [((who : Int), W.reg who s.a)] }
 else W
theorem leaf_tds {G : PH} {W : Wld} {ts : List Value} (who : Nat) (s : Stm) (h : Tds G W.procs ts) : Tds G (W.leaf who s).procs ts := by
 unfold Wld.leaf
 split
 ·exact upd_tds (fun p => Prc.set_todo _ _ _) h
 split
 ·exact upd_tds (fun p => Prc.set_todo _ _ _) h
 split
 ·exact upd_tds (fun p => Prc.set_todo _ _ _) h
 split
 ·rw [setCell_procs]; exact h
 split
 ·exact h
 ·exact h
theorem c_l3Leaf (W : Wld) (who : Nat) (cs : List Value) (ts : List Value) (G : PH) (h1 : 1 ≤ W.procs.length) (h3 : W.procs.length ≤ 3) (ht : Tds G W.procs ts) (hw : who < W.procs.length) (hsd : W.said.length ≤ 1000000) (k a bb n : Int) (x y : List Stm) (A1 : Option Addr) (n1 c1 : Nat) (A2 : Option Addr) (n2 c2 : Nat) (q1' : k = 1 ∨ k = 5 → is3 a) (q2' : k = 2 ∨ k = 3 ∨ k = 4 → is3 a ∧ is3 bb) :
  Mod Tryz.prog 75 [.agg cs.toArray, .int .i64 (who : Nat), .agg #[.int .i64 k, .int .i64 a, .int .i64 bb, .int .i64 n, .slice A1 n1 c1, .slice A2 n2 c2]] G (worldV cs W ts) (VPost (W.leaf who (.mk k a bb n x y))) := by
 refine Mod.intro Tryz.func75 Tryz.ntmps75 J J fun w S => ?_;obtain ⟨ps, x0, x1, x2, m0, m1, q0, q1, sd⟩ := W
 replace hsd : sd.length ≤ 1000000 := hsd
 rcases shape h1 h3 ht with ⟨⟨a0, a1, a2, td0, mo0, on0, ro0⟩, A0, k0, rfl, rfl, s0⟩ | ⟨⟨a0, a1, a2, td0, mo0, on0, ro0⟩, A0, k0, ⟨b0, b1, b2, td1, mo1, on1, ro1⟩, A1, k1, rfl, rfl, s0, s1⟩ | ⟨⟨a0, a1, a2, td0, mo0, on0, ro0⟩, A0, k0, ⟨b0, b1, b2, td1, mo1, on1, ro1⟩, A1, k1, ⟨d0, d1, d2, td2, mo2, on2, ro2⟩, A2, k2, rfl, rfl, s0, s1, s2⟩
 ·obtain rfl : who = 0 := by simpa using hw
  refine OvV 1 0 J J J J fun bp bc br bs bg kp sp asd ksd aq0 kq0 aq1 kq1 kc spc kr spr ks sps kg spg hbg hmk hce => ?_; subst hce; obtain ⟨g0, rfl⟩ := len1 hbg; clear hbg; refine NM J J ?_; dsimp only [wEnts, wCels, procCs, regEs, WX.of, vi]
  refine Va J J ?_;refine S_box J J J J J fun b3 => ?_;refine Va J J ?_;refine S_box J J J J J fun b5 => ?_;refine Va J J ?_;refine AZ ZT_ok J J J J fun b6 => ?_;refine Va J J ?_
  by_cases e1 : k = 1
  ·subst e1
   rcases q1' (.inl rfl) with rfl | rfl | rfl <;>
   ·refine RT J J ?_
    refine Va J J ?_;exact RK (wKeys 1) (Res.c1 Tk Tryz.results75 J J) ⟨_, _, J, J, leaf_tds (W := ⟨_, _, _, _, _, _, _, _, _⟩) _ (.mk _ _ _ _ x y) ht⟩ (Wvp [_] kg spg J ‹_› J J J J J J J J J) J (Wsub 5 J J J J J J J J J J J J J J J J (Bs 3 J J J J .nil)) XR
  refine RF J (by simp [e1]) ?_;refine Va J J ?_
  by_cases e2 : k = 2
  ·subst e2
   obtain ⟨ha, hb⟩ := q2' (.inl rfl)
   rcases ha with rfl | rfl | rfl <;> rcases hb with rfl | rfl | rfl <;>
   ·refine RT J J ?_
    refine Va J J ?_;refine Ds J J J ?_;refine Da J J ?_;refine D_sole 12 J J (N_call 12 Tryz.call87 (c_NumDo _ _ _ _) J J J J J J J J J J ?_)
    rintro v G' ⟨rfl, rfl⟩ _
    refine Da J J ?_;refine DD ?_;refine Va J J ?_;exact RK (wKeys 1) (Res.c1 Tk Tryz.results75 J J) ⟨_, _, J, J, leaf_tds (W := ⟨_, _, _, _, _, _, _, _, _⟩) _ (.mk _ _ _ _ x y) ht⟩ (Wvp [_] kg spg J ‹_› J J J J J J J J J) J (Wsub 5 J J J J J J J J J J J J J J J J (Bs 3 J J J J .nil)) XR
  refine RF J (by simp [e2]) ?_;refine Va J J ?_
  by_cases e3 : k = 3
  ·subst e3
   obtain ⟨ha, hb⟩ := q2' (.inr (.inl rfl))
   rcases ha with rfl | rfl | rfl <;> rcases hb with rfl | rfl | rfl <;>
   ·refine RT J J ?_
    refine Va J J ?_;refine Ds J J J ?_;refine Da J J ?_;refine Ns 10 J J J J J J J J J ?_;refine DD ?_;refine Va J J ?_;exact RK (wKeys 1) (Res.c1 Tk Tryz.results75 J J) ⟨_, _, J, J, leaf_tds (W := ⟨_, _, _, _, _, _, _, _, _⟩) _ (.mk _ _ _ _ x y) ht⟩ (Wvp [_] kg spg J ‹_› J J J J J J J J J) J (Wsub 5 J J J J J J J J J J J J J J J J (Bs 3 J J J J .nil)) XR
  refine RF J (by simp [e3]) ?_;refine Va J J ?_
  by_cases e4 : k = 4
  ·subst e4
   obtain ⟨ha, hb⟩ := q2' (.inr (.inr rfl))
   rcases ha with rfl | rfl | rfl <;> rcases hb with rfl | rfl | rfl <;>
   ·refine RT J J ?_
    refine Va J J ?_;refine Ds J J J ?_;refine Da J J ?_;refine Ns 10 J J J J J J J J J ?_;refine DD ?_;refine Va J J ?_;exact RK (wKeys 1) (Res.c1 Tk Tryz.results75 J J) ⟨_, _, J, J, leaf_tds (W := ⟨_, _, _, _, _, _, _, _, _⟩) _ (.mk _ _ _ _ x y) ht⟩ (Wvp [_] kg spg J ‹_› J J J J J J J J J) J (Wsub 5 J J J J J J J J J J J J J J J J (Bs 3 J J J J .nil)) XR
  refine RF J (by simp [e4]) ?_;refine Va J J ?_
  by_cases e5 : k = 5
  ·subst e5
   rcases q1' (.inr rfl) with rfl | rfl | rfl <;>
   ·refine RT J J ?_
    refine Va J J ?_;refine Ds J J J ?_;refine Da J J ?_;refine Nt 9 J J J J J J fun back => ?_;refine S_slice Tk ZT_ok J J J J (by decide) (by decide) J J J J fun b84 => ?_;refine back _ _ _ _ (by kernel_rfl) ?_; clear back
    refine Da J J ?_;refine Nt 10 J J J J J J fun back => ?_;refine S_appSaid Tk 1004 84 J J J J J J J J J J J J J (fun _ _ => J) hsd fun A' c' => ?_;refine back _ _ _ _ (by kernel_rfl) ?_; clear back
    refine Da J J ?_;refine Ns 12 J J J J J J J J J ?_;refine DD ?_;refine Va J J ?_;exact RK (wKeys 1) (Res.c1 Tk Tryz.results75 J J) ⟨_, _, J, J, leaf_tds (W := ⟨_, _, _, _, _, _, _, _, _⟩) _ (.mk _ _ _ _ x y) ht⟩ (Wvp [_] kg spg J ‹_› J J J J J J J J J) J (Wsub 5 J J J J J J J J J J J J J J J J (Bs 3 J J J J .nil)) XR
  refine RF J (by simp [e5]) ?_;refine Va J J ?_
  have hlf : ∀ W : Wld, ∀ w : Nat, W.leaf w (.mk k a bb n x y) = W := fun W w => by simp [Wld.leaf, Stm.kind, e1, e2, e3, e4, e5]
  rw [hlf]
  exact RK (wKeys 1) (Res.c1 Tk Tryz.results75 J J) ⟨_, _, J, J, ht⟩ (Wvp [_] kg spg J ‹_› J J J J J J J J J) J (Wsub 5 J J J J J J J J J J J J J J J J (Bs 3 J J J J .nil)) XR
 ·rcases (by simp at hw; omega : who = 0 ∨ who = 1) with rfl | rfl
  ·refine OvV 1 0 J J J J fun bp bc br bs bg kp sp asd ksd aq0 kq0 aq1 kq1 kc spc kr spr ks sps kg spg hbg hmk hce => ?_; subst hce; obtain ⟨g0, g1, rfl⟩ := len2 hbg; clear hbg; refine NM J J ?_; dsimp only [wEnts, wCels, procCs, regEs, WX.of, vi]
   refine Va J J ?_;refine S_box J J J J J fun b3 => ?_;refine Va J J ?_;refine S_box J J J J J fun b5 => ?_;refine Va J J ?_;refine AZ ZT_ok J J J J fun b6 => ?_;refine Va J J ?_
   by_cases e1 : k = 1
   ·subst e1
    rcases q1' (.inl rfl) with rfl | rfl | rfl <;>
    ·refine RT J J ?_
     refine Va J J ?_;exact RK (wKeys 2) (Res.c1 Tk Tryz.results75 J J) ⟨_, _, J, J, leaf_tds (W := ⟨_, _, _, _, _, _, _, _, _⟩) _ (.mk _ _ _ _ x y) ht⟩ (Wvp [_, _] kg spg J ‹_› J J J J J J J J J) J (Wsub 10 J J J J J J J J J J J J J J J J (Bs 3 J J J J (Bs 3 J J J J .nil))) XR
   refine RF J (by simp [e1]) ?_;refine Va J J ?_
   by_cases e2 : k = 2
   ·subst e2
    obtain ⟨ha, hb⟩ := q2' (.inl rfl)
    rcases ha with rfl | rfl | rfl <;> rcases hb with rfl | rfl | rfl <;>
    ·refine RT J J ?_
     refine Va J J ?_;refine Ds J J J ?_;refine Da J J ?_;refine D_sole 12 J J (N_call 12 Tryz.call87 (c_NumDo _ _ _ _) J J J J J J J J J J ?_)
     rintro v G' ⟨rfl, rfl⟩ _
     refine Da J J ?_;refine DD ?_;refine Va J J ?_;exact RK (wKeys 2) (Res.c1 Tk Tryz.results75 J J) ⟨_, _, J, J, leaf_tds (W := ⟨_, _, _, _, _, _, _, _, _⟩) _ (.mk _ _ _ _ x y) ht⟩ (Wvp [_, _] kg spg J ‹_› J J J J J J J J J) J (Wsub 10 J J J J J J J J J J J J J J J J (Bs 3 J J J J (Bs 3 J J J J .nil))) XR
   refine RF J (by simp [e2]) ?_;refine Va J J ?_
   by_cases e3 : k = 3
   ·subst e3
    obtain ⟨ha, hb⟩ := q2' (.inr (.inl rfl))
    rcases ha with rfl | rfl | rfl <;> rcases hb with rfl | rfl | rfl <;>
    ·refine RT J J ?_
     refine Va J J ?_;refine Ds J J J ?_;refine Da J J ?_;refine Ns 10 J J J J J J J J J ?_;refine DD ?_;refine Va J J ?_;exact RK (wKeys 2) (Res.c1 Tk Tryz.results75 J J) ⟨_, _, J, J, leaf_tds (W := ⟨_, _, _, _, _, _, _, _, _⟩) _ (.mk _ _ _ _ x y) ht⟩ (Wvp [_, _] kg spg J ‹_› J J J J J J J J J) J (Wsub 10 J J J J J J J J J J J J J J J J (Bs 3 J J J J (Bs 3 J J J J .nil))) XR
   refine RF J (by simp [e3]) ?_;refine Va J J ?_
   by_cases e4 : k = 4
   ·subst e4
    obtain ⟨ha, hb⟩ := q2' (.inr (.inr rfl))
    rcases ha with rfl | rfl | rfl <;> rcases hb with rfl | rfl | rfl <;>
    ·refine RT J J ?_
     refine Va J J ?_;refine Ds J J J ?_;refine Da J J ?_;refine Ns 10 J J J J J J J J J ?_;refine DD ?_;refine Va J J ?_;exact RK (wKeys 2) (Res.c1 Tk Tryz.results75 J J) ⟨_, _, J, J, leaf_tds (W := ⟨_, _, _, _, _, _, _, _, _⟩) _ (.mk _ _ _ _ x y) ht⟩ (Wvp [_, _] kg spg J ‹_› J J J J J J J J J) J (Wsub 10 J J J J J J J J J J J J J J J J (Bs 3 J J J J (Bs 3 J J J J .nil))) XR
   refine RF J (by simp [e4]) ?_;refine Va J J ?_
   by_cases e5 : k = 5
   ·subst e5
    rcases q1' (.inr rfl) with rfl | rfl | rfl <;>
    ·refine RT J J ?_
     refine Va J J ?_;refine Ds J J J ?_;refine Da J J ?_;refine Nt 9 J J J J J J fun back => ?_;refine S_slice Tk ZT_ok J J J J (by decide) (by decide) J J J J fun b84 => ?_;refine back _ _ _ _ (by kernel_rfl) ?_; clear back
     refine Da J J ?_;refine Nt 10 J J J J J J fun back => ?_;refine S_appSaid Tk 1004 84 J J J J J J J J J J J J J (fun _ _ => J) hsd fun A' c' => ?_;refine back _ _ _ _ (by kernel_rfl) ?_; clear back
     refine Da J J ?_;refine Ns 12 J J J J J J J J J ?_;refine DD ?_;refine Va J J ?_;exact RK (wKeys 2) (Res.c1 Tk Tryz.results75 J J) ⟨_, _, J, J, leaf_tds (W := ⟨_, _, _, _, _, _, _, _, _⟩) _ (.mk _ _ _ _ x y) ht⟩ (Wvp [_, _] kg spg J ‹_› J J J J J J J J J) J (Wsub 10 J J J J J J J J J J J J J J J J (Bs 3 J J J J (Bs 3 J J J J .nil))) XR
   refine RF J (by simp [e5]) ?_;refine Va J J ?_
   have hlf : ∀ W : Wld, ∀ w : Nat, W.leaf w (.mk k a bb n x y) = W := fun W w => by simp [Wld.leaf, Stm.kind, e1, e2, e3, e4, e5]
   rw [hlf]
   exact RK (wKeys 2) (Res.c1 Tk Tryz.results75 J J) ⟨_, _, J, J, ht⟩ (Wvp [_, _] kg spg J ‹_› J J J J J J J J J) J (Wsub 10 J J J J J J J J J J J J J J J J (Bs 3 J J J J (Bs 3 J J J J .nil))) XR
  ·refine OvV 1 0 J J J J fun bp bc br bs bg kp sp asd ksd aq0 kq0 aq1 kq1 kc spc kr spr ks sps kg spg hbg hmk hce => ?_; subst hce; obtain ⟨g0, g1, rfl⟩ := len2 hbg; clear hbg; refine NM J J ?_; dsimp only [wEnts, wCels, procCs, regEs, WX.of, vi]
   refine Va J J ?_;refine S_box J J J J J fun b3 => ?_;refine Va J J ?_;refine S_box J J J J J fun b5 => ?_;refine Va J J ?_;refine AZ ZT_ok J J J J fun b6 => ?_;refine Va J J ?_
   by_cases e1 : k = 1
   ·subst e1
    rcases q1' (.inl rfl) with rfl | rfl | rfl <;>
    ·refine RT J J ?_
     refine Va J J ?_;exact RK (wKeys 2) (Res.c1 Tk Tryz.results75 J J) ⟨_, _, J, J, leaf_tds (W := ⟨_, _, _, _, _, _, _, _, _⟩) _ (.mk _ _ _ _ x y) ht⟩ (Wvp [_, _] kg spg J ‹_› J J J J J J J J J) J (Wsub 10 J J J J J J J J J J J J J J J J (Bs 3 J J J J (Bs 3 J J J J .nil))) XR
   refine RF J (by simp [e1]) ?_;refine Va J J ?_
   by_cases e2 : k = 2
   ·subst e2
    obtain ⟨ha, hb⟩ := q2' (.inl rfl)
    rcases ha with rfl | rfl | rfl <;> rcases hb with rfl | rfl | rfl <;>
    ·refine RT J J ?_
     refine Va J J ?_;refine Ds J J J ?_;refine Da J J ?_;refine D_sole 12 J J (N_call 12 Tryz.call87 (c_NumDo _ _ _ _) J J J J J J J J J J ?_)
     rintro v G' ⟨rfl, rfl⟩ _
     refine Da J J ?_;refine DD ?_;refine Va J J ?_;exact RK (wKeys 2) (Res.c1 Tk Tryz.results75 J J) ⟨_, _, J, J, leaf_tds (W := ⟨_, _, _, _, _, _, _, _, _⟩) _ (.mk _ _ _ _ x y) ht⟩ (Wvp [_, _] kg spg J ‹_› J J J J J J J J J) J (Wsub 10 J J J J J J J J J J J J J J J J (Bs 3 J J J J (Bs 3 J J J J .nil))) XR
   refine RF J (by simp [e2]) ?_;refine Va J J ?_
   by_cases e3 : k = 3
   ·subst e3
    obtain ⟨ha, hb⟩ := q2' (.inr (.inl rfl))
    rcases ha with rfl | rfl | rfl <;> rcases hb with rfl | rfl | rfl <;>
    ·refine RT J J ?_
     refine Va J J ?_;refine Ds J J J ?_;refine Da J J ?_;refine Ns 10 J J J J J J J J J ?_;refine DD ?_;refine Va J J ?_;exact RK (wKeys 2) (Res.c1 Tk Tryz.results75 J J) ⟨_, _, J, J, leaf_tds (W := ⟨_, _, _, _, _, _, _, _, _⟩) _ (.mk _ _ _ _ x y) ht⟩ (Wvp [_, _] kg spg J ‹_› J J J J J J J J J) J (Wsub 10 J J J J J J J J J J J J J J J J (Bs 3 J J J J (Bs 3 J J J J .nil))) XR
   refine RF J (by simp [e3]) ?_;refine Va J J ?_
   by_cases e4 : k = 4
   ·subst e4
    obtain ⟨ha, hb⟩ := q2' (.inr (.inr rfl))
    rcases ha with rfl | rfl | rfl <;> rcases hb with rfl | rfl | rfl <;>
    ·refine RT J J ?_
     refine Va J J ?_;refine Ds J J J ?_;refine Da J J ?_;refine Ns 10 J J J J J J J J J ?_;refine DD ?_;refine Va J J ?_;exact RK (wKeys 2) (Res.c1 Tk Tryz.results75 J J) ⟨_, _, J, J, leaf_tds (W := ⟨_, _, _, _, _, _, _, _, _⟩) _ (.mk _ _ _ _ x y) ht⟩ (Wvp [_, _] kg spg J ‹_› J J J J J J J J J) J (Wsub 10 J J J J J J J J J J J J J J J J (Bs 3 J J J J (Bs 3 J J J J .nil))) XR
   refine RF J (by simp [e4]) ?_;refine Va J J ?_
   by_cases e5 : k = 5
   ·subst e5
    rcases q1' (.inr rfl) with rfl | rfl | rfl <;>
    ·refine RT J J ?_
     refine Va J J ?_;refine Ds J J J ?_;refine Da J J ?_;refine Nt 9 J J J J J J fun back => ?_;refine S_slice Tk ZT_ok J J J J (by decide) (by decide) J J J J fun b84 => ?_;refine back _ _ _ _ (by kernel_rfl) ?_; clear back
     refine Da J J ?_;refine Nt 10 J J J J J J fun back => ?_;refine S_appSaid Tk 1004 84 J J J J J J J J J J J J J (fun _ _ => J) hsd fun A' c' => ?_;refine back _ _ _ _ (by kernel_rfl) ?_; clear back
     refine Da J J ?_;refine Ns 12 J J J J J J J J J ?_;refine DD ?_;refine Va J J ?_;exact RK (wKeys 2) (Res.c1 Tk Tryz.results75 J J) ⟨_, _, J, J, leaf_tds (W := ⟨_, _, _, _, _, _, _, _, _⟩) _ (.mk _ _ _ _ x y) ht⟩ (Wvp [_, _] kg spg J ‹_› J J J J J J J J J) J (Wsub 10 J J J J J J J J J J J J J J J J (Bs 3 J J J J (Bs 3 J J J J .nil))) XR
   refine RF J (by simp [e5]) ?_;refine Va J J ?_
   have hlf : ∀ W : Wld, ∀ w : Nat, W.leaf w (.mk k a bb n x y) = W := fun W w => by simp [Wld.leaf, Stm.kind, e1, e2, e3, e4, e5]
   rw [hlf]
   exact RK (wKeys 2) (Res.c1 Tk Tryz.results75 J J) ⟨_, _, J, J, ht⟩ (Wvp [_, _] kg spg J ‹_› J J J J J J J J J) J (Wsub 10 J J J J J J J J J J J J J J J J (Bs 3 J J J J (Bs 3 J J J J .nil))) XR
 ·rcases (by simp at hw; omega : who = 0 ∨ who = 1 ∨ who = 2) with rfl | rfl | rfl
  ·refine OvV 1 0 J J J J fun bp bc br bs bg kp sp asd ksd aq0 kq0 aq1 kq1 kc spc kr spr ks sps kg spg hbg hmk hce => ?_; subst hce; obtain ⟨g0, g1, g2, rfl⟩ := len3 hbg; clear hbg; refine NM J J ?_; dsimp only [wEnts, wCels, procCs, regEs, WX.of, vi]
   refine Va J J ?_;refine S_box J J J J J fun b3 => ?_;refine Va J J ?_;refine S_box J J J J J fun b5 => ?_;refine Va J J ?_;refine AZ ZT_ok J J J J fun b6 => ?_;refine Va J J ?_
   by_cases e1 : k = 1
   ·subst e1
    rcases q1' (.inl rfl) with rfl | rfl | rfl <;>
    ·refine RT J J ?_
     refine Va J J ?_;exact RK (wKeys 3) (Res.c1 Tk Tryz.results75 J J) ⟨_, _, J, J, leaf_tds (W := ⟨_, _, _, _, _, _, _, _, _⟩) _ (.mk _ _ _ _ x y) ht⟩ (Wvp [_, _, _] kg spg J ‹_› J J J J J J J J J) J (Wsub 15 J J J J J J J J J J J J J J J J (Bs 3 J J J J (Bs 3 J J J J (Bs 3 J J J J .nil)))) XR
   refine RF J (by simp [e1]) ?_;refine Va J J ?_
   by_cases e2 : k = 2
   ·subst e2
    obtain ⟨ha, hb⟩ := q2' (.inl rfl)
    rcases ha with rfl | rfl | rfl <;> rcases hb with rfl | rfl | rfl <;>
    ·refine RT J J ?_
     refine Va J J ?_;refine Ds J J J ?_;refine Da J J ?_;refine D_sole 12 J J (N_call 12 Tryz.call87 (c_NumDo _ _ _ _) J J J J J J J J J J ?_)
     rintro v G' ⟨rfl, rfl⟩ _
     refine Da J J ?_;refine DD ?_;refine Va J J ?_;exact RK (wKeys 3) (Res.c1 Tk Tryz.results75 J J) ⟨_, _, J, J, leaf_tds (W := ⟨_, _, _, _, _, _, _, _, _⟩) _ (.mk _ _ _ _ x y) ht⟩ (Wvp [_, _, _] kg spg J ‹_› J J J J J J J J J) J (Wsub 15 J J J J J J J J J J J J J J J J (Bs 3 J J J J (Bs 3 J J J J (Bs 3 J J J J .nil)))) XR
   refine RF J (by simp [e2]) ?_;refine Va J J ?_
   by_cases e3 : k = 3
   ·subst e3
    obtain ⟨ha, hb⟩ := q2' (.inr (.inl rfl))
    rcases ha with rfl | rfl | rfl <;> rcases hb with rfl | rfl | rfl <;>
    ·refine RT J J ?_
     refine Va J J ?_;refine Ds J J J ?_;refine Da J J ?_;refine Ns 10 J J J J J J J J J ?_;refine DD ?_;refine Va J J ?_;exact RK (wKeys 3) (Res.c1 Tk Tryz.results75 J J) ⟨_, _, J, J, leaf_tds (W := ⟨_, _, _, _, _, _, _, _, _⟩) _ (.mk _ _ _ _ x y) ht⟩ (Wvp [_, _, _] kg spg J ‹_› J J J J J J J J J) J (Wsub 15 J J J J J J J J J J J J J J J J (Bs 3 J J J J (Bs 3 J J J J (Bs 3 J J J J .nil)))) XR
   refine RF J (by simp [e3]) ?_;refine Va J J ?_
   by_cases e4 : k = 4
   ·subst e4
    obtain ⟨ha, hb⟩ := q2' (.inr (.inr rfl))
    rcases ha with rfl | rfl | rfl <;> rcases hb with rfl | rfl | rfl <;>
    ·refine RT J J ?_
     refine Va J J ?_;refine Ds J J J ?_;refine Da J J ?_;refine Ns 10 J J J J J J J J J ?_;refine DD ?_;refine Va J J ?_;exact RK (wKeys 3) (Res.c1 Tk Tryz.results75 J J) ⟨_, _, J, J, leaf_tds (W := ⟨_, _, _, _, _, _, _, _, _⟩) _ (.mk _ _ _ _ x y) ht⟩ (Wvp [_, _, _] kg spg J ‹_› J J J J J J J J J) J (Wsub 15 J J J J J J J J J J J J J J J J (Bs 3 J J J J (Bs 3 J J J J (Bs 3 J J J J .nil)))) XR
   refine RF J (by simp [e4]) ?_;refine Va J J ?_
   by_cases e5 : k = 5
   ·subst e5
    rcases q1' (.inr rfl) with rfl | rfl | rfl <;>
    ·refine RT J J ?_
     refine Va J J ?_;refine Ds J J J ?_;refine Da J J ?_;refine Nt 9 J J J J J J fun back => ?_;refine S_slice Tk ZT_ok J J J J (by decide) (by decide) J J J J fun b84 => ?_;refine back _ _ _ _ (by kernel_rfl) ?_; clear back
     refine Da J J ?_;refine Nt 10 J J J J J J fun back => ?_;refine S_appSaid Tk 1004 84 J J J J J J J J J J J J J (fun _ _ => J) hsd fun A' c' => ?_;refine back _ _ _ _ (by kernel_rfl) ?_; clear back
     refine Da J J ?_;refine Ns 12 J J J J J J J J J ?_;refine DD ?_;refine Va J J ?_;exact RK (wKeys 3) (Res.c1 Tk Tryz.results75 J J) ⟨_, _, J, J, leaf_tds (W := ⟨_, _, _, _, _, _, _, _, _⟩) _ (.mk _ _ _ _ x y) ht⟩ (Wvp [_, _, _] kg spg J ‹_› J J J J J J J J J) J (Wsub 15 J J J J J J J J J J J J J J J J (Bs 3 J J J J (Bs 3 J J J J (Bs 3 J J J J .nil)))) XR
   refine RF J (by simp [e5]) ?_;refine Va J J ?_
   have hlf : ∀ W : Wld, ∀ w : Nat, W.leaf w (.mk k a bb n x y) = W := fun W w => by simp [Wld.leaf, Stm.kind, e1, e2, e3, e4, e5]
   rw [hlf]
   exact RK (wKeys 3) (Res.c1 Tk Tryz.results75 J J) ⟨_, _, J, J, ht⟩ (Wvp [_, _, _] kg spg J ‹_› J J J J J J J J J) J (Wsub 15 J J J J J J J J J J J J J J J J (Bs 3 J J J J (Bs 3 J J J J (Bs 3 J J J J .nil)))) XR
  ·refine OvV 1 0 J J J J fun bp bc br bs bg kp sp asd ksd aq0 kq0 aq1 kq1 kc spc kr spr ks sps kg spg hbg hmk hce => ?_; subst hce; obtain ⟨g0, g1, g2, rfl⟩ := len3 hbg; clear hbg; refine NM J J ?_; dsimp only [wEnts, wCels, procCs, regEs, WX.of, vi]
   refine Va J J ?_;refine S_box J J J J J fun b3 => ?_;refine Va J J ?_;refine S_box J J J J J fun b5 => ?_;refine Va J J ?_;refine AZ ZT_ok J J J J fun b6 => ?_;refine Va J J ?_
   by_cases e1 : k = 1
   ·subst e1
    rcases q1' (.inl rfl) with rfl | rfl | rfl <;>
    ·refine RT J J ?_
     refine Va J J ?_;exact RK (wKeys 3) (Res.c1 Tk Tryz.results75 J J) ⟨_, _, J, J, leaf_tds (W := ⟨_, _, _, _, _, _, _, _, _⟩) _ (.mk _ _ _ _ x y) ht⟩ (Wvp [_, _, _] kg spg J ‹_› J J J J J J J J J) J (Wsub 15 J J J J J J J J J J J J J J J J (Bs 3 J J J J (Bs 3 J J J J (Bs 3 J J J J .nil)))) XR
   refine RF J (by simp [e1]) ?_;refine Va J J ?_
   by_cases e2 : k = 2
   ·subst e2
    obtain ⟨ha, hb⟩ := q2' (.inl rfl)
    rcases ha with rfl | rfl | rfl <;> rcases hb with rfl | rfl | rfl <;>
    ·refine RT J J ?_
     refine Va J J ?_;refine Ds J J J ?_;refine Da J J ?_;refine D_sole 12 J J (N_call 12 Tryz.call87 (c_NumDo _ _ _ _) J J J J J J J J J J ?_)
     rintro v G' ⟨rfl, rfl⟩ _
     refine Da J J ?_;refine DD ?_;refine Va J J ?_;exact RK (wKeys 3) (Res.c1 Tk Tryz.results75 J J) ⟨_, _, J, J, leaf_tds (W := ⟨_, _, _, _, _, _, _, _, _⟩) _ (.mk _ _ _ _ x y) ht⟩ (Wvp [_, _, _] kg spg J ‹_› J J J J J J J J J) J (Wsub 15 J J J J J J J J J J J J J J J J (Bs 3 J J J J (Bs 3 J J J J (Bs 3 J J J J .nil)))) XR
   refine RF J (by simp [e2]) ?_;refine Va J J ?_
   by_cases e3 : k = 3
   ·subst e3
    obtain ⟨ha, hb⟩ := q2' (.inr (.inl rfl))
    rcases ha with rfl | rfl | rfl <;> rcases hb with rfl | rfl | rfl <;>
    ·refine RT J J ?_
     refine Va J J ?_;refine Ds J J J ?_;refine Da J J ?_;refine Ns 10 J J J J J J J J J ?_;refine DD ?_;refine Va J J ?_;exact RK (wKeys 3) (Res.c1 Tk Tryz.results75 J J) ⟨_, _, J, J, leaf_tds (W := ⟨_, _, _, _, _, _, _, _, _⟩) _ (.mk _ _ _ _ x y) ht⟩ (Wvp [_, _, _] kg spg J ‹_› J J J J J J J J J) J (Wsub 15 J J J J J J J J J J J J J J J J (Bs 3 J J J J (Bs 3 J J J J (Bs 3 J J J J .nil)))) XR
   refine RF J (by simp [e3]) ?_;refine Va J J ?_
   by_cases e4 : k = 4
   ·subst e4
    obtain ⟨ha, hb⟩ := q2' (.inr (.inr rfl))
    rcases ha with rfl | rfl | rfl <;> rcases hb with rfl | rfl | rfl <;>
    ·refine RT J J ?_
     refine Va J J ?_;refine Ds J J J ?_;refine Da J J ?_;refine Ns 10 J J J J J J J J J ?_;refine DD ?_;refine Va J J ?_;exact RK (wKeys 3) (Res.c1 Tk Tryz.results75 J J) ⟨_, _, J, J, leaf_tds (W := ⟨_, _, _, _, _, _, _, _, _⟩) _ (.mk _ _ _ _ x y) ht⟩ (Wvp [_, _, _] kg spg J ‹_› J J J J J J J J J) J (Wsub 15 J J J J J J J J J J J J J J J J (Bs 3 J J J J (Bs 3 J J J J (Bs 3 J J J J .nil)))) XR
   refine RF J (by simp [e4]) ?_;refine Va J J ?_
   by_cases e5 : k = 5
   ·subst e5
    rcases q1' (.inr rfl) with rfl | rfl | rfl <;>
    ·refine RT J J ?_
     refine Va J J ?_;refine Ds J J J ?_;refine Da J J ?_;refine Nt 9 J J J J J J fun back => ?_;refine S_slice Tk ZT_ok J J J J (by decide) (by decide) J J J J fun b84 => ?_;refine back _ _ _ _ (by kernel_rfl) ?_; clear back
     refine Da J J ?_;refine Nt 10 J J J J J J fun back => ?_;refine S_appSaid Tk 1004 84 J J J J J J J J J J J J J (fun _ _ => J) hsd fun A' c' => ?_;refine back _ _ _ _ (by kernel_rfl) ?_; clear back
     refine Da J J ?_;refine Ns 12 J J J J J J J J J ?_;refine DD ?_;refine Va J J ?_;exact RK (wKeys 3) (Res.c1 Tk Tryz.results75 J J) ⟨_, _, J, J, leaf_tds (W := ⟨_, _, _, _, _, _, _, _, _⟩) _ (.mk _ _ _ _ x y) ht⟩ (Wvp [_, _, _] kg spg J ‹_› J J J J J J J J J) J (Wsub 15 J J J J J J J J J J J J J J J J (Bs 3 J J J J (Bs 3 J J J J (Bs 3 J J J J .nil)))) XR
   refine RF J (by simp [e5]) ?_;refine Va J J ?_
   have hlf : ∀ W : Wld, ∀ w : Nat, W.leaf w (.mk k a bb n x y) = W := fun W w => by simp [Wld.leaf, Stm.kind, e1, e2, e3, e4, e5]
   rw [hlf]
   exact RK (wKeys 3) (Res.c1 Tk Tryz.results75 J J) ⟨_, _, J, J, ht⟩ (Wvp [_, _, _] kg spg J ‹_› J J J J J J J J J) J (Wsub 15 J J J J J J J J J J J J J J J J (Bs 3 J J J J (Bs 3 J J J J (Bs 3 J J J J .nil)))) XR
  ·refine OvV 1 0 J J J J fun bp bc br bs bg kp sp asd ksd aq0 kq0 aq1 kq1 kc spc kr spr ks sps kg spg hbg hmk hce => ?_; subst hce; obtain ⟨g0, g1, g2, rfl⟩ := len3 hbg; clear hbg; refine NM J J ?_; dsimp only [wEnts, wCels, procCs, regEs, WX.of, vi]
   refine Va J J ?_;refine S_box J J J J J fun b3 => ?_;refine Va J J ?_;refine S_box J J J J J fun b5 => ?_;refine Va J J ?_;refine AZ ZT_ok J J J J fun b6 => ?_;refine Va J J ?_
   by_cases e1 : k = 1
   ·subst e1
    rcases q1' (.inl rfl) with rfl | rfl | rfl <;>
    ·refine RT J J ?_
     refine Va J J ?_;exact RK (wKeys 3) (Res.c1 Tk Tryz.results75 J J) ⟨_, _, J, J, leaf_tds (W := ⟨_, _, _, _, _, _, _, _, _⟩) _ (.mk _ _ _ _ x y) ht⟩ (Wvp [_, _, _] kg spg J ‹_› J J J J J J J J J) J (Wsub 15 J J J J J J J J J J J J J J J J (Bs 3 J J J J (Bs 3 J J J J (Bs 3 J J J J .nil)))) XR
   refine RF J (by simp [e1]) ?_;refine Va J J ?_
   by_cases e2 : k = 2
   ·subst e2
    obtain ⟨ha, hb⟩ := q2' (.inl rfl)
    rcases ha with rfl | rfl | rfl <;> rcases hb with rfl | rfl | rfl <;>
    ·refine RT J J ?_
     refine Va J J ?_;refine Ds J J J ?_;refine Da J J ?_;refine D_sole 12 J J (N_call 12 Tryz.call87 (c_NumDo _ _ _ _) J J J J J J J J J J ?_)
     rintro v G' ⟨rfl, rfl⟩ _
     refine Da J J ?_;refine DD ?_;refine Va J J ?_;exact RK (wKeys 3) (Res.c1 Tk Tryz.results75 J J) ⟨_, _, J, J, leaf_tds (W := ⟨_, _, _, _, _, _, _, _, _⟩) _ (.mk _ _ _ _ x y) ht⟩ (Wvp [_, _, _] kg spg J ‹_› J J J J J J J J J) J (Wsub 15 J J J J J J J J J J J J J J J J (Bs 3 J J J J (Bs 3 J J J J (Bs 3 J J J J .nil)))) XR
   refine RF J (by simp [e2]) ?_;refine Va J J ?_
   by_cases e3 : k = 3
   ·subst e3
    obtain ⟨ha, hb⟩ := q2' (.inr (.inl rfl))
    rcases ha with rfl | rfl | rfl <;> rcases hb with rfl | rfl | rfl <;>
    ·refine RT J J ?_
     refine Va J J ?_;refine Ds J J J ?_;refine Da J J ?_;refine Ns 10 J J J J J J J J J ?_;refine DD ?_;refine Va J J ?_;exact RK (wKeys 3) (Res.c1 Tk Tryz.results75 J J) ⟨_, _, J, J, leaf_tds (W := ⟨_, _, _, _, _, _, _, _, _⟩) _ (.mk _ _ _ _ x y) ht⟩ (Wvp [_, _, _] kg spg J ‹_› J J J J J J J J J) J (Wsub 15 J J J J J J J J J J J J J J J J (Bs 3 J J J J (Bs 3 J J J J (Bs 3 J J J J .nil)))) XR
   refine RF J (by simp [e3]) ?_;refine Va J J ?_
   by_cases e4 : k = 4
   ·subst e4
    obtain ⟨ha, hb⟩ := q2' (.inr (.inr rfl))
    rcases ha with rfl | rfl | rfl <;> rcases hb with rfl | rfl | rfl <;>
    ·refine RT J J ?_
     refine Va J J ?_;refine Ds J J J ?_;refine Da J J ?_;refine Ns 10 J J J J J J J J J ?_;refine DD ?_;refine Va J J ?_;exact RK (wKeys 3) (Res.c1 Tk Tryz.results75 J J) ⟨_, _, J, J, leaf_tds (W := ⟨_, _, _, _, _, _, _, _, _⟩) _ (.mk _ _ _ _ x y) ht⟩ (Wvp [_, _, _] kg spg J ‹_› J J J J J J J J J) J (Wsub 15 J J J J J J J J J J J J J J J J (Bs 3 J J J J (Bs 3 J J J J (Bs 3 J J J J .nil)))) XR
   refine RF J (by simp [e4]) ?_;refine Va J J ?_
   by_cases e5 : k = 5
   ·subst e5
    rcases q1' (.inr rfl) with rfl | rfl | rfl <;>
    ·refine RT J J ?_
     refine Va J J ?_;refine Ds J J J ?_;refine Da J J ?_;refine Nt 9 J J J J J J fun back => ?_;refine S_slice Tk ZT_ok J J J J (by decide) (by decide) J J J J fun b84 => ?_;refine back _ _ _ _ (by kernel_rfl) ?_; clear back
     refine Da J J ?_;refine Nt 10 J J J J J J fun back => ?_;refine S_appSaid Tk 1004 84 J J J J J J J J J J J J J (fun _ _ => J) hsd fun A' c' => ?_;refine back _ _ _ _ (by kernel_rfl) ?_; clear back
     refine Da J J ?_;refine Ns 12 J J J J J J J J J ?_;refine DD ?_;refine Va J J ?_;exact RK (wKeys 3) (Res.c1 Tk Tryz.results75 J J) ⟨_, _, J, J, leaf_tds (W := ⟨_, _, _, _, _, _, _, _, _⟩) _ (.mk _ _ _ _ x y) ht⟩ (Wvp [_, _, _] kg spg J ‹_› J J J J J J J J J) J (Wsub 15 J J J J J J J J J J J J J J J J (Bs 3 J J J J (Bs 3 J J J J (Bs 3 J J J J .nil)))) XR
   refine RF J (by simp [e5]) ?_;refine Va J J ?_
   have hlf : ∀ W : Wld, ∀ w : Nat, W.leaf w (.mk k a bb n x y) = W := fun W w => by simp [Wld.leaf, Stm.kind, e1, e2, e3, e4, e5]
   rw [hlf]
   exact RK (wKeys 3) (Res.c1 Tk Tryz.results75 J J) ⟨_, _, J, J, ht⟩ (Wvp [_, _, _] kg spg J ‹_› J J J J J J J J J) J (Wsub 15 J J J J J J J J J J J J J J J J (Bs 3 J J J J (Bs 3 J J J J (Bs 3 J J J J .nil)))) XR
end
section
attribute [local irreducible] X Pure Mod
theorem upd_len (W : Wld) (who : Nat) (f : Prc → Prc) : (W.upd who f).procs.length = W.procs.length := length_updL _ _
theorem len_upd {f : Prc → Prc} {i k : Nat} {l : List Prc} (h : k < l.length) : k < (updL f i l).length := by rw [length_updL]; exact h
theorem room_tds {G : PH} {W : Wld} {ts : List Value} (who : Nat) (s : Stm) (h : Tds G W.procs ts) (hk : s.kind = 12 ∨ s.kind = 9 ∨ s.kind = 10) : Tds G (W.stepS who s).procs ts := by
 rcases hk with hk | hk | hk
 ·have e : W.stepS who s = (W.setRm s.a 0).upd who (fun p => { p with room := -1 }) := by simp [Wld.stepS, hk]
  rw [e]
  have h2 : Tds G (W.setRm s.a 0).procs ts := by rw [setRm_procs]; exact h
  exact upd_tds (f := fun p => { p with room := -1 }) (fun p => J) h2
 ·have e : W.stepS who s = ((W.setRm (W.room who) 0).upd who (fun p => { p with mode := 1, on := s.a })).setQue s.a (W.que s.a ++ [(who : Int)]) := by simp [Wld.stepS, hk]
  rw [e, setQue_procs]
  have h2 : Tds G (W.setRm (W.room who) 0).procs ts := by rw [setRm_procs]; exact h
  exact upd_tds (f := fun p => { p with mode := 1, on := s.a }) (fun p => J) h2
 ·have e : W.stepS who s = W.signal s.a := by simp [Wld.stepS, hk]
  rw [e]
  exact signal_tds _ h
theorem c_l3Room (W : Wld) (who : Nat) (cs : List Value) (ts : List Value) (G : PH) (h1 : 1 ≤ W.procs.length) (h3 : W.procs.length ≤ 3) (ht : Tds G W.procs ts) (hw : who < W.procs.length) (hq0 : W.q0.length ≤ 1000000) (hq1 : W.q1.length ≤ 1000000) (hf0 : ∀ f ∈ W.q0, 0 ≤ f ∧ f < W.procs.length) (hf1 : ∀ f ∈ W.q1, 0 ≤ f ∧ f < W.procs.length)
  (kk a bb n : Int) (x y rest : List Stm) (vx vr : Value) (Ay : Option Addr) (ny cy : Nat) (hx : Sts G x vx) (hrest : Sts G rest vr) (hrl : rest.length ≤ 1000000) (hk : kk = 8 ∨ kk = 12 ∨ kk = 9 ∨ kk = 10) (q8 : kk = 8 → is2 a ∧ x.length ≤ 1000) (q9 : kk = 9 → is2 a ∧ is2 (W.room who)) (q10 : kk = 10 ∨ kk = 12 → is2 a) :
  Mod Tryz.prog 74 [.agg cs.toArray, .int .i64 (who : Nat), .agg #[.int .i64 kk, .int .i64 a, .int .i64 bb, .int .i64 n, vx, .slice Ay ny cy], vr] G (worldV cs W ts) (VPost ((W.upd who (fun p => { p with todo := rest })).stepS who (.mk kk a bb n x y))) := by
 obtain ⟨xs, hxs, hcs⟩ := Sr_Sx (fun s cs h => Stm.rep_len h) hrest
 obtain ⟨Ax, cx, rfl, _⟩ := id hx
 obtain ⟨Ar, cr, rfl, _⟩ := id hrest
 refine Mod.intro Tryz.func74 Tryz.ntmps74 J J fun w S => ?_;obtain ⟨ps, x0, x1, x2, m0, m1, q0, q1, sd⟩ := W
 replace hq0 : q0.length ≤ 1000000 := hq0
 replace hq1 : q1.length ≤ 1000000 := hq1
 replace hf0 : ∀ f ∈ q0, 0 ≤ f ∧ f < ps.length := hf0
 replace hf1 : ∀ f ∈ q1, 0 ≤ f ∧ f < ps.length := hf1
 rcases shape h1 h3 ht with ⟨⟨a0, a1, a2, td0, mo0, on0, ro0⟩, A0, k0, rfl, rfl, s0⟩ | ⟨⟨a0, a1, a2, td0, mo0, on0, ro0⟩, A0, k0, ⟨b0, b1, b2, td1, mo1, on1, ro1⟩, A1, k1, rfl, rfl, s0, s1⟩ | ⟨⟨a0, a1, a2, td0, mo0, on0, ro0⟩, A0, k0, ⟨b0, b1, b2, td1, mo1, on1, ro1⟩, A1, k1, ⟨d0, d1, d2, td2, mo2, on2, ro2⟩, A2, k2, rfl, rfl, s0, s1, s2⟩
 obtain rfl : who = 0 := by simpa using hw
 rotate_left
 rcases (by simp at hw; omega : who = 0 ∨ who = 1) with rfl | rfl
 rotate_left 2
 rcases (by simp at hw; omega : who = 0 ∨ who = 1 ∨ who = 2) with rfl | rfl | rfl
 all_goals
  refine OvV 1 0 J J J J fun bp bc br bs bg kp sp asd ksd aq0 kq0 aq1 kq1 kc spc kr spr ks sps kg spg hbg hmk hce => ?_; subst hce; (first | obtain ⟨g0, rfl⟩ := len1 hbg | obtain ⟨g0, g1, rfl⟩ := len2 hbg | obtain ⟨g0, g1, g2, rfl⟩ := len3 hbg); clear hbg; refine NM J J ?_; dsimp only [wEnts, wCels, procCs, regEs, WX.of, vi]
  refine Va J J ?_;refine S_box J J J J J fun b4 => ?_;refine Va J J ?_;refine S_box J J J J J fun b6 => ?_;refine Va J J ?_;refine AZ ZT_ok J J J J fun b8 => ?_;refine Va J J ?_
  rcases hk with rfl | rfl | rfl | rfl
  ·obtain ⟨ha, hxl⟩ := q8 rfl
   rcases ha with rfl | rfl
   ·refine RT J J ?_
    refine Va J J ?_;refine S_add J J J J (by omega) ?_;refine Va J J ?_;refine Ds J J J ?_;refine Da J J ?_;refine Nt 8 J J J J J J fun back => ?_;refine S_slice Tk ZT_ok J J J J (by decide) (by decide) J J J J fun b41 => ?_;refine back _ _ _ _ (by kernel_rfl) ?_; clear back
    refine Da J J ?_;refine Nt 10 J J J J J J fun back => ?_;refine S_lendB 41 J J J J fun hG hb => ?_;refine S_call Tryz.call85 (c_l3Ahead _ _ 1 rest.length [.int .i64 12, .int .i64 0, .int .i64 0, .int .i64 0, .slice none 0 0, .slice none 0 0] xs _ ⟨_, _, J, by omega, by omega, by simp [maxLen], J, .inr ⟨_, J, gcells_own⟩⟩ (Sx_le (le_add hG) hxs) one6 (Cs_one Stm.rep_one hcs) (by omega)) J J J ?_
    rintro v1 G3 hv1 hext3
    refine S_backB 41 [.v (.int .i64 12), .v (.int .i64 0), .v (.int .i64 0), .v (.int .i64 0), .v (.slice none 0 0), .v (.slice none 0 0)] (hext3.le _ _ (PH.add_self _ _ _)) J J hb ?_
    have hle := le_del hext3.le hG
    have hv2 : Sts (G3.del b41) ([leaveS 0] ++ rest) v1 := ahead_Sts hv1 ⟨[.int .i64 12, .int .i64 0, .int .i64 0, .int .i64 0, .slice none 0 0, .slice none 0 0], [], by simp, rfl, leave_rep (by decide), rfl⟩ (Cs_mono (Stm.reps_le hle rest) hcs) newp_add_le
    obtain ⟨A1, c1, rfl, _⟩ := id hv2
    have hext1 := PH.ext.del hG hext3
    refine back _ _ _ _ (by kernel_rfl) ?_; clear back
    refine Da J J ?_;refine D_sole 11 J J (N_call 11 Tryz.call85 (c_l3AheadS x _ _ _ _ (Sts_le hle hx) hv2 (by simp only [List.length_append, List.length_singleton]; omega)) rfl rfl rfl rfl rfl rfl rfl rfl rfl rfl ?_)
    rintro v' G' hv' hext
    replace hv' := hv' hext.le
    obtain ⟨A', c', rfl, _⟩ := id hv'
    refine Da J J ?_;refine Ns 14 J J J J J J J J J ?_;refine DD ?_;refine Va J J ?_
    first | (exact RK (wKeys 1) (Res.c1 Tk Tryz.results74 rfl rfl) ⟨_, _, rfl, rfl, Tds_upd (hle.trans hext.le) (fun p => { p with room := 0, todo := (x ++ [leaveS 0]) ++ p.todo }) (len_upd hw) (Tds_upd (PH.le.refl _) (fun p => { p with todo := rest }) hw ht hrest) (by show Sts _ ((x ++ [leaveS 0]) ++ rest) _; simpa using hv')⟩ (Wvp [_] kg spg rfl ‹_› rfl rfl rfl rfl rfl rfl rfl rfl rfl) rfl (Wsub 5 rfl rfl rfl rfl rfl rfl rfl rfl rfl rfl rfl rfl rfl rfl rfl rfl (Bs 3 rfl rfl rfl rfl .nil)) (hext1.trans hext)) | (exact RK (wKeys 2) (Res.c1 Tk Tryz.results74 rfl rfl) ⟨_, _, rfl, rfl, Tds_upd (hle.trans hext.le) (fun p => { p with room := 0, todo := (x ++ [leaveS 0]) ++ p.todo }) (len_upd hw) (Tds_upd (PH.le.refl _) (fun p => { p with todo := rest }) hw ht hrest) (by show Sts _ ((x ++ [leaveS 0]) ++ rest) _; simpa using hv')⟩ (Wvp [_, _] kg spg rfl ‹_› rfl rfl rfl rfl rfl rfl rfl rfl rfl) rfl (Wsub 10 rfl rfl rfl rfl rfl rfl rfl rfl rfl rfl rfl rfl rfl rfl rfl rfl (Bs 3 rfl rfl rfl rfl (Bs 3 rfl rfl rfl rfl .nil))) (hext1.trans hext)) | (exact RK (wKeys 3) (Res.c1 Tk Tryz.results74 rfl rfl) ⟨_, _, rfl, rfl, Tds_upd (hle.trans hext.le) (fun p => { p with room := 0, todo := (x ++ [leaveS 0]) ++ p.todo }) (len_upd hw) (Tds_upd (PH.le.refl _) (fun p => { p with todo := rest }) hw ht hrest) (by show Sts _ ((x ++ [leaveS 0]) ++ rest) _; simpa using hv')⟩ (Wvp [_, _, _] kg spg rfl ‹_› rfl rfl rfl rfl rfl rfl rfl rfl rfl) rfl (Wsub 15 rfl rfl rfl rfl rfl rfl rfl rfl rfl rfl rfl rfl rfl rfl rfl rfl (Bs 3 rfl rfl rfl rfl (Bs 3 rfl rfl rfl rfl (Bs 3 rfl rfl rfl rfl .nil)))) (hext1.trans hext))
   ·refine RT J J ?_
    refine Va J J ?_;refine S_add J J J J (by omega) ?_;refine Va J J ?_;refine Ds J J J ?_;refine Da J J ?_;refine Nt 8 J J J J J J fun back => ?_;refine S_slice Tk ZT_ok J J J J (by decide) (by decide) J J J J fun b41 => ?_;refine back _ _ _ _ (by kernel_rfl) ?_; clear back
    refine Da J J ?_;refine Nt 10 J J J J J J fun back => ?_;refine S_lendB 41 J J J J fun hG hb => ?_;refine S_call Tryz.call85 (c_l3Ahead _ _ 1 rest.length [.int .i64 12, .int .i64 1, .int .i64 0, .int .i64 0, .slice none 0 0, .slice none 0 0] xs _ ⟨_, _, J, by omega, by omega, by simp [maxLen], J, .inr ⟨_, J, gcells_own⟩⟩ (Sx_le (le_add hG) hxs) one6 (Cs_one Stm.rep_one hcs) (by omega)) J J J ?_
    rintro v1 G3 hv1 hext3
    refine S_backB 41 [.v (.int .i64 12), .v (.int .i64 1), .v (.int .i64 0), .v (.int .i64 0), .v (.slice none 0 0), .v (.slice none 0 0)] (hext3.le _ _ (PH.add_self _ _ _)) J J hb ?_
    have hle := le_del hext3.le hG
    have hv2 : Sts (G3.del b41) ([leaveS 1] ++ rest) v1 := ahead_Sts hv1 ⟨[.int .i64 12, .int .i64 1, .int .i64 0, .int .i64 0, .slice none 0 0, .slice none 0 0], [], by simp, rfl, leave_rep (by decide), rfl⟩ (Cs_mono (Stm.reps_le hle rest) hcs) newp_add_le
    obtain ⟨A1, c1, rfl, _⟩ := id hv2
    have hext1 := PH.ext.del hG hext3
    refine back _ _ _ _ (by kernel_rfl) ?_; clear back
    refine Da J J ?_;refine D_sole 11 J J (N_call 11 Tryz.call85 (c_l3AheadS x _ _ _ _ (Sts_le hle hx) hv2 (by simp only [List.length_append, List.length_singleton]; omega)) rfl rfl rfl rfl rfl rfl rfl rfl rfl rfl ?_)
    rintro v' G' hv' hext
    replace hv' := hv' hext.le
    obtain ⟨A', c', rfl, _⟩ := id hv'
    refine Da J J ?_;refine Ns 14 J J J J J J J J J ?_;refine DD ?_;refine Va J J ?_
    first | (exact RK (wKeys 1) (Res.c1 Tk Tryz.results74 rfl rfl) ⟨_, _, rfl, rfl, Tds_upd (hle.trans hext.le) (fun p => { p with room := 1, todo := (x ++ [leaveS 1]) ++ p.todo }) (len_upd hw) (Tds_upd (PH.le.refl _) (fun p => { p with todo := rest }) hw ht hrest) (by show Sts _ ((x ++ [leaveS 1]) ++ rest) _; simpa using hv')⟩ (Wvp [_] kg spg rfl ‹_› rfl rfl rfl rfl rfl rfl rfl rfl rfl) rfl (Wsub 5 rfl rfl rfl rfl rfl rfl rfl rfl rfl rfl rfl rfl rfl rfl rfl rfl (Bs 3 rfl rfl rfl rfl .nil)) (hext1.trans hext)) | (exact RK (wKeys 2) (Res.c1 Tk Tryz.results74 rfl rfl) ⟨_, _, rfl, rfl, Tds_upd (hle.trans hext.le) (fun p => { p with room := 1, todo := (x ++ [leaveS 1]) ++ p.todo }) (len_upd hw) (Tds_upd (PH.le.refl _) (fun p => { p with todo := rest }) hw ht hrest) (by show Sts _ ((x ++ [leaveS 1]) ++ rest) _; simpa using hv')⟩ (Wvp [_, _] kg spg rfl ‹_› rfl rfl rfl rfl rfl rfl rfl rfl rfl) rfl (Wsub 10 rfl rfl rfl rfl rfl rfl rfl rfl rfl rfl rfl rfl rfl rfl rfl rfl (Bs 3 rfl rfl rfl rfl (Bs 3 rfl rfl rfl rfl .nil))) (hext1.trans hext)) | (exact RK (wKeys 3) (Res.c1 Tk Tryz.results74 rfl rfl) ⟨_, _, rfl, rfl, Tds_upd (hle.trans hext.le) (fun p => { p with room := 1, todo := (x ++ [leaveS 1]) ++ p.todo }) (len_upd hw) (Tds_upd (PH.le.refl _) (fun p => { p with todo := rest }) hw ht hrest) (by show Sts _ ((x ++ [leaveS 1]) ++ rest) _; simpa using hv')⟩ (Wvp [_, _, _] kg spg rfl ‹_› rfl rfl rfl rfl rfl rfl rfl rfl rfl) rfl (Wsub 15 rfl rfl rfl rfl rfl rfl rfl rfl rfl rfl rfl rfl rfl rfl rfl rfl (Bs 3 rfl rfl rfl rfl (Bs 3 rfl rfl rfl rfl (Bs 3 rfl rfl rfl rfl .nil)))) (hext1.trans hext))
  ·rcases q10 (.inr rfl) with rfl | rfl
   all_goals
    refine RF J J ?_;refine Va J J ?_;refine RT J J ?_;refine Va J J ?_
    first | (exact RK (wKeys 1) (Res.c1 Tk Tryz.results74 J J) ⟨_, _, J, J, room_tds (W := Wld.upd ⟨_, _, _, _, _, _, _, _, _⟩ 0 (fun p => { p with todo := rest })) _ (.mk _ _ _ _ x y) (Tds_upd (PH.le.refl _) (fun p => { p with todo := rest }) hw ht hrest) (by simp [Stm.kind])⟩ (Wvp [_] kg spg J ‹_› J J J J J J J J J) J (Wsub 5 J J J J J J J J J J J J J J J J (Bs 3 J J J J .nil)) XR) | (exact RK (wKeys 2) (Res.c1 Tk Tryz.results74 J J) ⟨_, _, J, J, room_tds (W := Wld.upd ⟨_, _, _, _, _, _, _, _, _⟩ 0 (fun p => { p with todo := rest })) _ (.mk _ _ _ _ x y) (Tds_upd (PH.le.refl _) (fun p => { p with todo := rest }) hw ht hrest) (by simp [Stm.kind])⟩ (Wvp [_, _] kg spg J ‹_› J J J J J J J J J) J (Wsub 10 J J J J J J J J J J J J J J J J (Bs 3 J J J J (Bs 3 J J J J .nil))) XR) | (exact RK (wKeys 2) (Res.c1 Tk Tryz.results74 J J) ⟨_, _, J, J, room_tds (W := Wld.upd ⟨_, _, _, _, _, _, _, _, _⟩ 1 (fun p => { p with todo := rest })) _ (.mk _ _ _ _ x y) (Tds_upd (PH.le.refl _) (fun p => { p with todo := rest }) hw ht hrest) (by simp [Stm.kind])⟩ (Wvp [_, _] kg spg J ‹_› J J J J J J J J J) J (Wsub 10 J J J J J J J J J J J J J J J J (Bs 3 J J J J (Bs 3 J J J J .nil))) XR) | (exact RK (wKeys 3) (Res.c1 Tk Tryz.results74 J J) ⟨_, _, J, J, room_tds (W := Wld.upd ⟨_, _, _, _, _, _, _, _, _⟩ 0 (fun p => { p with todo := rest })) _ (.mk _ _ _ _ x y) (Tds_upd (PH.le.refl _) (fun p => { p with todo := rest }) hw ht hrest) (by simp [Stm.kind])⟩ (Wvp [_, _, _] kg spg J ‹_› J J J J J J J J J) J (Wsub 15 J J J J J J J J J J J J J J J J (Bs 3 J J J J (Bs 3 J J J J (Bs 3 J J J J .nil)))) XR) | (exact RK (wKeys 3) (Res.c1 Tk Tryz.results74 J J) ⟨_, _, J, J, room_tds (W := Wld.upd ⟨_, _, _, _, _, _, _, _, _⟩ 1 (fun p => { p with todo := rest })) _ (.mk _ _ _ _ x y) (Tds_upd (PH.le.refl _) (fun p => { p with todo := rest }) hw ht hrest) (by simp [Stm.kind])⟩ (Wvp [_, _, _] kg spg J ‹_› J J J J J J J J J) J (Wsub 15 J J J J J J J J J J J J J J J J (Bs 3 J J J J (Bs 3 J J J J (Bs 3 J J J J .nil)))) XR) | (exact RK (wKeys 3) (Res.c1 Tk Tryz.results74 J J) ⟨_, _, J, J, room_tds (W := Wld.upd ⟨_, _, _, _, _, _, _, _, _⟩ 2 (fun p => { p with todo := rest })) _ (.mk _ _ _ _ x y) (Tds_upd (PH.le.refl _) (fun p => { p with todo := rest }) hw ht hrest) (by simp [Stm.kind])⟩ (Wvp [_, _, _] kg spg J ‹_› J J J J J J J J J) J (Wsub 15 J J J J J J J J J J J J J J J J (Bs 3 J J J J (Bs 3 J J J J (Bs 3 J J J J .nil)))) XR)
  ·obtain ⟨ha, hro⟩ := q9 rfl
   first | (replace hro : is2 ro0 := hro) | (replace hro : is2 ro1 := hro) | (replace hro : is2 ro2 := hro)
   rcases hro with rfl | rfl
   all_goals rcases ha with rfl | rfl
   all_goals
    refine RF J J ?_;refine Va J J ?_;refine RF J J ?_;refine Va J J ?_;refine RT J J ?_;refine Va J J ?_;refine Ds J J J ?_;refine Da J J ?_;refine Ns 9 J J J J J J J J J ?_;refine DD ?_;refine Va J J ?_;refine Ds J J J ?_;refine Da J J ?_;refine Nt 11 J J J J J J fun back => ?_;refine S_slice Tk ZT_ok J J J J (by decide) (by decide) J J J J fun b93 => ?_;refine back _ _ _ _ (by kernel_rfl) ?_; clear back
    refine Nt 12 J J J J J J fun back => ?_
    first | (refine S_appInt Tk 1005 93 J J J J J J J J J J J J J (fun _ _ => J) (by assumption) (Nat.zero_le _) fun A' c' => ?_) | (refine S_appInt Tk 1006 93 J J J J J J J J J J J J J (fun _ _ => J) (by assumption) (Nat.zero_le _) fun A' c' => ?_)
    refine back _ _ _ _ (by kernel_rfl) ?_; clear back
    refine Da J J ?_;refine Ns 14 J J J J J J J J J ?_;refine DD ?_;refine Va J J ?_
    first | (exact RK (wKeys 1) (Res.c1 Tk Tryz.results74 J J) ⟨_, _, J, J, room_tds (W := Wld.upd ⟨_, _, _, _, _, _, _, _, _⟩ 0 (fun p => { p with todo := rest })) _ (.mk _ _ _ _ x y) (Tds_upd (PH.le.refl _) (fun p => { p with todo := rest }) hw ht hrest) (by simp [Stm.kind])⟩ (Wvp [_] kg spg J ‹_› J J J J J J J J J) J (Wsub 5 J J J J J J J J J J J J J J J J (Bs 3 J J J J .nil)) XR) | (exact RK (wKeys 2) (Res.c1 Tk Tryz.results74 J J) ⟨_, _, J, J, room_tds (W := Wld.upd ⟨_, _, _, _, _, _, _, _, _⟩ 0 (fun p => { p with todo := rest })) _ (.mk _ _ _ _ x y) (Tds_upd (PH.le.refl _) (fun p => { p with todo := rest }) hw ht hrest) (by simp [Stm.kind])⟩ (Wvp [_, _] kg spg J ‹_› J J J J J J J J J) J (Wsub 10 J J J J J J J J J J J J J J J J (Bs 3 J J J J (Bs 3 J J J J .nil))) XR) | (exact RK (wKeys 2) (Res.c1 Tk Tryz.results74 J J) ⟨_, _, J, J, room_tds (W := Wld.upd ⟨_, _, _, _, _, _, _, _, _⟩ 1 (fun p => { p with todo := rest })) _ (.mk _ _ _ _ x y) (Tds_upd (PH.le.refl _) (fun p => { p with todo := rest }) hw ht hrest) (by simp [Stm.kind])⟩ (Wvp [_, _] kg spg J ‹_› J J J J J J J J J) J (Wsub 10 J J J J J J J J J J J J J J J J (Bs 3 J J J J (Bs 3 J J J J .nil))) XR) | (exact RK (wKeys 3) (Res.c1 Tk Tryz.results74 J J) ⟨_, _, J, J, room_tds (W := Wld.upd ⟨_, _, _, _, _, _, _, _, _⟩ 0 (fun p => { p with todo := rest })) _ (.mk _ _ _ _ x y) (Tds_upd (PH.le.refl _) (fun p => { p with todo := rest }) hw ht hrest) (by simp [Stm.kind])⟩ (Wvp [_, _, _] kg spg J ‹_› J J J J J J J J J) J (Wsub 15 J J J J J J J J J J J J J J J J (Bs 3 J J J J (Bs 3 J J J J (Bs 3 J J J J .nil)))) XR) | (exact RK (wKeys 3) (Res.c1 Tk Tryz.results74 J J) ⟨_, _, J, J, room_tds (W := Wld.upd ⟨_, _, _, _, _, _, _, _, _⟩ 1 (fun p => { p with todo := rest })) _ (.mk _ _ _ _ x y) (Tds_upd (PH.le.refl _) (fun p => { p with todo := rest }) hw ht hrest) (by simp [Stm.kind])⟩ (Wvp [_, _, _] kg spg J ‹_› J J J J J J J J J) J (Wsub 15 J J J J J J J J J J J J J J J J (Bs 3 J J J J (Bs 3 J J J J (Bs 3 J J J J .nil)))) XR) | (exact RK (wKeys 3) (Res.c1 Tk Tryz.results74 J J) ⟨_, _, J, J, room_tds (W := Wld.upd ⟨_, _, _, _, _, _, _, _, _⟩ 2 (fun p => { p with todo := rest })) _ (.mk _ _ _ _ x y) (Tds_upd (PH.le.refl _) (fun p => { p with todo := rest }) hw ht hrest) (by simp [Stm.kind])⟩ (Wvp [_, _, _] kg spg J ‹_› J J J J J J J J J) J (Wsub 15 J J J J J J J J J J J J J J J J (Bs 3 J J J J (Bs 3 J J J J (Bs 3 J J J J .nil)))) XR)
  ·rcases q10 (.inl rfl) with rfl | rfl
   all_goals
    refine RF J J ?_;refine Va J J ?_;refine RF J J ?_;refine Va J J ?_;refine RF J J ?_;refine Va J J ?_;refine RT J J ?_;refine Va J J ?_
    first | (refine S_callPk 9 (wKeys 1) Tryz.call86 (c_l3Signal (Wld.upd ⟨_, _, _, _, _, _, _, _, _⟩ 0 (fun p => { p with todo := rest })) _ _ _ (by rw [upd_len]; exact h1) (by rw [upd_len]; exact h3) (Tds_upd (PH.le.refl _) (fun p => { p with todo := rest }) hw ht hrest) (fun f hf => by rw [upd_len]; exact hf0 f hf) (fun f hf => by rw [upd_len]; exact hf1 f hf) 0 (by simp [is2])) (Wvp [_] kg spg J ‹_› J J J J J J J J J) J (Wsub 5 J J J J J J J J J J J J J J J J (Bs 3 J J J J .nil)) J J J ?_) | (refine S_callPk 9 (wKeys 1) Tryz.call86 (c_l3Signal (Wld.upd ⟨_, _, _, _, _, _, _, _, _⟩ 0 (fun p => { p with todo := rest })) _ _ _ (by rw [upd_len]; exact h1) (by rw [upd_len]; exact h3) (Tds_upd (PH.le.refl _) (fun p => { p with todo := rest }) hw ht hrest) (fun f hf => by rw [upd_len]; exact hf0 f hf) (fun f hf => by rw [upd_len]; exact hf1 f hf) 1 (by simp [is2])) (Wvp [_] kg spg J ‹_› J J J J J J J J J) J (Wsub 5 J J J J J J J J J J J J J J J J (Bs 3 J J J J .nil)) J J J ?_) | (refine S_callPk 9 (wKeys 2) Tryz.call86 (c_l3Signal (Wld.upd ⟨_, _, _, _, _, _, _, _, _⟩ 0 (fun p => { p with todo := rest })) _ _ _ (by rw [upd_len]; exact h1) (by rw [upd_len]; exact h3) (Tds_upd (PH.le.refl _) (fun p => { p with todo := rest }) hw ht hrest) (fun f hf => by rw [upd_len]; exact hf0 f hf) (fun f hf => by rw [upd_len]; exact hf1 f hf) 0 (by simp [is2])) (Wvp [_, _] kg spg J ‹_› J J J J J J J J J) J (Wsub 10 J J J J J J J J J J J J J J J J (Bs 3 J J J J (Bs 3 J J J J .nil))) J J J ?_) | (refine S_callPk 9 (wKeys 2) Tryz.call86 (c_l3Signal (Wld.upd ⟨_, _, _, _, _, _, _, _, _⟩ 0 (fun p => { p with todo := rest })) _ _ _ (by rw [upd_len]; exact h1) (by rw [upd_len]; exact h3) (Tds_upd (PH.le.refl _) (fun p => { p with todo := rest }) hw ht hrest) (fun f hf => by rw [upd_len]; exact hf0 f hf) (fun f hf => by rw [upd_len]; exact hf1 f hf) 1 (by simp [is2])) (Wvp [_, _] kg spg J ‹_› J J J J J J J J J) J (Wsub 10 J J J J J J J J J J J J J J J J (Bs 3 J J J J (Bs 3 J J J J .nil))) J J J ?_) | (refine S_callPk 9 (wKeys 2) Tryz.call86 (c_l3Signal (Wld.upd ⟨_, _, _, _, _, _, _, _, _⟩ 1 (fun p => { p with todo := rest })) _ _ _ (by rw [upd_len]; exact h1) (by rw [upd_len]; exact h3) (Tds_upd (PH.le.refl _) (fun p => { p with todo := rest }) hw ht hrest) (fun f hf => by rw [upd_len]; exact hf0 f hf) (fun f hf => by rw [upd_len]; exact hf1 f hf) 0 (by simp [is2])) (Wvp [_, _] kg spg J ‹_› J J J J J J J J J) J (Wsub 10 J J J J J J J J J J J J J J J J (Bs 3 J J J J (Bs 3 J J J J .nil))) J J J ?_) | (refine S_callPk 9 (wKeys 2) Tryz.call86 (c_l3Signal (Wld.upd ⟨_, _, _, _, _, _, _, _, _⟩ 1 (fun p => { p with todo := rest })) _ _ _ (by rw [upd_len]; exact h1) (by rw [upd_len]; exact h3) (Tds_upd (PH.le.refl _) (fun p => { p with todo := rest }) hw ht hrest) (fun f hf => by rw [upd_len]; exact hf0 f hf) (fun f hf => by rw [upd_len]; exact hf1 f hf) 1 (by simp [is2])) (Wvp [_, _] kg spg J ‹_› J J J J J J J J J) J (Wsub 10 J J J J J J J J J J J J J J J J (Bs 3 J J J J (Bs 3 J J J J .nil))) J J J ?_) | (refine S_callPk 9 (wKeys 3) Tryz.call86 (c_l3Signal (Wld.upd ⟨_, _, _, _, _, _, _, _, _⟩ 0 (fun p => { p with todo := rest })) _ _ _ (by rw [upd_len]; exact h1) (by rw [upd_len]; exact h3) (Tds_upd (PH.le.refl _) (fun p => { p with todo := rest }) hw ht hrest) (fun f hf => by rw [upd_len]; exact hf0 f hf) (fun f hf => by rw [upd_len]; exact hf1 f hf) 0 (by simp [is2])) (Wvp [_, _, _] kg spg J ‹_› J J J J J J J J J) J (Wsub 15 J J J J J J J J J J J J J J J J (Bs 3 J J J J (Bs 3 J J J J (Bs 3 J J J J .nil)))) J J J ?_) | (refine S_callPk 9 (wKeys 3) Tryz.call86 (c_l3Signal (Wld.upd ⟨_, _, _, _, _, _, _, _, _⟩ 0 (fun p => { p with todo := rest })) _ _ _ (by rw [upd_len]; exact h1) (by rw [upd_len]; exact h3) (Tds_upd (PH.le.refl _) (fun p => { p with todo := rest }) hw ht hrest) (fun f hf => by rw [upd_len]; exact hf0 f hf) (fun f hf => by rw [upd_len]; exact hf1 f hf) 1 (by simp [is2])) (Wvp [_, _, _] kg spg J ‹_› J J J J J J J J J) J (Wsub 15 J J J J J J J J J J J J J J J J (Bs 3 J J J J (Bs 3 J J J J (Bs 3 J J J J .nil)))) J J J ?_) | (refine S_callPk 9 (wKeys 3) Tryz.call86 (c_l3Signal (Wld.upd ⟨_, _, _, _, _, _, _, _, _⟩ 1 (fun p => { p with todo := rest })) _ _ _ (by rw [upd_len]; exact h1) (by rw [upd_len]; exact h3) (Tds_upd (PH.le.refl _) (fun p => { p with todo := rest }) hw ht hrest) (fun f hf => by rw [upd_len]; exact hf0 f hf) (fun f hf => by rw [upd_len]; exact hf1 f hf) 0 (by simp [is2])) (Wvp [_, _, _] kg spg J ‹_› J J J J J J J J J) J (Wsub 15 J J J J J J J J J J J J J J J J (Bs 3 J J J J (Bs 3 J J J J (Bs 3 J J J J .nil)))) J J J ?_) | (refine S_callPk 9 (wKeys 3) Tryz.call86 (c_l3Signal (Wld.upd ⟨_, _, _, _, _, _, _, _, _⟩ 1 (fun p => { p with todo := rest })) _ _ _ (by rw [upd_len]; exact h1) (by rw [upd_len]; exact h3) (Tds_upd (PH.le.refl _) (fun p => { p with todo := rest }) hw ht hrest) (fun f hf => by rw [upd_len]; exact hf0 f hf) (fun f hf => by rw [upd_len]; exact hf1 f hf) 1 (by simp [is2])) (Wvp [_, _, _] kg spg J ‹_› J J J J J J J J J) J (Wsub 15 J J J J J J J J J J J J J J J J (Bs 3 J J J J (Bs 3 J J J J (Bs 3 J J J J .nil)))) J J J ?_) | (refine S_callPk 9 (wKeys 3) Tryz.call86 (c_l3Signal (Wld.upd ⟨_, _, _, _, _, _, _, _, _⟩ 2 (fun p => { p with todo := rest })) _ _ _ (by rw [upd_len]; exact h1) (by rw [upd_len]; exact h3) (Tds_upd (PH.le.refl _) (fun p => { p with todo := rest }) hw ht hrest) (fun f hf => by rw [upd_len]; exact hf0 f hf) (fun f hf => by rw [upd_len]; exact hf1 f hf) 0 (by simp [is2])) (Wvp [_, _, _] kg spg J ‹_› J J J J J J J J J) J (Wsub 15 J J J J J J J J J J J J J J J J (Bs 3 J J J J (Bs 3 J J J J (Bs 3 J J J J .nil)))) J J J ?_) | (refine S_callPk 9 (wKeys 3) Tryz.call86 (c_l3Signal (Wld.upd ⟨_, _, _, _, _, _, _, _, _⟩ 2 (fun p => { p with todo := rest })) _ _ _ (by rw [upd_len]; exact h1) (by rw [upd_len]; exact h3) (Tds_upd (PH.le.refl _) (fun p => { p with todo := rest }) hw ht hrest) (fun f hf => by rw [upd_len]; exact hf0 f hf) (fun f hf => by rw [upd_len]; exact hf1 f hf) 1 (by simp [is2])) (Wvp [_, _, _] kg spg J ‹_› J J J J J J J J J) J (Wsub 15 J J J J J J J J J J J J J J J J (Bs 3 J J J J (Bs 3 J J J J (Bs 3 J J J J .nil)))) J J J ?_)
    rintro v G' A' ⟨cs', ts', rfl, rfl, ht'⟩ hext
    refine S_csV 9 J ?_;rintro bp bc br bs kp asd ksd kc kr ks rfl
    refine Va J J ?_;exact S_retm 9 (Res.c1 Tk Tryz.results74 J J) J hext ⟨_, _, J, J, ht'⟩
end
end Go.Proofs.YtcbdilccmjpnbaaGreatDoor
