/- Walks of the program's functions, one after the other (part 9); without conditions of their own. -/
import Derived.Test.YtcbdilccmjpnbaaGreatWM2
import Derived.Test.YtcbdilccmjpnbaaGreatWM3
import Derived.Test.YtcbdilccmjpnbaaGreatWM4
import Derived.Test.YtcbdilccmjpnbaaGreatWM5
import Derived.Test.YtcbdilccmjpnbaaGreatWM8
set_option linter.unusedVariables false
set_option linter.unusedSimpArgs false
set_option maxRecDepth 100000
set_option maxHeartbeats 4000000
open Go.RowKit
namespace Go.Proofs.YtcbdilccmjpnbaaGreat
section
attribute [local irreducible] X Pure Mod
theorem upd_len (W : Wld) (who : Nat) (f : Prc → Prc) : (W.upd who f).procs.length = W.procs.length := length_updL _ _
theorem len_upd {f : Prc → Prc} {i k : Nat} {l : List Prc} (h : k < l.length) : k < (updL f i l).length := by rw [length_updL]; exact h
theorem room_tds {G : PH} {W : Wld} {ts : List Value} (who : Nat) (s : Stm) (h : Tds G W.procs ts) (hk : s.kind = 12 ∨ s.kind = 9 ∨ s.kind = 10) : Tds G (W.stepS who s).procs ts := by
 rcases hk with hk | hk | hk
 ·have e : W.stepS who s = (W.setRm s.a 0).upd who (fun p => { p with room := -1 }) := by simp [Wld.stepS, hk]
  rw [e]
  have h2 : Tds G (W.setRm s.a 0).procs ts := by rw [setRm_procs]; exact h
  exact upd_tds (f := fun p => { p with room := -1 }) (fun p => J) h2
 ·have e : W.stepS who s = ((W.setRm (W.room who) 0).upd who (fun p => { p with mode := 1, on := s.a })).setQue s.a (W.que s.a ++ [(who : Int)]) := by simp [Wld.stepS, hk]
  rw [e, setQue_procs]
  have h2 : Tds G (W.setRm (W.room who) 0).procs ts := by rw [setRm_procs]; exact h
  exact upd_tds (f := fun p => { p with mode := 1, on := s.a }) (fun p => J) h2
 ·have e : W.stepS who s = W.signal s.a := by simp [Wld.stepS, hk]
  rw [e]
  exact signal_tds _ h
theorem c_l3Room (W : Wld) (who : Nat) (cs : List Value) (ts : List Value) (G : PH) (h1 : 1 ≤ W.procs.length) (h3 : W.procs.length ≤ 3) (ht : Tds G W.procs ts) (hw : who < W.procs.length) (hq0 : W.q0.length ≤ 1000000) (hq1 : W.q1.length ≤ 1000000) (hf0 : ∀ f ∈ W.q0, 0 ≤ f ∧ f < W.procs.length) (hf1 : ∀ f ∈ W.q1, 0 ≤ f ∧ f < W.procs.length)
  (kk a bb n : Int) (x y rest : List Stm) (vx vr : Value) (Ay : Option Addr) (ny cy : Nat) (hx : Sts G x vx) (hrest : Sts G rest vr) (hrl : rest.length ≤ 1000000) (hk : kk = 8 ∨ kk = 12 ∨ kk = 9 ∨ kk = 10) (q8 : kk = 8 → is2 a ∧ x.length ≤ 1000) (q9 : kk = 9 → is2 a ∧ is2 (W.room who)) (q10 : kk = 10 ∨ kk = 12 → is2 a) :
  Mod Tryz.prog 69 [.agg cs.toArray, .int .i64 (who : Nat), .agg #[.int .i64 kk, .int .i64 a, .int .i64 bb, .int .i64 n, vx, .slice Ay ny cy], vr] G (worldV cs W ts) (VPost ((W.upd who (fun p => { p with todo := rest })).stepS who (.mk kk a bb n x y))) := by
 obtain ⟨xs, hxs, hcs⟩ := Sr_Sx (fun s cs h => Stm.rep_len h) hrest
 obtain ⟨Ax, cx, rfl, _⟩ := id hx
 obtain ⟨Ar, cr, rfl, _⟩ := id hrest
 refine Mod.intro Tryz.func69 Tryz.ntmps69 J J fun w S => ?_;obtain ⟨ps, x0, x1, x2, m0, m1, q0, q1, sd⟩ := W
 replace hq0 : q0.length ≤ 1000000 := hq0
 replace hq1 : q1.length ≤ 1000000 := hq1
 replace hf0 : ∀ f ∈ q0, 0 ≤ f ∧ f < ps.length := hf0
 replace hf1 : ∀ f ∈ q1, 0 ≤ f ∧ f < ps.length := hf1
 rcases shape h1 h3 ht with ⟨⟨a0, a1, a2, td0, mo0, on0, ro0⟩, A0, k0, rfl, rfl, s0⟩ | ⟨⟨a0, a1, a2, td0, mo0, on0, ro0⟩, A0, k0, ⟨b0, b1, b2, td1, mo1, on1, ro1⟩, A1, k1, rfl, rfl, s0, s1⟩ | ⟨⟨a0, a1, a2, td0, mo0, on0, ro0⟩, A0, k0, ⟨b0, b1, b2, td1, mo1, on1, ro1⟩, A1, k1, ⟨d0, d1, d2, td2, mo2, on2, ro2⟩, A2, k2, rfl, rfl, s0, s1, s2⟩
 obtain rfl : who = 0 := by simpa using hw
 rotate_left
 rcases (by simp at hw; omega : who = 0 ∨ who = 1) with rfl | rfl
 rotate_left 2
 rcases (by simp at hw; omega : who = 0 ∨ who = 1 ∨ who = 2) with rfl | rfl | rfl
 all_goals
  refine OvV 1 0 J J J J fun bp bc br bs bg kp sp asd ksd aq0 kq0 aq1 kq1 kc spc kr spr ks sps kg spg hbg hmk hce => ?_; subst hce; (first | obtain ⟨g0, rfl⟩ := len1 hbg | obtain ⟨g0, g1, rfl⟩ := len2 hbg | obtain ⟨g0, g1, g2, rfl⟩ := len3 hbg); clear hbg; refine NM J J ?_; dsimp only [wEnts, wCels, procCs, regEs, WX.of, vi]
  refine Va J J ?_;refine S_box J J J J J fun b4 => ?_;refine Va J J ?_;refine S_box J J J J J fun b6 => ?_;refine Va J J ?_;refine AZ ZT_ok J J J J fun b8 => ?_;refine Va J J ?_
  rcases hk with rfl | rfl | rfl | rfl
  ·obtain ⟨ha, hxl⟩ := q8 rfl
   rcases ha with rfl | rfl
   ·refine RT J J ?_
    refine Va J J ?_;refine S_add J J J J (by omega) ?_;refine Va J J ?_;refine Ds J J J ?_;refine Da J J ?_;refine Nt 8 J J J J J J fun back => ?_;refine S_slice Tk ZT_ok J J J J (by decide) (by decide) J J J J fun b41 => ?_;refine back _ _ _ _ (by kernel_rfl) ?_; clear back
    refine Da J J ?_;refine Nt 10 J J J J J J fun back => ?_;refine S_lendB 41 J J J J fun hG hb => ?_;refine S_call Tryz.call76 (c_l3Ahead _ _ 1 rest.length [.int .i64 12, .int .i64 0, .int .i64 0, .int .i64 0, .slice none 0 0, .slice none 0 0] xs _ ⟨_, _, J, by omega, by omega, by simp [maxLen], J, .inr ⟨_, J, gcells_own⟩⟩ (Sx_le (le_add hG) hxs) one6 (Cs_one Stm.rep_one hcs) (by omega)) J J J ?_
    rintro v1 G3 hv1 hext3
    refine S_backB 41 [.v (.int .i64 12), .v (.int .i64 0), .v (.int .i64 0), .v (.int .i64 0), .v (.slice none 0 0), .v (.slice none 0 0)] (hext3.le _ _ (PH.add_self _ _ _)) J J hb ?_
    have hle := le_del hext3.le hG
    have hv2 : Sts (G3.del b41) ([leaveS 0] ++ rest) v1 := ahead_Sts hv1 ⟨[.int .i64 12, .int .i64 0, .int .i64 0, .int .i64 0, .slice none 0 0, .slice none 0 0], [], by simp, rfl, leave_rep (by decide), rfl⟩ (Cs_mono (Stm.reps_le hle rest) hcs) newp_add_le
    obtain ⟨A1, c1, rfl, _⟩ := id hv2
    have hext1 := PH.ext.del hG hext3
    refine back _ _ _ _ (by kernel_rfl) ?_; clear back
    refine Da J J ?_;refine D_sole 11 J J (N_call 11 Tryz.call76 (c_l3AheadS x _ _ _ _ (Sts_le hle hx) hv2 (by simp only [List.length_append, List.length_singleton]; omega)) rfl rfl rfl rfl rfl rfl rfl rfl rfl rfl ?_)
    rintro v' G' hv' hext
    replace hv' := hv' hext.le
    obtain ⟨A', c', rfl, _⟩ := id hv'
    refine Da J J ?_;refine Ns 14 J J J J J J J J J ?_;refine DD ?_;refine Va J J ?_
    first | (exact RK (wKeys 1) (Res.c1 Tk Tryz.results69 rfl rfl) ⟨_, _, rfl, rfl, Tds_upd (hle.trans hext.le) (fun p => { p with room := 0, todo := (x ++ [leaveS 0]) ++ p.todo }) (len_upd hw) (Tds_upd (PH.le.refl _) (fun p => { p with todo := rest }) hw ht hrest) (by show Sts _ ((x ++ [leaveS 0]) ++ rest) _; simpa using hv')⟩ (Wvp [_] kg spg rfl ‹_› rfl rfl rfl rfl rfl rfl rfl rfl rfl) rfl (Wsub 5 rfl rfl rfl rfl rfl rfl rfl rfl rfl rfl rfl rfl rfl rfl rfl rfl (Bs 3 rfl rfl rfl rfl .nil)) (hext1.trans hext)) | (exact RK (wKeys 2) (Res.c1 Tk Tryz.results69 rfl rfl) ⟨_, _, rfl, rfl, Tds_upd (hle.trans hext.le) (fun p => { p with room := 0, todo := (x ++ [leaveS 0]) ++ p.todo }) (len_upd hw) (Tds_upd (PH.le.refl _) (fun p => { p with todo := rest }) hw ht hrest) (by show Sts _ ((x ++ [leaveS 0]) ++ rest) _; simpa using hv')⟩ (Wvp [_, _] kg spg rfl ‹_› rfl rfl rfl rfl rfl rfl rfl rfl rfl) rfl (Wsub 10 rfl rfl rfl rfl rfl rfl rfl rfl rfl rfl rfl rfl rfl rfl rfl rfl (Bs 3 rfl rfl rfl rfl (Bs 3 rfl rfl rfl rfl .nil))) (hext1.trans hext)) | (exact RK (wKeys 3) (Res.c1 Tk Tryz.results69 rfl rfl) ⟨_, _, rfl, rfl, Tds_upd (hle.trans hext.le) (fun p => { p with room := 0, todo := (x ++ [leaveS 0]) ++ p.todo }) (len_upd hw) (Tds_upd (PH.le.refl _) (fun p => { p with todo := rest }) hw ht hrest) (by show Sts _ ((x ++ [leaveS 0]) ++ rest) _; simpa using hv')⟩ (Wvp [_, _, _] kg spg rfl ‹_› rfl rfl rfl rfl rfl rfl rfl rfl rfl) rfl (Wsub 15 rfl rfl rfl rfl rfl rfl rfl rfl rfl rfl rfl rfl rfl rfl rfl rfl (Bs 3 rfl rfl rfl rfl (Bs 3 rfl rfl rfl rfl (Bs 3 rfl rfl rfl rfl .nil)))) (hext1.trans hext))
   ·refine RT J J ?_
    refine Va J J ?_;refine S_add J J J J (by omega) ?_;refine Va J J ?_;refine Ds J J J ?_;refine Da J J ?_;refine Nt 8 J J J J J J fun back => ?_;refine S_slice Tk ZT_ok J J J J (by decide) (by decide) J J J J fun b41 => ?_;refine back _ _ _ _ (by kernel_rfl) ?_; clear back
    refine Da J J ?_;refine Nt 10 J J J J J J fun back => ?_;refine S_lendB 41 J J J J fun hG hb => ?_;refine S_call Tryz.call76 (c_l3Ahead _ _ 1 rest.length [.int .i64 12, .int .i64 1, .int .i64 0, .int .i64 0, .slice none 0 0, .slice none 0 0] xs _ ⟨_, _, J, by omega, by omega, by simp [maxLen], J, .inr ⟨_, J, gcells_own⟩⟩ (Sx_le (le_add hG) hxs) one6 (Cs_one Stm.rep_one hcs) (by omega)) J J J ?_
    rintro v1 G3 hv1 hext3
    refine S_backB 41 [.v (.int .i64 12), .v (.int .i64 1), .v (.int .i64 0), .v (.int .i64 0), .v (.slice none 0 0), .v (.slice none 0 0)] (hext3.le _ _ (PH.add_self _ _ _)) J J hb ?_
    have hle := le_del hext3.le hG
    have hv2 : Sts (G3.del b41) ([leaveS 1] ++ rest) v1 := ahead_Sts hv1 ⟨[.int .i64 12, .int .i64 1, .int .i64 0, .int .i64 0, .slice none 0 0, .slice none 0 0], [], by simp, rfl, leave_rep (by decide), rfl⟩ (Cs_mono (Stm.reps_le hle rest) hcs) newp_add_le
    obtain ⟨A1, c1, rfl, _⟩ := id hv2
    have hext1 := PH.ext.del hG hext3
    refine back _ _ _ _ (by kernel_rfl) ?_; clear back
    refine Da J J ?_;refine D_sole 11 J J (N_call 11 Tryz.call76 (c_l3AheadS x _ _ _ _ (Sts_le hle hx) hv2 (by simp only [List.length_append, List.length_singleton]; omega)) rfl rfl rfl rfl rfl rfl rfl rfl rfl rfl ?_)
    rintro v' G' hv' hext
    replace hv' := hv' hext.le
    obtain ⟨A', c', rfl, _⟩ := id hv'
    refine Da J J ?_;refine Ns 14 J J J J J J J J J ?_;refine DD ?_;refine Va J J ?_
    first | (exact RK (wKeys 1) (Res.c1 Tk Tryz.results69 rfl rfl) ⟨_, _, rfl, rfl, Tds_upd (hle.trans hext.le) (fun p => { p with room := 1, todo := (x ++ [leaveS 1]) ++ p.todo }) (len_upd hw) (Tds_upd (PH.le.refl _) (fun p => { p with todo := rest }) hw ht hrest) (by show Sts _ ((x ++ [leaveS 1]) ++ rest) _; simpa using hv')⟩ (Wvp [_] kg spg rfl ‹_› rfl rfl rfl rfl rfl rfl rfl rfl rfl) rfl (Wsub 5 rfl rfl rfl rfl rfl rfl rfl rfl rfl rfl rfl rfl rfl rfl rfl rfl (Bs 3 rfl rfl rfl rfl .nil)) (hext1.trans hext)) | (exact RK (wKeys 2) (Res.c1 Tk Tryz.results69 rfl rfl) ⟨_, _, rfl, rfl, Tds_upd (hle.trans hext.le) (fun p => { p with room := 1, todo := (x ++ [leaveS 1]) ++ p.todo }) (len_upd hw) (Tds_upd (PH.le.refl _) (fun p => { p with todo := rest }) hw ht hrest) (by show Sts _ ((x ++ [leaveS 1]) ++ rest) _; simpa using hv')⟩ (Wvp [_, _] kg spg rfl ‹_› rfl rfl rfl rfl rfl rfl rfl rfl rfl) rfl (Wsub 10 rfl rfl rfl rfl rfl rfl rfl rfl rfl rfl rfl rfl rfl rfl rfl rfl (Bs 3 rfl rfl rfl rfl (Bs 3 rfl rfl rfl rfl .nil))) (hext1.trans hext)) | (exact RK (wKeys 3) (Res.c1 Tk Tryz.results69 rfl rfl) ⟨_, _, rfl, rfl, Tds_upd (hle.trans hext.le) (fun p => { p with room := 1, todo := (x ++ [leaveS 1]) ++ p.todo }) (len_upd hw) (Tds_upd (PH.le.refl _) (fun p => { p with todo := rest }) hw ht hrest) (by show Sts _ ((x ++ [leaveS 1]) ++ rest) _; simpa using hv')⟩ (Wvp [_, _, _] kg spg rfl ‹_› rfl rfl rfl rfl rfl rfl rfl rfl rfl) rfl (Wsub 15 rfl rfl rfl rfl rfl rfl rfl rfl rfl rfl rfl rfl rfl rfl rfl rfl (Bs 3 rfl rfl rfl rfl (Bs 3 rfl rfl rfl rfl (Bs 3 rfl rfl rfl rfl .nil)))) (hext1.trans hext))
  ·rcases q10 (.inr rfl) with rfl | rfl
   all_goals
    refine RF J J ?_;refine Va J J ?_;refine RT J J ?_;refine Va J J ?_
    first | (exact RK (wKeys 1) (Res.c1 Tk Tryz.results69 J J) ⟨_, _, J, J, room_tds (W := Wld.upd ⟨_, _, _, _, _, _, _, _, _⟩ 0 (fun p => { p with todo := rest })) _ (.mk _ _ _ _ x y) (Tds_upd (PH.le.refl _) (fun p => { p with todo := rest }) hw ht hrest) (by simp [Stm.kind])⟩ (Wvp [_] kg spg J ‹_› J J J J J J J J J) J (Wsub 5 J J J J J J J J J J J J J J J J (Bs 3 J J J J .nil)) XR) | (exact RK (wKeys 2) (Res.c1 Tk Tryz.results69 J J) ⟨_, _, J, J, room_tds (W := Wld.upd ⟨_, _, _, _, _, _, _, _, _⟩ 0 (fun p => { p with todo := rest })) _ (.mk _ _ _ _ x y) (Tds_upd (PH.le.refl _) (fun p => { p with todo := rest }) hw ht hrest) (by simp [Stm.kind])⟩ (Wvp [_, _] kg spg J ‹_› J J J J J J J J J) J (Wsub 10 J J J J J J J J J J J J J J J J (Bs 3 J J J J (Bs 3 J J J J .nil))) XR) | (exact RK (wKeys 2) (Res.c1 Tk Tryz.results69 J J) ⟨_, _, J, J, room_tds (W := Wld.upd ⟨_, _, _, _, _, _, _, _, _⟩ 1 (fun p => { p with todo := rest })) _ (.mk _ _ _ _ x y) (Tds_upd (PH.le.refl _) (fun p => { p with todo := rest }) hw ht hrest) (by simp [Stm.kind])⟩ (Wvp [_, _] kg spg J ‹_› J J J J J J J J J) J (Wsub 10 J J J J J J J J J J J J J J J J (Bs 3 J J J J (Bs 3 J J J J .nil))) XR) | (exact RK (wKeys 3) (Res.c1 Tk Tryz.results69 J J) ⟨_, _, J, J, room_tds (W := Wld.upd ⟨_, _, _, _, _, _, _, _, _⟩ 0 (fun p => { p with todo := rest })) _ (.mk _ _ _ _ x y) (Tds_upd (PH.le.refl _) (fun p => { p with todo := rest }) hw ht hrest) (by simp [Stm.kind])⟩ (Wvp [_, _, _] kg spg J ‹_› J J J J J J J J J) J (Wsub 15 J J J J J J J J J J J J J J J J (Bs 3 J J J J (Bs 3 J J J J (Bs 3 J J J J .nil)))) XR) | (exact RK (wKeys 3) (Res.c1 Tk Tryz.results69 J J) ⟨_, _, J, J, room_tds (W := Wld.upd ⟨_, _, _, _, _, _, _, _, _⟩ 1 (fun p => { p with todo := rest })) _ (.mk _ _ _ _ x y) (Tds_upd (PH.le.refl _) (fun p => { p with todo := rest }) hw ht hrest) (by simp [Stm.kind])⟩ (Wvp [_, _, _] kg spg J ‹_› J J J J J J J J J) J (Wsub 15 J J J J J J J J J J J J J J J J (Bs 3 J J J J (Bs 3 J J J J (Bs 3 J J J J .nil)))) XR) | (exact RK (wKeys 3) (Res.c1 Tk Tryz.results69 J J) ⟨_, _, J, J, room_tds (W := Wld.upd ⟨_, _, _, _, _, _, _, _, _⟩ 2 (fun p => { p with todo := rest })) _ (.mk _ _ _ _ x y) (Tds_upd (PH.le.refl _) (fun p => { p with todo := rest }) hw ht hrest) (by simp [Stm.kind])⟩ (Wvp [_, _, _] kg spg J ‹_› J J J J J J J J J) J (Wsub 15 J J J J J J J J J J J J J J J J (Bs 3 J J J J (Bs 3 J J J J (Bs 3 J J J J .nil)))) XR)
  ·obtain ⟨ha, hro⟩ := q9 rfl
   first | (replace hro : is2 ro0 := hro) | (replace hro : is2 ro1 := hro) | (replace hro : is2 ro2 := hro)
   rcases hro with rfl | rfl
   all_goals rcases ha with rfl | rfl
   all_goals
    refine RF J J ?_;refine Va J J ?_;refine RF J J ?_;refine Va J J ?_;refine RT J J ?_;refine Va J J ?_;refine Ds J J J ?_;refine Da J J ?_;refine Ns 9 J J J J J J J J J ?_;refine DD ?_;refine Va J J ?_;refine Ds J J J ?_;refine Da J J ?_;refine Nt 11 J J J J J J fun back => ?_;refine S_slice Tk ZT_ok J J J J (by decide) (by decide) J J J J fun b93 => ?_;refine back _ _ _ _ (by kernel_rfl) ?_; clear back
    refine Nt 12 J J J J J J fun back => ?_
    first | (refine S_appInt Tk 1005 93 J J J J J J J J J J J J J (fun _ _ => J) (by assumption) (Nat.zero_le _) fun A' c' => ?_) | (refine S_appInt Tk 1006 93 J J J J J J J J J J J J J (fun _ _ => J) (by assumption) (Nat.zero_le _) fun A' c' => ?_)
    refine back _ _ _ _ (by kernel_rfl) ?_; clear back
    refine Da J J ?_;refine Ns 14 J J J J J J J J J ?_;refine DD ?_;refine Va J J ?_
    first | (exact RK (wKeys 1) (Res.c1 Tk Tryz.results69 J J) ⟨_, _, J, J, room_tds (W := Wld.upd ⟨_, _, _, _, _, _, _, _, _⟩ 0 (fun p => { p with todo := rest })) _ (.mk _ _ _ _ x y) (Tds_upd (PH.le.refl _) (fun p => { p with todo := rest }) hw ht hrest) (by simp [Stm.kind])⟩ (Wvp [_] kg spg J ‹_› J J J J J J J J J) J (Wsub 5 J J J J J J J J J J J J J J J J (Bs 3 J J J J .nil)) XR) | (exact RK (wKeys 2) (Res.c1 Tk Tryz.results69 J J) ⟨_, _, J, J, room_tds (W := Wld.upd ⟨_, _, _, _, _, _, _, _, _⟩ 0 (fun p => { p with todo := rest })) _ (.mk _ _ _ _ x y) (Tds_upd (PH.le.refl _) (fun p => { p with todo := rest }) hw ht hrest) (by simp [Stm.kind])⟩ (Wvp [_, _] kg spg J ‹_› J J J J J J J J J) J (Wsub 10 J J J J J J J J J J J J J J J J (Bs 3 J J J J (Bs 3 J J J J .nil))) XR) | (exact RK (wKeys 2) (Res.c1 Tk Tryz.results69 J J) ⟨_, _, J, J, room_tds (W := Wld.upd ⟨_, _, _, _, _, _, _, _, _⟩ 1 (fun p => { p with todo := rest })) _ (.mk _ _ _ _ x y) (Tds_upd (PH.le.refl _) (fun p => { p with todo := rest }) hw ht hrest) (by simp [Stm.kind])⟩ (Wvp [_, _] kg spg J ‹_› J J J J J J J J J) J (Wsub 10 J J J J J J J J J J J J J J J J (Bs 3 J J J J (Bs 3 J J J J .nil))) XR) | (exact RK (wKeys 3) (Res.c1 Tk Tryz.results69 J J) ⟨_, _, J, J, room_tds (W := Wld.upd ⟨_, _, _, _, _, _, _, _, _⟩ 0 (fun p => { p with todo := rest })) _ (.mk _ _ _ _ x y) (Tds_upd (PH.le.refl _) (fun p => { p with todo := rest }) hw ht hrest) (by simp [Stm.kind])⟩ (Wvp [_, _, _] kg spg J ‹_› J J J J J J J J J) J (Wsub 15 J J J J J J J J J J J J J J J J (Bs 3 J J J J (Bs 3 J J J J (Bs 3 J J J J .nil)))) XR) | (exact RK (wKeys 3) (Res.c1 Tk Tryz.results69 J J) ⟨_, _, J, J, room_tds (W := Wld.upd ⟨_, _, _, _, _, _, _, _, _⟩ 1 (fun p => { p with todo := rest })) _ (.mk _ _ _ _ x y) (Tds_upd (PH.le.refl _) (fun p => { p with todo := rest }) hw ht hrest) (by simp [Stm.kind])⟩ (Wvp [_, _, _] kg spg J ‹_› J J J J J J J J J) J (Wsub 15 J J J J J J J J J J J J J J J J (Bs 3 J J J J (Bs 3 J J J J (Bs 3 J J J J .nil)))) XR) | (exact RK (wKeys 3) (Res.c1 Tk Tryz.results69 J J) ⟨_, _, J, J, room_tds (W := Wld.upd ⟨_, _, _, _, _, _, _, _, _⟩ 2 (fun p => { p with todo := rest })) _ (.mk _ _ _ _ x y) (Tds_upd (PH.le.refl _) (fun p => { p with todo := rest }) hw ht hrest) (by simp [Stm.kind])⟩ (Wvp [_, _, _] kg spg J ‹_› J J J J J J J J J) J (Wsub 15 J J J J J J J J J J J J J J J J (Bs 3 J J J J (Bs 3 J J J J (Bs 3 J J J J .nil)))) XR)
  ·rcases q10 (.inl rfl) with rfl | rfl
   all_goals
    refine RF J J ?_;refine Va J J ?_;refine RF J J ?_;refine Va J J ?_;refine RF J J ?_;refine Va J J ?_;refine RT J J ?_;refine Va J J ?_
    first | (refine S_callPk 9 (wKeys 1) Tryz.call77 (c_l3Signal (Wld.upd ⟨_, _, _, _, _, _, _, _, _⟩ 0 (fun p => { p with todo := rest })) _ _ _ (by rw [upd_len]; exact h1) (by rw [upd_len]; exact h3) (Tds_upd (PH.le.refl _) (fun p => { p with todo := rest }) hw ht hrest) (fun f hf => by rw [upd_len]; exact hf0 f hf) (fun f hf => by rw [upd_len]; exact hf1 f hf) 0 (by simp [is2])) (Wvp [_] kg spg J ‹_› J J J J J J J J J) J (Wsub 5 J J J J J J J J J J J J J J J J (Bs 3 J J J J .nil)) J J J ?_) | (refine S_callPk 9 (wKeys 1) Tryz.call77 (c_l3Signal (Wld.upd ⟨_, _, _, _, _, _, _, _, _⟩ 0 (fun p => { p with todo := rest })) _ _ _ (by rw [upd_len]; exact h1) (by rw [upd_len]; exact h3) (Tds_upd (PH.le.refl _) (fun p => { p with todo := rest }) hw ht hrest) (fun f hf => by rw [upd_len]; exact hf0 f hf) (fun f hf => by rw [upd_len]; exact hf1 f hf) 1 (by simp [is2])) (Wvp [_] kg spg J ‹_› J J J J J J J J J) J (Wsub 5 J J J J J J J J J J J J J J J J (Bs 3 J J J J .nil)) J J J ?_) | (refine S_callPk 9 (wKeys 2) Tryz.call77 (c_l3Signal (Wld.upd ⟨_, _, _, _, _, _, _, _, _⟩ 0 (fun p => { p with todo := rest })) _ _ _ (by rw [upd_len]; exact h1) (by rw [upd_len]; exact h3) (Tds_upd (PH.le.refl _) (fun p => { p with todo := rest }) hw ht hrest) (fun f hf => by rw [upd_len]; exact hf0 f hf) (fun f hf => by rw [upd_len]; exact hf1 f hf) 0 (by simp [is2])) (Wvp [_, _] kg spg J ‹_› J J J J J J J J J) J (Wsub 10 J J J J J J J J J J J J J J J J (Bs 3 J J J J (Bs 3 J J J J .nil))) J J J ?_) | (refine S_callPk 9 (wKeys 2) Tryz.call77 (c_l3Signal (Wld.upd ⟨_, _, _, _, _, _, _, _, _⟩ 0 (fun p => { p with todo := rest })) _ _ _ (by rw [upd_len]; exact h1) (by rw [upd_len]; exact h3) (Tds_upd (PH.le.refl _) (fun p => { p with todo := rest }) hw ht hrest) (fun f hf => by rw [upd_len]; exact hf0 f hf) (fun f hf => by rw [upd_len]; exact hf1 f hf) 1 (by simp [is2])) (Wvp [_, _] kg spg J ‹_› J J J J J J J J J) J (Wsub 10 J J J J J J J J J J J J J J J J (Bs 3 J J J J (Bs 3 J J J J .nil))) J J J ?_) | (refine S_callPk 9 (wKeys 2) Tryz.call77 (c_l3Signal (Wld.upd ⟨_, _, _, _, _, _, _, _, _⟩ 1 (fun p => { p with todo := rest })) _ _ _ (by rw [upd_len]; exact h1) (by rw [upd_len]; exact h3) (Tds_upd (PH.le.refl _) (fun p => { p with todo := rest }) hw ht hrest) (fun f hf => by rw [upd_len]; exact hf0 f hf) (fun f hf => by rw [upd_len]; exact hf1 f hf) 0 (by simp [is2])) (Wvp [_, _] kg spg J ‹_› J J J J J J J J J) J (Wsub 10 J J J J J J J J J J J J J J J J (Bs 3 J J J J (Bs 3 J J J J .nil))) J J J ?_) | (refine S_callPk 9 (wKeys 2) Tryz.call77 (c_l3Signal (Wld.upd ⟨_, _, _, _, _, _, _, _, _⟩ 1 (fun p => { p with todo := rest })) _ _ _ (by rw [upd_len]; exact h1) (by rw [upd_len]; exact h3) (Tds_upd (PH.le.refl _) (fun p => { p with todo := rest }) hw ht hrest) (fun f hf => by rw [upd_len]; exact hf0 f hf) (fun f hf => by rw [upd_len]; exact hf1 f hf) 1 (by simp [is2])) (Wvp [_, _] kg spg J ‹_› J J J J J J J J J) J (Wsub 10 J J J J J J J J J J J J J J J J (Bs 3 J J J J (Bs 3 J J J J .nil))) J J J ?_) | (refine S_callPk 9 (wKeys 3) Tryz.call77 (c_l3Signal (Wld.upd ⟨_, _, _, _, _, _, _, _, _⟩ 0 (fun p => { p with todo := rest })) _ _ _ (by rw [upd_len]; exact h1) (by rw [upd_len]; exact h3) (Tds_upd (PH.le.refl _) (fun p => { p with todo := rest }) hw ht hrest) (fun f hf => by rw [upd_len]; exact hf0 f hf) (fun f hf => by rw [upd_len]; exact hf1 f hf) 0 (by simp [is2])) (Wvp [_, _, _] kg spg J ‹_› J J J J J J J J J) J (Wsub 15 J J J J J J J J J J J J J J J J (Bs 3 J J J J (Bs 3 J J J J (Bs 3 J J J J .nil)))) J J J ?_) | (refine S_callPk 9 (wKeys 3) Tryz.call77 (c_l3Signal (Wld.upd ⟨_, _, _, _, _, _, _, _, _⟩ 0 (fun p => { p with todo := rest })) _ _ _ (by rw [upd_len]; exact h1) (by rw [upd_len]; exact h3) (Tds_upd (PH.le.refl _) (fun p => { p with todo := rest }) hw ht hrest) (fun f hf => by rw [upd_len]; exact hf0 f hf) (fun f hf => by rw [upd_len]; exact hf1 f hf) 1 (by simp [is2])) (Wvp [_, _, _] kg spg J ‹_› J J J J J J J J J) J (Wsub 15 J J J J J J J J J J J J J J J J (Bs 3 J J J J (Bs 3 J J J J (Bs 3 J J J J .nil)))) J J J ?_) | (refine S_callPk 9 (wKeys 3) Tryz.call77 (c_l3Signal (Wld.upd ⟨_, _, _, _, _, _, _, _, _⟩ 1 (fun p => { p with todo := rest })) _ _ _ (by rw [upd_len]; exact h1) (by rw [upd_len]; exact h3) (Tds_upd (PH.le.refl _) (fun p => { p with todo := rest }) hw ht hrest) (fun f hf => by rw [upd_len]; exact hf0 f hf) (fun f hf => by rw [upd_len]; exact hf1 f hf) 0 (by simp [is2])) (Wvp [_, _, _] kg spg J ‹_› J J J J J J J J J) J (Wsub 15 J J J J J J J J J J J J J J J J (Bs 3 J J J J (Bs 3 J J J J (Bs 3 J J J J .nil)))) J J J ?_) | (refine S_callPk 9 (wKeys 3) Tryz.call77 (c_l3Signal (Wld.upd ⟨_, _, _, _, _, _, _, _, _⟩ 1 (fun p => { p with todo := rest })) _ _ _ (by rw [upd_len]; exact h1) (by rw [upd_len]; exact h3) (Tds_upd (PH.le.refl _) (fun p => { p with todo := rest }) hw ht hrest) (fun f hf => by rw [upd_len]; exact hf0 f hf) (fun f hf => by rw [upd_len]; exact hf1 f hf) 1 (by simp [is2])) (Wvp [_, _, _] kg spg J ‹_› J J J J J J J J J) J (Wsub 15 J J J J J J J J J J J J J J J J (Bs 3 J J J J (Bs 3 J J J J (Bs 3 J J J J .nil)))) J J J ?_) | (refine S_callPk 9 (wKeys 3) Tryz.call77 (c_l3Signal (Wld.upd ⟨_, _, _, _, _, _, _, _, _⟩ 2 (fun p => { p with todo := rest })) _ _ _ (by rw [upd_len]; exact h1) (by rw [upd_len]; exact h3) (Tds_upd (PH.le.refl _) (fun p => { p with todo := rest }) hw ht hrest) (fun f hf => by rw [upd_len]; exact hf0 f hf) (fun f hf => by rw [upd_len]; exact hf1 f hf) 0 (by simp [is2])) (Wvp [_, _, _] kg spg J ‹_› J J J J J J J J J) J (Wsub 15 J J J J J J J J J J J J J J J J (Bs 3 J J J J (Bs 3 J J J J (Bs 3 J J J J .nil)))) J J J ?_) | (refine S_callPk 9 (wKeys 3) Tryz.call77 (c_l3Signal (Wld.upd ⟨_, _, _, _, _, _, _, _, _⟩ 2 (fun p => { p with todo := rest })) _ _ _ (by rw [upd_len]; exact h1) (by rw [upd_len]; exact h3) (Tds_upd (PH.le.refl _) (fun p => { p with todo := rest }) hw ht hrest) (fun f hf => by rw [upd_len]; exact hf0 f hf) (fun f hf => by rw [upd_len]; exact hf1 f hf) 1 (by simp [is2])) (Wvp [_, _, _] kg spg J ‹_› J J J J J J J J J) J (Wsub 15 J J J J J J J J J J J J J J J J (Bs 3 J J J J (Bs 3 J J J J (Bs 3 J J J J .nil)))) J J J ?_)
    rintro v G' A' ⟨cs', ts', rfl, rfl, ht'⟩ hext
    refine S_csV 9 J ?_;rintro bp bc br bs kp asd ksd kc kr ks rfl
    refine Va J J ?_;exact S_retm 9 (Res.c1 Tk Tryz.results69 J J) J hext ⟨_, _, J, J, ht'⟩
end
section
attribute [local irreducible] X Pure Mod
theorem updL_updL {α : Type} {f g : α → α} : ∀ (l : List α) (i : Nat), updL f i (updL g i l) = updL (fun x => f (g x)) i l
 | [], i => by cases i <;> rfl
 | x :: l, 0 => rfl
 | x :: l, i + 1 => by simp [updL, updL_updL l i]
theorem updL_congr {α : Type} {f g : α → α} : ∀ (l : List α) (i : Nat), (∀ x, l[i]? = some x → f x = g x) → updL f i l = updL g i l
 | [], i, _ => by cases i <;> rfl
 | x :: l, 0, h => by simp [updL, h x rfl]
 | x :: l, i + 1, h => by simp only [updL]; rw [updL_congr l i (fun y hy => h y (by simpa using hy))]
theorem updL_get {α : Type} {f : α → α} : ∀ (l : List α) (i : Nat), (updL f i l)[i]? = l[i]?.map f
 | [], i => by cases i <;> rfl
 | x :: l, 0 => rfl
 | x :: l, i + 1 => by simp [updL, updL_get l i]
theorem goes_eq {W : Wld} {who : Nat} {p : Prc} {s : Stm} {r : List Stm} (hp : W.procs[who]? = some p) (hm : p.mode ≠ 2) (ht : p.todo = s :: r) (hk : s.kind = 6 ∨ s.kind = 7) :
  W.upd who (fun p => { p with todo := goesL W who s ++ r }) = W.step who := by
 rw [step_eq hp hm ht]
 have hreg : ∀ k, (W.upd who pop).reg who k = W.reg who k := by
  intro k
  unfold Wld.reg
  rw [show (W.upd who pop).procs[who]? = W.procs[who]?.map pop from updL_get _ _, hp]
  rfl
 have key : ∀ (L : List Stm), L = goesL W who s → W.upd who (fun p => { p with todo := goesL W who s ++ r }) = (W.upd who pop).upd who (fun p => { p with todo := L ++ p.todo }) := by
  intro L hL
  subst hL
  show Wld.mk _ _ _ _ _ _ _ _ _ = Wld.mk _ _ _ _ _ _ _ _ _
  rw [Wld.mk.injEq]
  refine ⟨?_, J, J, J, J, J, J, J, J⟩
  show updL _ _ _ = updL _ _ (updL _ _ _)
  rw [updL_updL]
  refine updL_congr _ _ fun x hx => ?_
  rw [hp] at hx
  cases hx
  simp [pop, ht]
 rcases hk with hk | hk
 ·rw [show (W.upd who pop).stepS who s = (W.upd who pop).upd who (fun p => { p with todo := (if (W.upd who pop).reg who s.a = 0 then s.els else s.body) ++ p.todo }) by simp [Wld.stepS, hk]]
  exact key _ (by rw [hreg]; simp [goesL, hk])
 ·rw [show (W.upd who pop).stepS who s = (W.upd who pop).upd who (fun p => { p with todo := (if (W.upd who pop).reg who s.a = 0 then [] else s.body ++ [s]) ++ p.todo }) by simp [Wld.stepS, hk]]
  exact key _ (by rw [hreg]; simp [goesL, hk])
theorem em2 {p q r : Prop} (h : (p → q) ∧ (¬ p → r)) : (p ∧ q) ∨ (¬ p ∧ r) := by
 by_cases hp : p
 ·exact .inl ⟨hp, h.1 hp⟩
 ·exact .inr ⟨hp, h.2 hp⟩
theorem leaf_eq (W : Wld) (who : Nat) (s : Stm) (h6 : s.kind ≠ 6) (h7 : s.kind ≠ 7) (h8 : s.kind ≠ 8) (h9 : s.kind ≠ 9) (h10 : s.kind ≠ 10) (h12 : s.kind ≠ 12) : W.leaf who s = W.stepS who s := by
 simp [Wld.leaf, Wld.stepS, h6, h7, h8, h9, h10, h12]
theorem c_l3Step (W : Wld) (who : Nat) (cs : List Value) (ts : List Value) (G : PH) (hr : Rdy W) (ht : Tds G W.procs ts) (hw : who < W.procs.length) (hc : ∀ p, W.procs[who]? = some p → (p.mode = 2 → is2 p.room) ∧ (p.mode ≠ 2 → ∃ s r, p.todo = s :: r ∧ SOk s p.room)) :
  Mod Tryz.prog 46 [.agg cs.toArray, .int .i64 (who : Nat)] G (worldV cs W ts) (VPost (W.step who)) := by
 have hste : ∀ p s r, W.procs[who]? = some p → p.mode ≠ 2 → p.todo = s :: r → W.step who = (W.upd who pop).stepS who s := fun p s r h1 h2 h3 => step_eq h1 h2 h3
 have hgoe : ∀ p s r, W.procs[who]? = some p → p.mode ≠ 2 → p.todo = s :: r → (s.kind = 6 ∨ s.kind = 7) → W.upd who (fun p => { p with todo := goesL W who s ++ r }) = W.step who := fun p s r h1 h2 h3 h4 => goes_eq h1 h2 h3 h4
 refine Mod.intro Tryz.func46 Tryz.ntmps46 J J fun w S => ?_
 have h1 := hr.n1
 have h3 := hr.n3
 have hq0 := hr.q0
 have hq1 := hr.q1
 have hf0 := hr.f0
 have hf1 := hr.f1
 have hsd := hr.sd
 obtain ⟨ps, x0, x1, x2, m0, m1, q0, q1, sd⟩ := W
 rcases shape hr.n1 hr.n3 ht with ⟨⟨a0, a1, a2, td0, mo0, on0, ro0⟩, A0, k0, rfl, rfl, s0⟩ | ⟨⟨a0, a1, a2, td0, mo0, on0, ro0⟩, A0, k0, ⟨b0, b1, b2, td1, mo1, on1, ro1⟩, A1, k1, rfl, rfl, s0, s1⟩ | ⟨⟨a0, a1, a2, td0, mo0, on0, ro0⟩, A0, k0, ⟨b0, b1, b2, td1, mo1, on1, ro1⟩, A1, k1, ⟨d0, d1, d2, td2, mo2, on2, ro2⟩, A2, k2, rfl, rfl, s0, s1, s2⟩
 obtain rfl : who = 0 := by simpa using hw
 rotate_left
 rcases (by simp at hw; omega : who = 0 ∨ who = 1) with rfl | rfl
 rotate_left 2
 rcases (by simp at hw; omega : who = 0 ∨ who = 1 ∨ who = 2) with rfl | rfl | rfl
 all_goals
  have hc' := hc _ rfl
  simp only at hc'
  rcases em2 hc' with ⟨hm, hro⟩ | ⟨hm, s, r, htd, hs⟩
  ·subst hm
   refine OvV 1 0 J J J J fun bp bc br bs bg kp sp asd ksd aq0 kq0 aq1 kq1 kc spc kr spr ks sps kg spg hbg hmk hce => ?_; subst hce; (first | obtain ⟨g0, rfl⟩ := len1 hbg | obtain ⟨g0, g1, rfl⟩ := len2 hbg | obtain ⟨g0, g1, g2, rfl⟩ := len3 hbg); clear hbg; refine NM J J ?_; dsimp only [wEnts, wCels, procCs, regEs, WX.of, vi]
   refine Va J J ?_;refine S_box J J J J J fun b2 => ?_;refine Va J J ?_;refine AZ ZT_ok J J J J fun b4 => ?_;refine Va J J ?_;refine AZ ZT_ok J J J J fun b5 => ?_;refine Va J J ?_
   rcases hro with rfl | rfl <;>
   ·refine RT J J ?_
    refine Va J J ?_;refine S_add J J J J (by omega) ?_;refine Va J J ?_
    first | (exact RK (wKeys 1) (Res.c1 Tk Tryz.results46 J J) ⟨_, [_], J, J, ht⟩ (Wvp [_] kg spg J ‹_› J J J J J J J J J) J (Wsub 5 J J J J J J J J J J J J J J J J (Bs 3 J J J J .nil)) XR) | (exact RK (wKeys 2) (Res.c1 Tk Tryz.results46 J J) ⟨_, [_,_], J, J, ht⟩ (Wvp [_, _] kg spg J ‹_› J J J J J J J J J) J (Wsub 10 J J J J J J J J J J J J J J J J (Bs 3 J J J J (Bs 3 J J J J .nil))) XR) | (exact RK (wKeys 3) (Res.c1 Tk Tryz.results46 J J) ⟨_, [_,_,_], J, J, ht⟩ (Wvp [_, _, _] kg spg J ‹_› J J J J J J J J J) J (Wsub 15 J J J J J J J J J J J J J J J J (Bs 3 J J J J (Bs 3 J J J J (Bs 3 J J J J .nil)))) XR)
  ·subst htd
   have hst := hste _ s r rfl hm rfl
   have hgo := fun hk => hgoe _ s r rfl hm rfl hk
   first | (obtain ⟨ad, vx, vy, rfl, hcs, hx, hy, i1, i2, i3, i4⟩ := Sts_head s0) | (obtain ⟨ad, vx, vy, rfl, hcs, hx, hy, i1, i2, i3, i4⟩ := Sts_head s1) | (obtain ⟨ad, vx, vy, rfl, hcs, hx, hy, i1, i2, i3, i4⟩ := Sts_head s2)
   obtain ⟨kk, a, bb, n, x, y⟩ := s
   simp only [Stm.kind, Stm.a, Stm.b, Stm.n, Stm.body, Stm.els] at hcs hx hy i1 i2 i3 i4
   have hrl : r.length ≤ 1000000 := by
    have := hr.tl _ (List.getElem_mem hw)
    simp at this
    omega
   first | (have htail := Sts_tail s0) | (have htail := Sts_tail s1) | (have htail := Sts_tail s2)
   obtain ⟨Ax, cx, rfl, _⟩ := id hx
   obtain ⟨Ay, cy, rfl, _⟩ := id hy
   obtain ⟨xs, hxs, hcx⟩ := Sr_Sx (fun s cs h => Stm.rep_len h) htail
   obtain ⟨_, _, heq, hn1, hnc1, hcm1, hlen1, hrow1⟩ := hxs
   cases heq
   refine OvV 1 0 J J J J fun bp bc br bs bg kp sp asd ksd aq0 kq0 aq1 kq1 kc spc kr spr ks sps kg spg hbg hmk hce => ?_; subst hce; (first | obtain ⟨g0, rfl⟩ := len1 hbg | obtain ⟨g0, g1, rfl⟩ := len2 hbg | obtain ⟨g0, g1, g2, rfl⟩ := len3 hbg); clear hbg; refine NM J J ?_; dsimp only [wEnts, wCels, procCs, regEs, WX.of, vi]
   refine Va J J ?_;refine S_box J J J J J fun b2 => ?_;refine Va J J ?_;refine AZ ZT_ok J J J J fun b4 => ?_;refine Va J J ?_;refine AZ ZT_ok J J J J fun b5 => ?_;refine Va J J ?_;refine RF J (by simp [hm]) ?_;refine Va J J ?_
   refine S_index Tk J J J J J J (by omega) (by simp <;> omega) ?_
   refine S_loadA Tk J J J J J (by simpa [add_zero'] using hcs) ?_;refine Va J J ?_;refine AZ ZT_ok J J J J fun b6 => ?_;refine Va J J ?_;refine S_emptyO Tk 33 J J J J fun A33 => ?_;refine Va J J ?_;refine S_valV J J J (V_slice1 Tk J J J) ?_;refine Va J J ?_;refine S_appO Tk 33 J J J J J J J J J J J (fun _ _ => J) (src_G hlen1 hrow1) (Cs_one Stm.rep_one hcx) (by simp only; omega) (by simp only [maxLen]; omega) (Nat.le_refl _) fun A1' c1' => ?_
   rw [Nat.zero_add r.length]
   refine Va J J ?_;refine S_freezeR 33 J J (Nat.le_refl _) fun G1 hext1 hnc' hcm' hcl => ?_
   have hle1 := hext1.le
   have hr1 : Sts G1 r (.slice A1' r.length c1') := Sx_Sr (Sx_le (newp_le _ _) ⟨A1', c1', rfl, hn1, by simpa using hnc', hcm', hlen1, by simpa using hcl⟩) rfl (Cs_mono (Stm.reps_le hle1 r) hcx)
   refine Va J J ?_
   by_cases e6 : kk = 6
   ·subst e6
    refine RT J J ?_;refine Va J J ?_;refine RT J J ?_;refine Va J J ?_
    first | (refine S_callPk 9 (wKeys 1) Tryz.call68 (c_l3Goes ⟨_, _, _, _, _, _, _, _, _⟩ 0 _ _ G1 h1 h3 (Tds_le hle1 ht) hw 6 a bb n x y r _ _ _ (Sts_le hle1 hx) (Sts_le hle1 hy) hr1 ⟨i1, i2, i3, i4⟩ (hs.r6 (by simp [Stm.kind])).2.1 (hs.r6 (by simp [Stm.kind])).2.2 hrl (hs.r6 (by simp [Stm.kind])).1 (by simp)) (Wvp [_] kg spg J ‹_› J J J J J J J J J) J (Wsub 5 J J J J J J J J J J J J J J J J (Bs 3 J J J J .nil)) J J J ?_) | (refine S_callPk 9 (wKeys 2) Tryz.call68 (c_l3Goes ⟨_, _, _, _, _, _, _, _, _⟩ 0 _ _ G1 h1 h3 (Tds_le hle1 ht) hw 6 a bb n x y r _ _ _ (Sts_le hle1 hx) (Sts_le hle1 hy) hr1 ⟨i1, i2, i3, i4⟩ (hs.r6 (by simp [Stm.kind])).2.1 (hs.r6 (by simp [Stm.kind])).2.2 hrl (hs.r6 (by simp [Stm.kind])).1 (by simp)) (Wvp [_, _] kg spg J ‹_› J J J J J J J J J) J (Wsub 10 J J J J J J J J J J J J J J J J (Bs 3 J J J J (Bs 3 J J J J .nil))) J J J ?_) | (refine S_callPk 9 (wKeys 2) Tryz.call68 (c_l3Goes ⟨_, _, _, _, _, _, _, _, _⟩ 1 _ _ G1 h1 h3 (Tds_le hle1 ht) hw 6 a bb n x y r _ _ _ (Sts_le hle1 hx) (Sts_le hle1 hy) hr1 ⟨i1, i2, i3, i4⟩ (hs.r6 (by simp [Stm.kind])).2.1 (hs.r6 (by simp [Stm.kind])).2.2 hrl (hs.r6 (by simp [Stm.kind])).1 (by simp)) (Wvp [_, _] kg spg J ‹_› J J J J J J J J J) J (Wsub 10 J J J J J J J J J J J J J J J J (Bs 3 J J J J (Bs 3 J J J J .nil))) J J J ?_) | (refine S_callPk 9 (wKeys 3) Tryz.call68 (c_l3Goes ⟨_, _, _, _, _, _, _, _, _⟩ 0 _ _ G1 h1 h3 (Tds_le hle1 ht) hw 6 a bb n x y r _ _ _ (Sts_le hle1 hx) (Sts_le hle1 hy) hr1 ⟨i1, i2, i3, i4⟩ (hs.r6 (by simp [Stm.kind])).2.1 (hs.r6 (by simp [Stm.kind])).2.2 hrl (hs.r6 (by simp [Stm.kind])).1 (by simp)) (Wvp [_, _, _] kg spg J ‹_› J J J J J J J J J) J (Wsub 15 J J J J J J J J J J J J J J J J (Bs 3 J J J J (Bs 3 J J J J (Bs 3 J J J J .nil)))) J J J ?_) | (refine S_callPk 9 (wKeys 3) Tryz.call68 (c_l3Goes ⟨_, _, _, _, _, _, _, _, _⟩ 1 _ _ G1 h1 h3 (Tds_le hle1 ht) hw 6 a bb n x y r _ _ _ (Sts_le hle1 hx) (Sts_le hle1 hy) hr1 ⟨i1, i2, i3, i4⟩ (hs.r6 (by simp [Stm.kind])).2.1 (hs.r6 (by simp [Stm.kind])).2.2 hrl (hs.r6 (by simp [Stm.kind])).1 (by simp)) (Wvp [_, _, _] kg spg J ‹_› J J J J J J J J J) J (Wsub 15 J J J J J J J J J J J J J J J J (Bs 3 J J J J (Bs 3 J J J J (Bs 3 J J J J .nil)))) J J J ?_) | (refine S_callPk 9 (wKeys 3) Tryz.call68 (c_l3Goes ⟨_, _, _, _, _, _, _, _, _⟩ 2 _ _ G1 h1 h3 (Tds_le hle1 ht) hw 6 a bb n x y r _ _ _ (Sts_le hle1 hx) (Sts_le hle1 hy) hr1 ⟨i1, i2, i3, i4⟩ (hs.r6 (by simp [Stm.kind])).2.1 (hs.r6 (by simp [Stm.kind])).2.2 hrl (hs.r6 (by simp [Stm.kind])).1 (by simp)) (Wvp [_, _, _] kg spg J ‹_› J J J J J J J J J) J (Wsub 15 J J J J J J J J J J J J J J J J (Bs 3 J J J J (Bs 3 J J J J (Bs 3 J J J J .nil)))) J J J ?_)
    rintro v G2 A' ⟨cs', ts', rfl, rfl, ht'⟩ hext
    refine S_csV 9 J ?_;rintro bp bc br bs kp asd ksd kc kr ks rfl
    refine Va J J ?_;exact S_retm 9 (Res.c1 Tk Tryz.results46 J J) J (hext1.trans hext) ⟨_, _, J, by rw [← hgo (by simp [Stm.kind])], by rw [← hgo (by simp [Stm.kind])]; exact ht'⟩
   by_cases e7 : kk = 7
   ·subst e7
    refine RF J J ?_;refine Va J J ?_;refine RT J J ?_;refine Va J J ?_
    first | (refine S_callPk 9 (wKeys 1) Tryz.call68 (c_l3Goes ⟨_, _, _, _, _, _, _, _, _⟩ 0 _ _ G1 h1 h3 (Tds_le hle1 ht) hw 7 a bb n x y r _ _ _ (Sts_le hle1 hx) (Sts_le hle1 hy) hr1 ⟨i1, i2, i3, i4⟩ (hs.r6 (by simp [Stm.kind])).2.1 (hs.r6 (by simp [Stm.kind])).2.2 hrl (hs.r6 (by simp [Stm.kind])).1 (by simp)) (Wvp [_] kg spg J ‹_› J J J J J J J J J) J (Wsub 5 J J J J J J J J J J J J J J J J (Bs 3 J J J J .nil)) J J J ?_) | (refine S_callPk 9 (wKeys 2) Tryz.call68 (c_l3Goes ⟨_, _, _, _, _, _, _, _, _⟩ 0 _ _ G1 h1 h3 (Tds_le hle1 ht) hw 7 a bb n x y r _ _ _ (Sts_le hle1 hx) (Sts_le hle1 hy) hr1 ⟨i1, i2, i3, i4⟩ (hs.r6 (by simp [Stm.kind])).2.1 (hs.r6 (by simp [Stm.kind])).2.2 hrl (hs.r6 (by simp [Stm.kind])).1 (by simp)) (Wvp [_, _] kg spg J ‹_› J J J J J J J J J) J (Wsub 10 J J J J J J J J J J J J J J J J (Bs 3 J J J J (Bs 3 J J J J .nil))) J J J ?_) | (refine S_callPk 9 (wKeys 2) Tryz.call68 (c_l3Goes ⟨_, _, _, _, _, _, _, _, _⟩ 1 _ _ G1 h1 h3 (Tds_le hle1 ht) hw 7 a bb n x y r _ _ _ (Sts_le hle1 hx) (Sts_le hle1 hy) hr1 ⟨i1, i2, i3, i4⟩ (hs.r6 (by simp [Stm.kind])).2.1 (hs.r6 (by simp [Stm.kind])).2.2 hrl (hs.r6 (by simp [Stm.kind])).1 (by simp)) (Wvp [_, _] kg spg J ‹_› J J J J J J J J J) J (Wsub 10 J J J J J J J J J J J J J J J J (Bs 3 J J J J (Bs 3 J J J J .nil))) J J J ?_) | (refine S_callPk 9 (wKeys 3) Tryz.call68 (c_l3Goes ⟨_, _, _, _, _, _, _, _, _⟩ 0 _ _ G1 h1 h3 (Tds_le hle1 ht) hw 7 a bb n x y r _ _ _ (Sts_le hle1 hx) (Sts_le hle1 hy) hr1 ⟨i1, i2, i3, i4⟩ (hs.r6 (by simp [Stm.kind])).2.1 (hs.r6 (by simp [Stm.kind])).2.2 hrl (hs.r6 (by simp [Stm.kind])).1 (by simp)) (Wvp [_, _, _] kg spg J ‹_› J J J J J J J J J) J (Wsub 15 J J J J J J J J J J J J J J J J (Bs 3 J J J J (Bs 3 J J J J (Bs 3 J J J J .nil)))) J J J ?_) | (refine S_callPk 9 (wKeys 3) Tryz.call68 (c_l3Goes ⟨_, _, _, _, _, _, _, _, _⟩ 1 _ _ G1 h1 h3 (Tds_le hle1 ht) hw 7 a bb n x y r _ _ _ (Sts_le hle1 hx) (Sts_le hle1 hy) hr1 ⟨i1, i2, i3, i4⟩ (hs.r6 (by simp [Stm.kind])).2.1 (hs.r6 (by simp [Stm.kind])).2.2 hrl (hs.r6 (by simp [Stm.kind])).1 (by simp)) (Wvp [_, _, _] kg spg J ‹_› J J J J J J J J J) J (Wsub 15 J J J J J J J J J J J J J J J J (Bs 3 J J J J (Bs 3 J J J J (Bs 3 J J J J .nil)))) J J J ?_) | (refine S_callPk 9 (wKeys 3) Tryz.call68 (c_l3Goes ⟨_, _, _, _, _, _, _, _, _⟩ 2 _ _ G1 h1 h3 (Tds_le hle1 ht) hw 7 a bb n x y r _ _ _ (Sts_le hle1 hx) (Sts_le hle1 hy) hr1 ⟨i1, i2, i3, i4⟩ (hs.r6 (by simp [Stm.kind])).2.1 (hs.r6 (by simp [Stm.kind])).2.2 hrl (hs.r6 (by simp [Stm.kind])).1 (by simp)) (Wvp [_, _, _] kg spg J ‹_› J J J J J J J J J) J (Wsub 15 J J J J J J J J J J J J J J J J (Bs 3 J J J J (Bs 3 J J J J (Bs 3 J J J J .nil)))) J J J ?_)
    rintro v G2 A' ⟨cs', ts', rfl, rfl, ht'⟩ hext
    refine S_csV 9 J ?_;rintro bp bc br bs kp asd ksd kc kr ks rfl
    refine Va J J ?_;exact S_retm 9 (Res.c1 Tk Tryz.results46 J J) J (hext1.trans hext) ⟨_, _, J, by rw [← hgo (by simp [Stm.kind])], by rw [← hgo (by simp [Stm.kind])]; exact ht'⟩
   by_cases e8 : kk = 8
   ·subst e8
    refine RF J J ?_;refine Va J J ?_;refine RF J J ?_;refine Va J J ?_;refine RT J J ?_;refine Va J J ?_;refine RT J J ?_;refine Va J J ?_
    first | (refine S_callPk 9 (wKeys 1) Tryz.call69 (c_l3Room ⟨_, _, _, _, _, _, _, _, _⟩ 0 _ _ G1 h1 h3 (Tds_le hle1 ht) hw hq0 hq1 hf0 hf1 8 a bb n x y r _ _ _ _ _ (Sts_le hle1 hx) hr1 hrl (by simp) (fun h => hs.r8 h) (fun h => hs.r9 h) (fun h => hs.r10 h)) (Wvp [_] kg spg J ‹_› J J J J J J J J J) J (Wsub 5 J J J J J J J J J J J J J J J J (Bs 3 J J J J .nil)) J J J ?_) | (refine S_callPk 9 (wKeys 2) Tryz.call69 (c_l3Room ⟨_, _, _, _, _, _, _, _, _⟩ 0 _ _ G1 h1 h3 (Tds_le hle1 ht) hw hq0 hq1 hf0 hf1 8 a bb n x y r _ _ _ _ _ (Sts_le hle1 hx) hr1 hrl (by simp) (fun h => hs.r8 h) (fun h => hs.r9 h) (fun h => hs.r10 h)) (Wvp [_, _] kg spg J ‹_› J J J J J J J J J) J (Wsub 10 J J J J J J J J J J J J J J J J (Bs 3 J J J J (Bs 3 J J J J .nil))) J J J ?_) | (refine S_callPk 9 (wKeys 2) Tryz.call69 (c_l3Room ⟨_, _, _, _, _, _, _, _, _⟩ 1 _ _ G1 h1 h3 (Tds_le hle1 ht) hw hq0 hq1 hf0 hf1 8 a bb n x y r _ _ _ _ _ (Sts_le hle1 hx) hr1 hrl (by simp) (fun h => hs.r8 h) (fun h => hs.r9 h) (fun h => hs.r10 h)) (Wvp [_, _] kg spg J ‹_› J J J J J J J J J) J (Wsub 10 J J J J J J J J J J J J J J J J (Bs 3 J J J J (Bs 3 J J J J .nil))) J J J ?_) | (refine S_callPk 9 (wKeys 3) Tryz.call69 (c_l3Room ⟨_, _, _, _, _, _, _, _, _⟩ 0 _ _ G1 h1 h3 (Tds_le hle1 ht) hw hq0 hq1 hf0 hf1 8 a bb n x y r _ _ _ _ _ (Sts_le hle1 hx) hr1 hrl (by simp) (fun h => hs.r8 h) (fun h => hs.r9 h) (fun h => hs.r10 h)) (Wvp [_, _, _] kg spg J ‹_› J J J J J J J J J) J (Wsub 15 J J J J J J J J J J J J J J J J (Bs 3 J J J J (Bs 3 J J J J (Bs 3 J J J J .nil)))) J J J ?_) | (refine S_callPk 9 (wKeys 3) Tryz.call69 (c_l3Room ⟨_, _, _, _, _, _, _, _, _⟩ 1 _ _ G1 h1 h3 (Tds_le hle1 ht) hw hq0 hq1 hf0 hf1 8 a bb n x y r _ _ _ _ _ (Sts_le hle1 hx) hr1 hrl (by simp) (fun h => hs.r8 h) (fun h => hs.r9 h) (fun h => hs.r10 h)) (Wvp [_, _, _] kg spg J ‹_› J J J J J J J J J) J (Wsub 15 J J J J J J J J J J J J J J J J (Bs 3 J J J J (Bs 3 J J J J (Bs 3 J J J J .nil)))) J J J ?_) | (refine S_callPk 9 (wKeys 3) Tryz.call69 (c_l3Room ⟨_, _, _, _, _, _, _, _, _⟩ 2 _ _ G1 h1 h3 (Tds_le hle1 ht) hw hq0 hq1 hf0 hf1 8 a bb n x y r _ _ _ _ _ (Sts_le hle1 hx) hr1 hrl (by simp) (fun h => hs.r8 h) (fun h => hs.r9 h) (fun h => hs.r10 h)) (Wvp [_, _, _] kg spg J ‹_› J J J J J J J J J) J (Wsub 15 J J J J J J J J J J J J J J J J (Bs 3 J J J J (Bs 3 J J J J (Bs 3 J J J J .nil)))) J J J ?_)
    rintro v G2 A' ⟨cs', ts', rfl, rfl, ht'⟩ hext
    refine S_csV 9 J ?_;rintro bp bc br bs kp asd ksd kc kr ks rfl
    refine Va J J ?_;exact S_retm 9 (Res.c1 Tk Tryz.results46 J J) J (hext1.trans hext) ⟨_, _, J, by rw [hst]; rfl, by rw [hst]; exact ht'⟩
   by_cases e12 : kk = 12
   ·subst e12
    refine RF J J ?_;refine Va J J ?_;refine RF J J ?_;refine Va J J ?_;refine RF J J ?_;refine Va J J ?_;refine RT J J ?_;refine Va J J ?_;refine RT J J ?_;refine Va J J ?_
    first | (refine S_callPk 9 (wKeys 1) Tryz.call69 (c_l3Room ⟨_, _, _, _, _, _, _, _, _⟩ 0 _ _ G1 h1 h3 (Tds_le hle1 ht) hw hq0 hq1 hf0 hf1 12 a bb n x y r _ _ _ _ _ (Sts_le hle1 hx) hr1 hrl (by simp) (fun h => hs.r8 h) (fun h => hs.r9 h) (fun h => hs.r10 h)) (Wvp [_] kg spg J ‹_› J J J J J J J J J) J (Wsub 5 J J J J J J J J J J J J J J J J (Bs 3 J J J J .nil)) J J J ?_) | (refine S_callPk 9 (wKeys 2) Tryz.call69 (c_l3Room ⟨_, _, _, _, _, _, _, _, _⟩ 0 _ _ G1 h1 h3 (Tds_le hle1 ht) hw hq0 hq1 hf0 hf1 12 a bb n x y r _ _ _ _ _ (Sts_le hle1 hx) hr1 hrl (by simp) (fun h => hs.r8 h) (fun h => hs.r9 h) (fun h => hs.r10 h)) (Wvp [_, _] kg spg J ‹_› J J J J J J J J J) J (Wsub 10 J J J J J J J J J J J J J J J J (Bs 3 J J J J (Bs 3 J J J J .nil))) J J J ?_) | (refine S_callPk 9 (wKeys 2) Tryz.call69 (c_l3Room ⟨_, _, _, _, _, _, _, _, _⟩ 1 _ _ G1 h1 h3 (Tds_le hle1 ht) hw hq0 hq1 hf0 hf1 12 a bb n x y r _ _ _ _ _ (Sts_le hle1 hx) hr1 hrl (by simp) (fun h => hs.r8 h) (fun h => hs.r9 h) (fun h => hs.r10 h)) (Wvp [_, _] kg spg J ‹_› J J J J J J J J J) J (Wsub 10 J J J J J J J J J J J J J J J J (Bs 3 J J J J (Bs 3 J J J J .nil))) J J J ?_) | (refine S_callPk 9 (wKeys 3) Tryz.call69 (c_l3Room ⟨_, _, _, _, _, _, _, _, _⟩ 0 _ _ G1 h1 h3 (Tds_le hle1 ht) hw hq0 hq1 hf0 hf1 12 a bb n x y r _ _ _ _ _ (Sts_le hle1 hx) hr1 hrl (by simp) (fun h => hs.r8 h) (fun h => hs.r9 h) (fun h => hs.r10 h)) (Wvp [_, _, _] kg spg J ‹_› J J J J J J J J J) J (Wsub 15 J J J J J J J J J J J J J J J J (Bs 3 J J J J (Bs 3 J J J J (Bs 3 J J J J .nil)))) J J J ?_) | (refine S_callPk 9 (wKeys 3) Tryz.call69 (c_l3Room ⟨_, _, _, _, _, _, _, _, _⟩ 1 _ _ G1 h1 h3 (Tds_le hle1 ht) hw hq0 hq1 hf0 hf1 12 a bb n x y r _ _ _ _ _ (Sts_le hle1 hx) hr1 hrl (by simp) (fun h => hs.r8 h) (fun h => hs.r9 h) (fun h => hs.r10 h)) (Wvp [_, _, _] kg spg J ‹_› J J J J J J J J J) J (Wsub 15 J J J J J J J J J J J J J J J J (Bs 3 J J J J (Bs 3 J J J J (Bs 3 J J J J .nil)))) J J J ?_) | (refine S_callPk 9 (wKeys 3) Tryz.call69 (c_l3Room ⟨_, _, _, _, _, _, _, _, _⟩ 2 _ _ G1 h1 h3 (Tds_le hle1 ht) hw hq0 hq1 hf0 hf1 12 a bb n x y r _ _ _ _ _ (Sts_le hle1 hx) hr1 hrl (by simp) (fun h => hs.r8 h) (fun h => hs.r9 h) (fun h => hs.r10 h)) (Wvp [_, _, _] kg spg J ‹_› J J J J J J J J J) J (Wsub 15 J J J J J J J J J J J J J J J J (Bs 3 J J J J (Bs 3 J J J J (Bs 3 J J J J .nil)))) J J J ?_)
    rintro v G2 A' ⟨cs', ts', rfl, rfl, ht'⟩ hext
    refine S_csV 9 J ?_;rintro bp bc br bs kp asd ksd kc kr ks rfl
    refine Va J J ?_;exact S_retm 9 (Res.c1 Tk Tryz.results46 J J) J (hext1.trans hext) ⟨_, _, J, by rw [hst]; rfl, by rw [hst]; exact ht'⟩
   by_cases e9 : kk = 9
   ·subst e9
    refine RF J J ?_;refine Va J J ?_;refine RF J J ?_;refine Va J J ?_;refine RF J J ?_;refine Va J J ?_;refine RF J J ?_;refine Va J J ?_;refine RT J J ?_;refine Va J J ?_;refine RT J J ?_;refine Va J J ?_
    first | (refine S_callPk 9 (wKeys 1) Tryz.call69 (c_l3Room ⟨_, _, _, _, _, _, _, _, _⟩ 0 _ _ G1 h1 h3 (Tds_le hle1 ht) hw hq0 hq1 hf0 hf1 9 a bb n x y r _ _ _ _ _ (Sts_le hle1 hx) hr1 hrl (by simp) (fun h => hs.r8 h) (fun h => hs.r9 h) (fun h => hs.r10 h)) (Wvp [_] kg spg J ‹_› J J J J J J J J J) J (Wsub 5 J J J J J J J J J J J J J J J J (Bs 3 J J J J .nil)) J J J ?_) | (refine S_callPk 9 (wKeys 2) Tryz.call69 (c_l3Room ⟨_, _, _, _, _, _, _, _, _⟩ 0 _ _ G1 h1 h3 (Tds_le hle1 ht) hw hq0 hq1 hf0 hf1 9 a bb n x y r _ _ _ _ _ (Sts_le hle1 hx) hr1 hrl (by simp) (fun h => hs.r8 h) (fun h => hs.r9 h) (fun h => hs.r10 h)) (Wvp [_, _] kg spg J ‹_› J J J J J J J J J) J (Wsub 10 J J J J J J J J J J J J J J J J (Bs 3 J J J J (Bs 3 J J J J .nil))) J J J ?_) | (refine S_callPk 9 (wKeys 2) Tryz.call69 (c_l3Room ⟨_, _, _, _, _, _, _, _, _⟩ 1 _ _ G1 h1 h3 (Tds_le hle1 ht) hw hq0 hq1 hf0 hf1 9 a bb n x y r _ _ _ _ _ (Sts_le hle1 hx) hr1 hrl (by simp) (fun h => hs.r8 h) (fun h => hs.r9 h) (fun h => hs.r10 h)) (Wvp [_, _] kg spg J ‹_› J J J J J J J J J) J (Wsub 10 J J J J J J J J J J J J J J J J (Bs 3 J J J J (Bs 3 J J J J .nil))) J J J ?_) | (refine S_callPk 9 (wKeys 3) Tryz.call69 (c_l3Room ⟨_, _, _, _, _, _, _, _, _⟩ 0 _ _ G1 h1 h3 (Tds_le hle1 ht) hw hq0 hq1 hf0 hf1 9 a bb n x y r _ _ _ _ _ (Sts_le hle1 hx) hr1 hrl (by simp) (fun h => hs.r8 h) (fun h => hs.r9 h) (fun h => hs.r10 h)) (Wvp [_, _, _] kg spg J ‹_› J J J J J J J J J) J (Wsub 15 J J J J J J J J J J J J J J J J (Bs 3 J J J J (Bs 3 J J J J (Bs 3 J J J J .nil)))) J J J ?_) | (refine S_callPk 9 (wKeys 3) Tryz.call69 (c_l3Room ⟨_, _, _, _, _, _, _, _, _⟩ 1 _ _ G1 h1 h3 (Tds_le hle1 ht) hw hq0 hq1 hf0 hf1 9 a bb n x y r _ _ _ _ _ (Sts_le hle1 hx) hr1 hrl (by simp) (fun h => hs.r8 h) (fun h => hs.r9 h) (fun h => hs.r10 h)) (Wvp [_, _, _] kg spg J ‹_› J J J J J J J J J) J (Wsub 15 J J J J J J J J J J J J J J J J (Bs 3 J J J J (Bs 3 J J J J (Bs 3 J J J J .nil)))) J J J ?_) | (refine S_callPk 9 (wKeys 3) Tryz.call69 (c_l3Room ⟨_, _, _, _, _, _, _, _, _⟩ 2 _ _ G1 h1 h3 (Tds_le hle1 ht) hw hq0 hq1 hf0 hf1 9 a bb n x y r _ _ _ _ _ (Sts_le hle1 hx) hr1 hrl (by simp) (fun h => hs.r8 h) (fun h => hs.r9 h) (fun h => hs.r10 h)) (Wvp [_, _, _] kg spg J ‹_› J J J J J J J J J) J (Wsub 15 J J J J J J J J J J J J J J J J (Bs 3 J J J J (Bs 3 J J J J (Bs 3 J J J J .nil)))) J J J ?_)
    rintro v G2 A' ⟨cs', ts', rfl, rfl, ht'⟩ hext
    refine S_csV 9 J ?_;rintro bp bc br bs kp asd ksd kc kr ks rfl
    refine Va J J ?_;exact S_retm 9 (Res.c1 Tk Tryz.results46 J J) J (hext1.trans hext) ⟨_, _, J, by rw [hst]; rfl, by rw [hst]; exact ht'⟩
   by_cases e10 : kk = 10
   ·subst e10
    refine RF J J ?_;refine Va J J ?_;refine RF J J ?_;refine Va J J ?_;refine RF J J ?_;refine Va J J ?_;refine RF J J ?_;refine Va J J ?_;refine RF J J ?_;refine Va J J ?_;refine RT J J ?_;refine Va J J ?_
    first | (refine S_callPk 9 (wKeys 1) Tryz.call69 (c_l3Room ⟨_, _, _, _, _, _, _, _, _⟩ 0 _ _ G1 h1 h3 (Tds_le hle1 ht) hw hq0 hq1 hf0 hf1 10 a bb n x y r _ _ _ _ _ (Sts_le hle1 hx) hr1 hrl (by simp) (fun h => hs.r8 h) (fun h => hs.r9 h) (fun h => hs.r10 h)) (Wvp [_] kg spg J ‹_› J J J J J J J J J) J (Wsub 5 J J J J J J J J J J J J J J J J (Bs 3 J J J J .nil)) J J J ?_) | (refine S_callPk 9 (wKeys 2) Tryz.call69 (c_l3Room ⟨_, _, _, _, _, _, _, _, _⟩ 0 _ _ G1 h1 h3 (Tds_le hle1 ht) hw hq0 hq1 hf0 hf1 10 a bb n x y r _ _ _ _ _ (Sts_le hle1 hx) hr1 hrl (by simp) (fun h => hs.r8 h) (fun h => hs.r9 h) (fun h => hs.r10 h)) (Wvp [_, _] kg spg J ‹_› J J J J J J J J J) J (Wsub 10 J J J J J J J J J J J J J J J J (Bs 3 J J J J (Bs 3 J J J J .nil))) J J J ?_) | (refine S_callPk 9 (wKeys 2) Tryz.call69 (c_l3Room ⟨_, _, _, _, _, _, _, _, _⟩ 1 _ _ G1 h1 h3 (Tds_le hle1 ht) hw hq0 hq1 hf0 hf1 10 a bb n x y r _ _ _ _ _ (Sts_le hle1 hx) hr1 hrl (by simp) (fun h => hs.r8 h) (fun h => hs.r9 h) (fun h => hs.r10 h)) (Wvp [_, _] kg spg J ‹_› J J J J J J J J J) J (Wsub 10 J J J J J J J J J J J J J J J J (Bs 3 J J J J (Bs 3 J J J J .nil))) J J J ?_) | (refine S_callPk 9 (wKeys 3) Tryz.call69 (c_l3Room ⟨_, _, _, _, _, _, _, _, _⟩ 0 _ _ G1 h1 h3 (Tds_le hle1 ht) hw hq0 hq1 hf0 hf1 10 a bb n x y r _ _ _ _ _ (Sts_le hle1 hx) hr1 hrl (by simp) (fun h => hs.r8 h) (fun h => hs.r9 h) (fun h => hs.r10 h)) (Wvp [_, _, _] kg spg J ‹_› J J J J J J J J J) J (Wsub 15 J J J J J J J J J J J J J J J J (Bs 3 J J J J (Bs 3 J J J J (Bs 3 J J J J .nil)))) J J J ?_) | (refine S_callPk 9 (wKeys 3) Tryz.call69 (c_l3Room ⟨_, _, _, _, _, _, _, _, _⟩ 1 _ _ G1 h1 h3 (Tds_le hle1 ht) hw hq0 hq1 hf0 hf1 10 a bb n x y r _ _ _ _ _ (Sts_le hle1 hx) hr1 hrl (by simp) (fun h => hs.r8 h) (fun h => hs.r9 h) (fun h => hs.r10 h)) (Wvp [_, _, _] kg spg J ‹_› J J J J J J J J J) J (Wsub 15 J J J J J J J J J J J J J J J J (Bs 3 J J J J (Bs 3 J J J J (Bs 3 J J J J .nil)))) J J J ?_) | (refine S_callPk 9 (wKeys 3) Tryz.call69 (c_l3Room ⟨_, _, _, _, _, _, _, _, _⟩ 2 _ _ G1 h1 h3 (Tds_le hle1 ht) hw hq0 hq1 hf0 hf1 10 a bb n x y r _ _ _ _ _ (Sts_le hle1 hx) hr1 hrl (by simp) (fun h => hs.r8 h) (fun h => hs.r9 h) (fun h => hs.r10 h)) (Wvp [_, _, _] kg spg J ‹_› J J J J J J J J J) J (Wsub 15 J J J J J J J J J J J J J J J J (Bs 3 J J J J (Bs 3 J J J J (Bs 3 J J J J .nil)))) J J J ?_)
    rintro v G2 A' ⟨cs', ts', rfl, rfl, ht'⟩ hext
    refine S_csV 9 J ?_;rintro bp bc br bs kp asd ksd kc kr ks rfl
    refine Va J J ?_;exact S_retm 9 (Res.c1 Tk Tryz.results46 J J) J (hext1.trans hext) ⟨_, _, J, by rw [hst]; rfl, by rw [hst]; exact ht'⟩
   refine RF J (by simp [e6]) ?_;refine Va J J ?_;refine RF J (by simp [e7]) ?_;refine Va J J ?_;refine RF J (by simp [e8]) ?_;refine Va J J ?_;refine RF J (by simp [e12]) ?_;refine Va J J ?_;refine RF J (by simp [e9]) ?_;refine Va J J ?_;refine RF J (by simp [e10]) ?_;refine Va J J ?_
   first | (refine S_callPk 9 (wKeys 1) Tryz.call70 (c_l3Leaf (Wld.upd ⟨_, _, _, _, _, _, _, _, _⟩ 0 (fun p => { p with todo := r })) 0 _ _ G1 (by rw [upd_len]; exact h1) (by rw [upd_len]; exact h3) (Tds_upd hle1 (fun p => { p with todo := r }) hw ht hr1) (by rw [upd_len]; exact hw) hsd kk a bb n x y _ _ _ _ _ _ (fun h => hs.r1 h) (fun h => hs.r2 h)) (Wvp [_] kg spg J ‹_› J J J J J J J J J) J (Wsub 5 J J J J J J J J J J J J J J J J (Bs 3 J J J J .nil)) J J J ?_) | (refine S_callPk 9 (wKeys 2) Tryz.call70 (c_l3Leaf (Wld.upd ⟨_, _, _, _, _, _, _, _, _⟩ 0 (fun p => { p with todo := r })) 0 _ _ G1 (by rw [upd_len]; exact h1) (by rw [upd_len]; exact h3) (Tds_upd hle1 (fun p => { p with todo := r }) hw ht hr1) (by rw [upd_len]; exact hw) hsd kk a bb n x y _ _ _ _ _ _ (fun h => hs.r1 h) (fun h => hs.r2 h)) (Wvp [_, _] kg spg J ‹_› J J J J J J J J J) J (Wsub 10 J J J J J J J J J J J J J J J J (Bs 3 J J J J (Bs 3 J J J J .nil))) J J J ?_) | (refine S_callPk 9 (wKeys 2) Tryz.call70 (c_l3Leaf (Wld.upd ⟨_, _, _, _, _, _, _, _, _⟩ 1 (fun p => { p with todo := r })) 1 _ _ G1 (by rw [upd_len]; exact h1) (by rw [upd_len]; exact h3) (Tds_upd hle1 (fun p => { p with todo := r }) hw ht hr1) (by rw [upd_len]; exact hw) hsd kk a bb n x y _ _ _ _ _ _ (fun h => hs.r1 h) (fun h => hs.r2 h)) (Wvp [_, _] kg spg J ‹_› J J J J J J J J J) J (Wsub 10 J J J J J J J J J J J J J J J J (Bs 3 J J J J (Bs 3 J J J J .nil))) J J J ?_) | (refine S_callPk 9 (wKeys 3) Tryz.call70 (c_l3Leaf (Wld.upd ⟨_, _, _, _, _, _, _, _, _⟩ 0 (fun p => { p with todo := r })) 0 _ _ G1 (by rw [upd_len]; exact h1) (by rw [upd_len]; exact h3) (Tds_upd hle1 (fun p => { p with todo := r }) hw ht hr1) (by rw [upd_len]; exact hw) hsd kk a bb n x y _ _ _ _ _ _ (fun h => hs.r1 h) (fun h => hs.r2 h)) (Wvp [_, _, _] kg spg J ‹_› J J J J J J J J J) J (Wsub 15 J J J J J J J J J J J J J J J J (Bs 3 J J J J (Bs 3 J J J J (Bs 3 J J J J .nil)))) J J J ?_) | (refine S_callPk 9 (wKeys 3) Tryz.call70 (c_l3Leaf (Wld.upd ⟨_, _, _, _, _, _, _, _, _⟩ 1 (fun p => { p with todo := r })) 1 _ _ G1 (by rw [upd_len]; exact h1) (by rw [upd_len]; exact h3) (Tds_upd hle1 (fun p => { p with todo := r }) hw ht hr1) (by rw [upd_len]; exact hw) hsd kk a bb n x y _ _ _ _ _ _ (fun h => hs.r1 h) (fun h => hs.r2 h)) (Wvp [_, _, _] kg spg J ‹_› J J J J J J J J J) J (Wsub 15 J J J J J J J J J J J J J J J J (Bs 3 J J J J (Bs 3 J J J J (Bs 3 J J J J .nil)))) J J J ?_) | (refine S_callPk 9 (wKeys 3) Tryz.call70 (c_l3Leaf (Wld.upd ⟨_, _, _, _, _, _, _, _, _⟩ 2 (fun p => { p with todo := r })) 2 _ _ G1 (by rw [upd_len]; exact h1) (by rw [upd_len]; exact h3) (Tds_upd hle1 (fun p => { p with todo := r }) hw ht hr1) (by rw [upd_len]; exact hw) hsd kk a bb n x y _ _ _ _ _ _ (fun h => hs.r1 h) (fun h => hs.r2 h)) (Wvp [_, _, _] kg spg J ‹_› J J J J J J J J J) J (Wsub 15 J J J J J J J J J J J J J J J J (Bs 3 J J J J (Bs 3 J J J J (Bs 3 J J J J .nil)))) J J J ?_)
   rintro v G2 A' ⟨cs', ts', rfl, rfl, ht'⟩ hext
   refine S_csV 9 J ?_;rintro bp bc br bs kp asd ksd kc kr ks rfl
   refine Va J J ?_
   have hlf : ∀ (V : Wld) (z : Nat), V.leaf z (.mk kk a bb n x y) = V.stepS z (.mk kk a bb n x y) := fun V z => leaf_eq V z _ e6 e7 e8 e9 e10 e12
   exact S_retm 9 (Res.c1 Tk Tryz.results46 J J) J (hext1.trans hext) ⟨_, ts', J, by rw [hst, ← hlf]; rfl, by rw [hst, ← hlf]; exact ht'⟩
end
section
attribute [local irreducible] X Pure Mod
def fstP (p : Prc) : Int := if p.mode = 2 then 0 else match p.todo with
 | [] => 0
 | s :: _ => s.kind
def fstK (W : Wld) (who : Nat) : Int := match W.procs[who]? with
 | some p => fstP p
 | none => 0
def KindV (k : Int) (v : Value) : Prop := ∃ a b n A1 n1 c1 A2 n2 c2, v = .agg #[.int .i64 k, .int .i64 a, .int .i64 b, .int .i64 n, .slice A1 n1 c1, .slice A2 n2 c2]
end
section
attribute [local irreducible] X Pure Mod
mutual
/-- how long what is left to do can get -/
def mxS : Stm → Nat
 | .mk _ _ _ _ x y => 1 + max (mx x) (mx y)
def mx : List Stm → Nat
 | [] => 0
 | s :: r => max (mxS s + r.length) (mx r)
end
theorem mxS_eq (s : Stm) : mxS s = 1 + max (mx s.body) (mx s.els) := by cases s; simp [mxS, Stm.body, Stm.els]
theorem mxS_pos (s : Stm) : 1 ≤ mxS s := by rw [mxS_eq]; omega
theorem len_mx (L : List Stm) : L.length ≤ mx L := by
 induction L with
 | nil => simp
 | cons s r ih => have := mxS_pos s; simp only [List.length_cons, mx]; omega
theorem mx_append (L r : List Stm) {k : Nat} (h1 : mx L + r.length ≤ k) (h2 : mx r ≤ k) : mx (L ++ r) ≤ k := by
 induction L with
 | nil => simpa using h2
 | cons s L ih =>
  simp only [mx, List.cons_append, List.length_append] at h1 ⊢
  have := ih (by omega)
  omega
inductive TOk : Int → List Stm → Prop
 | nil : TOk (-1) []
 | leave {a : Int} {r : List Stm} : is2 a → TOk (-1) r → TOk a (leaveS a :: r)
 | stm {s : Stm} {d room : Int} {r : List Stm} : stmtOk s d room = true → TOk room r → TOk room (s :: r)
theorem TOk.app {L : List Stm} {d room : Int} {r : List Stm} (h : listOk L d room = true) (hr : TOk room r) : TOk room (L ++ r) := by
 induction L with
 | nil => exact hr
 | cons s L ih =>
  simp only [listOk, Bool.and_eq_true] at h
  exact .stm h.1 (ih h.2)
structure POk (p : Prc) : Prop where
 td : TOk p.room p.todo
 mx : mx p.todo ≤ 1000
 md : p.mode = 0 ∨ p.mode = 1 ∨ p.mode = 2
 rm : p.mode ≠ 0 → is2 p.room
 ro : p.room = -1 ∨ is2 p.room
structure Inv (W : Wld) (B : Nat) : Prop where
 n1 : 1 ≤ W.procs.length
 n3 : W.procs.length ≤ 3
 pr : ∀ p ∈ W.procs, POk p
 m0 : 0 ≤ W.m0
 m1 : 0 ≤ W.m1
 sd : W.said.length ≤ B
 ql : W.q0.length + W.q1.length ≤ B
 qf : ∀ f ∈ W.q0 ++ W.q1, 0 ≤ f ∧ ∃ p, W.procs[f.toNat]? = some p ∧ p.mode = 1
 nd : (W.q0 ++ W.q1).Nodup
theorem sok_of {s : Stm} {d room : Int} (h : stmtOk s d room = true) (hm : mxS s ≤ 1000) (hr : room = -1 ∨ is2 room) : SOk s room := by
 have hb := len_mx s.body
 have he := len_mx s.els
 rw [mxS_eq] at hm
 obtain ⟨k, a, b, n, x, y⟩ := s
 simp only [Stm.body, Stm.els] at hb he hm
 simp only [stmtOk] at h
 split at h
 ·cases h
 refine ⟨?_, ?_, ?_, ?_, ?_, ?_⟩ <;> simp only [Stm.kind, Stm.a, Stm.b, Stm.body, Stm.els, is2, is3]
 ·rintro (rfl | rfl) <;> simp [leafOk] at h <;> omega
 ·rintro (rfl | rfl | rfl) <;> simp [leafOk] at h <;> omega
 ·rintro (rfl | rfl) <;> simp at h <;> omega
 ·rintro rfl; simp at h; omega
 ·rintro rfl
  simp [leafOk] at h
  rcases hr with rfl | hr
  ·omega
  ·exact ⟨by omega, hr⟩
 ·rintro (rfl | rfl) <;> simp [leafOk] at h <;> omega
end
section
attribute [local irreducible] X Pure Mod
theorem updL_ne {α : Type} {f : α → α} : ∀ (l : List α) (i j : Nat), i ≠ j → (updL f i l)[j]? = l[j]?
 | [], i, j, _ => by cases i <;> rfl
 | x :: l, 0, 0, h => absurd rfl h
 | x :: l, 0, j + 1, _ => by simp [updL]
 | x :: l, i + 1, 0, _ => by simp [updL]
 | x :: l, i + 1, j + 1, h => by simp only [updL, List.getElem?_cons_succ]; exact updL_ne l i j (by omega)
theorem mem_updL' {α : Type} {f : α → α} {y : α} : ∀ (l : List α) (i : Nat), y ∈ updL f i l → y ∈ l ∨ ∃ x, l[i]? = some x ∧ y = f x
 | [], i, h => by cases i <;> simp [updL] at h
 | x :: l, 0, h => by
  simp only [updL, List.mem_cons] at h
  rcases h with h | h
  ·exact .inr ⟨x, J, h⟩
  ·exact .inl (List.mem_cons_of_mem _ h)
 | x :: l, i + 1, h => by
  simp only [updL, List.mem_cons] at h
  rcases h with h | h
  ·exact .inl (by simp [h])
  ·rcases mem_updL' l i h with h | h
   ·exact .inl (List.mem_cons_of_mem _ h)
   ·exact .inr (by simpa using h)
theorem leave_sok {a : Int} (h : is2 a) : SOk (leaveS a) a := by
 refine ⟨?_, ?_, ?_, ?_, ?_, ?_⟩ <;> simp [leaveS, Stm.kind, Stm.a, h]
theorem Inv.sok {W : Wld} {B : Nat} (h : Inv W B) {p : Prc} (hp : p ∈ W.procs) {s : Stm} {r : List Stm} (ht : p.todo = s :: r) : SOk s p.room := by
 have q := h.pr p hp
 have htd := q.td
 have hmx := q.mx
 rw [ht] at htd hmx
 simp only [mx] at hmx
 have hro := q.ro
 generalize p.room = ro at *
 cases htd with
 | leave ha hr => exact leave_sok ha
 | stm hs hr => exact sok_of hs (by omega) hro
theorem Inv.head {W : Wld} {B : Nat} (h : Inv W B) : ∀ p ∈ W.procs, HeadOk p := fun p hp =>
 ⟨fun hm => (h.pr p hp).rm (by omega), fun s r ht hk => ((h.sok hp ht).r8 hk).1⟩
theorem Inv.rdy {W : Wld} {B : Nat} (h : Inv W B) (hB : B ≤ 1000000) : Rdy W where
 n1 := h.n1
 n3 := h.n3
 sd := Nat.le_trans h.sd hB
 q0 := by have := h.ql; omega
 q1 := by have := h.ql; omega
 f0 := fun f hf => by
  obtain ⟨h0, p, hp, _⟩ := h.qf f (List.mem_append_left _ hf)
  have := (List.getElem?_eq_some_iff.1 hp).1
  omega
 f1 := fun f hf => by
  obtain ⟨h0, p, hp, _⟩ := h.qf f (List.mem_append_right _ hf)
  have := (List.getElem?_eq_some_iff.1 hp).1
  omega
 tl := fun p hp => by have := len_mx p.todo; have := (h.pr p hp).mx; omega
theorem code0 {W : Wld} {who : Nat} {p : Prc} (hp : W.procs[who]? = some p) (h : codeOf W (who : Nat) = 0) : p.mode ≠ 1 ∧ (p.mode ≠ 2 → p.todo ≠ []) := by
 have hl := (List.getElem?_eq_some_iff.1 hp).1
 unfold codeOf at h
 rw [if_neg (by omega)] at h
 simp only [Int.toNat_natCast, hp, codeP] at h
 refine ⟨fun hm => by simp [hm] at h, fun hm ht => ?_⟩
 simp [hm, ht] at h
 split at h <;> simp at h
theorem Inv.go {W : Wld} {B : Nat} (h : Inv W B) {who : Nat} (hc : codeOf W (who : Nat) = 0) : ∀ p, W.procs[who]? = some p → (p.mode = 2 → is2 p.room) ∧ (p.mode ≠ 2 → ∃ s r, p.todo = s :: r ∧ SOk s p.room) := by
 intro p hp
 have hm : p ∈ W.procs := List.mem_of_getElem? hp
 refine ⟨fun h2 => (h.pr p hm).rm (by omega), fun h2 => ?_⟩
 have ht := (code0 hp hc).2 h2
 rcases hT : p.todo with _ | ⟨s, r⟩
 ·exact absurd hT ht
 ·exact ⟨s, r, J, h.sok hm hT⟩
end
section
attribute [local irreducible] X Pure Mod
theorem Inv.mono {W : Wld} {B B' : Nat} (h : Inv W B) (hB : B ≤ B') : Inv W B' :=
 ⟨h.n1, h.n3, h.pr, h.m0, h.m1, Nat.le_trans h.sd hB, Nat.le_trans h.ql hB, h.qf, h.nd⟩
theorem Inv.upd {W : Wld} {B who : Nat} {f : Prc → Prc} {p : Prc} (h : Inv W B) (hp : W.procs[who]? = some p) (hm : p.mode ≠ 1) (hf : POk (f p)) : Inv (W.upd who f) B := by
 refine ⟨by rw [upd_len]; exact h.n1, by rw [upd_len]; exact h.n3, fun q hq => ?_, h.m0, h.m1, h.sd, h.ql, fun g hg => ?_, h.nd⟩
 ·rcases mem_updL' _ _ hq with hq | ⟨x, hx, rfl⟩
  ·exact h.pr q hq
  ·rw [hp] at hx; cases hx; exact hf
 ·obtain ⟨h0, q, hq, hqm⟩ := h.qf g hg
  refine ⟨h0, q, ?_, hqm⟩
  show (updL f who W.procs)[g.toNat]? = some q
  rw [updL_ne _ _ _ (by rintro rfl; rw [hp] at hq; cases hq; exact hm hqm)]
  exact hq
theorem Inv.setRm {W : Wld} {B : Nat} (h : Inv W B) (a v : Int) (hv : 0 ≤ v) : Inv (W.setRm a v) B := by
 unfold Wld.setRm
 split
 ·exact ⟨h.n1, h.n3, h.pr, hv, h.m1, h.sd, h.ql, h.qf, h.nd⟩
 ·exact ⟨h.n1, h.n3, h.pr, h.m0, hv, h.sd, h.ql, h.qf, h.nd⟩
theorem Inv.setCell {W : Wld} {B : Nat} (h : Inv W B) (a v : Int) : Inv (W.setCell a v) B := by
 unfold Wld.setCell
 split
 ·exact ⟨h.n1, h.n3, h.pr, h.m0, h.m1, h.sd, h.ql, h.qf, h.nd⟩
 split
 ·exact ⟨h.n1, h.n3, h.pr, h.m0, h.m1, h.sd, h.ql, h.qf, h.nd⟩
 ·exact ⟨h.n1, h.n3, h.pr, h.m0, h.m1, h.sd, h.ql, h.qf, h.nd⟩
theorem Inv.say {W : Wld} {B : Nat} (h : Inv W B) (v : Int × Int) : Inv { W with said := W.said ++ [v] } (B + 1) :=
 ⟨h.n1, h.n3, h.pr, h.m0, h.m1, by have := h.sd; simp only [List.length_append, List.length_singleton]; omega, Nat.le_succ_of_le h.ql, h.qf, h.nd⟩
theorem Inv.wait {W : Wld} {B who : Nat} {p : Prc} (h : Inv W B) (hp : W.procs[who]? = some p) (hm : p.mode ≠ 1) (hr : is2 p.room) (a : Int) : Inv ((W.upd who (fun p => { p with mode := 1, on := a })).setQue a (W.que a ++ [(who : Int)])) (B + 1) := by
 have hpm : p ∈ W.procs := List.mem_of_getElem? hp
 have q := h.pr p hpm
 have hu : Inv (W.upd who (fun p => { p with mode := 1, on := a })) B := h.upd hp hm ⟨q.td, q.mx, .inr (.inl rfl), fun _ => hr, q.ro⟩
 have hnot : (who : Int) ∉ W.q0 ++ W.q1 := fun hw => by
  obtain ⟨_, q, hq, hqm⟩ := h.qf _ hw
  simp only [Int.toNat_natCast] at hq
  rw [hp] at hq; cases hq; exact hm hqm
 have hself : ∃ q, (updL (fun p : Prc => { p with mode := 1, on := a }) who W.procs)[((who : Int)).toNat]? = some q ∧ q.mode = 1 := by
  refine ⟨{ p with mode := 1, on := a }, ?_, J⟩
  rw [Int.toNat_natCast, updL_get, hp]; rfl
 have hql := h.ql
 have hnd := h.nd
 unfold Wld.setQue Wld.que
 split
 ·refine ⟨hu.n1, hu.n3, hu.pr, hu.m0, hu.m1, Nat.le_succ_of_le hu.sd, ?_, fun g hg => ?_, ?_⟩
  ·show (W.q0 ++ [(who : Int)]).length + W.q1.length ≤ _
   simp only [List.length_append, List.length_singleton]; omega
  ·have hg' : g ∈ W.q0 ++ W.q1 ∨ g = (who : Int) := by
    replace hg : g ∈ (W.q0 ++ [(who : Int)]) ++ W.q1 := hg
    simp only [List.mem_append, List.mem_singleton] at hg ⊢
    rcases hg with (hg | hg) | hg <;> simp [hg]
   rcases hg' with hg' | rfl
   ·exact hu.qf g hg'
   ·exact ⟨by omega, hself⟩
  ·show ((W.q0 ++ [(who : Int)]) ++ W.q1).Nodup
   simp only [List.mem_append, not_or] at hnot
   rw [List.nodup_append] at hnd ⊢
   rw [List.nodup_append]
   refine ⟨⟨hnd.1, by simp, fun x hx y hy => ?_⟩, hnd.2.1, fun x hx y hy => ?_⟩
   ·simp only [List.mem_singleton] at hy
    rintro rfl
    exact hnot.1 (hy ▸ hx)
   ·simp only [List.mem_append, List.mem_singleton] at hx
    rcases hx with hx | rfl
    ·exact hnd.2.2 x hx y hy
    ·rintro rfl
     exact hnot.2 hy
 ·refine ⟨hu.n1, hu.n3, hu.pr, hu.m0, hu.m1, Nat.le_succ_of_le hu.sd, ?_, fun g hg => ?_, ?_⟩
  ·show W.q0.length + (W.q1 ++ [(who : Int)]).length ≤ _
   simp only [List.length_append, List.length_singleton]; omega
  ·have hg' : g ∈ W.q0 ++ W.q1 ∨ g = (who : Int) := by
    replace hg : g ∈ W.q0 ++ (W.q1 ++ [(who : Int)]) := hg
    simp only [List.mem_append, List.mem_singleton] at hg ⊢
    rcases hg with hg | hg | hg <;> simp [hg]
   rcases hg' with hg' | rfl
   ·exact hu.qf g hg'
   ·exact ⟨by omega, hself⟩
  ·show (W.q0 ++ (W.q1 ++ [(who : Int)])).Nodup
   rw [← List.append_assoc, List.nodup_append]
   refine ⟨hnd, by simp, fun x hx y hy => ?_⟩
   simp only [List.mem_singleton] at hy
   rintro rfl
   exact hnot (hy ▸ hx)
end
section
attribute [local irreducible] X Pure Mod
theorem Inv.woken {W : Wld} {B : Nat} {f : Int} (h : Inv W B) {Q0 Q1 : List Int} (hf : f ∈ W.q0 ++ W.q1) (hnf : f ∉ Q0 ++ Q1) (hnd : (Q0 ++ Q1).Nodup) (hl : Q0.length + Q1.length ≤ B) (hsub : ∀ g ∈ Q0 ++ Q1, g ∈ W.q0 ++ W.q1) :
  Inv { W.upd f.toNat (fun p => { p with mode := 2, on := 0 }) with q0 := Q0, q1 := Q1 } B := by
 obtain ⟨h0, p, hp, hpm⟩ := h.qf f hf
 have q := h.pr p (List.mem_of_getElem? hp)
 refine ⟨by show 1 ≤ (updL _ _ _).length; rw [length_updL]; exact h.n1, by show (updL _ _ _).length ≤ 3; rw [length_updL]; exact h.n3, fun x hx => ?_, h.m0, h.m1, h.sd, hl, fun g hg => ?_, hnd⟩
 ·rcases mem_updL' _ _ hx with hx | ⟨y, hy, rfl⟩
  ·exact h.pr x hx
  ·rw [hp] at hy; cases hy
   exact ⟨q.td, q.mx, .inr (.inr J), fun _ => q.rm (by omega), q.ro⟩
 ·obtain ⟨g0, x, hx, hxm⟩ := h.qf g (hsub g hg)
  refine ⟨g0, x, ?_, hxm⟩
  show (updL _ _ W.procs)[g.toNat]? = some x
  have hgf : f.toNat ≠ g.toNat := fun e => hnf ((show g = f by omega) ▸ hg)
  rw [updL_ne _ _ _ hgf]
  exact hx
theorem Inv.signal {W : Wld} {B : Nat} (h : Inv W B) (a : Int) : Inv (W.signal a) B := by
 have hnd := h.nd
 have hql := h.ql
 unfold Wld.signal Wld.que
 by_cases ha : a = 0
 ·simp only [ha, if_true]
  rcases hq : W.q0 with _ | ⟨f, r⟩
  ·exact h
  ·rw [hq] at hnd hql
   simp only [List.cons_append, List.nodup_cons, List.length_cons] at hnd hql
   have := h.woken (f := f) (Q0 := r) (Q1 := W.q1) (by rw [hq]; simp) hnd.1 hnd.2 (by omega) (fun g hg => by rw [hq]; exact List.mem_cons_of_mem _ hg)
   show Inv ((W.upd f.toNat (fun p => { p with mode := 2, on := 0 })).setQue 0 r) B
   unfold Wld.setQue
   rw [if_pos rfl]
   exact this
 ·simp only [ha, if_false]
  rcases hq : W.q1 with _ | ⟨f, r⟩
  ·exact h
  ·rw [hq] at hnd hql
   simp only [List.length_cons] at hql
   have hnd2 := hnd
   rw [List.nodup_append] at hnd2
   have hcn := List.nodup_cons.1 hnd2.2.1
   have := h.woken (f := f) (Q0 := W.q0) (Q1 := r) (by rw [hq]; simp) (by
     simp only [List.mem_append, not_or]
     exact ⟨fun hx => hnd2.2.2 f hx f (by simp) J, hcn.1⟩) (by
     rw [List.nodup_append]
     exact ⟨hnd2.1, hcn.2, fun x hx y hy => hnd2.2.2 x hx y (List.mem_cons_of_mem _ hy)⟩) (by omega) (fun g hg => by
     rw [hq]
     simp only [List.mem_append, List.mem_cons] at hg ⊢
     rcases hg with hg | hg <;> simp [hg])
   show Inv ((W.upd f.toNat (fun p => { p with mode := 2, on := 0 })).setQue a r) B
   unfold Wld.setQue
   rw [if_neg ha]
   exact this
theorem upd_upd (W : Wld) (who : Nat) (f g : Prc → Prc) : (W.upd who g).upd who f = W.upd who (fun p => f (g p)) := by
 simp [Wld.upd, updL_updL]
theorem setRm_upd (W : Wld) (who : Nat) (f : Prc → Prc) (a v : Int) : (W.upd who f).setRm a v = (W.setRm a v).upd who f := by
 unfold Wld.setRm; split <;> rfl
theorem que_setRm (W : Wld) (a v b : Int) : (W.setRm a v).que b = W.que b := by
 unfold Wld.setRm; split <;> rfl
theorem POk.set {p : Prc} (h : POk p) (k v : Int) : POk (p.set k v) := by
 unfold Prc.set
 split
 ·exact ⟨h.td, h.mx, h.md, h.rm, h.ro⟩
 split
 ·exact ⟨h.td, h.mx, h.md, h.rm, h.ro⟩
 ·exact ⟨h.td, h.mx, h.md, h.rm, h.ro⟩
theorem Inv.step {W : Wld} {B who : Nat} (h : Inv W B) (hw : who < W.procs.length) (hc : codeOf W (who : Nat) = 0) : Inv (W.step who) (B + 1) := by
 obtain ⟨p, hp⟩ : ∃ p, W.procs[who]? = some p := ⟨W.procs[who], by simp [hw]⟩
 obtain ⟨hm1, hne⟩ := code0 hp hc
 have hpm : p ∈ W.procs := List.mem_of_getElem? hp
 have q := h.pr p hpm
 by_cases hm : p.mode = 2
 ·have e : W.step who = (W.setRm p.room ((who : Int) + 1)).upd who (fun p => { p with mode := 0 }) := by simp [Wld.step, hp, hm]
  rw [e]
  refine Inv.mono ((h.setRm _ _ (by omega)).upd (p := p) (by rw [setRm_procs]; exact hp) (by omega) ?_) (Nat.le_succ _)
  exact ⟨q.td, q.mx, .inl rfl, fun hx => absurd rfl hx, q.ro⟩
 rcases hT : p.todo with _ | ⟨s, r⟩
 ·exact absurd hT (hne hm)
 rw [step_eq hp hm hT]
 have hm0 : p.mode = 0 := by rcases q.md with h | h | h <;> simp_all
 have hsok := h.sok hpm hT
 have htd := q.td
 have hmx := q.mx
 rw [hT] at htd hmx
 simp only [Go.Proofs.YtcbdilccmjpnbaaGreat.mx] at hmx
 have hro := q.ro
 have hpt : (pop p).todo = r := by simp [pop, hT]
 generalize hR : p.room = ro at htd hro
 cases htd with
 | leave ha hr =>
  have e : (W.upd who pop).stepS who (leaveS ro) = (W.setRm ro 0).upd who (fun p => { pop p with room := -1 }) := by
   rw [show (W.upd who pop).stepS who (leaveS ro) = ((W.upd who pop).setRm ro 0).upd who (fun p => { p with room := -1 }) by simp [Wld.stepS, leaveS, Stm.kind, Stm.a], setRm_upd, upd_upd]
  rw [e]
  refine Inv.mono ((h.setRm _ _ (by omega)).upd (p := p) (by rw [setRm_procs]; exact hp) hm1 ?_) (Nat.le_succ _)
  exact ⟨by show TOk (-1) (pop p).todo; rw [hpt]; exact hr, by show Go.Proofs.YtcbdilccmjpnbaaGreat.mx (pop p).todo ≤ _; rw [hpt]; omega, .inl hm0, fun hx => absurd hm0 hx, .inl rfl⟩
 | stm hs hr =>
  rename_i d
  have hpop : POk (pop p) := ⟨by show TOk p.room (pop p).todo; rw [hpt, hR]; exact hr, by rw [hpt]; omega, .inl hm0, fun hx => absurd hm0 hx, q.ro⟩
  have hP := h.upd hp hm1 hpop
  have hPp : (W.upd who pop).procs[who]? = some (pop p) := by
   show (updL _ _ _)[who]? = _
   rw [updL_get, hp]; rfl
  obtain ⟨k, a, b, n, x, y⟩ := s
  simp only [mxS] at hmx
  have hs0 := hs
  simp only [stmtOk] at hs
  split at hs
  ·cases hs
  have pm1 : (pop p).mode ≠ 1 := hm1
  have pm0 : (pop p).mode = 0 := hm0
  have app : ∀ L : List Stm, ∀ d', listOk L d' ro = true → Go.Proofs.YtcbdilccmjpnbaaGreat.mx L + r.length ≤ 1000 → POk { pop p with todo := L ++ (pop p).todo } := fun L d' h1 h2 =>
   ⟨by show TOk p.room (L ++ (pop p).todo); rw [hpt, hR]; exact hr.app h1, by show Go.Proofs.YtcbdilccmjpnbaaGreat.mx (L ++ (pop p).todo) ≤ _; rw [hpt]; exact mx_append _ _ h2 (by omega), .inl hm0, fun hx => absurd hm0 hx, q.ro⟩
  unfold Wld.stepS
  have hkd : (Stm.mk k a b n x y).kind = k := rfl
  simp only [hkd]
  by_cases e1 : k = 1
  ·rw [if_pos e1]
   exact (hP.upd hPp pm1 (hpop.set _ _)).mono (Nat.le_succ _)
  rw [if_neg e1]
  by_cases e2 : k = 2
  ·rw [if_pos e2]
   exact (hP.upd hPp pm1 (hpop.set _ _)).mono (Nat.le_succ _)
  rw [if_neg e2]
  by_cases e3 : k = 3
  ·rw [if_pos e3]
   exact (hP.upd hPp pm1 (hpop.set _ _)).mono (Nat.le_succ _)
  rw [if_neg e3]
  by_cases e4 : k = 4
  ·rw [if_pos e4]
   exact (hP.setCell _ _).mono (Nat.le_succ _)
  rw [if_neg e4]
  by_cases e5 : k = 5
  ·rw [if_pos e5]
   exact hP.say _
  rw [if_neg e5]
  by_cases e6 : k = 6
  ·rw [if_pos e6]
   subst e6
   simp at hs
   refine (hP.upd hPp pm1 (app _ (d - 1) ?_ ?_)).mono (Nat.le_succ _)
   ·by_cases hz : (W.upd who pop).reg who (Stm.mk 6 a b n x y).a = 0
    ·rw [if_pos hz]; exact hs.2
    ·rw [if_neg hz]; exact hs.1.2
   ·by_cases hz : (W.upd who pop).reg who (Stm.mk 6 a b n x y).a = 0
    ·rw [if_pos hz]; simp only [Stm.els]; omega
    ·rw [if_neg hz]; simp only [Stm.body]; omega
  rw [if_neg e6]
  by_cases e7 : k = 7
  ·rw [if_pos e7]
   subst e7
   simp at hs
   refine (hP.upd hPp pm1 ?_).mono (Nat.le_succ _)
   by_cases hz : (W.upd who pop).reg who (Stm.mk 7 a b n x y).a = 0
   ·rw [if_pos hz]
    exact app [] 3 J (by simp only [Go.Proofs.YtcbdilccmjpnbaaGreat.mx]; omega)
   ·rw [if_neg hz]
    refine ⟨?_, ?_, .inl hm0, fun hx => absurd hm0 hx, q.ro⟩
    ·show TOk p.room ((x ++ [.mk 7 a b n x y]) ++ (pop p).todo)
     rw [hpt, hR, List.append_assoc]
     exact TOk.app hs.1.2 (.stm hs0 hr)
    ·show Go.Proofs.YtcbdilccmjpnbaaGreat.mx ((x ++ [.mk 7 a b n x y]) ++ (pop p).todo) ≤ 1000
     rw [hpt, List.append_assoc]
     refine mx_append _ _ (by simp only [List.length_append, List.length_singleton]; omega) ?_
     simp only [List.singleton_append, Go.Proofs.YtcbdilccmjpnbaaGreat.mx, mxS]; omega
  rw [if_neg e7]
  by_cases e8 : k = 8
  ·rw [if_pos e8]
   subst e8
   simp at hs
   obtain ⟨⟨⟨⟨hro1, ha0⟩, hb⟩, hn⟩, hx⟩ := hs
   have hro2 : ro = -1 := by rcases hro with h | h | h <;> omega
   have ha2 : is2 a := by unfold is2; omega
   refine Inv.mono ((hP.setRm _ _ (by omega)).upd (p := pop p) (by rw [setRm_procs]; exact hPp) pm1 ?_) (Nat.le_succ _)
   refine ⟨?_, ?_, .inl hm0, fun hx => absurd hm0 hx, .inr ha2⟩
   ·show TOk a ((x ++ [leaveS a]) ++ (pop p).todo)
    rw [hpt, List.append_assoc]
    exact TOk.app hx (.leave ha2 (hro2 ▸ hr))
   ·show Go.Proofs.YtcbdilccmjpnbaaGreat.mx ((x ++ [leaveS a]) ++ (pop p).todo) ≤ 1000
    rw [hpt, List.append_assoc]
    refine mx_append _ _ (by simp only [List.length_append, List.length_singleton]; omega) ?_
    simp only [List.singleton_append, Go.Proofs.YtcbdilccmjpnbaaGreat.mx, mxS, leaveS]; omega
  rw [if_neg e8]
  by_cases e9 : k = 9
  ·rw [if_pos e9]
   subst e9
   simp [leafOk] at hs
   have hr2 : is2 ro := by
    rcases hro with h | h
    ·omega
    ·exact h
   have := (hP.setRm ((W.upd who pop).room who) 0 (by omega)).wait (p := pop p) (by rw [setRm_procs]; exact hPp) pm1 (by show is2 p.room; rw [hR]; exact hr2) a
   rw [que_setRm] at this
   exact this
  rw [if_neg e9]
  by_cases e10 : k = 10
  ·rw [if_pos e10]
   exact (hP.signal _).mono (Nat.le_succ _)
  rw [if_neg e10]
  by_cases e12 : k = 12
  ·subst e12
   simp [leafOk] at hs
  ·rw [if_neg e12]
   exact hP.mono (Nat.le_succ _)
end
section
attribute [local irreducible] X Pure Mod
theorem Wld.step_len (W : Wld) (who : Nat) : (W.step who).procs.length = W.procs.length := by
 have hs : ∀ (V : Wld) a v, (V.setRm a v).procs.length = V.procs.length := fun V a v => by rw [setRm_procs]
 have hq : ∀ (V : Wld) a v, (V.setQue a v).procs.length = V.procs.length := fun V a v => by rw [setQue_procs]
 have hc : ∀ (V : Wld) a v, (V.setCell a v).procs.length = V.procs.length := fun V a v => by rw [setCell_procs]
 have hu := upd_len
 unfold Wld.step
 rcases W.procs[who]? with _ | p
 ·rfl
 by_cases hm : p.mode = 2
 ·simp only [hm, if_true, hu, hs]
 ·simp only [hm, if_false]
  rcases p.todo with _ | ⟨s, r⟩
  ·rfl
  ·simp only [Wld.stepS]
   have hg : ∀ (V : Wld) a, (V.signal a).procs.length = V.procs.length := fun V a => by
    unfold Wld.signal
    split
    ·rfl
    ·rw [hq, hu]
   have ite : ∀ {c : Prop} [Decidable c] {A B : Wld} {n : Nat}, A.procs.length = n → B.procs.length = n → (if c then A else B).procs.length = n := by
    intro c _ A B n h1 h2
    by_cases h : c
    ·rw [if_pos h]; exact h1
    ·rw [if_neg h]; exact h2
   repeat' (first | refine ite ?_ ?_)
   all_goals (simp only [hu, hs, hq, hc, hg])
end
section
attribute [local irreducible] X Pure Mod
mutual
def dpS : Stm → Nat
 | .mk _ _ _ _ x y => 1 + max (dpL x) (dpL y)
def dpL : List Stm → Nat
 | [] => 0
 | s :: r => max (dpS s) (dpL r)
end
theorem dpS_eq (s : Stm) : dpS s = 1 + max (dpL s.body) (dpL s.els) := by cases s; simp [dpS, Stm.body, Stm.els]
theorem dpL_append (L M : List Stm) : dpL (L ++ M) = max (dpL L) (dpL M) := by
 induction L with
 | nil => simp [dpL]
 | cons s L ih => simp only [List.cons_append, dpL, ih]; omega
theorem cpL_id : ∀ (n : Nat) (L : List Stm), dpL L ≤ n → cpL L n = L
 | 0, [], _ => rfl
 | 0, s :: L, h => by simp only [dpL, dpS_eq] at h; omega
 | n + 1, L, h => by
  rw [cpL_succ]
  induction L with
  | nil => rfl
  | cons s L ih =>
   simp only [dpL] at h
   rw [List.map_cons, ih (by omega)]
   obtain ⟨k, a, b, m, x, y⟩ := s
   simp only [dpS] at h
   simp only [cpS, cpL_id n x (by omega), cpL_id n y (by omega)]
theorem stmtOk_deep {k a b n : Int} {x y : List Stm} {d r : Int} (h : stmtOk (.mk k a b n x y) d r = true) : 1 ≤ d ∧ (∃ r', listOk x (d - 1) r' = true) ∧ ∃ r', listOk y (d - 1) r' = true := by
 simp only [stmtOk] at h
 split at h
 ·cases h
 rename_i h0
 simp only [Bool.or_eq_true, Bool.and_eq_true, decide_eq_true_eq, not_or, not_and] at h0
 have hy : k ≠ 6 → y = [] := fun hk => List.eq_nil_of_length_eq_zero (by have := h0.1 hk; omega)
 refine ⟨by omega, ?_⟩
 split at h
 ·simp only [Bool.and_eq_true] at h
  exact ⟨⟨_, h.1.2⟩, ⟨_, h.2⟩⟩
 split at h
 ·simp only [Bool.and_eq_true] at h
  exact ⟨⟨_, h.2⟩, 0, by rw [hy (by omega)]; rfl⟩
 ·simp only [Bool.and_eq_true, decide_eq_true_eq] at h
  rename_i h6 h8
  exact ⟨⟨0, by rw [List.eq_nil_of_length_eq_zero h.1]; rfl⟩, 0, by rw [hy (by omega)]; rfl⟩
theorem dpL_ok : ∀ (n : Nat) (L : List Stm) (d r : Int), listOk L d r = true → d ≤ n → dpL L ≤ n
 | n, [], d, r, _, _ => by simp [dpL]
 | 0, s :: L, d, r, h, hd => by
  simp only [listOk, Bool.and_eq_true] at h
  obtain ⟨k, a, b, m, x, y⟩ := s
  have := (stmtOk_deep h.1).1
  omega
 | n + 1, s :: L, d, r, h, hd => by
  simp only [listOk, Bool.and_eq_true] at h
  obtain ⟨k, a, b, m, x, y⟩ := s
  obtain ⟨h1, ⟨r1, h2⟩, r2, h3⟩ := stmtOk_deep h.1
  have a1 := dpL_ok n x (d - 1) r1 h2 (by omega)
  have a2 := dpL_ok n y (d - 1) r2 h3 (by omega)
  have a3 := dpL_ok (n + 1) L d r h.2 hd
  simp only [dpL, dpS]
  omega
theorem mx_many : ∀ (n : Nat) (L : List Stm) (d r : Int), listOk L d r = true → d ≤ n → (mx L : Int) ≤ many L d
 | n, [], d, r, _, _ => by simp [mx, many]
 | 0, s :: L, d, r, h, hd => by
  simp only [listOk, Bool.and_eq_true] at h
  obtain ⟨k, a, b, m, x, y⟩ := s
  have := (stmtOk_deep h.1).1
  omega
 | n + 1, s :: L, d, r, h, hd => by
  simp only [listOk, Bool.and_eq_true] at h
  obtain ⟨k, a, b, m, x, y⟩ := s
  obtain ⟨h1, ⟨r1, h2⟩, r2, h3⟩ := stmtOk_deep h.1
  have a1 := mx_many n x (d - 1) r1 h2 (by omega)
  have a2 := mx_many n y (d - 1) r2 h3 (by omega)
  have a3 := mx_many (n + 1) L d r h.2 hd
  have a4 := len_mx L
  simp only [mx, mxS, many, manyS, if_pos (show 0 < d by omega)]
  omega
def MB : Nat → Nat
 | 0 => 0
 | d + 1 => 1048576 * (1 + 2 * MB d)
theorem many_bnd : ∀ (d : Nat) (L : List Stm), Sh L → 0 ≤ many L d ∧ many L d ≤ MB d
 | 0, L, _ => by rw [many_zero L (by omega)]; simp [MB]
 | d + 1, L, h => by
  obtain ⟨K, hK⟩ : ∃ K, K = 1 + 2 * MB d := ⟨_, rfl⟩
  have key : ∀ (L : List Stm), shL L → 0 ≤ many L ((d + 1 : Nat) : Int) ∧ many L ((d + 1 : Nat) : Int) ≤ (L.length * K : Nat) := by
   intro L
   induction L with
   | nil => intro _; simp [many]
   | cons s L ih =>
    intro hs
    obtain ⟨h1, h2⟩ := hs
    have a1 := ih h2
    obtain ⟨k, a, b, m, x, y⟩ := s
    rw [Stm.short_mk] at h1
    have b1 := many_bnd d x h1.1
    have b2 := many_bnd d y h1.2
    have e : (((d + 1 : Nat) : Int) - 1) = (d : Nat) := by omega
    simp only [many, manyS, e, if_pos (show (0 : Int) < ((d + 1 : Nat) : Int) by omega), List.length_cons, Nat.succ_mul]
    omega
  obtain ⟨k1, k2⟩ := key L h.2
  refine ⟨k1, Int.le_trans k2 ?_⟩
  have := Nat.mul_le_mul_right K h.1
  simp only [MB, ← hK]
  omega
theorem MB3 : MB 3 ≤ 9000000000000000000 := by decide
theorem mx_ok {L : List Stm} (h : stmtsOk L = true) (hs : Sh L) : mx L ≤ 14 := by
 simp only [stmtsOk, Bool.and_eq_true, decide_eq_true_eq] at h
 have b := many_bnd 3 L hs
 have m3 := MB3
 rw [show ((3 : Nat) : Int) = 3 from rfl] at b
 have e : w64 (many L 3) = many L 3 := w64_eq ⟨by omega, by omega⟩
 rw [e] at h
 have := mx_many 3 L 3 (-1) h.1 (by omega)
 omega
theorem prog_parts {p : List (List Stm)} (h : progOk p = true) : (∀ l ∈ p, stmtsOk l = true) ∧ 1 ≤ p.length ∧ p.length ≤ 3 := by
 simp only [progOk, Bool.and_eq_true, decide_eq_true_eq, List.all_eq_true] at h
 exact ⟨h.1.1, h.1.2, h.2⟩
theorem Inv_open {p : List (List Stm)} (h : progOk p = true) (hs : ∀ l ∈ p, Sh l) : Inv (open0 p) 0 := by
 obtain ⟨h1, h2, h3⟩ := prog_parts h
 refine ⟨by simpa [open0] using h2, by simpa [open0] using h3, ?_, by simp [open0], by simp [open0], by simp [open0], by simp [open0], by simp [open0], by simp [open0]⟩
 intro q hq
 simp only [open0, List.mem_map] at hq
 obtain ⟨l, hl, rfl⟩ := hq
 have a1 := h1 l hl
 have a2 := mx_ok a1 (hs l hl)
 simp only [stmtsOk, Bool.and_eq_true] at a1
 exact ⟨by have := TOk.app a1.1 TOk.nil; simpa [proc0] using this, by simp only [proc0]; omega, .inl rfl, fun hx => absurd rfl hx, .inl rfl⟩
def Shl (W : Wld) : Prop := ∀ q ∈ W.procs, dpL q.todo ≤ 3
theorem Shl_open {p : List (List Stm)} (h : progOk p = true) : Shl (open0 p) := by
 obtain ⟨h1, _, _⟩ := prog_parts h
 intro q hq
 simp only [open0, List.mem_map] at hq
 obtain ⟨l, hl, rfl⟩ := hq
 have a1 := h1 l hl
 simp only [stmtsOk, Bool.and_eq_true] at a1
 exact dpL_ok 3 l 3 (-1) a1.1 (by omega)
theorem Shl.out {W : Wld} (h : Shl W) : W.out = W := by
 obtain ⟨ps, w1, w2, w3, w4, w5, w6, w7, w8⟩ := W
 show Wld.mk _ _ _ _ _ _ _ _ _ = Wld.mk _ _ _ _ _ _ _ _ _
 congr 1
 have h' : ∀ q ∈ ps, outP q = q := fun q hq => by
  have := h q hq
  simp only [outP]
  rw [cpL_id 4 q.todo (by omega)]
 clear h
 show ps.map outP = ps
 induction ps with
 | nil => rfl
 | cons q ps ih => rw [List.map_cons, h' q (List.mem_cons_self ..), ih fun x hx => h' x (List.mem_cons_of_mem _ hx)]
theorem Shl_upd {W : Wld} {who : Nat} {f : Prc → Prc} (h : Shl W) (hf : ∀ p, W.procs[who]? = some p → dpL (f p).todo ≤ 3) : Shl (W.upd who f) := by
 intro q hq
 rcases mem_updL' _ _ hq with hq | ⟨x, hx, rfl⟩
 ·exact h q hq
 ·exact hf x hx
theorem Shl_of {W V : Wld} (h : Shl W) (e : V.procs = W.procs) : Shl V := by unfold Shl; rw [e]; exact h
theorem dp_tail (L : List Stm) : dpL L.tail ≤ dpL L := by
 cases L with
 | nil => simp [dpL]
 | cons s r => simp only [List.tail_cons, dpL]; omega
theorem set_todo (p : Prc) (k v : Int) : (p.set k v).todo = p.todo := by unfold Prc.set; split; rfl; split <;> rfl
theorem ite_shl {c : Prop} [Decidable c] {A B : Wld} (h1 : Shl A) (h2 : Shl B) : Shl (if c then A else B) := by
 by_cases h : c
 ·rw [if_pos h]; exact h1
 ·rw [if_neg h]; exact h2
theorem Shl.step {W : Wld} (h : Shl W) (who : Nat) : Shl (W.step who) := by
 unfold Wld.step
 split
 ·rename_i p hp
  have hpd := h p (List.mem_of_getElem? hp)
  split
  ·exact Shl_upd (Shl_of h (setRm_procs ..)) fun q hq => by rw [setRm_procs] at hq; rw [hp] at hq; cases hq; exact hpd
  ·split
   ·exact h
   ·rename_i s r hT
    have hP : Shl (W.upd who pop) := Shl_upd h fun q hq => by rw [hp] at hq; cases hq; have := dp_tail p.todo; simp only [pop]; omega
    have hPp : (W.upd who pop).procs[who]? = some (pop p) := by
     show (updL _ _ _)[who]? = _
     rw [updL_get, hp]; rfl
    have hpt : (pop p).todo = r := by simp [pop, hT]
    have hsd : dpS s ≤ 3 ∧ dpL r ≤ 3 := by rw [hT] at hpd; simp only [dpL] at hpd; omega
    have hse := dpS_eq s
    have hlv : ∀ a, dpS (leaveS a) ≤ 3 := fun a => by simp [leaveS, dpS, dpL]
    unfold Wld.stepS
    refine ite_shl ?_ ?_
    ·exact Shl_upd hP fun q hq => by rw [hPp] at hq; cases hq; rw [set_todo, hpt]; exact hsd.2
    refine ite_shl ?_ ?_
    ·exact Shl_upd hP fun q hq => by rw [hPp] at hq; cases hq; rw [set_todo, hpt]; exact hsd.2
    refine ite_shl ?_ ?_
    ·exact Shl_upd hP fun q hq => by rw [hPp] at hq; cases hq; rw [set_todo, hpt]; exact hsd.2
    refine ite_shl ?_ ?_
    ·exact Shl_of hP (setCell_procs ..)
    refine ite_shl ?_ ?_
    ·exact Shl_of hP J
    refine ite_shl ?_ ?_
    ·refine Shl_upd hP fun q hq => ?_
     rw [hPp] at hq; cases hq
     simp only [dpL_append, hpt]
     split <;> omega
    refine ite_shl ?_ ?_
    ·refine Shl_upd hP fun q hq => ?_
     rw [hPp] at hq; cases hq
     simp only [dpL_append, hpt]
     split
     ·simp only [dpL]; omega
     ·simp only [dpL_append, dpL]; omega
    refine ite_shl ?_ ?_
    ·refine Shl_upd (Shl_of hP (setRm_procs ..)) fun q hq => ?_
     rw [setRm_procs, hPp] at hq; cases hq
     have := hlv s.a
     simp only [dpL_append, hpt, dpL]; omega
    refine ite_shl ?_ ?_
    ·refine Shl_of (Shl_upd (f := fun p => { p with mode := 1, on := s.a }) (Shl_of hP (setRm_procs _ _ 0)) fun q hq => ?_) (setQue_procs ..)
     rw [setRm_procs, hPp] at hq; cases hq
     show dpL (pop p).todo ≤ 3
     rw [hpt]; exact hsd.2
    refine ite_shl ?_ ?_
    ·unfold Wld.signal
     split
     ·exact hP
     ·refine Shl_of (Shl_upd (f := fun p => { p with mode := 2, on := 0 }) hP fun q hq => ?_) (setQue_procs ..)
      exact hP q (List.mem_of_getElem? hq)
    refine ite_shl ?_ ?_
    ·refine Shl_upd (Shl_of hP (setRm_procs ..)) fun q hq => ?_
     rw [setRm_procs, hPp] at hq; cases hq
     show dpL (pop p).todo ≤ 3
     rw [hpt]; exact hsd.2
    ·exact hP
 ·exact h
end
section
attribute [local irreducible] X Pure Mod
theorem any_at {α : Type} {L : List α} {p : α → Bool} {k : Nat} (hk : k < L.length) (h : p L[k] = true) : L.any p = true := List.any_eq_true.2 ⟨_, List.getElem_mem hk, h⟩
theorem any_not {α : Type} {L : List α} {p : α → Bool} (h : ∀ j (hj : j < L.length), p L[j] = false) : L.any p = false := by
 rw [List.any_eq_false]
 intro s hs
 obtain ⟨j, hj, rfl⟩ := List.getElem_of_mem hs
 simp [h j hj]
theorem c_IndexStm (L : List Stm) (p : Stm → Bool) (fid : Nat) (cap : Array Value) (v : Value) (G : PH) (hv : Sts G L v) (hcf : ∀ args w, (callFunc fid args).run Tryz.prog w = .ok (.enter fid args) w)
  (hp : ∀ k (hk : k < L.length) cs, Stm.rep G L[k] cs → Pure Tryz.prog fid (.agg cs.toArray :: cap.toList) G fun v G' => v = .bool (p L[k]) ∧ G' = G) :
  Pure Tryz.prog 91 [v, .func (.func fid) #[] cap] G fun v G' => (∃ r : Int, v = .int .i64 r ∧ (0 ≤ r ↔ L.any p = true)) ∧ G' = G := by
 obtain ⟨A, c, rfl, hn, hc1, hc2, hr⟩ := id hv
 refine Pure.intro Tryz.func91 Tryz.ntmps91 J J fun w => ?_; refine Va J J ?_;refine S_loop (α := Nat) (fun k => k ≤ L.length ∧ ∀ j (hj : j < L.length), j < k → p L[j] = false) (fun k => L.length - k) []
  (fun k => [(8, .val (.int .i64 k)), (7, .val (.int .i64 L.length)), (0, .val (.slice A L.length c)), (1, .val (.func (.func fid) #[] cap))]) (fun _ => []) (fun _ => G) 0 ⟨Nat.zero_le _, fun j _ h => by omega⟩ rfl
  ⟨⟨_, rfl, rfl⟩, ⟨_, rfl, rfl⟩, ⟨_, rfl, rfl⟩, ⟨_, rfl, rfl⟩, trivial⟩ .nil ?_
 rintro k ⟨hk, hall⟩
 refine Va J J ?_
 refine S_condp J (fun h => ?_) (fun h => ?_) <;> refine Va J J ?_
 ·have hkl : k < L.length := by omega
  obtain ⟨ad, cs, rfl, hcs, hrep⟩ := Sr_at hv hkl
  have hlen := Stm.rep_len hrep
  refine S_index Tk J J J J J J (by omega) (by omega) ?_;refine Va J J ?_;refine S_loadA Tk J J J J hlen (by simpa using hcs) ?_;refine Va J J ?_;refine S_callV (vs := [.agg cs.toArray]) J hcf (hp k hkl cs hrep) J J J ?_;rintro v1 G1 ⟨rfl, rfl⟩ _
  refine Va J J ?_
  refine S_cond J (fun h => ?_) (fun h => ?_) <;> refine Va J J ?_
  ·refine S_retP Tryz.results91 J J XR ⟨⟨_, J, ?_⟩, J⟩
   rw [any_at hkl h]; simp
  ·refine S_add J J J J (by omega) ?_
   refine Va J J ?_;refine S_again (k + 1) ⟨by omega, fun j hj hjk => ?_⟩ (by omega) J ⟨⟨_, J, J⟩, ⟨_, J, J⟩, ⟨_, J, J⟩, ⟨_, J, J⟩, trivial⟩ .nil
   rcases Nat.lt_or_ge j k with h' | h'
   ·exact hall j hj h'
   ·obtain rfl : j = k := by omega
    exact h
 ·refine S_retP Tryz.results91 J J XR ⟨⟨_, J, ?_⟩, J⟩
  rw [any_not fun j hj => hall j hj (by omega)]; simp
theorem c_ContainsStm (L : List Stm) (p : Stm → Bool) (fid : Nat) (cap : Array Value) (v : Value) (G : PH) (hv : Sts G L v) (hcf : ∀ args w, (callFunc fid args).run Tryz.prog w = .ok (.enter fid args) w)
  (hp : ∀ k (hk : k < L.length) cs, Stm.rep G L[k] cs → Pure Tryz.prog fid (.agg cs.toArray :: cap.toList) G fun v G' => v = .bool (p L[k]) ∧ G' = G) :
  Pure Tryz.prog 86 [v, .func (.func fid) #[] cap] G fun v G' => v = .bool (L.any p) ∧ G' = G := by
 obtain ⟨A, c, rfl, hn, hc1, hc2, hr⟩ := id hv
 refine Pure.intro Tryz.func86 Tryz.ntmps86 J J fun w => ?_; refine Va J J ?_;refine S_call Tryz.call91 (c_IndexStm L p fid cap _ _ hv hcf hp) J J J ?_;rintro v1 G1 ⟨⟨r, rfl, hrr⟩, rfl⟩ _
 refine Va J J ?_;refine S_retP Tryz.results86 J J XR ⟨?_, J⟩
 congr 1
 exact (Bool.eq_iff_iff.2 (by rw [← hrr]; simp))
theorem c_IndexSts (L : List (List Stm)) (p : (List Stm) → Bool) (fid : Nat) (cap : Array Value) (v : Value) (G : PH) (hv : Prg G L v) (hcf : ∀ args w, (callFunc fid args).run Tryz.prog w = .ok (.enter fid args) w)
  (hp : ∀ k (hk : k < L.length) u, Sts G L[k] u → Pure Tryz.prog fid (u :: cap.toList) G fun v G' => v = .bool (p L[k]) ∧ G' = G) :
  Pure Tryz.prog 79 [v, .func (.func fid) #[] cap] G fun v G' => (∃ r : Int, v = .int .i64 r ∧ (0 ≤ r ↔ L.any p = true)) ∧ G' = G := by
 obtain ⟨A, c, rfl, hn, hc1, hc2, hr⟩ := id hv
 refine Pure.intro Tryz.func79 Tryz.ntmps79 J J fun w => ?_; refine Va J J ?_;refine S_loop (α := Nat) (fun k => k ≤ L.length ∧ ∀ j (hj : j < L.length), j < k → p L[j] = false) (fun k => L.length - k) []
  (fun k => [(8, .val (.int .i64 k)), (7, .val (.int .i64 L.length)), (0, .val (.slice A L.length c)), (1, .val (.func (.func fid) #[] cap))]) (fun _ => []) (fun _ => G) 0 ⟨Nat.zero_le _, fun j _ h => by omega⟩ rfl
  ⟨⟨_, rfl, rfl⟩, ⟨_, rfl, rfl⟩, ⟨_, rfl, rfl⟩, ⟨_, rfl, rfl⟩, trivial⟩ .nil ?_
 rintro k ⟨hk, hall⟩
 refine Va J J ?_
 refine S_condp J (fun h => ?_) (fun h => ?_) <;> refine Va J J ?_
 ·have hkl : k < L.length := by omega
  obtain ⟨ad, cs, rfl, hcs, u, rfl, hu⟩ := Sr_at hv hkl
  obtain ⟨A1, c1, rfl, _⟩ := id hu
  refine S_index Tk J J J J J J (by omega) (by omega) ?_;refine Va J J ?_;refine S_load Tk J J J J J (by simpa using hcs.1) ?_;refine Va J J ?_;refine S_callV (vs := [.slice A1 L[k].length c1]) J hcf (hp k hkl _ hu) J J J ?_;rintro v1 G1 ⟨rfl, rfl⟩ _
  refine Va J J ?_
  refine S_cond J (fun h => ?_) (fun h => ?_) <;> refine Va J J ?_
  ·refine S_retP Tryz.results79 J J XR ⟨⟨_, J, ?_⟩, J⟩
   rw [any_at hkl h]; simp
  ·refine S_add J J J J (by omega) ?_
   refine Va J J ?_;refine S_again (k + 1) ⟨by omega, fun j hj hjk => ?_⟩ (by omega) J ⟨⟨_, J, J⟩, ⟨_, J, J⟩, ⟨_, J, J⟩, ⟨_, J, J⟩, trivial⟩ .nil
   rcases Nat.lt_or_ge j k with h' | h'
   ·exact hall j hj h'
   ·obtain rfl : j = k := by omega
    exact h
 ·refine S_retP Tryz.results79 J J XR ⟨⟨_, J, ?_⟩, J⟩
  rw [any_not fun j hj => hall j hj (by omega)]; simp
theorem c_ContainsSts (L : List (List Stm)) (p : (List Stm) → Bool) (fid : Nat) (cap : Array Value) (v : Value) (G : PH) (hv : Prg G L v) (hcf : ∀ args w, (callFunc fid args).run Tryz.prog w = .ok (.enter fid args) w)
  (hp : ∀ k (hk : k < L.length) u, Sts G L[k] u → Pure Tryz.prog fid (u :: cap.toList) G fun v G' => v = .bool (p L[k]) ∧ G' = G) :
  Pure Tryz.prog 71 [v, .func (.func fid) #[] cap] G fun v G' => v = .bool (L.any p) ∧ G' = G := by
 obtain ⟨A, c, rfl, hn, hc1, hc2, hr⟩ := id hv
 refine Pure.intro Tryz.func71 Tryz.ntmps71 J J fun w => ?_; refine Va J J ?_;refine S_call Tryz.call79 (c_IndexSts L p fid cap _ _ hv hcf hp) J J J ?_;rintro v1 G1 ⟨⟨r, rfl, hrr⟩, rfl⟩ _
 refine Va J J ?_;refine S_retP Tryz.results71 J J XR ⟨?_, J⟩
 congr 1
 exact (Bool.eq_iff_iff.2 (by rw [← hrr]; simp))
end
section
attribute [local irreducible] X Pure Mod
def fm (k : Int) : Option (Int × Int × Bool × Bool) :=
 if k = 1 then some (3, 0, false, false) else if k = 2 then some (3, 3, false, false) else if k = 3 then some (3, 3, false, false) else if k = 4 then some (3, 3, false, false) else if k = 5 then some (3, 0, false, false)
 else if k = 6 then some (3, 0, true, true) else if k = 7 then some (3, 0, true, false) else if k = 8 then some (2, 0, true, false) else if k = 9 then some (2, 0, false, false) else if k = 10 then some (2, 0, false, false) else if k = 11 then some (0, 0, false, false) else none
theorem fm_of {f : Int → Option Value} (h : formsP f) (k : Int) : (∃ s a b body els, f k = some (formV s a b body els) ∧ fm k = some (a, b, body, els)) ∨ (f k = none ∧ fm k = none) := by
 obtain ⟨⟨s1, h1⟩, ⟨s2, h2⟩, ⟨s3, h3⟩, ⟨s4, h4⟩, ⟨s5, h5⟩, ⟨s6, h6⟩, ⟨s7, h7⟩, ⟨s8, h8⟩, ⟨s9, h9⟩, ⟨s10, h10⟩, ⟨s11, h11⟩, hn⟩ := h
 by_cases hk : 1 ≤ k ∧ k ≤ 11
 ·left
  have hc : k = 1 ∨ k = 2 ∨ k = 3 ∨ k = 4 ∨ k = 5 ∨ k = 6 ∨ k = 7 ∨ k = 8 ∨ k = 9 ∨ k = 10 ∨ k = 11 := by omega
  rcases hc with rfl | rfl | rfl | rfl | rfl | rfl | rfl | rfl | rfl | rfl | rfl <;> exact ⟨_, _, _, _, _, by assumption, J⟩
 ·right
  refine ⟨hn k hk, ?_⟩
  unfold fm
  repeat rw [if_neg (by omega)]
def iOk (k a b n : Int) (x y : List Stm) (deep room : Int) : Bool :=
 match fm k with
 | none => false
 | some (fa, fb, body, els) =>
  if deep < 1 then false else if fitsB a fa = false then false else if fitsB b fb = false then false else if numberOkB k n = false then false
  else if body = false ∧ 0 < x.length then false else if els = false ∧ 0 < y.length then false
  else if k = 8 then (if room = -1 then listOk x (deep - 1) a && listOk y (deep - 1) a else false)
  else if k = 9 ∧ room = -1 then false
  else listOk x (deep - 1) room && listOk y (deep - 1) room
theorem iOk_eq (k a b n : Int) (x y : List Stm) (deep room : Int) (hr : -1 ≤ room) : iOk k a b n x y deep room = stmtOk (.mk k a b n x y) deep room := by
 have hnil : ∀ d r, listOk [] d r = true := fun _ _ => rfl
 have hynil : ∀ d r, y = [] → listOk y d r = true := by rintro d r rfl; rfl
 by_cases hk : 1 ≤ k ∧ k ≤ 11
 ·have hc : k = 1 ∨ k = 2 ∨ k = 3 ∨ k = 4 ∨ k = 5 ∨ k = 6 ∨ k = 7 ∨ k = 8 ∨ k = 9 ∨ k = 10 ∨ k = 11 := by omega
  by_cases hd : deep < 1
  ·rcases hc with rfl | rfl | rfl | rfl | rfl | rfl | rfl | rfl | rfl | rfl | rfl <;> simp [iOk, fm, stmtOk, hd]
  ·cases x with
   | nil =>
    cases y with
    | nil => rcases hc with rfl | rfl | rfl | rfl | rfl | rfl | rfl | rfl | rfl | rfl | rfl <;> simp [iOk, fm, stmtOk, leafOk, listOk, fitsB, numberOkB, opOk, numOk, hd] <;> rw [Bool.eq_iff_iff] <;> simp <;> (first | omega | grind)
    | cons t y => rcases hc with rfl | rfl | rfl | rfl | rfl | rfl | rfl | rfl | rfl | rfl | rfl <;> simp [iOk, fm, stmtOk, leafOk, fitsB, numberOkB, opOk, numOk, hd] <;> rw [Bool.eq_iff_iff] <;> simp <;> (first | omega | grind)
   | cons t x => rcases hc with rfl | rfl | rfl | rfl | rfl | rfl | rfl | rfl | rfl | rfl | rfl <;> simp [iOk, fm, stmtOk, leafOk, fitsB, numberOkB, opOk, numOk, hd] <;> rw [Bool.eq_iff_iff] <;> simp <;> (first | omega | grind)
 ·have : fm k = none := by unfold fm; repeat rw [if_neg (by omega)]
  obtain ⟨h1, h2, h3, h4, h5, h6, h7, h8, h9, h10, h11⟩ : k ≠ 1 ∧ k ≠ 2 ∧ k ≠ 3 ∧ k ≠ 4 ∧ k ≠ 5 ∧ k ≠ 6 ∧ k ≠ 7 ∧ k ≠ 8 ∧ k ≠ 9 ∧ k ≠ 10 ∧ k ≠ 11 := by omega
  simp [iOk, this, stmtOk, leafOk, h1, h2, h3, h4, h5, h6, h7, h8, h9, h10, h11]
def IL (L : List Stm) : Prop := ∀ (deep room : Int) (v : Value) (G : PH), I64 deep → -1 ≤ room → I64 room → Sts G L v → Pure Tryz.prog 80 [v, .int .i64 deep, .int .i64 room] G fun v G' => v = .bool (listOk L deep room) ∧ G' = G
theorem zform : ∀ w, (zeroValue 139).run Tryz.prog w = .ok (.agg #[.string ByteArray.empty, .int .i64 0, .int .i64 0, .bool false, .bool false]) w := by
 intro w
 have h : (Tryz.prog.info? 139).bind (·.zero) = some (.agg #[.string ByteArray.empty, .int .i64 0, .int .i64 0, .bool false, .bool false]) := by kernel_rfl
 cases hi : Tryz.prog.info? 139 with
 | none => rw [hi] at h; cases h
 | some i =>
  rw [hi] at h
  simp only [Option.bind_some] at h
  simp [zeroValue, typeInfo, hi, h]
theorem c_stmtOk_of (k a b n : Int) (x y : List Stm) (hX : IL x) (hY : IL y) (deep room : Int) (hd : I64 deep) (hr : -1 ≤ room) (hr' : I64 room) (cs : List Value) (G : PH) (hs : Stm.rep G (.mk k a b n x y) cs) :
  Pure Tryz.prog 88 [.agg cs.toArray, .int .i64 deep, .int .i64 room] G fun v G' => v = .bool (iOk k a b n x y deep room) := by
 obtain ⟨vx, vy, rfl, hk, ha, hb, hn, h1, h2⟩ := Stm.rep_iff.1 hs
 obtain ⟨Ax, cx, rfl, _⟩ := id h1
 have hd' : -9223372036854775808 ≤ deep ∧ deep ≤ 9223372036854775807 := hd
 obtain ⟨Ay, cy, rfl, _⟩ := id h2
 refine Pure.intro Tryz.func88 Tryz.ntmps88 J J fun w => ?_; refine Va J J ?_;refine S_box J J J J J fun b3 => ?_;refine Va J J ?_;refine Ds J J J ?_;refine Da J J ?_;refine D_or 0 7 J J (N_call 0 Tryz.call92 (c_forms _) J J J J J J J J J J ?_) (N_new 7 J J J J J J J J J J J (AZ ZT_ok J J J J) fun b => ?_)
 ·rintro v G1 ⟨bm, es, clock, rfl, hbm, hkeys, hforms⟩ hext
  rcases fm_of hforms k with ⟨s, fa, fb, body, els, hf, hfm⟩ | ⟨hf, hfm⟩
  ·refine D_val 3 J J J J J J J J J (V_lookupS u_forms u_int hbm hkeys hf J J) ?_
   unfold formV
   refine Da J J ?_;refine D_sole 7 J J (N_new 7 J J J J J J J J J J J (AZ ZT_ok J J J J) fun b => ?_)
   refine Da J J ?_;refine Ns 8 J J J J J J J J J ?_;refine Da J J ?_;refine DD ?_;refine Va J J ?_
   repeat' (first
    | (refine S_condp J (fun h => ?_) (fun h => ?_) <;> refine Va J J ?_) | (refine S_cond J (fun h => ?_) (fun h => ?_) <;> refine Va J J ?_) | (refine S_box J J J J J fun b => ?_; refine Va J J ?_) | (refine AZ ZT_ok J J J J fun b => ?_; refine Va J J ?_) | (refine S_guardp J J (fun h => ?_) (fun h => ?_) <;> refine Va J J ?_) | (refine S_guard J J (fun h => ?_) (fun h => ?_) <;> refine Va J J ?_)
    | (refine S_subI J J J J (by first | omega | (simp_all; omega)) ?_; refine Va J J ?_)
    | (refine S_call Tryz.call93 (c_fits _ _ _) J J J ?_; rintro v G' ⟨rfl, rfl⟩ _; refine Va J J ?_)
    | (refine S_call Tryz.call94 (c_numberOk _ _ _ _ _ _ _) J J J ?_; rintro v G' ⟨rfl, rfl⟩ _; refine Va J J ?_)
    | (refine S_call Tryz.call80 (hX _ _ _ _ (by unfold I64; first | omega | (simp_all; omega)) (by first | exact hr | (simp_all [fitsB]; omega)) (by first | exact hr' | exact ha) (Sts_le hext.le h1)) rfl rfl rfl ?_; rintro v G' ⟨rfl, rfl⟩ _; refine Va J J ?_)
    | (refine S_call Tryz.call80 (hY _ _ _ _ (by unfold I64; first | omega | (simp_all; omega)) (by first | exact hr | (simp_all [fitsB]; omega)) (by first | exact hr' | exact ha) (Sts_le hext.le h2)) rfl rfl rfl ?_; rintro v G' ⟨rfl, rfl⟩ _; refine Va J J ?_)
    | refine S_retP Tryz.results88 J J hext ?_)
   all_goals (try clear hX hY hforms hkeys hs)
   all_goals (refine congrArg Value.bool ?_)
   all_goals (unfold iOk; rw [hfm]; dsimp only)
   all_goals (clear hext; cases body <;> cases els <;> simp_all [listOk] <;> omega)
  ·refine D_val 3 J J J J J J J J J (V_lookupN ZT_ok (z := ⟨32, [.string ByteArray.empty, .int .i64 0, .int .i64 0, .bool false, .bool false], []⟩) u_forms u_int hbm hkeys hf J J zform) ?_
   refine Da J J ?_;refine D_sole 7 J J (N_new 7 J J J J J J J J J J J (AZ ZT_ok J J J J) fun b => ?_)
   refine Da J J ?_;refine Ns 8 J J J J J J J J J ?_;refine Da J J ?_;refine DD ?_;refine Va J J ?_;refine GT J J J ?_;refine Va J J ?_;refine S_retP Tryz.results88 J J hext ?_;refine congrArg Value.bool ?_
   unfold iOk
   rw [hfm]
 ·refine Da J J ?_
  refine D_sole 0 J J (N_call 0 Tryz.call92 (c_forms _) J J J J J J J J J J ?_)
  rintro v G1 ⟨bm, es, clock, rfl, hbm, hkeys, hforms⟩ hext
  rcases fm_of hforms k with ⟨s, fa, fb, body, els, hf, hfm⟩ | ⟨hf, hfm⟩
  ·refine D_val 3 J J J J J J J J J (V_lookupS u_forms u_int hbm hkeys hf J J) ?_
   unfold formV
   refine Da J J ?_;refine Ns 8 J J J J J J J J J ?_;refine Da J J ?_;refine DD ?_;refine Va J J ?_
   repeat' (first
    | (refine S_condp J (fun h => ?_) (fun h => ?_) <;> refine Va J J ?_) | (refine S_cond J (fun h => ?_) (fun h => ?_) <;> refine Va J J ?_) | (refine S_box J J J J J fun b => ?_; refine Va J J ?_) | (refine AZ ZT_ok J J J J fun b => ?_; refine Va J J ?_) | (refine S_guardp J J (fun h => ?_) (fun h => ?_) <;> refine Va J J ?_) | (refine S_guard J J (fun h => ?_) (fun h => ?_) <;> refine Va J J ?_)
    | (refine S_subI J J J J (by first | omega | (simp_all; omega)) ?_; refine Va J J ?_)
    | (refine S_call Tryz.call93 (c_fits _ _ _) J J J ?_; rintro v G' ⟨rfl, rfl⟩ _; refine Va J J ?_)
    | (refine S_call Tryz.call94 (c_numberOk _ _ _ _ _ _ _) J J J ?_; rintro v G' ⟨rfl, rfl⟩ _; refine Va J J ?_)
    | (refine S_call Tryz.call80 (hX _ _ _ _ (by unfold I64; first | omega | (simp_all; omega)) (by first | exact hr | (simp_all [fitsB]; omega)) (by first | exact hr' | exact ha) (Sts_le hext.le h1)) rfl rfl rfl ?_; rintro v G' ⟨rfl, rfl⟩ _; refine Va J J ?_)
    | (refine S_call Tryz.call80 (hY _ _ _ _ (by unfold I64; first | omega | (simp_all; omega)) (by first | exact hr | (simp_all [fitsB]; omega)) (by first | exact hr' | exact ha) (Sts_le hext.le h2)) rfl rfl rfl ?_; rintro v G' ⟨rfl, rfl⟩ _; refine Va J J ?_)
    | refine S_retP Tryz.results88 J J hext ?_)
   all_goals (try clear hX hY hforms hkeys hs)
   all_goals (refine congrArg Value.bool ?_)
   all_goals (unfold iOk; rw [hfm]; dsimp only)
   all_goals (clear hext; cases body <;> cases els <;> simp_all [listOk] <;> omega)
  ·refine D_val 3 J J J J J J J J J (V_lookupN ZT_ok (z := ⟨32, [.string ByteArray.empty, .int .i64 0, .int .i64 0, .bool false, .bool false], []⟩) u_forms u_int hbm hkeys hf J J zform) ?_
   refine Da J J ?_;refine Ns 8 J J J J J J J J J ?_;refine Da J J ?_;refine DD ?_;refine Va J J ?_;refine GT J J J ?_;refine Va J J ?_;refine S_retP Tryz.results88 J J hext ?_;refine congrArg Value.bool ?_
   unfold iOk
   rw [hfm]
end
section
attribute [local irreducible] X Pure Mod
theorem c_listOkC (cs : List Value) (hlen : cs.length = 6) (deep room : Int) (r : Bool) (b4 b5 : Nat) (G : PH) (h4 : gcell G ⟨b4, 0, none⟩ = some (.int .i64 deep)) (h5 : gcell G ⟨b5, 0, none⟩ = some (.int .i64 room))
  (hst : Pure Tryz.prog 88 [.agg cs.toArray, .int .i64 deep, .int .i64 room] G fun v G' => v = .bool r ∧ G' = G) :
  Pure Tryz.prog 87 [.agg cs.toArray, .pointer (some ⟨b4, 0, none⟩), .pointer (some ⟨b5, 0, none⟩)] G fun v G' => v = .bool (!r) ∧ G' = G := by
 obtain ⟨x1, x2, x3, x4, x5, x6, rfl⟩ : ∃ x1 x2 x3 x4 x5 x6, cs = [x1, x2, x3, x4, x5, x6] := by
  match cs, hlen with
  | [x1, x2, x3, x4, x5, x6], _ => exact ⟨_, _, _, _, _, _, rfl⟩
 refine Pure.intro Tryz.func87 Tryz.ntmps87 J J fun w => ?_; refine Va J J ?_;refine S_box J J J J J fun b3 => ?_;refine Va J J ?_;refine S_load Tk J J J J J h4 ?_;refine Va J J ?_;refine S_load Tk J J J J J h5 ?_;refine Va J J ?_;refine S_call Tryz.call88 hst J J J ?_;rintro v G' ⟨rfl, rfl⟩ _
 refine Va J J ?_;exact S_retP Tryz.results87 J J XR ⟨J, J⟩
theorem notany_all {α : Type} (L : List α) (p : α → Bool) : (!L.any fun s => !p s) = L.all p := by
 induction L with
 | nil => rfl
 | cons s L ih => simp only [List.any_cons, List.all_cons, Bool.not_or, Bool.not_not, ih]
theorem IL_of (L : List Stm) (h : ∀ k (hk : k < L.length), IL L[k].body ∧ IL L[k].els) : IL L := by
 intro deep room v G hd hr hr' hv
 obtain ⟨A, c, rfl, _⟩ := id hv
 refine Pure.drop (Post := fun v _ => v = .bool (listOk L deep room)) ?_ (fun v G' h => h)
 refine Pure.intro Tryz.func80 Tryz.ntmps80 J J fun w => ?_; refine Va J J ?_;refine S_box J J J J J fun b4 => ?_;refine Va J J ?_;refine S_box J J J J J fun b5 => ?_;refine Va J J ?_;refine S_valV J J J (V_makeFunc J) ?_;refine Va J J ?_;refine S_freezeB 4 J J J J (fun _ h => h) fun hext1 => ?_;refine S_freezeB 5 J J J J (fun _ h => h) fun hext2 => ?_
 have hle := hext1.le.trans hext2.le
 refine S_call Tryz.call86 (c_ContainsStm L (fun s => !stmtOk s deep room) _ _ _ _ (Sts_le hle hv) Tryz.call87 ?_) J J J ?_
 ·intro k hk cs hs
  refine c_listOkC cs (Stm.rep_len hs) deep room _ b4 b5 _ (gcell_le hext2.le ?_) ?_ ?_
  ·simp [gcell, PH.add_self]
  ·simp [gcell, PH.add_self]
  ·obtain ⟨hb, he⟩ := h k hk
   rcases hk' : L[k] with ⟨q1, q2, q3, q4, x, y⟩
   rw [hk'] at hb he hs
   exact (c_stmtOk_of q1 q2 q3 q4 x y hb he deep room hd hr hr' cs _ hs).drop fun v G' e => by rw [e, iOk_eq _ _ _ _ _ _ _ _ hr]
 ·rintro v1 G1 ⟨rfl, rfl⟩ _
  refine Va J J ?_;refine S_retP Tryz.results80 J J (hext1.trans hext2) ?_
  rw [listOk_all, notany_all]
mutual
theorem IL_stm : ∀ (s : Stm), IL s.body ∧ IL s.els
 | .mk k a b n x y => ⟨IL_all x, IL_all y⟩
theorem IL_at : ∀ (L : List Stm) (k : Nat) (hk : k < L.length), IL L[k].body ∧ IL L[k].els
 | [], k, hk => absurd hk (by simp)
 | s :: L, 0, _ => IL_stm s
 | s :: L, k + 1, hk => IL_at L k (by simpa using hk)
theorem IL_all : ∀ (L : List Stm), IL L
 | L => IL_of L (IL_at L)
end
end
section
attribute [local irreducible] X Pure Mod
mutual
def flatS : Stm → Int → List (Stm × Int)
 | .mk k a b n x y, room => flatL x (if k = 8 then a else room) ++ flatL y (if k = 8 then a else room)
def flatL : List Stm → Int → List (Stm × Int)
 | [], _ => []
 | s :: r, room => (s, room) :: (flatS s room ++ flatL r room)
end
theorem flatL_append (L M : List Stm) (room : Int) : flatL (L ++ M) room = flatL L room ++ flatL M room := by
 induction L with
 | nil => simp [flatL]
 | cons s L ih => simp [flatL, ih]
theorem flat_take {L : List Stm} {i : Nat} (hi : i < L.length) (room : Int) : flatL (L.take (i + 1)) room = flatL (L.take i) room ++ (L[i], room) :: flatS L[i] room := by
 rw [List.take_succ_eq_append_getElem hi, flatL_append]; simp [flatL]
theorem flat_pre (L : List Stm) (i : Nat) (room : Int) : flatL (L.take i) room <+: flatL L room := ⟨flatL (L.drop i) room, by rw [← flatL_append, List.take_append_drop]⟩
def encP (G : PH) (x : Stm × Int) (vs : List Value) : Prop := ∃ cs, Stm.rep G x.1 cs ∧ vs = [Value.agg (cs ++ [Value.int .i64 x.2]).toArray]
def walkF (by_ bw : Nat) : Value := .func (.func 90) #[] #[.pointer (some ⟨by_, 0, none⟩), .pointer (some ⟨bw, 0, none⟩)]
def WalkC (L : List Stm) : Prop := ∀ (l by_ bw : Nat) (A Ax : List (Stm × Int) → HP) (xs pre : List (Stm × Int)) (room : Int) (v : Value) (G0 G : PH), G0.le G → Sts G0 L v → gcell G ⟨by_, 0, none⟩ = some (.func (.yield l) #[] #[]) → gcell G ⟨bw, 0, none⟩ = some (walkF by_ bw) →
 (∀ pre x vs, (pre ++ [x]) <+: xs → encP G0 x vs → YieldM Tryz.prog l vs G0 (A pre) (A (pre ++ [x])) (Ax (pre ++ [x]))) → (pre ++ flatL L room) <+: xs →
 Mod Tryz.prog 90 [v, .int .i64 room, .pointer (some ⟨by_, 0, none⟩), .pointer (some ⟨bw, 0, none⟩)] G (A pre) fun r G' A' => G' = G ∧ ((r = .bool true ∧ A' = A (pre ++ flatL L room)) ∨ (r = .bool false ∧ ∃ q, A' = Ax q))
theorem c_walk_of (L : List Stm) (hbs : ∀ k (hk : k < L.length), WalkC L[k].body) (hes : ∀ k (hk : k < L.length), WalkC L[k].els) : WalkC L := by
 intro l by_ bw A Ax xs pre room v G0 G hle hv hy hw hY hpre
 obtain ⟨Al, c, rfl, hn, hc1, hc2, hr⟩ := id hv
 refine Mod.intro Tryz.func90 Tryz.ntmps90 J J fun w S => ?_;refine Va J J ?_;refine S_loop (α := Nat) (fun i => i ≤ L.length) (fun i => L.length - i) []
  (fun i => [(12, .val (.int .i64 (i : Nat))), (11, .val (.int .i64 (L.length : Nat))), (10, .val (.slice Al L.length c)), (1, .val (.int .i64 room)), (2, .val (.pointer (some ⟨by_, 0, none⟩))), (3, .val (.pointer (some ⟨bw, 0, none⟩)))])
  (fun i => [.hp 1 (A (pre ++ flatL (L.take i) room))]) (fun _ => G) 0 (Nat.zero_le _) rfl ⟨⟨_, rfl, rfl⟩, ⟨_, rfl, rfl⟩, ⟨_, rfl, rfl⟩, ⟨_, rfl, rfl⟩, ⟨_, rfl, rfl⟩, ⟨_, rfl, rfl⟩, trivial⟩ (by simp only [List.take_zero, flatL, List.append_nil]; exact .hp .nil) ?_
 intro i hi
 refine Va J J ?_
 refine S_condp J (fun h5 => ?_) (fun h5 => ?_) <;> refine Va J J ?_
 ·have hil : i < L.length := by omega
  obtain ⟨ad, cs, rfl, hcs, hrep⟩ := Sr_at hv hil
  have hb := hbs i hil
  have he := hes i hil
  have htk := flat_take hil room
  have hp1 : (pre ++ flatL (L.take (i + 1)) room) <+: xs := ((List.prefix_append_right_inj pre).2 (flat_pre L (i + 1) room)).trans hpre
  rcases hs : L[i] with ⟨k, a, b, n, x, y⟩
  rw [hs] at hrep hb he htk
  rw [htk] at hp1
  obtain ⟨vx, vy, rfl, i1, i2, i3, i4, hx, hyy⟩ := Stm.rep_iff.1 hrep
  simp only [Stm.body, Stm.els] at hb he hx hyy
  have HP0 : (pre ++ flatL (L.take i) room ++ [(Stm.mk k a b n x y, room)]) <+: xs := List.IsPrefix.trans ⟨flatS (Stm.mk k a b n x y) room, by simp⟩ hp1
  have HP1 : ∀ {rr : Int}, (if k = 8 then a else room) = rr → (pre ++ flatL (L.take i) room ++ [(Stm.mk k a b n x y, room)] ++ flatL x rr) <+: xs := fun {rr} e => List.IsPrefix.trans ⟨flatL y rr, by subst e; simp [flatS]⟩ hp1
  have HP2 : ∀ {rr : Int}, (if k = 8 then a else room) = rr → (pre ++ flatL (L.take i) room ++ [(Stm.mk k a b n x y, room)] ++ flatL x rr ++ flatL y rr) <+: xs := fun {rr} e => List.IsPrefix.trans ⟨[], by subst e; simp [flatS]⟩ hp1
  have HPE : ∀ {rr : Int}, (if k = 8 then a else room) = rr → pre ++ flatL (L.take (i + 1)) room = (pre ++ flatL (L.take i) room ++ [(Stm.mk k a b n x y, room)] ++ flatL x rr ++ flatL y rr) := fun {rr} e => by subst e; rw [htk]; simp [flatS]
  obtain ⟨Ax', cx', rfl, _⟩ := id hx
  obtain ⟨Ay', cy', rfl, _⟩ := id hyy
  refine S_index Tk J J J J J J (by omega) (by omega) ?_;refine Va J J ?_;refine S_loadA Tk J J J J J (by simpa using gcells_le hle hcs) ?_;refine Va J J ?_;refine AZ ZT_ok J J J J fun b8 => ?_;refine Va J J ?_;refine S_load Tk J J J J J hy ?_;refine Va J J ?_
  refine S_yield 1 l rfl rfl ((hY _ (Stm.mk k a b n x y, room) _ HP0 ⟨_, hrep, rfl⟩).le hle) rfl rfl rfl rfl (fun _ => rfl) ?_ ?_ <;> refine Va J J ?_
  ·refine RF J J ?_
   refine Va J J ?_
   refine S_condp J (fun h8 => ?_) (fun h8 => ?_) <;> refine Va J J ?_
   ·refine S_load Tk J J J J J hw ?_
    refine Va J J ?_;refine S_callMV 1 (vs := [.slice Ax' x.length cx', .int .i64 a]) (cap := #[.pointer (some ⟨by_, 0, none⟩), .pointer (some ⟨bw, 0, none⟩)]) J Tryz.call90 (hb l by_ bw A Ax xs (pre ++ flatL (L.take i) room ++ [(Stm.mk k a b n x y, room)]) a _ G0 G hle hx hy hw hY (HP1 (if_pos h8))) J J J J (fun _ => J) ?_
    rintro v2 G2 A2 ⟨rfl, ⟨rfl, rfl⟩ | ⟨rfl, q, rfl⟩⟩ _ <;> refine Va J J ?_
    ·refine GF J J J ?_
     refine Va J J ?_;refine S_load Tk J J J J J hw ?_;refine Va J J ?_;refine S_callMV 1 (vs := [.slice Ay' y.length cy', .int .i64 a]) (cap := #[.pointer (some ⟨by_, 0, none⟩), .pointer (some ⟨bw, 0, none⟩)]) J Tryz.call90 (he l by_ bw A Ax xs (pre ++ flatL (L.take i) room ++ [(Stm.mk k a b n x y, room)] ++ flatL x a) a _ G0 _ hle hyy hy hw hY (HP2 (if_pos h8))) J J J J (fun _ => J) ?_
     rintro v3 G3 A3 ⟨rfl, ⟨rfl, rfl⟩ | ⟨rfl, q, rfl⟩⟩ _ <;> refine Va J J ?_
     ·refine RF J J ?_
      refine Va J J ?_;refine S_add J J J J (by omega) ?_;refine Va J J ?_;refine S_again (i + 1) (by omega) (by omega) J ⟨⟨_, J, by simp [denO]⟩, ⟨_, J, J⟩, ⟨_, J, J⟩, ⟨_, J, J⟩, ⟨_, J, J⟩, ⟨_, J, J⟩, trivial⟩ ?_
      rw [HPE (if_pos h8)]
      exact .drop (.hp .nil)
     ·refine RT J J ?_
      refine Va J J ?_;exact S_retm 1 (Res.t1 Tryz.results90 J J) J XR ⟨J, .inr ⟨J, _, J⟩⟩
    ·refine GT J J J ?_
     refine Va J J ?_;exact S_retm 1 (Res.t1 Tryz.results90 J J) J XR ⟨J, .inr ⟨J, _, J⟩⟩
   ·refine S_load Tk J J J J J hw ?_
    refine Va J J ?_;refine S_callMV 1 (vs := [.slice Ax' x.length cx', .int .i64 room]) (cap := #[.pointer (some ⟨by_, 0, none⟩), .pointer (some ⟨bw, 0, none⟩)]) J Tryz.call90 (hb l by_ bw A Ax xs (pre ++ flatL (L.take i) room ++ [(Stm.mk k a b n x y, room)]) room _ G0 G hle hx hy hw hY (HP1 (if_neg h8))) J J J J (fun _ => J) ?_
    rintro v2 G2 A2 ⟨rfl, ⟨rfl, rfl⟩ | ⟨rfl, q, rfl⟩⟩ _ <;> refine Va J J ?_
    ·refine GF J J J ?_
     refine Va J J ?_;refine S_load Tk J J J J J hw ?_;refine Va J J ?_;refine S_callMV 1 (vs := [.slice Ay' y.length cy', .int .i64 room]) (cap := #[.pointer (some ⟨by_, 0, none⟩), .pointer (some ⟨bw, 0, none⟩)]) J Tryz.call90 (he l by_ bw A Ax xs (pre ++ flatL (L.take i) room ++ [(Stm.mk k a b n x y, room)] ++ flatL x room) room _ G0 _ hle hyy hy hw hY (HP2 (if_neg h8))) J J J J (fun _ => J) ?_
     rintro v3 G3 A3 ⟨rfl, ⟨rfl, rfl⟩ | ⟨rfl, q, rfl⟩⟩ _ <;> refine Va J J ?_
     ·refine RF J J ?_
      refine Va J J ?_;refine S_add J J J J (by omega) ?_;refine Va J J ?_;refine S_again (i + 1) (by omega) (by omega) J ⟨⟨_, J, by simp [denO]⟩, ⟨_, J, J⟩, ⟨_, J, J⟩, ⟨_, J, J⟩, ⟨_, J, J⟩, ⟨_, J, J⟩, trivial⟩ ?_
      rw [HPE (if_neg h8)]
      exact .drop (.hp .nil)
     ·refine RT J J ?_
      refine Va J J ?_;exact S_retm 1 (Res.t1 Tryz.results90 J J) J XR ⟨J, .inr ⟨J, _, J⟩⟩
    ·refine GT J J J ?_
     refine Va J J ?_;exact S_retm 1 (Res.t1 Tryz.results90 J J) J XR ⟨J, .inr ⟨J, _, J⟩⟩
  ·refine RT J J ?_
   refine Va J J ?_;exact S_retm 1 (Res.t1 Tryz.results90 J J) J XR ⟨J, .inr ⟨J, _, J⟩⟩
 ·have hin : i = L.length := by omega
  subst hin
  rw [List.take_length]
  exact S_retm 1 (Res.t1 Tryz.results90 J J) J XR ⟨J, .inl ⟨J, J⟩⟩
mutual
theorem c_walkS : ∀ (s : Stm), WalkC s.body ∧ WalkC s.els
 | .mk k a b n x y => ⟨c_walk x, c_walk y⟩
theorem c_walkA : ∀ (L : List Stm), ∀ k (hk : k < L.length), WalkC L[k].body ∧ WalkC L[k].els
 | [], k, hk => absurd hk (by simp)
 | s :: L, 0, _ => c_walkS s
 | s :: L, k + 1, hk => c_walkA L k (by simpa using hk)
theorem c_walk : ∀ (L : List Stm), WalkC L
 | L => c_walk_of L (fun k hk => (c_walkA L k hk).1) (fun k hk => (c_walkA L k hk).2)
end
end
section
attribute [local irreducible] X Pure Mod
theorem c_all1 (L : List Stm) (room : Int) (v : Value) (b1 b2 : Nat) (G : PH) (hv : Sts G L v) (h1 : gcell G ⟨b1, 0, none⟩ = some v) (h2 : gcell G ⟨b2, 0, none⟩ = some (.int .i64 room)) :
  IterR Tryz.prog 89 #[.pointer (some ⟨b1, 0, none⟩), .pointer (some ⟨b2, 0, none⟩)] G (encP G) (flatL L room) := by
 refine IterR_of fun l A Ax hY => ?_;obtain ⟨Al, c, rfl, _⟩ := id hv
 refine Mod.intro Tryz.func89 Tryz.ntmps89 J J fun w S => ?_;refine Va J J ?_;refine S_boxB J J J J J fun b3 hb3 => ?_;refine Va J J ?_;refine S_allocB ZT_ok J J J J fun b4 hb4 => ?_;refine Va J J ?_;refine S_valV J J J (V_makeFunc J) ?_;refine Va J J ?_;refine S_keepB 3 J J J J hb3 fun hext1 => ?_;refine S_keepB 4 J J J J hb4 fun hext2 => ?_
 have hle := hext1.le.trans hext2.le
 refine S_load Tk J J J J J (gcell_le hle h1) ?_;refine Va J J ?_;refine S_load Tk J J J J J (gcell_le hle h2) ?_;refine Va J J ?_;refine S_callMV 1 (vs := [.slice Al L.length c, .int .i64 room]) (cap := #[.pointer (some ⟨b3, 0, none⟩), .pointer (some ⟨b4, 0, none⟩)]) J Tryz.call90 (c_walk L l b3 b4 A Ax (flatL L room) [] room _ G _ hle hv (gcell_le hext2.le (by simp [gcell, PH.add_self])) (by simp [gcell, PH.add_self, walkF]) hY (List.prefix_refl _)) J J J J (fun _ => J) ?_
 rintro v2 G2 A2 ⟨rfl, h⟩ hext3
 refine Va J J ?_;refine S_endm 1 (Res.t0 Tryz.results89) J ((hext1.trans hext2).trans hext3) ?_
 rcases h with ⟨_, rfl⟩ | ⟨_, q, rfl⟩
 ·exact .inl (by simp)
 ·exact .inr ⟨q, J⟩
theorem c_all (L : List Stm) (room : Int) (v : Value) (G : PH) (hv : Sts G L v) : Pure Tryz.prog 81 [v, .int .i64 room] G fun v' G' => ∃ b2 b3, v' = .func (.func 89) #[] #[.pointer (some ⟨b2, 0, none⟩), .pointer (some ⟨b3, 0, none⟩)] ∧ gcell G' ⟨b2, 0, none⟩ = some v ∧ gcell G' ⟨b3, 0, none⟩ = some (.int .i64 room) := by
 obtain ⟨Al, c, rfl, _⟩ := id hv
 refine Pure.intro Tryz.func81 Tryz.ntmps81 J J fun w => ?_; refine Va J J ?_;refine S_box J J J J J fun b2 => ?_;refine Va J J ?_;refine S_box J J J J J fun b3 => ?_;refine Va J J ?_;refine S_valV J J J (V_makeFunc J) ?_;refine Va J J ?_;refine S_freezeB 2 J J J J (fun _ h => h) fun hext1 => ?_;refine S_freezeB 3 J J J J (fun _ h => h) fun hext2 => ?_;refine S_retp (Res.t1 Tryz.results81 J J) (hext1.trans hext2) ⟨b2, b3, J, gcell_le hext2.le (by simp [gcell, PH.add_self]), by simp [gcell, PH.add_self]⟩
theorem flat_len : ∀ (n : Nat) (L : List Stm) (room : Int), dpL L ≤ n → ((flatL L room).length : Int) = many L (n : Nat)
 | n, [], room, _ => by simp [flatL, many]
 | 0, s :: L, room, h => by
  have := dpS_eq s
  simp only [dpL] at h
  omega
 | n + 1, s :: L, room, h => by
  simp only [dpL] at h
  have a3 := flat_len (n + 1) L room (by omega)
  obtain ⟨k, a, b, m, x, y⟩ := s
  simp only [dpS] at h
  have a1 := flat_len n x (if k = 8 then a else room) (by omega)
  have a2 := flat_len n y (if k = 8 then a else room) (by omega)
  simp only [flatL, flatS, List.length_cons, List.length_append, many, manyS, if_pos (show (0 : Int) < ((n + 1 : Nat) : Int) by omega), show (((n + 1 : Nat) : Int) - 1) = (n : Nat) by omega]
  omega
theorem c_iStmtsOk (L : List Stm) (v : Value) (G : PH) (hv : Sts G L v) (hs : Sh L) : Pure Tryz.prog 73 [v] G fun v G' => v = .bool (stmtsOk L) ∧ G' = G := by
 obtain ⟨Al, c, rfl, _⟩ := id hv
 refine Pure.introM Tryz.func73 Tryz.ntmps73 J J fun w hw => ?_;refine Va J J ?_;refine S_call Tryz.call80 (IL_all L 3 (-1) _ _ (by unfold I64; omega) (by omega) (by unfold I64; omega) hv) rfl rfl rfl ?_;rintro v1 G1 ⟨rfl, rfl⟩ _
 refine Va J J ?_
 cases hl : listOk L 3 (-1)
 ·refine RT J J ?_
  refine Va J J ?_;exact S_retK hw Tryz.results73 J J (by simp [stmtsOk, hl])
 refine RF J J ?_;refine Va J J ?_;refine AZ ZT_ok J J J J fun b3 => ?_;refine Va J J ?_;refine S_call Tryz.call81 (c_all L (-1) _ _ hv) J J J ?_;rintro v2 G2 ⟨b5, b6, rfl, h5, h6⟩ hext2
 refine Va J J ?_
 have hd : dpL L ≤ 3 := dpL_ok 3 L 3 (-1) hl (by omega)
 have hf := flat_len 3 L (-1) hd
 have hm := many_bnd 3 L hs
 have hB := MB3
 rw [show ((3 : Nat) : Int) = 3 from rfl] at hf hm
 refine S_range (fun pre => [.blk 3 3 (vL [.int .i64 (pre.length : Nat)])]) (fun pre => [.hp 3 deadHP]) rfl rfl rfl Tryz.call89 (c_all1 L (-1) _ b5 b6 G2 (Sts_le hext2.le hv) h5 h6) (fun x vs h => by obtain ⟨cs, _, rfl⟩ := h; rfl) rfl (.blk rfl rfl .nil) ?_ ?_ ?_
 ·intro l pre x vs W S I hpre henc hW hI
  obtain ⟨cs, _, rfl⟩ := henc
  have hlen : pre.length + 1 ≤ (flatL L (-1)).length := by have := hpre.length_le; simpa using this
  refine Va J J ?_;refine hI _ _ _ fun W2 S2 hW2 => ?_;refine Va J J ?_;refine S_add J J J J (by omega) ?_;refine Va J J ?_;refine S_roundEnd ?_
  simp only [List.length_append, List.length_singleton]
  exact .blk J J .nil
 ·intro D hD hDs
  refine Va J J ?_;refine S_retK hw Tryz.results73 J J ?_
  have e : w64 ((flatL L (-1)).length : Int) = (flatL L (-1)).length := w64_eq ⟨by omega, by omega⟩
  simp [stmtsOk, hl, ← hf, e]
 ·intro D pre hD hDs
  exact S_dead 3 J
theorem c_iProgOkC (L : List Stm) (v : Value) (G : PH) (hv : Sts G L v) (hs : Sh L) : Pure Tryz.prog 72 [v] G fun v G' => v = .bool (!stmtsOk L) ∧ G' = G := by
 obtain ⟨Al, c, rfl, _⟩ := id hv
 refine Pure.intro Tryz.func72 Tryz.ntmps72 J J fun w => ?_; refine Va J J ?_;refine S_call Tryz.call73 (c_iStmtsOk L _ _ hv hs) J J J ?_;rintro v1 G1 ⟨rfl, rfl⟩ _
 refine Va J J ?_;exact S_retp (Res.t1 Tryz.results72 J J) XR ⟨J, J⟩
theorem c_iProgOk (p : List (List Stm)) (v : Value) (G : PH) (hp : PrgS G p v) : Pure Tryz.prog 50 [v] G fun v G' => v = .bool (progOk p) ∧ G' = G := by
 obtain ⟨hpp, hsh, hpl⟩ := id hp
 obtain ⟨A, c, rfl, hl1, _⟩ := id hpp
 refine Pure.intro Tryz.func50 Tryz.ntmps50 J J fun w => ?_; refine Va J J ?_
 by_cases h1 : 1 ≤ p.length ∧ p.length ≤ 3
 ·refine GT J J (by simp; omega) ?_
  refine Va J J ?_;refine S_call Tryz.call71 (c_ContainsSts p (fun l => !stmtsOk l) 72 #[] _ _ hpp Tryz.call72 fun k hk v hv => c_iProgOkC _ _ _ hv (hsh _ (List.getElem_mem hk))) J J J ?_;rintro v1 G1 ⟨rfl, rfl⟩ _
  refine Va J J ?_;refine S_retp (Res.t1 Tryz.results50 J J) XR ⟨?_, J⟩
  rw [notany_all]
  simp [progOk, h1]
 ·refine GF J J (by simp; omega) ?_
  refine Va J J ?_;refine S_retp (Res.t1 Tryz.results50 J J) XR ⟨?_, J⟩
  have : progOk p = false := by
   cases hq : progOk p with
   | false => rfl
   | true => exact absurd (prog_parts hq).2 h1
  rw [this]
end
end Go.Proofs.YtcbdilccmjpnbaaGreat
