/- Walks of the program's functions, one after the other (part 6); without conditions of their own. -/
import Derived.Test.YtcbdilccmjpnbaaGreatWM3
import Derived.Test.YtcbdilccmjpnbaaGreatWM4
import Derived.Test.YtcbdilccmjpnbaaGreatWM2
set_option linter.unusedVariables false
set_option linter.unusedSimpArgs false
set_option maxRecDepth 100000
set_option maxHeartbeats 4000000
open Go.RowKit
namespace Go.Proofs.YtcbdilccmjpnbaaGreat
section
attribute [local irreducible] X Pure Mod
def cutN (n : Int) : Int := if 999 < n then 999 else if n < -999 then -999 else n
def b2i (b : Bool) : Int := if b then 1 else 0
def doOp (op a b : Int) : Int :=
 if op = 1 then cutN (a + b) else if op = 2 then cutN (a - b) else if op = 3 then cutN (a * b) else if op = 4 then b2i (decide (a < b)) else if op = 5 then b2i (decide (a = b)) else 0
def numDo (op a b : Int) : Int × Bool := if numOk a && numOk b && opOk op then (doOp op a b, true) else (0, false)
theorem c_NumCut (n : Int) (G : PH) : Pure Tryz.prog 84 [.int .i64 n] G fun v G' => v = .int .i64 (cutN n) ∧ G' = G := by
 refine Pure.intro Tryz.func84 Tryz.ntmps84 J J fun w => ?_; refine Va J J ?_
 repeat' (first
  | (refine S_condp J (fun h => ?_) (fun h => ?_) <;> refine Va J J ?_) | (refine S_cond J (fun h => ?_) (fun h => ?_) <;> refine Va J J ?_) | (refine S_box J J J J J fun b => ?_; refine Va J J ?_) | (refine AZ ZT_ok J J J J fun b => ?_; refine Va J J ?_) | (refine S_guardp J J (fun h => ?_) (fun h => ?_) <;> refine Va J J ?_) | (refine S_guard J J (fun h => ?_) (fun h => ?_) <;> refine Va J J ?_)
  | (refine S_retP Tryz.results84 J J XR ⟨?_, J⟩))
 all_goals (congr 1; simp only [cutN]; repeat' split)
 all_goals omega
theorem c_l1If (b : Bool) (G : PH) : Pure Tryz.prog 85 [.bool b] G fun v G' => v = .int .i64 (b2i b) ∧ G' = G := by
 refine Pure.intro Tryz.func85 Tryz.ntmps85 J J fun w => ?_; refine Va J J ?_
 refine S_cond J (fun h => ?_) (fun h => ?_) <;> refine Va J J ?_ <;> (refine S_retP Tryz.results85 J J XR ⟨?_, J⟩) <;> simp [b2i, h]
theorem numOk_iff {n : Int} : numOk n = true ↔ -999 ≤ n ∧ n ≤ 999 := by simp [numOk]
theorem mul_bnd {a b : Int} (ha : -999 ≤ a ∧ a ≤ 999) (hb : -999 ≤ b ∧ b ≤ 999) : -998001 ≤ a * b ∧ a * b ≤ 998001 := by
 have h1 : a.natAbs ≤ 999 := by omega
 have h2 : b.natAbs ≤ 999 := by omega
 have h3 : (a * b).natAbs ≤ 998001 := by rw [Int.natAbs_mul]; exact Nat.le_trans (Nat.mul_le_mul h1 h2) (by decide)
 omega
theorem c_NumDo (op a b : Int) (G : PH) : Pure Tryz.prog 78 [.int .i64 op, .int .i64 a, .int .i64 b] G fun v G' => v = .tuple #[.int .i64 (numDo op a b).1, .bool (numDo op a b).2] ∧ G' = G := by
 refine Pure.intro Tryz.func78 Tryz.ntmps78 J J fun w => ?_; refine Va J J ?_;refine S_call Tryz.call83 (c_NumOk _ _) J J J ?_;rintro v G' ⟨rfl, rfl⟩ _
 refine Va J J ?_
 by_cases ha : numOk a = true
 rotate_left
 ·refine GT J J (by simp [ha]) ?_
  refine Va J J ?_;exact S_retp (Res.t2 Tryz.results78 J J J J) XR ⟨by simp [numDo, ha], J⟩
 refine GF J J (by simp [ha]) ?_;refine Va J J ?_;refine S_call Tryz.call83 (c_NumOk _ _) J J J ?_;rintro v G' ⟨rfl, rfl⟩ _
 refine Va J J ?_
 by_cases hb : numOk b = true
 rotate_left
 ·refine RT J (by simp [hb]) ?_
  refine Va J J ?_;exact S_retp (Res.t2 Tryz.results78 J J J J) XR ⟨by simp [numDo, hb], J⟩
 refine RF J (by simp [hb]) ?_;refine Va J J ?_
 have qa := numOk_iff.1 ha
 have qb := numOk_iff.1 hb
 have qm := mul_bnd qa qb
 repeat' (first
  | (refine S_condp J (fun h => ?_) (fun h => ?_) <;> refine Va J J ?_)
  | (refine S_add J J J J (by omega) ?_; refine Va J J ?_)
  | (refine S_subI J J J J (by omega) ?_; refine Va J J ?_)
  | (refine S_mul J J J J (by omega) ?_; refine Va J J ?_)
  | (refine S_call Tryz.call84 (c_NumCut _ _) J J J ?_; rintro v G' ⟨rfl, rfl⟩ _; refine Va J J ?_)
  | (refine S_call Tryz.call85 (c_l1If _ _) J J J ?_; rintro v G' ⟨rfl, rfl⟩ _; refine Va J J ?_)
  | exact S_retp (Res.t2 Tryz.results78 J J J J) XR ⟨by first | (simp_all [numDo, doOp, opOk]; done) | (rw [numDo, if_neg (by simp [opOk]; omega)]), rfl⟩)
theorem c_truth (b : Bool) (G : PH) : Pure Tryz.prog 124 [.bool b] G fun v G' => v = .int .i64 (b2i b) ∧ G' = G := by
 refine Pure.intro Tryz.func124 Tryz.ntmps124 J J fun w => ?_; refine Va J J ?_
 refine S_cond J (fun h => ?_) (fun h => ?_) <;> refine Va J J ?_ <;> (refine S_retP Tryz.results124 J J XR ⟨?_, J⟩) <;> simp [b2i, h]
theorem c_iNumCut (n : Int) (G : PH) : Pure Tryz.prog 123 [.int .i64 n] G fun v G' => v = .int .i64 (cutN n) ∧ G' = G := by
 refine Pure.intro Tryz.func123 Tryz.ntmps123 J J fun w => ?_; refine Va J J ?_;refine S_valV J J J (V_min J J) ?_;refine S_valV J J J (V_max J J) ?_;refine Va J J ?_;refine S_retp (Res.t1 Tryz.results123 J J) XR ⟨?_, J⟩
 congr 1
 unfold cutN
 repeat' split
 all_goals omega
theorem c_nadd (a b : Int) (G : PH) (h : -1998 ≤ a + b ∧ a + b ≤ 1998) : Pure Tryz.prog 118 [.int .i64 a, .int .i64 b] G fun v G' => v = .int .i64 (a + b) ∧ G' = G := by
 refine Pure.intro Tryz.func118 Tryz.ntmps118 J J fun w => ?_; refine Va J J ?_;refine S_add J J J J (by omega) ?_;refine Va J J ?_;exact S_retp (Res.t1 Tryz.results118 J J) XR ⟨J, J⟩
theorem c_nsub (a b : Int) (G : PH) (h : -1998 ≤ a - b ∧ a - b ≤ 1998) : Pure Tryz.prog 119 [.int .i64 a, .int .i64 b] G fun v G' => v = .int .i64 (a - b) ∧ G' = G := by
 refine Pure.intro Tryz.func119 Tryz.ntmps119 J J fun w => ?_; refine Va J J ?_;refine S_subI J J J J (by omega) ?_;refine Va J J ?_;exact S_retp (Res.t1 Tryz.results119 J J) XR ⟨J, J⟩
theorem c_nmul (a b : Int) (G : PH) (h : -998001 ≤ a * b ∧ a * b ≤ 998001) : Pure Tryz.prog 120 [.int .i64 a, .int .i64 b] G fun v G' => v = .int .i64 (a * b) ∧ G' = G := by
 refine Pure.intro Tryz.func120 Tryz.ntmps120 J J fun w => ?_; refine Va J J ?_;refine S_mul J J J J (by omega) ?_;refine Va J J ?_;exact S_retp (Res.t1 Tryz.results120 J J) XR ⟨J, J⟩
theorem c_nless (a b : Int) (G : PH) : Pure Tryz.prog 121 [.int .i64 a, .int .i64 b] G fun v G' => v = .int .i64 (b2i (decide (a < b))) ∧ G' = G := by
 refine Pure.intro Tryz.func121 Tryz.ntmps121 J J fun w => ?_; refine Va J J ?_
 (refine S_call Tryz.call124 (c_truth _ _) J J J ?_; rintro v G' ⟨rfl, rfl⟩ _; refine Va J J ?_)
 exact S_retp (Res.t1 Tryz.results121 J J) XR ⟨J, J⟩
theorem c_nsame (a b : Int) (G : PH) : Pure Tryz.prog 122 [.int .i64 a, .int .i64 b] G fun v G' => v = .int .i64 (b2i (decide (a = b))) ∧ G' = G := by
 refine Pure.intro Tryz.func122 Tryz.ntmps122 J J fun w => ?_; refine Va J J ?_
 (refine S_call Tryz.call124 (c_truth _ _) J J J ?_; rintro v G' ⟨rfl, rfl⟩ _; refine Va J J ?_)
 exact S_retp (Res.t1 Tryz.results122 J J) XR ⟨J, J⟩
theorem cutN_b2i (b : Bool) : cutN (b2i b) = b2i b := by cases b <;> rfl
theorem built_table : Tryz.prog.built 165 [(1, .func (.func 118) #[] #[]), (2, .func (.func 119) #[] #[]), (3, .func (.func 120) #[] #[]), (4, .func (.func 121) #[] #[]), (5, .func (.func 122) #[] #[])] =
  some #[.nilFunc, .func (.func 118) #[] #[], .func (.func 119) #[] #[], .func (.func 120) #[] #[], .func (.func 121) #[] #[], .func (.func 122) #[] #[]] := by kernel_rfl
theorem c_iNumDo (op a b : Int) (G : PH) : Pure Tryz.prog 117 [.int .i64 op, .int .i64 a, .int .i64 b] G fun v G' => v = .tuple #[.int .i64 (numDo op a b).1, .bool (numDo op a b).2] ∧ G' = G := by
 refine Pure.intro Tryz.func117 Tryz.ntmps117 J J fun w => ?_; refine Va J J ?_;refine S_valV (v := .agg #[.nilFunc, .func (.func 118) #[] #[], .func (.func 119) #[] #[], .func (.func 120) #[] #[], .func (.func 121) #[] #[], .func (.func 122) #[] #[]]) J J J (V_builtC J built_table) ?_;refine AZ ZT_ok J J J J fun b5 => ?_;refine Va J J ?_
 (refine S_call Tryz.call96 (c_isOp _ _) J J J ?_; rintro v G' ⟨rfl, rfl⟩ _; refine Va J J ?_)
 by_cases ho : opOk op = true
 rotate_left
 ·refine GT J J (by simp [ho]) ?_
  refine Va J J ?_;exact S_retp (Res.t2 Tryz.results117 J J J J) XR ⟨by simp [numDo, ho], J⟩
 refine GF J J (by simp [ho]) ?_;refine Va J J ?_
 (refine S_call Tryz.call95 (c_iNumOk _ _) J J J ?_; rintro v G' ⟨rfl, rfl⟩ _; refine Va J J ?_)
 by_cases ha : numOk a = true
 rotate_left
 ·refine GT J J (by simp [ho, ha]) ?_
  refine Va J J ?_;exact S_retp (Res.t2 Tryz.results117 J J J J) XR ⟨by simp [numDo, ha], J⟩
 refine GF J J (by simp [ho, ha]) ?_;refine Va J J ?_
 (refine S_call Tryz.call95 (c_iNumOk _ _) J J J ?_; rintro v G' ⟨rfl, rfl⟩ _; refine Va J J ?_)
 by_cases hb : numOk b = true
 rotate_left
 ·refine RT J (by simp [ho, ha, hb]) ?_
  refine Va J J ?_;exact S_retp (Res.t2 Tryz.results117 J J J J) XR ⟨by simp [numDo, hb], J⟩
 refine RF J (by simp [ho, ha, hb]) ?_
 have qa := numOk_iff.1 ha
 have qb := numOk_iff.1 hb
 have qm := mul_bnd qa qb
 have qo : op = 1 ∨ op = 2 ∨ op = 3 ∨ op = 4 ∨ op = 5 := by simp [opOk] at ho; omega
 rcases qo with rfl | rfl | rfl | rfl | rfl
 ·refine Va J J ?_
  refine S_callV (vs := [.int .i64 a, .int .i64 b]) (cap := #[]) J Tryz.call118 (c_nadd a b _ (by omega)) J J J ?_;rintro v G' ⟨rfl, rfl⟩ _
  (refine S_call Tryz.call123 (c_iNumCut _ _) J J J ?_; rintro v G' ⟨rfl, rfl⟩ _; refine Va J J ?_)
  exact S_retp (Res.t2 Tryz.results117 J J J J) XR ⟨by simp [numDo, ha, hb, ho, doOp], J⟩
 ·refine Va J J ?_
  refine S_callV (vs := [.int .i64 a, .int .i64 b]) (cap := #[]) J Tryz.call119 (c_nsub a b _ (by omega)) J J J ?_;rintro v G' ⟨rfl, rfl⟩ _
  (refine S_call Tryz.call123 (c_iNumCut _ _) J J J ?_; rintro v G' ⟨rfl, rfl⟩ _; refine Va J J ?_)
  exact S_retp (Res.t2 Tryz.results117 J J J J) XR ⟨by simp [numDo, ha, hb, ho, doOp], J⟩
 ·refine Va J J ?_
  refine S_callV (vs := [.int .i64 a, .int .i64 b]) (cap := #[]) J Tryz.call120 (c_nmul a b _ (by omega)) J J J ?_;rintro v G' ⟨rfl, rfl⟩ _
  (refine S_call Tryz.call123 (c_iNumCut _ _) J J J ?_; rintro v G' ⟨rfl, rfl⟩ _; refine Va J J ?_)
  exact S_retp (Res.t2 Tryz.results117 J J J J) XR ⟨by simp [numDo, ha, hb, ho, doOp], J⟩
 ·refine Va J J ?_
  refine S_callV (vs := [.int .i64 a, .int .i64 b]) (cap := #[]) J Tryz.call121 (c_nless a b _) J J J ?_;rintro v G' ⟨rfl, rfl⟩ _
  (refine S_call Tryz.call123 (c_iNumCut _ _) J J J ?_; rintro v G' ⟨rfl, rfl⟩ _; refine Va J J ?_)
  exact S_retp (Res.t2 Tryz.results117 J J J J) XR ⟨by simp [numDo, ha, hb, ho, doOp, cutN_b2i], J⟩
 ·refine Va J J ?_
  refine S_callV (vs := [.int .i64 a, .int .i64 b]) (cap := #[]) J Tryz.call122 (c_nsame a b _) J J J ?_;rintro v G' ⟨rfl, rfl⟩ _
  (refine S_call Tryz.call123 (c_iNumCut _ _) J J J ?_; rintro v G' ⟨rfl, rfl⟩ _; refine Va J J ?_)
  exact S_retp (Res.t2 Tryz.results117 J J J J) XR ⟨by simp [numDo, ha, hb, ho, doOp, cutN_b2i], J⟩
end
section
attribute [local irreducible] X Pure Mod
def deedV (k a b n : Int) (vx vy : Value) : Value :=
 if k = 1 then .iface 110 (.agg #[.int .i64 a, .int .i64 n])
 else if k = 2 then .iface 112 (.agg #[.int .i64 a, .int .i64 b, .int .i64 n])
 else if k = 3 then .iface 114 (.agg #[.int .i64 a, .int .i64 b])
 else if k = 4 then .iface 116 (.agg #[.int .i64 a, .int .i64 b])
 else if k = 5 then .iface 118 (.agg #[.int .i64 a])
 else if k = 6 then .iface 120 (.agg #[.int .i64 k, .int .i64 a, .int .i64 b, .int .i64 n, vx, vy])
 else if k = 7 then .iface 121 (.agg #[.int .i64 k, .int .i64 a, .int .i64 b, .int .i64 n, vx, vy])
 else if k = 8 then .iface 122 (.agg #[.int .i64 k, .int .i64 a, .int .i64 b, .int .i64 n, vx, vy])
 else if k = 9 then .iface 124 (.agg #[.int .i64 a])
 else if k = 10 then .iface 125 (.agg #[.int .i64 a])
 else if k = 12 then .iface 127 (.agg #[.int .i64 a])
 else .iface 129 (.agg #[])
theorem c_deedOf (k a b n : Int) (A1 : Option Addr) (n1 c1 : Nat) (A2 : Option Addr) (n2 c2 : Nat) (G : PH) : Pure Tryz.prog 74 [.agg #[.int .i64 k, .int .i64 a, .int .i64 b, .int .i64 n, .slice A1 n1 c1, .slice A2 n2 c2]] G fun v G' => v = deedV k a b n (.slice A1 n1 c1) (.slice A2 n2 c2) ∧ G' = G := by
 refine Pure.intro Tryz.func74 Tryz.ntmps74 J J fun w => ?_; refine Va J J ?_
 repeat' (first
  | (refine S_condp J (fun h => ?_) (fun h => ?_) <;> refine Va J J ?_) | (refine S_cond J (fun h => ?_) (fun h => ?_) <;> refine Va J J ?_) | (refine S_box J J J J J fun b => ?_; refine Va J J ?_) | (refine AZ ZT_ok J J J J fun b => ?_; refine Va J J ?_) | (refine S_guardp J J (fun h => ?_) (fun h => ?_) <;> refine Va J J ?_) | (refine S_guard J J (fun h => ?_) (fun h => ?_) <;> refine Va J J ?_)
  | exact S_retp (Res.t1 Tryz.results74 J J) XR ⟨by simp_all [deedV], J⟩
  | (refine S_valV J J J (V_build0 (by kernel_rfl)) ?_; refine S_valV J J J (V_iface (by kernel_rfl) J J) ?_; refine Va J J ?_))
end
section
attribute [local irreducible] X Pure Mod
def Wld.reg (W : Wld) (who : Nat) (k : Int) : Int := match W.procs[who]? with
 | some p => p.get k
 | none => 0
theorem c_dSay (W : Wld) (who : Nat) (b : Nat) (ts : List Value) (G : PH) (h1 : 1 ≤ W.procs.length) (h3 : W.procs.length ≤ 3) (ht : Tds G W.procs ts) (hw : who < W.procs.length) (hsd : W.said.length ≤ 1000000) (a : Int) (ha : a = 0 ∨ a = 1 ∨ a = 2) :
  Mod Tryz.prog 127 [.agg #[.int .i64 a], .pointer (some ⟨b, 0, none⟩), .int .i64 (who : Nat)] G (worldP b W ts) fun v G' A' => G' = G ∧ A' = worldP b { W with said := W.said ++ [((who : Int), W.reg who a)] } ts := by
 refine Mod.intro Tryz.func127 Tryz.ntmps127 J J fun w S => ?_;refine Va J J ?_;refine S_box J J J J J fun b3 => ?_
 replace hsd : W.said.length ≤ 1000000 := hsd
 obtain ⟨ps, x0, x1, x2, m0, m1, q0, q1, sd⟩ := W
 rcases shape h1 h3 ht with ⟨⟨a0, a1, a2, td0, mo0, on0, ro0⟩, A0, k0, rfl, rfl, s0⟩ | ⟨⟨a0, a1, a2, td0, mo0, on0, ro0⟩, A0, k0, ⟨b0, b1, b2, td1, mo1, on1, ro1⟩, A1, k1, rfl, rfl, s0, s1⟩ | ⟨⟨a0, a1, a2, td0, mo0, on0, ro0⟩, A0, k0, ⟨b0, b1, b2, td1, mo1, on1, ro1⟩, A1, k1, ⟨d0, d1, d2, td2, mo2, on2, ro2⟩, A2, k2, rfl, rfl, s0, s1, s2⟩
 ·obtain rfl : who = 0 := by simpa using hw
  replace hsd : sd.length ≤ 1000000 := hsd
  refine OpP 1 1 J J J J fun bp bc br bs bg kp sp asd ksd aq0 kq0 aq1 kq1 kc spc kr spr ks sps kg spg hbg hmk => ?_; obtain ⟨g0, rfl⟩ := len1 hbg; clear hbg; refine NM J J ?_; dsimp only [wEnts, wCels, procCs, regEs, WX.of, vi]
  refine Va J J ?_
  rcases ha with rfl | rfl | rfl <;>
  ·refine Ds J J J ?_
   refine Da J J ?_;refine Nt 19 J J J J J J fun back => ?_;refine S_slice Tk ZT_ok J J J J (by decide) (by decide) J J J J fun b25 => ?_;refine back _ _ _ _ (by kernel_rfl) ?_; clear back
   refine Da J J ?_;refine Nt 20 J J J J J J fun back => ?_;refine S_appSaid Tk 1004 25 J J J J J J J J J J J J J (fun _ _ => J) hsd fun A' c' => ?_;refine back _ _ _ _ (by kernel_rfl) ?_; clear back
   refine Da J J ?_;refine Ns 23 J J J J J J J J J ?_;refine DD ?_;refine Va J J ?_;exact EK (1007 :: wKeys 1) (Res.t0 Tryz.results127) ⟨J, J⟩ (Wpp [_] kg spg J ‹_› J J J J J J J J) J (.blk J J (Wsub 5 J J J J J J J J J J J J J J J J (Bs 3 J J J J .nil))) XR
 ·rcases (by simp at hw; omega : who = 0 ∨ who = 1) with rfl | rfl
  ·replace hsd : sd.length ≤ 1000000 := hsd
   refine OpP 1 1 J J J J fun bp bc br bs bg kp sp asd ksd aq0 kq0 aq1 kq1 kc spc kr spr ks sps kg spg hbg hmk => ?_; obtain ⟨g0, g1, rfl⟩ := len2 hbg; clear hbg; refine NM J J ?_; dsimp only [wEnts, wCels, procCs, regEs, WX.of, vi]
   refine Va J J ?_
   rcases ha with rfl | rfl | rfl <;>
   ·refine Ds J J J ?_
    refine Da J J ?_;refine Nt 19 J J J J J J fun back => ?_;refine S_slice Tk ZT_ok J J J J (by decide) (by decide) J J J J fun b25 => ?_;refine back _ _ _ _ (by kernel_rfl) ?_; clear back
    refine Da J J ?_;refine Nt 20 J J J J J J fun back => ?_;refine S_appSaid Tk 1004 25 J J J J J J J J J J J J J (fun _ _ => J) hsd fun A' c' => ?_;refine back _ _ _ _ (by kernel_rfl) ?_; clear back
    refine Da J J ?_;refine Ns 23 J J J J J J J J J ?_;refine DD ?_;refine Va J J ?_;exact EK (1007 :: wKeys 2) (Res.t0 Tryz.results127) ⟨J, J⟩ (Wpp [_, _] kg spg J ‹_› J J J J J J J J) J (.blk J J (Wsub 10 J J J J J J J J J J J J J J J J (Bs 3 J J J J (Bs 3 J J J J .nil)))) XR
  ·replace hsd : sd.length ≤ 1000000 := hsd
   refine OpP 1 1 J J J J fun bp bc br bs bg kp sp asd ksd aq0 kq0 aq1 kq1 kc spc kr spr ks sps kg spg hbg hmk => ?_; obtain ⟨g0, g1, rfl⟩ := len2 hbg; clear hbg; refine NM J J ?_; dsimp only [wEnts, wCels, procCs, regEs, WX.of, vi]
   refine Va J J ?_
   rcases ha with rfl | rfl | rfl <;>
   ·refine Ds J J J ?_
    refine Da J J ?_;refine Nt 19 J J J J J J fun back => ?_;refine S_slice Tk ZT_ok J J J J (by decide) (by decide) J J J J fun b25 => ?_;refine back _ _ _ _ (by kernel_rfl) ?_; clear back
    refine Da J J ?_;refine Nt 20 J J J J J J fun back => ?_;refine S_appSaid Tk 1004 25 J J J J J J J J J J J J J (fun _ _ => J) hsd fun A' c' => ?_;refine back _ _ _ _ (by kernel_rfl) ?_; clear back
    refine Da J J ?_;refine Ns 23 J J J J J J J J J ?_;refine DD ?_;refine Va J J ?_;exact EK (1007 :: wKeys 2) (Res.t0 Tryz.results127) ⟨J, J⟩ (Wpp [_, _] kg spg J ‹_› J J J J J J J J) J (.blk J J (Wsub 10 J J J J J J J J J J J J J J J J (Bs 3 J J J J (Bs 3 J J J J .nil)))) XR
 ·rcases (by simp at hw; omega : who = 0 ∨ who = 1 ∨ who = 2) with rfl | rfl | rfl
  ·replace hsd : sd.length ≤ 1000000 := hsd
   refine OpP 1 1 J J J J fun bp bc br bs bg kp sp asd ksd aq0 kq0 aq1 kq1 kc spc kr spr ks sps kg spg hbg hmk => ?_; obtain ⟨g0, g1, g2, rfl⟩ := len3 hbg; clear hbg; refine NM J J ?_; dsimp only [wEnts, wCels, procCs, regEs, WX.of, vi]
   refine Va J J ?_
   rcases ha with rfl | rfl | rfl <;>
   ·refine Ds J J J ?_
    refine Da J J ?_;refine Nt 19 J J J J J J fun back => ?_;refine S_slice Tk ZT_ok J J J J (by decide) (by decide) J J J J fun b25 => ?_;refine back _ _ _ _ (by kernel_rfl) ?_; clear back
    refine Da J J ?_;refine Nt 20 J J J J J J fun back => ?_;refine S_appSaid Tk 1004 25 J J J J J J J J J J J J J (fun _ _ => J) hsd fun A' c' => ?_;refine back _ _ _ _ (by kernel_rfl) ?_; clear back
    refine Da J J ?_;refine Ns 23 J J J J J J J J J ?_;refine DD ?_;refine Va J J ?_;exact EK (1007 :: wKeys 3) (Res.t0 Tryz.results127) ⟨J, J⟩ (Wpp [_, _, _] kg spg J ‹_› J J J J J J J J) J (.blk J J (Wsub 15 J J J J J J J J J J J J J J J J (Bs 3 J J J J (Bs 3 J J J J (Bs 3 J J J J .nil))))) XR
  ·replace hsd : sd.length ≤ 1000000 := hsd
   refine OpP 1 1 J J J J fun bp bc br bs bg kp sp asd ksd aq0 kq0 aq1 kq1 kc spc kr spr ks sps kg spg hbg hmk => ?_; obtain ⟨g0, g1, g2, rfl⟩ := len3 hbg; clear hbg; refine NM J J ?_; dsimp only [wEnts, wCels, procCs, regEs, WX.of, vi]
   refine Va J J ?_
   rcases ha with rfl | rfl | rfl <;>
   ·refine Ds J J J ?_
    refine Da J J ?_;refine Nt 19 J J J J J J fun back => ?_;refine S_slice Tk ZT_ok J J J J (by decide) (by decide) J J J J fun b25 => ?_;refine back _ _ _ _ (by kernel_rfl) ?_; clear back
    refine Da J J ?_;refine Nt 20 J J J J J J fun back => ?_;refine S_appSaid Tk 1004 25 J J J J J J J J J J J J J (fun _ _ => J) hsd fun A' c' => ?_;refine back _ _ _ _ (by kernel_rfl) ?_; clear back
    refine Da J J ?_;refine Ns 23 J J J J J J J J J ?_;refine DD ?_;refine Va J J ?_;exact EK (1007 :: wKeys 3) (Res.t0 Tryz.results127) ⟨J, J⟩ (Wpp [_, _, _] kg spg J ‹_› J J J J J J J J) J (.blk J J (Wsub 15 J J J J J J J J J J J J J J J J (Bs 3 J J J J (Bs 3 J J J J (Bs 3 J J J J .nil))))) XR
  ·replace hsd : sd.length ≤ 1000000 := hsd
   refine OpP 1 1 J J J J fun bp bc br bs bg kp sp asd ksd aq0 kq0 aq1 kq1 kc spc kr spr ks sps kg spg hbg hmk => ?_; obtain ⟨g0, g1, g2, rfl⟩ := len3 hbg; clear hbg; refine NM J J ?_; dsimp only [wEnts, wCels, procCs, regEs, WX.of, vi]
   refine Va J J ?_
   rcases ha with rfl | rfl | rfl <;>
   ·refine Ds J J J ?_
    refine Da J J ?_;refine Nt 19 J J J J J J fun back => ?_;refine S_slice Tk ZT_ok J J J J (by decide) (by decide) J J J J fun b25 => ?_;refine back _ _ _ _ (by kernel_rfl) ?_; clear back
    refine Da J J ?_;refine Nt 20 J J J J J J fun back => ?_;refine S_appSaid Tk 1004 25 J J J J J J J J J J J J J (fun _ _ => J) hsd fun A' c' => ?_;refine back _ _ _ _ (by kernel_rfl) ?_; clear back
    refine Da J J ?_;refine Ns 23 J J J J J J J J J ?_;refine DD ?_;refine Va J J ?_;exact EK (1007 :: wKeys 3) (Res.t0 Tryz.results127) ⟨J, J⟩ (Wpp [_, _, _] kg spg J ‹_› J J J J J J J J) J (.blk J J (Wsub 15 J J J J J J J J J J J J J J J J (Bs 3 J J J J (Bs 3 J J J J (Bs 3 J J J J .nil))))) XR
def Wld.room (W : Wld) (who : Nat) : Int := match W.procs[who]? with
 | some p => p.room
 | none => 0
theorem c_dWait (W : Wld) (who : Nat) (b : Nat) (ts : List Value) (G : PH) (h1 : 1 ≤ W.procs.length) (h3 : W.procs.length ≤ 3) (ht : Tds G W.procs ts) (hw : who < W.procs.length) (hq0 : W.q0.length ≤ 1000000) (hq1 : W.q1.length ≤ 1000000) (hroom : W.room who = 0 ∨ W.room who = 1) (a : Int) (ha : a = 0 ∨ a = 1) :
  Mod Tryz.prog 134 [.agg #[.int .i64 a], .pointer (some ⟨b, 0, none⟩), .int .i64 (who : Nat)] G (worldP b W ts) fun v G' A' => G' = G ∧ A' = worldP b (((W.setRm (W.room who) 0).upd who (fun p => { p with mode := 1, on := a })).setQue a (W.que a ++ [(who : Int)])) ts := by
 refine Mod.intro Tryz.func134 Tryz.ntmps134 J J fun w S => ?_;refine Va J J ?_;refine S_box J J J J J fun b3 => ?_;obtain ⟨ps, x0, x1, x2, m0, m1, q0, q1, sd⟩ := W
 rcases shape h1 h3 ht with ⟨⟨a0, a1, a2, td0, mo0, on0, ro0⟩, A0, k0, rfl, rfl, s0⟩ | ⟨⟨a0, a1, a2, td0, mo0, on0, ro0⟩, A0, k0, ⟨b0, b1, b2, td1, mo1, on1, ro1⟩, A1, k1, rfl, rfl, s0, s1⟩ | ⟨⟨a0, a1, a2, td0, mo0, on0, ro0⟩, A0, k0, ⟨b0, b1, b2, td1, mo1, on1, ro1⟩, A1, k1, ⟨d0, d1, d2, td2, mo2, on2, ro2⟩, A2, k2, rfl, rfl, s0, s1, s2⟩
 ·obtain rfl : who = 0 := by simpa using hw
  replace hq0 : q0.length ≤ 1000000 := hq0
  replace hq1 : q1.length ≤ 1000000 := hq1
  have hro : ro0 = 0 ∨ ro0 = 1 := hroom
  refine OpP 1 1 J J J J fun bp bc br bs bg kp sp asd ksd aq0 kq0 aq1 kq1 kc spc kr spr ks sps kg spg hbg hmk => ?_; obtain ⟨g0, rfl⟩ := len1 hbg; clear hbg; refine NM J J ?_; dsimp only [wEnts, wCels, procCs, regEs, WX.of, vi]
  refine Va J J ?_;refine Ds J J J ?_
  rcases hro with rfl | rfl
  ·rcases ha with rfl | rfl
   ·refine Da J J ?_
    refine Ns 9 J J J J J J J J J ?_;refine DD ?_;refine Va J J ?_;refine Ds J J J ?_;refine Da J J ?_;refine Ns 6 J J J J J J J J J ?_;refine Da J J ?_;refine Ns 9 J J J J J J J J J ?_;refine DD ?_;refine Va J J ?_;refine Ds J J J ?_;refine Da J J ?_;refine Nt 15 J J J J J J fun back => ?_;refine S_slice Tk ZT_ok J J J J (by decide) (by decide) J J J J fun b45 => ?_;refine back _ _ _ _ (by kernel_rfl) ?_; clear back
    refine Nt 16 J J J J J J fun back => ?_;refine S_appInt Tk 1005 45 J J J J J J J J J J J J J (fun _ _ => J) (by assumption) (Nat.zero_le _) fun A' c' => ?_;refine back _ _ _ _ (by kernel_rfl) ?_; clear back
    refine Da J J ?_;refine Ns 18 J J J J J J J J J ?_;refine DD ?_;refine Va J J ?_;exact EK (1007 :: wKeys 1) (Res.t0 Tryz.results134) ⟨J, J⟩ (Wpp [_] kg spg J ‹_› J J J J J J J J) J (.blk J J (Wsub 5 J J J J J J J J J J J J J J J J (Bs 3 J J J J .nil))) XR
   ·refine Da J J ?_
    refine Ns 9 J J J J J J J J J ?_;refine DD ?_;refine Va J J ?_;refine Ds J J J ?_;refine Da J J ?_;refine Ns 6 J J J J J J J J J ?_;refine Da J J ?_;refine Ns 9 J J J J J J J J J ?_;refine DD ?_;refine Va J J ?_;refine Ds J J J ?_;refine Da J J ?_;refine Nt 15 J J J J J J fun back => ?_;refine S_slice Tk ZT_ok J J J J (by decide) (by decide) J J J J fun b45 => ?_;refine back _ _ _ _ (by kernel_rfl) ?_; clear back
    refine Nt 16 J J J J J J fun back => ?_;refine S_appInt Tk 1006 45 J J J J J J J J J J J J J (fun _ _ => J) (by assumption) (Nat.zero_le _) fun A' c' => ?_;refine back _ _ _ _ (by kernel_rfl) ?_; clear back
    refine Da J J ?_;refine Ns 18 J J J J J J J J J ?_;refine DD ?_;refine Va J J ?_;exact EK (1007 :: wKeys 1) (Res.t0 Tryz.results134) ⟨J, J⟩ (Wpp [_] kg spg J ‹_› J J J J J J J J) J (.blk J J (Wsub 5 J J J J J J J J J J J J J J J J (Bs 3 J J J J .nil))) XR
  ·rcases ha with rfl | rfl
   ·refine Da J J ?_
    refine Ns 9 J J J J J J J J J ?_;refine DD ?_;refine Va J J ?_;refine Ds J J J ?_;refine Da J J ?_;refine Ns 6 J J J J J J J J J ?_;refine Da J J ?_;refine Ns 9 J J J J J J J J J ?_;refine DD ?_;refine Va J J ?_;refine Ds J J J ?_;refine Da J J ?_;refine Nt 15 J J J J J J fun back => ?_;refine S_slice Tk ZT_ok J J J J (by decide) (by decide) J J J J fun b45 => ?_;refine back _ _ _ _ (by kernel_rfl) ?_; clear back
    refine Nt 16 J J J J J J fun back => ?_;refine S_appInt Tk 1005 45 J J J J J J J J J J J J J (fun _ _ => J) (by assumption) (Nat.zero_le _) fun A' c' => ?_;refine back _ _ _ _ (by kernel_rfl) ?_; clear back
    refine Da J J ?_;refine Ns 18 J J J J J J J J J ?_;refine DD ?_;refine Va J J ?_;exact EK (1007 :: wKeys 1) (Res.t0 Tryz.results134) ⟨J, J⟩ (Wpp [_] kg spg J ‹_› J J J J J J J J) J (.blk J J (Wsub 5 J J J J J J J J J J J J J J J J (Bs 3 J J J J .nil))) XR
   ·refine Da J J ?_
    refine Ns 9 J J J J J J J J J ?_;refine DD ?_;refine Va J J ?_;refine Ds J J J ?_;refine Da J J ?_;refine Ns 6 J J J J J J J J J ?_;refine Da J J ?_;refine Ns 9 J J J J J J J J J ?_;refine DD ?_;refine Va J J ?_;refine Ds J J J ?_;refine Da J J ?_;refine Nt 15 J J J J J J fun back => ?_;refine S_slice Tk ZT_ok J J J J (by decide) (by decide) J J J J fun b45 => ?_;refine back _ _ _ _ (by kernel_rfl) ?_; clear back
    refine Nt 16 J J J J J J fun back => ?_;refine S_appInt Tk 1006 45 J J J J J J J J J J J J J (fun _ _ => J) (by assumption) (Nat.zero_le _) fun A' c' => ?_;refine back _ _ _ _ (by kernel_rfl) ?_; clear back
    refine Da J J ?_;refine Ns 18 J J J J J J J J J ?_;refine DD ?_;refine Va J J ?_;exact EK (1007 :: wKeys 1) (Res.t0 Tryz.results134) ⟨J, J⟩ (Wpp [_] kg spg J ‹_› J J J J J J J J) J (.blk J J (Wsub 5 J J J J J J J J J J J J J J J J (Bs 3 J J J J .nil))) XR
 ·rcases (by simp at hw; omega : who = 0 ∨ who = 1) with rfl | rfl
  ·replace hq0 : q0.length ≤ 1000000 := hq0
   replace hq1 : q1.length ≤ 1000000 := hq1
   have hro : ro0 = 0 ∨ ro0 = 1 := hroom
   refine OpP 1 1 J J J J fun bp bc br bs bg kp sp asd ksd aq0 kq0 aq1 kq1 kc spc kr spr ks sps kg spg hbg hmk => ?_; obtain ⟨g0, g1, rfl⟩ := len2 hbg; clear hbg; refine NM J J ?_; dsimp only [wEnts, wCels, procCs, regEs, WX.of, vi]
   refine Va J J ?_;refine Ds J J J ?_
   rcases hro with rfl | rfl
   ·rcases ha with rfl | rfl
    ·refine Da J J ?_
     refine Ns 9 J J J J J J J J J ?_;refine DD ?_;refine Va J J ?_;refine Ds J J J ?_;refine Da J J ?_;refine Ns 6 J J J J J J J J J ?_;refine Da J J ?_;refine Ns 9 J J J J J J J J J ?_;refine DD ?_;refine Va J J ?_;refine Ds J J J ?_;refine Da J J ?_;refine Nt 15 J J J J J J fun back => ?_;refine S_slice Tk ZT_ok J J J J (by decide) (by decide) J J J J fun b45 => ?_;refine back _ _ _ _ (by kernel_rfl) ?_; clear back
     refine Nt 16 J J J J J J fun back => ?_;refine S_appInt Tk 1005 45 J J J J J J J J J J J J J (fun _ _ => J) (by assumption) (Nat.zero_le _) fun A' c' => ?_;refine back _ _ _ _ (by kernel_rfl) ?_; clear back
     refine Da J J ?_;refine Ns 18 J J J J J J J J J ?_;refine DD ?_;refine Va J J ?_;exact EK (1007 :: wKeys 2) (Res.t0 Tryz.results134) ⟨J, J⟩ (Wpp [_, _] kg spg J ‹_› J J J J J J J J) J (.blk J J (Wsub 10 J J J J J J J J J J J J J J J J (Bs 3 J J J J (Bs 3 J J J J .nil)))) XR
    ·refine Da J J ?_
     refine Ns 9 J J J J J J J J J ?_;refine DD ?_;refine Va J J ?_;refine Ds J J J ?_;refine Da J J ?_;refine Ns 6 J J J J J J J J J ?_;refine Da J J ?_;refine Ns 9 J J J J J J J J J ?_;refine DD ?_;refine Va J J ?_;refine Ds J J J ?_;refine Da J J ?_;refine Nt 15 J J J J J J fun back => ?_;refine S_slice Tk ZT_ok J J J J (by decide) (by decide) J J J J fun b45 => ?_;refine back _ _ _ _ (by kernel_rfl) ?_; clear back
     refine Nt 16 J J J J J J fun back => ?_;refine S_appInt Tk 1006 45 J J J J J J J J J J J J J (fun _ _ => J) (by assumption) (Nat.zero_le _) fun A' c' => ?_;refine back _ _ _ _ (by kernel_rfl) ?_; clear back
     refine Da J J ?_;refine Ns 18 J J J J J J J J J ?_;refine DD ?_;refine Va J J ?_;exact EK (1007 :: wKeys 2) (Res.t0 Tryz.results134) ⟨J, J⟩ (Wpp [_, _] kg spg J ‹_› J J J J J J J J) J (.blk J J (Wsub 10 J J J J J J J J J J J J J J J J (Bs 3 J J J J (Bs 3 J J J J .nil)))) XR
   ·rcases ha with rfl | rfl
    ·refine Da J J ?_
     refine Ns 9 J J J J J J J J J ?_;refine DD ?_;refine Va J J ?_;refine Ds J J J ?_;refine Da J J ?_;refine Ns 6 J J J J J J J J J ?_;refine Da J J ?_;refine Ns 9 J J J J J J J J J ?_;refine DD ?_;refine Va J J ?_;refine Ds J J J ?_;refine Da J J ?_;refine Nt 15 J J J J J J fun back => ?_;refine S_slice Tk ZT_ok J J J J (by decide) (by decide) J J J J fun b45 => ?_;refine back _ _ _ _ (by kernel_rfl) ?_; clear back
     refine Nt 16 J J J J J J fun back => ?_;refine S_appInt Tk 1005 45 J J J J J J J J J J J J J (fun _ _ => J) (by assumption) (Nat.zero_le _) fun A' c' => ?_;refine back _ _ _ _ (by kernel_rfl) ?_; clear back
     refine Da J J ?_;refine Ns 18 J J J J J J J J J ?_;refine DD ?_;refine Va J J ?_;exact EK (1007 :: wKeys 2) (Res.t0 Tryz.results134) ⟨J, J⟩ (Wpp [_, _] kg spg J ‹_› J J J J J J J J) J (.blk J J (Wsub 10 J J J J J J J J J J J J J J J J (Bs 3 J J J J (Bs 3 J J J J .nil)))) XR
    ·refine Da J J ?_
     refine Ns 9 J J J J J J J J J ?_;refine DD ?_;refine Va J J ?_;refine Ds J J J ?_;refine Da J J ?_;refine Ns 6 J J J J J J J J J ?_;refine Da J J ?_;refine Ns 9 J J J J J J J J J ?_;refine DD ?_;refine Va J J ?_;refine Ds J J J ?_;refine Da J J ?_;refine Nt 15 J J J J J J fun back => ?_;refine S_slice Tk ZT_ok J J J J (by decide) (by decide) J J J J fun b45 => ?_;refine back _ _ _ _ (by kernel_rfl) ?_; clear back
     refine Nt 16 J J J J J J fun back => ?_;refine S_appInt Tk 1006 45 J J J J J J J J J J J J J (fun _ _ => J) (by assumption) (Nat.zero_le _) fun A' c' => ?_;refine back _ _ _ _ (by kernel_rfl) ?_; clear back
     refine Da J J ?_;refine Ns 18 J J J J J J J J J ?_;refine DD ?_;refine Va J J ?_;exact EK (1007 :: wKeys 2) (Res.t0 Tryz.results134) ⟨J, J⟩ (Wpp [_, _] kg spg J ‹_› J J J J J J J J) J (.blk J J (Wsub 10 J J J J J J J J J J J J J J J J (Bs 3 J J J J (Bs 3 J J J J .nil)))) XR
  ·replace hq0 : q0.length ≤ 1000000 := hq0
   replace hq1 : q1.length ≤ 1000000 := hq1
   have hro : ro1 = 0 ∨ ro1 = 1 := hroom
   refine OpP 1 1 J J J J fun bp bc br bs bg kp sp asd ksd aq0 kq0 aq1 kq1 kc spc kr spr ks sps kg spg hbg hmk => ?_; obtain ⟨g0, g1, rfl⟩ := len2 hbg; clear hbg; refine NM J J ?_; dsimp only [wEnts, wCels, procCs, regEs, WX.of, vi]
   refine Va J J ?_;refine Ds J J J ?_
   rcases hro with rfl | rfl
   ·rcases ha with rfl | rfl
    ·refine Da J J ?_
     refine Ns 9 J J J J J J J J J ?_;refine DD ?_;refine Va J J ?_;refine Ds J J J ?_;refine Da J J ?_;refine Ns 6 J J J J J J J J J ?_;refine Da J J ?_;refine Ns 9 J J J J J J J J J ?_;refine DD ?_;refine Va J J ?_;refine Ds J J J ?_;refine Da J J ?_;refine Nt 15 J J J J J J fun back => ?_;refine S_slice Tk ZT_ok J J J J (by decide) (by decide) J J J J fun b45 => ?_;refine back _ _ _ _ (by kernel_rfl) ?_; clear back
     refine Nt 16 J J J J J J fun back => ?_;refine S_appInt Tk 1005 45 J J J J J J J J J J J J J (fun _ _ => J) (by assumption) (Nat.zero_le _) fun A' c' => ?_;refine back _ _ _ _ (by kernel_rfl) ?_; clear back
     refine Da J J ?_;refine Ns 18 J J J J J J J J J ?_;refine DD ?_;refine Va J J ?_;exact EK (1007 :: wKeys 2) (Res.t0 Tryz.results134) ⟨J, J⟩ (Wpp [_, _] kg spg J ‹_› J J J J J J J J) J (.blk J J (Wsub 10 J J J J J J J J J J J J J J J J (Bs 3 J J J J (Bs 3 J J J J .nil)))) XR
    ·refine Da J J ?_
     refine Ns 9 J J J J J J J J J ?_;refine DD ?_;refine Va J J ?_;refine Ds J J J ?_;refine Da J J ?_;refine Ns 6 J J J J J J J J J ?_;refine Da J J ?_;refine Ns 9 J J J J J J J J J ?_;refine DD ?_;refine Va J J ?_;refine Ds J J J ?_;refine Da J J ?_;refine Nt 15 J J J J J J fun back => ?_;refine S_slice Tk ZT_ok J J J J (by decide) (by decide) J J J J fun b45 => ?_;refine back _ _ _ _ (by kernel_rfl) ?_; clear back
     refine Nt 16 J J J J J J fun back => ?_;refine S_appInt Tk 1006 45 J J J J J J J J J J J J J (fun _ _ => J) (by assumption) (Nat.zero_le _) fun A' c' => ?_;refine back _ _ _ _ (by kernel_rfl) ?_; clear back
     refine Da J J ?_;refine Ns 18 J J J J J J J J J ?_;refine DD ?_;refine Va J J ?_;exact EK (1007 :: wKeys 2) (Res.t0 Tryz.results134) ⟨J, J⟩ (Wpp [_, _] kg spg J ‹_› J J J J J J J J) J (.blk J J (Wsub 10 J J J J J J J J J J J J J J J J (Bs 3 J J J J (Bs 3 J J J J .nil)))) XR
   ·rcases ha with rfl | rfl
    ·refine Da J J ?_
     refine Ns 9 J J J J J J J J J ?_;refine DD ?_;refine Va J J ?_;refine Ds J J J ?_;refine Da J J ?_;refine Ns 6 J J J J J J J J J ?_;refine Da J J ?_;refine Ns 9 J J J J J J J J J ?_;refine DD ?_;refine Va J J ?_;refine Ds J J J ?_;refine Da J J ?_;refine Nt 15 J J J J J J fun back => ?_;refine S_slice Tk ZT_ok J J J J (by decide) (by decide) J J J J fun b45 => ?_;refine back _ _ _ _ (by kernel_rfl) ?_; clear back
     refine Nt 16 J J J J J J fun back => ?_;refine S_appInt Tk 1005 45 J J J J J J J J J J J J J (fun _ _ => J) (by assumption) (Nat.zero_le _) fun A' c' => ?_;refine back _ _ _ _ (by kernel_rfl) ?_; clear back
     refine Da J J ?_;refine Ns 18 J J J J J J J J J ?_;refine DD ?_;refine Va J J ?_;exact EK (1007 :: wKeys 2) (Res.t0 Tryz.results134) ⟨J, J⟩ (Wpp [_, _] kg spg J ‹_› J J J J J J J J) J (.blk J J (Wsub 10 J J J J J J J J J J J J J J J J (Bs 3 J J J J (Bs 3 J J J J .nil)))) XR
    ·refine Da J J ?_
     refine Ns 9 J J J J J J J J J ?_;refine DD ?_;refine Va J J ?_;refine Ds J J J ?_;refine Da J J ?_;refine Ns 6 J J J J J J J J J ?_;refine Da J J ?_;refine Ns 9 J J J J J J J J J ?_;refine DD ?_;refine Va J J ?_;refine Ds J J J ?_;refine Da J J ?_;refine Nt 15 J J J J J J fun back => ?_;refine S_slice Tk ZT_ok J J J J (by decide) (by decide) J J J J fun b45 => ?_;refine back _ _ _ _ (by kernel_rfl) ?_; clear back
     refine Nt 16 J J J J J J fun back => ?_;refine S_appInt Tk 1006 45 J J J J J J J J J J J J J (fun _ _ => J) (by assumption) (Nat.zero_le _) fun A' c' => ?_;refine back _ _ _ _ (by kernel_rfl) ?_; clear back
     refine Da J J ?_;refine Ns 18 J J J J J J J J J ?_;refine DD ?_;refine Va J J ?_;exact EK (1007 :: wKeys 2) (Res.t0 Tryz.results134) ⟨J, J⟩ (Wpp [_, _] kg spg J ‹_› J J J J J J J J) J (.blk J J (Wsub 10 J J J J J J J J J J J J J J J J (Bs 3 J J J J (Bs 3 J J J J .nil)))) XR
 ·rcases (by simp at hw; omega : who = 0 ∨ who = 1 ∨ who = 2) with rfl | rfl | rfl
  ·replace hq0 : q0.length ≤ 1000000 := hq0
   replace hq1 : q1.length ≤ 1000000 := hq1
   have hro : ro0 = 0 ∨ ro0 = 1 := hroom
   refine OpP 1 1 J J J J fun bp bc br bs bg kp sp asd ksd aq0 kq0 aq1 kq1 kc spc kr spr ks sps kg spg hbg hmk => ?_; obtain ⟨g0, g1, g2, rfl⟩ := len3 hbg; clear hbg; refine NM J J ?_; dsimp only [wEnts, wCels, procCs, regEs, WX.of, vi]
   refine Va J J ?_;refine Ds J J J ?_
   rcases hro with rfl | rfl
   ·rcases ha with rfl | rfl
    ·refine Da J J ?_
     refine Ns 9 J J J J J J J J J ?_;refine DD ?_;refine Va J J ?_;refine Ds J J J ?_;refine Da J J ?_;refine Ns 6 J J J J J J J J J ?_;refine Da J J ?_;refine Ns 9 J J J J J J J J J ?_;refine DD ?_;refine Va J J ?_;refine Ds J J J ?_;refine Da J J ?_;refine Nt 15 J J J J J J fun back => ?_;refine S_slice Tk ZT_ok J J J J (by decide) (by decide) J J J J fun b45 => ?_;refine back _ _ _ _ (by kernel_rfl) ?_; clear back
     refine Nt 16 J J J J J J fun back => ?_;refine S_appInt Tk 1005 45 J J J J J J J J J J J J J (fun _ _ => J) (by assumption) (Nat.zero_le _) fun A' c' => ?_;refine back _ _ _ _ (by kernel_rfl) ?_; clear back
     refine Da J J ?_;refine Ns 18 J J J J J J J J J ?_;refine DD ?_;refine Va J J ?_;exact EK (1007 :: wKeys 3) (Res.t0 Tryz.results134) ⟨J, J⟩ (Wpp [_, _, _] kg spg J ‹_› J J J J J J J J) J (.blk J J (Wsub 15 J J J J J J J J J J J J J J J J (Bs 3 J J J J (Bs 3 J J J J (Bs 3 J J J J .nil))))) XR
    ·refine Da J J ?_
     refine Ns 9 J J J J J J J J J ?_;refine DD ?_;refine Va J J ?_;refine Ds J J J ?_;refine Da J J ?_;refine Ns 6 J J J J J J J J J ?_;refine Da J J ?_;refine Ns 9 J J J J J J J J J ?_;refine DD ?_;refine Va J J ?_;refine Ds J J J ?_;refine Da J J ?_;refine Nt 15 J J J J J J fun back => ?_;refine S_slice Tk ZT_ok J J J J (by decide) (by decide) J J J J fun b45 => ?_;refine back _ _ _ _ (by kernel_rfl) ?_; clear back
     refine Nt 16 J J J J J J fun back => ?_;refine S_appInt Tk 1006 45 J J J J J J J J J J J J J (fun _ _ => J) (by assumption) (Nat.zero_le _) fun A' c' => ?_;refine back _ _ _ _ (by kernel_rfl) ?_; clear back
     refine Da J J ?_;refine Ns 18 J J J J J J J J J ?_;refine DD ?_;refine Va J J ?_;exact EK (1007 :: wKeys 3) (Res.t0 Tryz.results134) ⟨J, J⟩ (Wpp [_, _, _] kg spg J ‹_› J J J J J J J J) J (.blk J J (Wsub 15 J J J J J J J J J J J J J J J J (Bs 3 J J J J (Bs 3 J J J J (Bs 3 J J J J .nil))))) XR
   ·rcases ha with rfl | rfl
    ·refine Da J J ?_
     refine Ns 9 J J J J J J J J J ?_;refine DD ?_;refine Va J J ?_;refine Ds J J J ?_;refine Da J J ?_;refine Ns 6 J J J J J J J J J ?_;refine Da J J ?_;refine Ns 9 J J J J J J J J J ?_;refine DD ?_;refine Va J J ?_;refine Ds J J J ?_;refine Da J J ?_;refine Nt 15 J J J J J J fun back => ?_;refine S_slice Tk ZT_ok J J J J (by decide) (by decide) J J J J fun b45 => ?_;refine back _ _ _ _ (by kernel_rfl) ?_; clear back
     refine Nt 16 J J J J J J fun back => ?_;refine S_appInt Tk 1005 45 J J J J J J J J J J J J J (fun _ _ => J) (by assumption) (Nat.zero_le _) fun A' c' => ?_;refine back _ _ _ _ (by kernel_rfl) ?_; clear back
     refine Da J J ?_;refine Ns 18 J J J J J J J J J ?_;refine DD ?_;refine Va J J ?_;exact EK (1007 :: wKeys 3) (Res.t0 Tryz.results134) ⟨J, J⟩ (Wpp [_, _, _] kg spg J ‹_› J J J J J J J J) J (.blk J J (Wsub 15 J J J J J J J J J J J J J J J J (Bs 3 J J J J (Bs 3 J J J J (Bs 3 J J J J .nil))))) XR
    ·refine Da J J ?_
     refine Ns 9 J J J J J J J J J ?_;refine DD ?_;refine Va J J ?_;refine Ds J J J ?_;refine Da J J ?_;refine Ns 6 J J J J J J J J J ?_;refine Da J J ?_;refine Ns 9 J J J J J J J J J ?_;refine DD ?_;refine Va J J ?_;refine Ds J J J ?_;refine Da J J ?_;refine Nt 15 J J J J J J fun back => ?_;refine S_slice Tk ZT_ok J J J J (by decide) (by decide) J J J J fun b45 => ?_;refine back _ _ _ _ (by kernel_rfl) ?_; clear back
     refine Nt 16 J J J J J J fun back => ?_;refine S_appInt Tk 1006 45 J J J J J J J J J J J J J (fun _ _ => J) (by assumption) (Nat.zero_le _) fun A' c' => ?_;refine back _ _ _ _ (by kernel_rfl) ?_; clear back
     refine Da J J ?_;refine Ns 18 J J J J J J J J J ?_;refine DD ?_;refine Va J J ?_;exact EK (1007 :: wKeys 3) (Res.t0 Tryz.results134) ⟨J, J⟩ (Wpp [_, _, _] kg spg J ‹_› J J J J J J J J) J (.blk J J (Wsub 15 J J J J J J J J J J J J J J J J (Bs 3 J J J J (Bs 3 J J J J (Bs 3 J J J J .nil))))) XR
  ·replace hq0 : q0.length ≤ 1000000 := hq0
   replace hq1 : q1.length ≤ 1000000 := hq1
   have hro : ro1 = 0 ∨ ro1 = 1 := hroom
   refine OpP 1 1 J J J J fun bp bc br bs bg kp sp asd ksd aq0 kq0 aq1 kq1 kc spc kr spr ks sps kg spg hbg hmk => ?_; obtain ⟨g0, g1, g2, rfl⟩ := len3 hbg; clear hbg; refine NM J J ?_; dsimp only [wEnts, wCels, procCs, regEs, WX.of, vi]
   refine Va J J ?_;refine Ds J J J ?_
   rcases hro with rfl | rfl
   ·rcases ha with rfl | rfl
    ·refine Da J J ?_
     refine Ns 9 J J J J J J J J J ?_;refine DD ?_;refine Va J J ?_;refine Ds J J J ?_;refine Da J J ?_;refine Ns 6 J J J J J J J J J ?_;refine Da J J ?_;refine Ns 9 J J J J J J J J J ?_;refine DD ?_;refine Va J J ?_;refine Ds J J J ?_;refine Da J J ?_;refine Nt 15 J J J J J J fun back => ?_;refine S_slice Tk ZT_ok J J J J (by decide) (by decide) J J J J fun b45 => ?_;refine back _ _ _ _ (by kernel_rfl) ?_; clear back
     refine Nt 16 J J J J J J fun back => ?_;refine S_appInt Tk 1005 45 J J J J J J J J J J J J J (fun _ _ => J) (by assumption) (Nat.zero_le _) fun A' c' => ?_;refine back _ _ _ _ (by kernel_rfl) ?_; clear back
     refine Da J J ?_;refine Ns 18 J J J J J J J J J ?_;refine DD ?_;refine Va J J ?_;exact EK (1007 :: wKeys 3) (Res.t0 Tryz.results134) ⟨J, J⟩ (Wpp [_, _, _] kg spg J ‹_› J J J J J J J J) J (.blk J J (Wsub 15 J J J J J J J J J J J J J J J J (Bs 3 J J J J (Bs 3 J J J J (Bs 3 J J J J .nil))))) XR
    ·refine Da J J ?_
     refine Ns 9 J J J J J J J J J ?_;refine DD ?_;refine Va J J ?_;refine Ds J J J ?_;refine Da J J ?_;refine Ns 6 J J J J J J J J J ?_;refine Da J J ?_;refine Ns 9 J J J J J J J J J ?_;refine DD ?_;refine Va J J ?_;refine Ds J J J ?_;refine Da J J ?_;refine Nt 15 J J J J J J fun back => ?_;refine S_slice Tk ZT_ok J J J J (by decide) (by decide) J J J J fun b45 => ?_;refine back _ _ _ _ (by kernel_rfl) ?_; clear back
     refine Nt 16 J J J J J J fun back => ?_;refine S_appInt Tk 1006 45 J J J J J J J J J J J J J (fun _ _ => J) (by assumption) (Nat.zero_le _) fun A' c' => ?_;refine back _ _ _ _ (by kernel_rfl) ?_; clear back
     refine Da J J ?_;refine Ns 18 J J J J J J J J J ?_;refine DD ?_;refine Va J J ?_;exact EK (1007 :: wKeys 3) (Res.t0 Tryz.results134) ⟨J, J⟩ (Wpp [_, _, _] kg spg J ‹_› J J J J J J J J) J (.blk J J (Wsub 15 J J J J J J J J J J J J J J J J (Bs 3 J J J J (Bs 3 J J J J (Bs 3 J J J J .nil))))) XR
   ·rcases ha with rfl | rfl
    ·refine Da J J ?_
     refine Ns 9 J J J J J J J J J ?_;refine DD ?_;refine Va J J ?_;refine Ds J J J ?_;refine Da J J ?_;refine Ns 6 J J J J J J J J J ?_;refine Da J J ?_;refine Ns 9 J J J J J J J J J ?_;refine DD ?_;refine Va J J ?_;refine Ds J J J ?_;refine Da J J ?_;refine Nt 15 J J J J J J fun back => ?_;refine S_slice Tk ZT_ok J J J J (by decide) (by decide) J J J J fun b45 => ?_;refine back _ _ _ _ (by kernel_rfl) ?_; clear back
     refine Nt 16 J J J J J J fun back => ?_;refine S_appInt Tk 1005 45 J J J J J J J J J J J J J (fun _ _ => J) (by assumption) (Nat.zero_le _) fun A' c' => ?_;refine back _ _ _ _ (by kernel_rfl) ?_; clear back
     refine Da J J ?_;refine Ns 18 J J J J J J J J J ?_;refine DD ?_;refine Va J J ?_;exact EK (1007 :: wKeys 3) (Res.t0 Tryz.results134) ⟨J, J⟩ (Wpp [_, _, _] kg spg J ‹_› J J J J J J J J) J (.blk J J (Wsub 15 J J J J J J J J J J J J J J J J (Bs 3 J J J J (Bs 3 J J J J (Bs 3 J J J J .nil))))) XR
    ·refine Da J J ?_
     refine Ns 9 J J J J J J J J J ?_;refine DD ?_;refine Va J J ?_;refine Ds J J J ?_;refine Da J J ?_;refine Ns 6 J J J J J J J J J ?_;refine Da J J ?_;refine Ns 9 J J J J J J J J J ?_;refine DD ?_;refine Va J J ?_;refine Ds J J J ?_;refine Da J J ?_;refine Nt 15 J J J J J J fun back => ?_;refine S_slice Tk ZT_ok J J J J (by decide) (by decide) J J J J fun b45 => ?_;refine back _ _ _ _ (by kernel_rfl) ?_; clear back
     refine Nt 16 J J J J J J fun back => ?_;refine S_appInt Tk 1006 45 J J J J J J J J J J J J J (fun _ _ => J) (by assumption) (Nat.zero_le _) fun A' c' => ?_;refine back _ _ _ _ (by kernel_rfl) ?_; clear back
     refine Da J J ?_;refine Ns 18 J J J J J J J J J ?_;refine DD ?_;refine Va J J ?_;exact EK (1007 :: wKeys 3) (Res.t0 Tryz.results134) ⟨J, J⟩ (Wpp [_, _, _] kg spg J ‹_› J J J J J J J J) J (.blk J J (Wsub 15 J J J J J J J J J J J J J J J J (Bs 3 J J J J (Bs 3 J J J J (Bs 3 J J J J .nil))))) XR
  ·replace hq0 : q0.length ≤ 1000000 := hq0
   replace hq1 : q1.length ≤ 1000000 := hq1
   have hro : ro2 = 0 ∨ ro2 = 1 := hroom
   refine OpP 1 1 J J J J fun bp bc br bs bg kp sp asd ksd aq0 kq0 aq1 kq1 kc spc kr spr ks sps kg spg hbg hmk => ?_; obtain ⟨g0, g1, g2, rfl⟩ := len3 hbg; clear hbg; refine NM J J ?_; dsimp only [wEnts, wCels, procCs, regEs, WX.of, vi]
   refine Va J J ?_;refine Ds J J J ?_
   rcases hro with rfl | rfl
   ·rcases ha with rfl | rfl
    ·refine Da J J ?_
     refine Ns 9 J J J J J J J J J ?_;refine DD ?_;refine Va J J ?_;refine Ds J J J ?_;refine Da J J ?_;refine Ns 6 J J J J J J J J J ?_;refine Da J J ?_;refine Ns 9 J J J J J J J J J ?_;refine DD ?_;refine Va J J ?_;refine Ds J J J ?_;refine Da J J ?_;refine Nt 15 J J J J J J fun back => ?_;refine S_slice Tk ZT_ok J J J J (by decide) (by decide) J J J J fun b45 => ?_;refine back _ _ _ _ (by kernel_rfl) ?_; clear back
     refine Nt 16 J J J J J J fun back => ?_;refine S_appInt Tk 1005 45 J J J J J J J J J J J J J (fun _ _ => J) (by assumption) (Nat.zero_le _) fun A' c' => ?_;refine back _ _ _ _ (by kernel_rfl) ?_; clear back
     refine Da J J ?_;refine Ns 18 J J J J J J J J J ?_;refine DD ?_;refine Va J J ?_;exact EK (1007 :: wKeys 3) (Res.t0 Tryz.results134) ⟨J, J⟩ (Wpp [_, _, _] kg spg J ‹_› J J J J J J J J) J (.blk J J (Wsub 15 J J J J J J J J J J J J J J J J (Bs 3 J J J J (Bs 3 J J J J (Bs 3 J J J J .nil))))) XR
    ·refine Da J J ?_
     refine Ns 9 J J J J J J J J J ?_;refine DD ?_;refine Va J J ?_;refine Ds J J J ?_;refine Da J J ?_;refine Ns 6 J J J J J J J J J ?_;refine Da J J ?_;refine Ns 9 J J J J J J J J J ?_;refine DD ?_;refine Va J J ?_;refine Ds J J J ?_;refine Da J J ?_;refine Nt 15 J J J J J J fun back => ?_;refine S_slice Tk ZT_ok J J J J (by decide) (by decide) J J J J fun b45 => ?_;refine back _ _ _ _ (by kernel_rfl) ?_; clear back
     refine Nt 16 J J J J J J fun back => ?_;refine S_appInt Tk 1006 45 J J J J J J J J J J J J J (fun _ _ => J) (by assumption) (Nat.zero_le _) fun A' c' => ?_;refine back _ _ _ _ (by kernel_rfl) ?_; clear back
     refine Da J J ?_;refine Ns 18 J J J J J J J J J ?_;refine DD ?_;refine Va J J ?_;exact EK (1007 :: wKeys 3) (Res.t0 Tryz.results134) ⟨J, J⟩ (Wpp [_, _, _] kg spg J ‹_› J J J J J J J J) J (.blk J J (Wsub 15 J J J J J J J J J J J J J J J J (Bs 3 J J J J (Bs 3 J J J J (Bs 3 J J J J .nil))))) XR
   ·rcases ha with rfl | rfl
    ·refine Da J J ?_
     refine Ns 9 J J J J J J J J J ?_;refine DD ?_;refine Va J J ?_;refine Ds J J J ?_;refine Da J J ?_;refine Ns 6 J J J J J J J J J ?_;refine Da J J ?_;refine Ns 9 J J J J J J J J J ?_;refine DD ?_;refine Va J J ?_;refine Ds J J J ?_;refine Da J J ?_;refine Nt 15 J J J J J J fun back => ?_;refine S_slice Tk ZT_ok J J J J (by decide) (by decide) J J J J fun b45 => ?_;refine back _ _ _ _ (by kernel_rfl) ?_; clear back
     refine Nt 16 J J J J J J fun back => ?_;refine S_appInt Tk 1005 45 J J J J J J J J J J J J J (fun _ _ => J) (by assumption) (Nat.zero_le _) fun A' c' => ?_;refine back _ _ _ _ (by kernel_rfl) ?_; clear back
     refine Da J J ?_;refine Ns 18 J J J J J J J J J ?_;refine DD ?_;refine Va J J ?_;exact EK (1007 :: wKeys 3) (Res.t0 Tryz.results134) ⟨J, J⟩ (Wpp [_, _, _] kg spg J ‹_› J J J J J J J J) J (.blk J J (Wsub 15 J J J J J J J J J J J J J J J J (Bs 3 J J J J (Bs 3 J J J J (Bs 3 J J J J .nil))))) XR
    ·refine Da J J ?_
     refine Ns 9 J J J J J J J J J ?_;refine DD ?_;refine Va J J ?_;refine Ds J J J ?_;refine Da J J ?_;refine Ns 6 J J J J J J J J J ?_;refine Da J J ?_;refine Ns 9 J J J J J J J J J ?_;refine DD ?_;refine Va J J ?_;refine Ds J J J ?_;refine Da J J ?_;refine Nt 15 J J J J J J fun back => ?_;refine S_slice Tk ZT_ok J J J J (by decide) (by decide) J J J J fun b45 => ?_;refine back _ _ _ _ (by kernel_rfl) ?_; clear back
     refine Nt 16 J J J J J J fun back => ?_;refine S_appInt Tk 1006 45 J J J J J J J J J J J J J (fun _ _ => J) (by assumption) (Nat.zero_le _) fun A' c' => ?_;refine back _ _ _ _ (by kernel_rfl) ?_; clear back
     refine Da J J ?_;refine Ns 18 J J J J J J J J J ?_;refine DD ?_;refine Va J J ?_;exact EK (1007 :: wKeys 3) (Res.t0 Tryz.results134) ⟨J, J⟩ (Wpp [_, _, _] kg spg J ‹_› J J J J J J J J) J (.blk J J (Wsub 15 J J J J J J J J J J J J J J J J (Bs 3 J J J J (Bs 3 J J J J (Bs 3 J J J J .nil))))) XR
end
section
attribute [local irreducible] X Pure Mod
def Wld.signal (W : Wld) (a : Int) : Wld := match W.que a with
 | [] => W
 | f :: r => (W.upd f.toNat (fun p => { p with mode := 2, on := 0 })).setQue a r
theorem c_dSignal (W : Wld) (who : Int) (b : Nat) (ts : List Value) (G : PH) (h1 : 1 ≤ W.procs.length) (h3 : W.procs.length ≤ 3) (ht : Tds G W.procs ts) (hq0 : W.q0.length ≤ 1000000) (hq1 : W.q1.length ≤ 1000000) (hf0 : ∀ f ∈ W.q0, 0 ≤ f ∧ f < W.procs.length) (hf1 : ∀ f ∈ W.q1, 0 ≤ f ∧ f < W.procs.length) (a : Int) (ha : a = 0 ∨ a = 1) :
  Mod Tryz.prog 135 [.agg #[.int .i64 a], .pointer (some ⟨b, 0, none⟩), .int .i64 who] G (worldP b W ts) fun v G' A' => G' = G ∧ A' = worldP b (W.signal a) ts := by
 refine Mod.intro Tryz.func135 Tryz.ntmps135 J J fun w S => ?_;refine Va J J ?_;refine S_box J J J J J fun b3 => ?_;obtain ⟨ps, x0, x1, x2, m0, m1, q0, q1, sd⟩ := W
 replace hq0 : q0.length ≤ 1000000 := hq0
 replace hq1 : q1.length ≤ 1000000 := hq1
 replace hf0 : ∀ f ∈ q0, 0 ≤ f ∧ f < ps.length := hf0
 replace hf1 : ∀ f ∈ q1, 0 ≤ f ∧ f < ps.length := hf1
 rcases shape h1 h3 ht with ⟨⟨a0, a1, a2, td0, mo0, on0, ro0⟩, A0, k0, rfl, rfl, s0⟩ | ⟨⟨a0, a1, a2, td0, mo0, on0, ro0⟩, A0, k0, ⟨b0, b1, b2, td1, mo1, on1, ro1⟩, A1, k1, rfl, rfl, s0, s1⟩ | ⟨⟨a0, a1, a2, td0, mo0, on0, ro0⟩, A0, k0, ⟨b0, b1, b2, td1, mo1, on1, ro1⟩, A1, k1, ⟨d0, d1, d2, td2, mo2, on2, ro2⟩, A2, k2, rfl, rfl, s0, s1, s2⟩
 ·rcases ha with rfl | rfl
  ·rcases hQ : q0 with _ | ⟨f, r⟩
   ·subst hQ
    refine OpP 1 1 J J J J fun bp bc br bs bg kp sp asd ksd aq0 kq0 aq1 kq1 kc spc kr spr ks sps kg spg hbg hmk => ?_; obtain ⟨g0, rfl⟩ := len1 hbg; clear hbg; refine NM J J ?_; dsimp only [wEnts, wCels, procCs, regEs, WX.of, vi]
    refine Va J J ?_;refine Ds J J J ?_;refine Da J J ?_;refine DD ?_;refine Va J J ?_;refine RT J J ?_;refine Va J J ?_;exact RK (1007 :: wKeys 1) (Res.t0 Tryz.results135) ⟨J, J⟩ (Wpp [_] kg spg J ‹_› J J J J J J J J) J (.blk J J (Wsub 5 J J J J J J J J J J J J J J J J (Bs 3 J J J J .nil))) XR
   ·subst hQ
    have hf := hf0 f (List.mem_cons_self ..)
    refine OpP 1 1 J J J J fun bp bc br bs bg kp sp asd ksd aq0 kq0 aq1 kq1 kc spc kr spr ks sps kg spg hbg hmk => ?_; obtain ⟨g0, rfl⟩ := len1 hbg; clear hbg; refine NM J J ?_; dsimp only [wEnts, wCels, procCs, regEs, WX.of, vi]
    refine Va J J ?_;refine Ds J J J ?_;refine Da J J ?_;refine DD ?_;refine Va J J ?_;refine RF J (by simp; omega) ?_;refine Va J J ?_;refine S_capO 1005 J fun hnc0 _ _ => ?_;refine S_someO 1005 J (by simp at hnc0; omega) fun gq offq hAq => ?_
    subst hAq
    refine Ds J J J ?_;obtain rfl : f = 0 := by simp at hf; omega
    refine Da J J ?_;refine D_val 5 J J J J J J J J J (V_index Tk J J J J (by omega) (by simp)) ?_;refine D_val 6 J J J J J J J J J (V_loadR (o := 0) Tk 1005 J J J J J) ?_;refine Da J J ?_;refine DD ?_;refine Va J J ?_;refine Ds J J J ?_;refine Da J J ?_;refine Nt 7 J J J J J J fun back => ?_;refine S_tailO Tk 1005 J J J J J J (fun _ => J) fun A' => ?_;refine back _ _ _ _ (by kernel_rfl) ?_; clear back
    refine Da J J ?_;refine Nt 8 J J J J J J fun back => ?_;refine S_lendO 1005 J J (fun hA hn hc hx => ?_) (fun g off cur hA hbg hnc hcm hl hfit ht' hG hb hcells => ?_)
    ·subst hA
     refine S_callN 1005 Tryz.call60 (c_CloneIntN _ _ (intC r) _ ⟨none, _, J, by simp at hq0; omega, by omega, by rw [hc]; simp [maxLen], by rw [intC_length]; simp, .inl hn⟩ (intC_one r)) rfl rfl rfl ?_;rintro v G' A'' ⟨A, c, base, rfl, rfl, rfl⟩ hext
     refine S_newRow 1005 J J ?_;refine S_base0 1005 J J ?_;refine back _ _ _ _ (by kernel_rfl) ?_; clear back
     refine Da J J ?_;refine Ns 10 J J J J J J J J J ?_;refine DD ?_;refine Va J J ?_;exact EK (1007 :: wKeys 1) (Res.t0 Tryz.results135) ⟨J, J⟩ (Wpp [_] kg spg J ‹_› J J J J J J J J) J (.blk J J (Wsub 5 J J J J J J J J J J J J J J J J (Bs 3 J J J J .nil))) XR
    ·subst hA
     refine S_callN 1005 Tryz.call60 (c_CloneIntN _ _ (intC r) _ ⟨_, _, J, by simp at hq0; omega, hnc, hcm, by rw [intC_length]; simp, .inr ⟨_, rfl, hcells⟩⟩ (intC_one r)) rfl rfl rfl ?_;rintro v G' A'' ⟨A, c, base, rfl, rfl, rfl⟩ hext
     refine S_newRow 1005 J J ?_;refine S_base0 1005 J J ?_;refine S_backO 2005 (base := 0) (PH.add_self _ _ _) hb (Nat.zero_le _) hnc hcm hl hfit ht' ?_
     rw [PH.del_add hG]
     refine back _ _ _ _ (by kernel_rfl) ?_; clear back
     refine Da J J ?_;refine Ns 10 J J J J J J J J J ?_;refine DD ?_;refine Va J J ?_;exact EK (1007 :: wKeys 1) (Res.t0 Tryz.results135) ⟨J, J⟩ (Wpp [_] kg spg J ‹_› J J J J J J J J) J (.blk J J (Wsub 5 J J J J J J J J J J J J J J J J (Bs 3 J J J J .nil))) XR
  ·rcases hQ : q1 with _ | ⟨f, r⟩
   ·subst hQ
    refine OpP 1 1 J J J J fun bp bc br bs bg kp sp asd ksd aq0 kq0 aq1 kq1 kc spc kr spr ks sps kg spg hbg hmk => ?_; obtain ⟨g0, rfl⟩ := len1 hbg; clear hbg; refine NM J J ?_; dsimp only [wEnts, wCels, procCs, regEs, WX.of, vi]
    refine Va J J ?_;refine Ds J J J ?_;refine Da J J ?_;refine DD ?_;refine Va J J ?_;refine RT J J ?_;refine Va J J ?_;exact RK (1007 :: wKeys 1) (Res.t0 Tryz.results135) ⟨J, J⟩ (Wpp [_] kg spg J ‹_› J J J J J J J J) J (.blk J J (Wsub 5 J J J J J J J J J J J J J J J J (Bs 3 J J J J .nil))) XR
   ·subst hQ
    have hf := hf1 f (List.mem_cons_self ..)
    refine OpP 1 1 J J J J fun bp bc br bs bg kp sp asd ksd aq0 kq0 aq1 kq1 kc spc kr spr ks sps kg spg hbg hmk => ?_; obtain ⟨g0, rfl⟩ := len1 hbg; clear hbg; refine NM J J ?_; dsimp only [wEnts, wCels, procCs, regEs, WX.of, vi]
    refine Va J J ?_;refine Ds J J J ?_;refine Da J J ?_;refine DD ?_;refine Va J J ?_;refine RF J (by simp; omega) ?_;refine Va J J ?_;refine S_capO 1006 J fun hnc0 _ _ => ?_;refine S_someO 1006 J (by simp at hnc0; omega) fun gq offq hAq => ?_
    subst hAq
    refine Ds J J J ?_;obtain rfl : f = 0 := by simp at hf; omega
    refine Da J J ?_;refine D_val 5 J J J J J J J J J (V_index Tk J J J J (by omega) (by simp)) ?_;refine D_val 6 J J J J J J J J J (V_loadR (o := 0) Tk 1006 J J J J J) ?_;refine Da J J ?_;refine DD ?_;refine Va J J ?_;refine Ds J J J ?_;refine Da J J ?_;refine Nt 7 J J J J J J fun back => ?_;refine S_tailO Tk 1006 J J J J J J (fun _ => J) fun A' => ?_;refine back _ _ _ _ (by kernel_rfl) ?_; clear back
    refine Da J J ?_;refine Nt 8 J J J J J J fun back => ?_;refine S_lendO 1006 J J (fun hA hn hc hx => ?_) (fun g off cur hA hbg hnc hcm hl hfit ht' hG hb hcells => ?_)
    ·subst hA
     refine S_callN 1006 Tryz.call60 (c_CloneIntN _ _ (intC r) _ ⟨none, _, J, by simp at hq1; omega, by omega, by rw [hc]; simp [maxLen], by rw [intC_length]; simp, .inl hn⟩ (intC_one r)) rfl rfl rfl ?_;rintro v G' A'' ⟨A, c, base, rfl, rfl, rfl⟩ hext
     refine S_newRow 1006 J J ?_;refine S_base0 1006 J J ?_;refine back _ _ _ _ (by kernel_rfl) ?_; clear back
     refine Da J J ?_;refine Ns 10 J J J J J J J J J ?_;refine DD ?_;refine Va J J ?_;exact EK (1007 :: wKeys 1) (Res.t0 Tryz.results135) ⟨J, J⟩ (Wpp [_] kg spg J ‹_› J J J J J J J J) J (.blk J J (Wsub 5 J J J J J J J J J J J J J J J J (Bs 3 J J J J .nil))) XR
    ·subst hA
     refine S_callN 1006 Tryz.call60 (c_CloneIntN _ _ (intC r) _ ⟨_, _, J, by simp at hq1; omega, hnc, hcm, by rw [intC_length]; simp, .inr ⟨_, rfl, hcells⟩⟩ (intC_one r)) rfl rfl rfl ?_;rintro v G' A'' ⟨A, c, base, rfl, rfl, rfl⟩ hext
     refine S_newRow 1006 J J ?_;refine S_base0 1006 J J ?_;refine S_backO 2005 (base := 0) (PH.add_self _ _ _) hb (Nat.zero_le _) hnc hcm hl hfit ht' ?_
     rw [PH.del_add hG]
     refine back _ _ _ _ (by kernel_rfl) ?_; clear back
     refine Da J J ?_;refine Ns 10 J J J J J J J J J ?_;refine DD ?_;refine Va J J ?_;exact EK (1007 :: wKeys 1) (Res.t0 Tryz.results135) ⟨J, J⟩ (Wpp [_] kg spg J ‹_› J J J J J J J J) J (.blk J J (Wsub 5 J J J J J J J J J J J J J J J J (Bs 3 J J J J .nil))) XR
 ·rcases ha with rfl | rfl
  ·rcases hQ : q0 with _ | ⟨f, r⟩
   ·subst hQ
    refine OpP 1 1 J J J J fun bp bc br bs bg kp sp asd ksd aq0 kq0 aq1 kq1 kc spc kr spr ks sps kg spg hbg hmk => ?_; obtain ⟨g0, g1, rfl⟩ := len2 hbg; clear hbg; refine NM J J ?_; dsimp only [wEnts, wCels, procCs, regEs, WX.of, vi]
    refine Va J J ?_;refine Ds J J J ?_;refine Da J J ?_;refine DD ?_;refine Va J J ?_;refine RT J J ?_;refine Va J J ?_;exact RK (1007 :: wKeys 2) (Res.t0 Tryz.results135) ⟨J, J⟩ (Wpp [_, _] kg spg J ‹_› J J J J J J J J) J (.blk J J (Wsub 10 J J J J J J J J J J J J J J J J (Bs 3 J J J J (Bs 3 J J J J .nil)))) XR
   ·subst hQ
    have hf := hf0 f (List.mem_cons_self ..)
    refine OpP 1 1 J J J J fun bp bc br bs bg kp sp asd ksd aq0 kq0 aq1 kq1 kc spc kr spr ks sps kg spg hbg hmk => ?_; obtain ⟨g0, g1, rfl⟩ := len2 hbg; clear hbg; refine NM J J ?_; dsimp only [wEnts, wCels, procCs, regEs, WX.of, vi]
    refine Va J J ?_;refine Ds J J J ?_;refine Da J J ?_;refine DD ?_;refine Va J J ?_;refine RF J (by simp; omega) ?_;refine Va J J ?_;refine S_capO 1005 J fun hnc0 _ _ => ?_;refine S_someO 1005 J (by simp at hnc0; omega) fun gq offq hAq => ?_
    subst hAq
    refine Ds J J J ?_
    rcases (by simp at hf; omega : f = 0 ∨ f = 1) with rfl | rfl
    ·refine Da J J ?_
     refine D_val 5 J J J J J J J J J (V_index Tk J J J J (by omega) (by simp)) ?_;refine D_val 6 J J J J J J J J J (V_loadR (o := 0) Tk 1005 J J J J J) ?_;refine Da J J ?_;refine DD ?_;refine Va J J ?_;refine Ds J J J ?_;refine Da J J ?_;refine Nt 7 J J J J J J fun back => ?_;refine S_tailO Tk 1005 J J J J J J (fun _ => J) fun A' => ?_;refine back _ _ _ _ (by kernel_rfl) ?_; clear back
     refine Da J J ?_;refine Nt 8 J J J J J J fun back => ?_;refine S_lendO 1005 J J (fun hA hn hc hx => ?_) (fun g off cur hA hbg hnc hcm hl hfit ht' hG hb hcells => ?_)
     ·subst hA
      refine S_callN 1005 Tryz.call60 (c_CloneIntN _ _ (intC r) _ ⟨none, _, J, by simp at hq0; omega, by omega, by rw [hc]; simp [maxLen], by rw [intC_length]; simp, .inl hn⟩ (intC_one r)) rfl rfl rfl ?_;rintro v G' A'' ⟨A, c, base, rfl, rfl, rfl⟩ hext
      refine S_newRow 1005 J J ?_;refine S_base0 1005 J J ?_;refine back _ _ _ _ (by kernel_rfl) ?_; clear back
      refine Da J J ?_;refine Ns 10 J J J J J J J J J ?_;refine DD ?_;refine Va J J ?_;exact EK (1007 :: wKeys 2) (Res.t0 Tryz.results135) ⟨J, J⟩ (Wpp [_, _] kg spg J ‹_› J J J J J J J J) J (.blk J J (Wsub 10 J J J J J J J J J J J J J J J J (Bs 3 J J J J (Bs 3 J J J J .nil)))) XR
     ·subst hA
      refine S_callN 1005 Tryz.call60 (c_CloneIntN _ _ (intC r) _ ⟨_, _, J, by simp at hq0; omega, hnc, hcm, by rw [intC_length]; simp, .inr ⟨_, rfl, hcells⟩⟩ (intC_one r)) rfl rfl rfl ?_;rintro v G' A'' ⟨A, c, base, rfl, rfl, rfl⟩ hext
      refine S_newRow 1005 J J ?_;refine S_base0 1005 J J ?_;refine S_backO 2005 (base := 0) (PH.add_self _ _ _) hb (Nat.zero_le _) hnc hcm hl hfit ht' ?_
      rw [PH.del_add hG]
      refine back _ _ _ _ (by kernel_rfl) ?_; clear back
      refine Da J J ?_;refine Ns 10 J J J J J J J J J ?_;refine DD ?_;refine Va J J ?_;exact EK (1007 :: wKeys 2) (Res.t0 Tryz.results135) ⟨J, J⟩ (Wpp [_, _] kg spg J ‹_› J J J J J J J J) J (.blk J J (Wsub 10 J J J J J J J J J J J J J J J J (Bs 3 J J J J (Bs 3 J J J J .nil)))) XR
    ·refine Da J J ?_
     refine D_val 5 J J J J J J J J J (V_index Tk J J J J (by omega) (by simp)) ?_;refine D_val 6 J J J J J J J J J (V_loadR (o := 0) Tk 1005 J J J J J) ?_;refine Da J J ?_;refine DD ?_;refine Va J J ?_;refine Ds J J J ?_;refine Da J J ?_;refine Nt 7 J J J J J J fun back => ?_;refine S_tailO Tk 1005 J J J J J J (fun _ => J) fun A' => ?_;refine back _ _ _ _ (by kernel_rfl) ?_; clear back
     refine Da J J ?_;refine Nt 8 J J J J J J fun back => ?_;refine S_lendO 1005 J J (fun hA hn hc hx => ?_) (fun g off cur hA hbg hnc hcm hl hfit ht' hG hb hcells => ?_)
     ·subst hA
      refine S_callN 1005 Tryz.call60 (c_CloneIntN _ _ (intC r) _ ⟨none, _, J, by simp at hq0; omega, by omega, by rw [hc]; simp [maxLen], by rw [intC_length]; simp, .inl hn⟩ (intC_one r)) rfl rfl rfl ?_;rintro v G' A'' ⟨A, c, base, rfl, rfl, rfl⟩ hext
      refine S_newRow 1005 J J ?_;refine S_base0 1005 J J ?_;refine back _ _ _ _ (by kernel_rfl) ?_; clear back
      refine Da J J ?_;refine Ns 10 J J J J J J J J J ?_;refine DD ?_;refine Va J J ?_;exact EK (1007 :: wKeys 2) (Res.t0 Tryz.results135) ⟨J, J⟩ (Wpp [_, _] kg spg J ‹_› J J J J J J J J) J (.blk J J (Wsub 10 J J J J J J J J J J J J J J J J (Bs 3 J J J J (Bs 3 J J J J .nil)))) XR
     ·subst hA
      refine S_callN 1005 Tryz.call60 (c_CloneIntN _ _ (intC r) _ ⟨_, _, J, by simp at hq0; omega, hnc, hcm, by rw [intC_length]; simp, .inr ⟨_, rfl, hcells⟩⟩ (intC_one r)) rfl rfl rfl ?_;rintro v G' A'' ⟨A, c, base, rfl, rfl, rfl⟩ hext
      refine S_newRow 1005 J J ?_;refine S_base0 1005 J J ?_;refine S_backO 2005 (base := 0) (PH.add_self _ _ _) hb (Nat.zero_le _) hnc hcm hl hfit ht' ?_
      rw [PH.del_add hG]
      refine back _ _ _ _ (by kernel_rfl) ?_; clear back
      refine Da J J ?_;refine Ns 10 J J J J J J J J J ?_;refine DD ?_;refine Va J J ?_;exact EK (1007 :: wKeys 2) (Res.t0 Tryz.results135) ⟨J, J⟩ (Wpp [_, _] kg spg J ‹_› J J J J J J J J) J (.blk J J (Wsub 10 J J J J J J J J J J J J J J J J (Bs 3 J J J J (Bs 3 J J J J .nil)))) XR
  ·rcases hQ : q1 with _ | ⟨f, r⟩
   ·subst hQ
    refine OpP 1 1 J J J J fun bp bc br bs bg kp sp asd ksd aq0 kq0 aq1 kq1 kc spc kr spr ks sps kg spg hbg hmk => ?_; obtain ⟨g0, g1, rfl⟩ := len2 hbg; clear hbg; refine NM J J ?_; dsimp only [wEnts, wCels, procCs, regEs, WX.of, vi]
    refine Va J J ?_;refine Ds J J J ?_;refine Da J J ?_;refine DD ?_;refine Va J J ?_;refine RT J J ?_;refine Va J J ?_;exact RK (1007 :: wKeys 2) (Res.t0 Tryz.results135) ⟨J, J⟩ (Wpp [_, _] kg spg J ‹_› J J J J J J J J) J (.blk J J (Wsub 10 J J J J J J J J J J J J J J J J (Bs 3 J J J J (Bs 3 J J J J .nil)))) XR
   ·subst hQ
    have hf := hf1 f (List.mem_cons_self ..)
    refine OpP 1 1 J J J J fun bp bc br bs bg kp sp asd ksd aq0 kq0 aq1 kq1 kc spc kr spr ks sps kg spg hbg hmk => ?_; obtain ⟨g0, g1, rfl⟩ := len2 hbg; clear hbg; refine NM J J ?_; dsimp only [wEnts, wCels, procCs, regEs, WX.of, vi]
    refine Va J J ?_;refine Ds J J J ?_;refine Da J J ?_;refine DD ?_;refine Va J J ?_;refine RF J (by simp; omega) ?_;refine Va J J ?_;refine S_capO 1006 J fun hnc0 _ _ => ?_;refine S_someO 1006 J (by simp at hnc0; omega) fun gq offq hAq => ?_
    subst hAq
    refine Ds J J J ?_
    rcases (by simp at hf; omega : f = 0 ∨ f = 1) with rfl | rfl
    ·refine Da J J ?_
     refine D_val 5 J J J J J J J J J (V_index Tk J J J J (by omega) (by simp)) ?_;refine D_val 6 J J J J J J J J J (V_loadR (o := 0) Tk 1006 J J J J J) ?_;refine Da J J ?_;refine DD ?_;refine Va J J ?_;refine Ds J J J ?_;refine Da J J ?_;refine Nt 7 J J J J J J fun back => ?_;refine S_tailO Tk 1006 J J J J J J (fun _ => J) fun A' => ?_;refine back _ _ _ _ (by kernel_rfl) ?_; clear back
     refine Da J J ?_;refine Nt 8 J J J J J J fun back => ?_;refine S_lendO 1006 J J (fun hA hn hc hx => ?_) (fun g off cur hA hbg hnc hcm hl hfit ht' hG hb hcells => ?_)
     ·subst hA
      refine S_callN 1006 Tryz.call60 (c_CloneIntN _ _ (intC r) _ ⟨none, _, J, by simp at hq1; omega, by omega, by rw [hc]; simp [maxLen], by rw [intC_length]; simp, .inl hn⟩ (intC_one r)) rfl rfl rfl ?_;rintro v G' A'' ⟨A, c, base, rfl, rfl, rfl⟩ hext
      refine S_newRow 1006 J J ?_;refine S_base0 1006 J J ?_;refine back _ _ _ _ (by kernel_rfl) ?_; clear back
      refine Da J J ?_;refine Ns 10 J J J J J J J J J ?_;refine DD ?_;refine Va J J ?_;exact EK (1007 :: wKeys 2) (Res.t0 Tryz.results135) ⟨J, J⟩ (Wpp [_, _] kg spg J ‹_› J J J J J J J J) J (.blk J J (Wsub 10 J J J J J J J J J J J J J J J J (Bs 3 J J J J (Bs 3 J J J J .nil)))) XR
     ·subst hA
      refine S_callN 1006 Tryz.call60 (c_CloneIntN _ _ (intC r) _ ⟨_, _, J, by simp at hq1; omega, hnc, hcm, by rw [intC_length]; simp, .inr ⟨_, rfl, hcells⟩⟩ (intC_one r)) rfl rfl rfl ?_;rintro v G' A'' ⟨A, c, base, rfl, rfl, rfl⟩ hext
      refine S_newRow 1006 J J ?_;refine S_base0 1006 J J ?_;refine S_backO 2005 (base := 0) (PH.add_self _ _ _) hb (Nat.zero_le _) hnc hcm hl hfit ht' ?_
      rw [PH.del_add hG]
      refine back _ _ _ _ (by kernel_rfl) ?_; clear back
      refine Da J J ?_;refine Ns 10 J J J J J J J J J ?_;refine DD ?_;refine Va J J ?_;exact EK (1007 :: wKeys 2) (Res.t0 Tryz.results135) ⟨J, J⟩ (Wpp [_, _] kg spg J ‹_› J J J J J J J J) J (.blk J J (Wsub 10 J J J J J J J J J J J J J J J J (Bs 3 J J J J (Bs 3 J J J J .nil)))) XR
    ·refine Da J J ?_
     refine D_val 5 J J J J J J J J J (V_index Tk J J J J (by omega) (by simp)) ?_;refine D_val 6 J J J J J J J J J (V_loadR (o := 0) Tk 1006 J J J J J) ?_;refine Da J J ?_;refine DD ?_;refine Va J J ?_;refine Ds J J J ?_;refine Da J J ?_;refine Nt 7 J J J J J J fun back => ?_;refine S_tailO Tk 1006 J J J J J J (fun _ => J) fun A' => ?_;refine back _ _ _ _ (by kernel_rfl) ?_; clear back
     refine Da J J ?_;refine Nt 8 J J J J J J fun back => ?_;refine S_lendO 1006 J J (fun hA hn hc hx => ?_) (fun g off cur hA hbg hnc hcm hl hfit ht' hG hb hcells => ?_)
     ·subst hA
      refine S_callN 1006 Tryz.call60 (c_CloneIntN _ _ (intC r) _ ⟨none, _, J, by simp at hq1; omega, by omega, by rw [hc]; simp [maxLen], by rw [intC_length]; simp, .inl hn⟩ (intC_one r)) rfl rfl rfl ?_;rintro v G' A'' ⟨A, c, base, rfl, rfl, rfl⟩ hext
      refine S_newRow 1006 J J ?_;refine S_base0 1006 J J ?_;refine back _ _ _ _ (by kernel_rfl) ?_; clear back
      refine Da J J ?_;refine Ns 10 J J J J J J J J J ?_;refine DD ?_;refine Va J J ?_;exact EK (1007 :: wKeys 2) (Res.t0 Tryz.results135) ⟨J, J⟩ (Wpp [_, _] kg spg J ‹_› J J J J J J J J) J (.blk J J (Wsub 10 J J J J J J J J J J J J J J J J (Bs 3 J J J J (Bs 3 J J J J .nil)))) XR
     ·subst hA
      refine S_callN 1006 Tryz.call60 (c_CloneIntN _ _ (intC r) _ ⟨_, _, J, by simp at hq1; omega, hnc, hcm, by rw [intC_length]; simp, .inr ⟨_, rfl, hcells⟩⟩ (intC_one r)) rfl rfl rfl ?_;rintro v G' A'' ⟨A, c, base, rfl, rfl, rfl⟩ hext
      refine S_newRow 1006 J J ?_;refine S_base0 1006 J J ?_;refine S_backO 2005 (base := 0) (PH.add_self _ _ _) hb (Nat.zero_le _) hnc hcm hl hfit ht' ?_
      rw [PH.del_add hG]
      refine back _ _ _ _ (by kernel_rfl) ?_; clear back
      refine Da J J ?_;refine Ns 10 J J J J J J J J J ?_;refine DD ?_;refine Va J J ?_;exact EK (1007 :: wKeys 2) (Res.t0 Tryz.results135) ⟨J, J⟩ (Wpp [_, _] kg spg J ‹_› J J J J J J J J) J (.blk J J (Wsub 10 J J J J J J J J J J J J J J J J (Bs 3 J J J J (Bs 3 J J J J .nil)))) XR
 ·rcases ha with rfl | rfl
  ·rcases hQ : q0 with _ | ⟨f, r⟩
   ·subst hQ
    refine OpP 1 1 J J J J fun bp bc br bs bg kp sp asd ksd aq0 kq0 aq1 kq1 kc spc kr spr ks sps kg spg hbg hmk => ?_; obtain ⟨g0, g1, g2, rfl⟩ := len3 hbg; clear hbg; refine NM J J ?_; dsimp only [wEnts, wCels, procCs, regEs, WX.of, vi]
    refine Va J J ?_;refine Ds J J J ?_;refine Da J J ?_;refine DD ?_;refine Va J J ?_;refine RT J J ?_;refine Va J J ?_;exact RK (1007 :: wKeys 3) (Res.t0 Tryz.results135) ⟨J, J⟩ (Wpp [_, _, _] kg spg J ‹_› J J J J J J J J) J (.blk J J (Wsub 15 J J J J J J J J J J J J J J J J (Bs 3 J J J J (Bs 3 J J J J (Bs 3 J J J J .nil))))) XR
   ·subst hQ
    have hf := hf0 f (List.mem_cons_self ..)
    refine OpP 1 1 J J J J fun bp bc br bs bg kp sp asd ksd aq0 kq0 aq1 kq1 kc spc kr spr ks sps kg spg hbg hmk => ?_; obtain ⟨g0, g1, g2, rfl⟩ := len3 hbg; clear hbg; refine NM J J ?_; dsimp only [wEnts, wCels, procCs, regEs, WX.of, vi]
    refine Va J J ?_;refine Ds J J J ?_;refine Da J J ?_;refine DD ?_;refine Va J J ?_;refine RF J (by simp; omega) ?_;refine Va J J ?_;refine S_capO 1005 J fun hnc0 _ _ => ?_;refine S_someO 1005 J (by simp at hnc0; omega) fun gq offq hAq => ?_
    subst hAq
    refine Ds J J J ?_
    rcases (by simp at hf; omega : f = 0 ∨ f = 1 ∨ f = 2) with rfl | rfl | rfl
    ·refine Da J J ?_
     refine D_val 5 J J J J J J J J J (V_index Tk J J J J (by omega) (by simp)) ?_;refine D_val 6 J J J J J J J J J (V_loadR (o := 0) Tk 1005 J J J J J) ?_;refine Da J J ?_;refine DD ?_;refine Va J J ?_;refine Ds J J J ?_;refine Da J J ?_;refine Nt 7 J J J J J J fun back => ?_;refine S_tailO Tk 1005 J J J J J J (fun _ => J) fun A' => ?_;refine back _ _ _ _ (by kernel_rfl) ?_; clear back
     refine Da J J ?_;refine Nt 8 J J J J J J fun back => ?_;refine S_lendO 1005 J J (fun hA hn hc hx => ?_) (fun g off cur hA hbg hnc hcm hl hfit ht' hG hb hcells => ?_)
     ·subst hA
      refine S_callN 1005 Tryz.call60 (c_CloneIntN _ _ (intC r) _ ⟨none, _, J, by simp at hq0; omega, by omega, by rw [hc]; simp [maxLen], by rw [intC_length]; simp, .inl hn⟩ (intC_one r)) rfl rfl rfl ?_;rintro v G' A'' ⟨A, c, base, rfl, rfl, rfl⟩ hext
      refine S_newRow 1005 J J ?_;refine S_base0 1005 J J ?_;refine back _ _ _ _ (by kernel_rfl) ?_; clear back
      refine Da J J ?_;refine Ns 10 J J J J J J J J J ?_;refine DD ?_;refine Va J J ?_;exact EK (1007 :: wKeys 3) (Res.t0 Tryz.results135) ⟨J, J⟩ (Wpp [_, _, _] kg spg J ‹_› J J J J J J J J) J (.blk J J (Wsub 15 J J J J J J J J J J J J J J J J (Bs 3 J J J J (Bs 3 J J J J (Bs 3 J J J J .nil))))) XR
     ·subst hA
      refine S_callN 1005 Tryz.call60 (c_CloneIntN _ _ (intC r) _ ⟨_, _, J, by simp at hq0; omega, hnc, hcm, by rw [intC_length]; simp, .inr ⟨_, rfl, hcells⟩⟩ (intC_one r)) rfl rfl rfl ?_;rintro v G' A'' ⟨A, c, base, rfl, rfl, rfl⟩ hext
      refine S_newRow 1005 J J ?_;refine S_base0 1005 J J ?_;refine S_backO 2005 (base := 0) (PH.add_self _ _ _) hb (Nat.zero_le _) hnc hcm hl hfit ht' ?_
      rw [PH.del_add hG]
      refine back _ _ _ _ (by kernel_rfl) ?_; clear back
      refine Da J J ?_;refine Ns 10 J J J J J J J J J ?_;refine DD ?_;refine Va J J ?_;exact EK (1007 :: wKeys 3) (Res.t0 Tryz.results135) ⟨J, J⟩ (Wpp [_, _, _] kg spg J ‹_› J J J J J J J J) J (.blk J J (Wsub 15 J J J J J J J J J J J J J J J J (Bs 3 J J J J (Bs 3 J J J J (Bs 3 J J J J .nil))))) XR
    ·refine Da J J ?_
     refine D_val 5 J J J J J J J J J (V_index Tk J J J J (by omega) (by simp)) ?_;refine D_val 6 J J J J J J J J J (V_loadR (o := 0) Tk 1005 J J J J J) ?_;refine Da J J ?_;refine DD ?_;refine Va J J ?_;refine Ds J J J ?_;refine Da J J ?_;refine Nt 7 J J J J J J fun back => ?_;refine S_tailO Tk 1005 J J J J J J (fun _ => J) fun A' => ?_;refine back _ _ _ _ (by kernel_rfl) ?_; clear back
     refine Da J J ?_;refine Nt 8 J J J J J J fun back => ?_;refine S_lendO 1005 J J (fun hA hn hc hx => ?_) (fun g off cur hA hbg hnc hcm hl hfit ht' hG hb hcells => ?_)
     ·subst hA
      refine S_callN 1005 Tryz.call60 (c_CloneIntN _ _ (intC r) _ ⟨none, _, J, by simp at hq0; omega, by omega, by rw [hc]; simp [maxLen], by rw [intC_length]; simp, .inl hn⟩ (intC_one r)) rfl rfl rfl ?_;rintro v G' A'' ⟨A, c, base, rfl, rfl, rfl⟩ hext
      refine S_newRow 1005 J J ?_;refine S_base0 1005 J J ?_;refine back _ _ _ _ (by kernel_rfl) ?_; clear back
      refine Da J J ?_;refine Ns 10 J J J J J J J J J ?_;refine DD ?_;refine Va J J ?_;exact EK (1007 :: wKeys 3) (Res.t0 Tryz.results135) ⟨J, J⟩ (Wpp [_, _, _] kg spg J ‹_› J J J J J J J J) J (.blk J J (Wsub 15 J J J J J J J J J J J J J J J J (Bs 3 J J J J (Bs 3 J J J J (Bs 3 J J J J .nil))))) XR
     ·subst hA
      refine S_callN 1005 Tryz.call60 (c_CloneIntN _ _ (intC r) _ ⟨_, _, J, by simp at hq0; omega, hnc, hcm, by rw [intC_length]; simp, .inr ⟨_, rfl, hcells⟩⟩ (intC_one r)) rfl rfl rfl ?_;rintro v G' A'' ⟨A, c, base, rfl, rfl, rfl⟩ hext
      refine S_newRow 1005 J J ?_;refine S_base0 1005 J J ?_;refine S_backO 2005 (base := 0) (PH.add_self _ _ _) hb (Nat.zero_le _) hnc hcm hl hfit ht' ?_
      rw [PH.del_add hG]
      refine back _ _ _ _ (by kernel_rfl) ?_; clear back
      refine Da J J ?_;refine Ns 10 J J J J J J J J J ?_;refine DD ?_;refine Va J J ?_;exact EK (1007 :: wKeys 3) (Res.t0 Tryz.results135) ⟨J, J⟩ (Wpp [_, _, _] kg spg J ‹_› J J J J J J J J) J (.blk J J (Wsub 15 J J J J J J J J J J J J J J J J (Bs 3 J J J J (Bs 3 J J J J (Bs 3 J J J J .nil))))) XR
    ·refine Da J J ?_
     refine D_val 5 J J J J J J J J J (V_index Tk J J J J (by omega) (by simp)) ?_;refine D_val 6 J J J J J J J J J (V_loadR (o := 0) Tk 1005 J J J J J) ?_;refine Da J J ?_;refine DD ?_;refine Va J J ?_;refine Ds J J J ?_;refine Da J J ?_;refine Nt 7 J J J J J J fun back => ?_;refine S_tailO Tk 1005 J J J J J J (fun _ => J) fun A' => ?_;refine back _ _ _ _ (by kernel_rfl) ?_; clear back
     refine Da J J ?_;refine Nt 8 J J J J J J fun back => ?_;refine S_lendO 1005 J J (fun hA hn hc hx => ?_) (fun g off cur hA hbg hnc hcm hl hfit ht' hG hb hcells => ?_)
     ·subst hA
      refine S_callN 1005 Tryz.call60 (c_CloneIntN _ _ (intC r) _ ⟨none, _, J, by simp at hq0; omega, by omega, by rw [hc]; simp [maxLen], by rw [intC_length]; simp, .inl hn⟩ (intC_one r)) rfl rfl rfl ?_;rintro v G' A'' ⟨A, c, base, rfl, rfl, rfl⟩ hext
      refine S_newRow 1005 J J ?_;refine S_base0 1005 J J ?_;refine back _ _ _ _ (by kernel_rfl) ?_; clear back
      refine Da J J ?_;refine Ns 10 J J J J J J J J J ?_;refine DD ?_;refine Va J J ?_;exact EK (1007 :: wKeys 3) (Res.t0 Tryz.results135) ⟨J, J⟩ (Wpp [_, _, _] kg spg J ‹_› J J J J J J J J) J (.blk J J (Wsub 15 J J J J J J J J J J J J J J J J (Bs 3 J J J J (Bs 3 J J J J (Bs 3 J J J J .nil))))) XR
     ·subst hA
      refine S_callN 1005 Tryz.call60 (c_CloneIntN _ _ (intC r) _ ⟨_, _, J, by simp at hq0; omega, hnc, hcm, by rw [intC_length]; simp, .inr ⟨_, rfl, hcells⟩⟩ (intC_one r)) rfl rfl rfl ?_;rintro v G' A'' ⟨A, c, base, rfl, rfl, rfl⟩ hext
      refine S_newRow 1005 J J ?_;refine S_base0 1005 J J ?_;refine S_backO 2005 (base := 0) (PH.add_self _ _ _) hb (Nat.zero_le _) hnc hcm hl hfit ht' ?_
      rw [PH.del_add hG]
      refine back _ _ _ _ (by kernel_rfl) ?_; clear back
      refine Da J J ?_;refine Ns 10 J J J J J J J J J ?_;refine DD ?_;refine Va J J ?_;exact EK (1007 :: wKeys 3) (Res.t0 Tryz.results135) ⟨J, J⟩ (Wpp [_, _, _] kg spg J ‹_› J J J J J J J J) J (.blk J J (Wsub 15 J J J J J J J J J J J J J J J J (Bs 3 J J J J (Bs 3 J J J J (Bs 3 J J J J .nil))))) XR
  ·rcases hQ : q1 with _ | ⟨f, r⟩
   ·subst hQ
    refine OpP 1 1 J J J J fun bp bc br bs bg kp sp asd ksd aq0 kq0 aq1 kq1 kc spc kr spr ks sps kg spg hbg hmk => ?_; obtain ⟨g0, g1, g2, rfl⟩ := len3 hbg; clear hbg; refine NM J J ?_; dsimp only [wEnts, wCels, procCs, regEs, WX.of, vi]
    refine Va J J ?_;refine Ds J J J ?_;refine Da J J ?_;refine DD ?_;refine Va J J ?_;refine RT J J ?_;refine Va J J ?_;exact RK (1007 :: wKeys 3) (Res.t0 Tryz.results135) ⟨J, J⟩ (Wpp [_, _, _] kg spg J ‹_› J J J J J J J J) J (.blk J J (Wsub 15 J J J J J J J J J J J J J J J J (Bs 3 J J J J (Bs 3 J J J J (Bs 3 J J J J .nil))))) XR
   ·subst hQ
    have hf := hf1 f (List.mem_cons_self ..)
    refine OpP 1 1 J J J J fun bp bc br bs bg kp sp asd ksd aq0 kq0 aq1 kq1 kc spc kr spr ks sps kg spg hbg hmk => ?_; obtain ⟨g0, g1, g2, rfl⟩ := len3 hbg; clear hbg; refine NM J J ?_; dsimp only [wEnts, wCels, procCs, regEs, WX.of, vi]
    refine Va J J ?_;refine Ds J J J ?_;refine Da J J ?_;refine DD ?_;refine Va J J ?_;refine RF J (by simp; omega) ?_;refine Va J J ?_;refine S_capO 1006 J fun hnc0 _ _ => ?_;refine S_someO 1006 J (by simp at hnc0; omega) fun gq offq hAq => ?_
    subst hAq
    refine Ds J J J ?_
    rcases (by simp at hf; omega : f = 0 ∨ f = 1 ∨ f = 2) with rfl | rfl | rfl
    ·refine Da J J ?_
     refine D_val 5 J J J J J J J J J (V_index Tk J J J J (by omega) (by simp)) ?_;refine D_val 6 J J J J J J J J J (V_loadR (o := 0) Tk 1006 J J J J J) ?_;refine Da J J ?_;refine DD ?_;refine Va J J ?_;refine Ds J J J ?_;refine Da J J ?_;refine Nt 7 J J J J J J fun back => ?_;refine S_tailO Tk 1006 J J J J J J (fun _ => J) fun A' => ?_;refine back _ _ _ _ (by kernel_rfl) ?_; clear back
     refine Da J J ?_;refine Nt 8 J J J J J J fun back => ?_;refine S_lendO 1006 J J (fun hA hn hc hx => ?_) (fun g off cur hA hbg hnc hcm hl hfit ht' hG hb hcells => ?_)
     ·subst hA
      refine S_callN 1006 Tryz.call60 (c_CloneIntN _ _ (intC r) _ ⟨none, _, J, by simp at hq1; omega, by omega, by rw [hc]; simp [maxLen], by rw [intC_length]; simp, .inl hn⟩ (intC_one r)) rfl rfl rfl ?_;rintro v G' A'' ⟨A, c, base, rfl, rfl, rfl⟩ hext
      refine S_newRow 1006 J J ?_;refine S_base0 1006 J J ?_;refine back _ _ _ _ (by kernel_rfl) ?_; clear back
      refine Da J J ?_;refine Ns 10 J J J J J J J J J ?_;refine DD ?_;refine Va J J ?_;exact EK (1007 :: wKeys 3) (Res.t0 Tryz.results135) ⟨J, J⟩ (Wpp [_, _, _] kg spg J ‹_› J J J J J J J J) J (.blk J J (Wsub 15 J J J J J J J J J J J J J J J J (Bs 3 J J J J (Bs 3 J J J J (Bs 3 J J J J .nil))))) XR
     ·subst hA
      refine S_callN 1006 Tryz.call60 (c_CloneIntN _ _ (intC r) _ ⟨_, _, J, by simp at hq1; omega, hnc, hcm, by rw [intC_length]; simp, .inr ⟨_, rfl, hcells⟩⟩ (intC_one r)) rfl rfl rfl ?_;rintro v G' A'' ⟨A, c, base, rfl, rfl, rfl⟩ hext
      refine S_newRow 1006 J J ?_;refine S_base0 1006 J J ?_;refine S_backO 2005 (base := 0) (PH.add_self _ _ _) hb (Nat.zero_le _) hnc hcm hl hfit ht' ?_
      rw [PH.del_add hG]
      refine back _ _ _ _ (by kernel_rfl) ?_; clear back
      refine Da J J ?_;refine Ns 10 J J J J J J J J J ?_;refine DD ?_;refine Va J J ?_;exact EK (1007 :: wKeys 3) (Res.t0 Tryz.results135) ⟨J, J⟩ (Wpp [_, _, _] kg spg J ‹_› J J J J J J J J) J (.blk J J (Wsub 15 J J J J J J J J J J J J J J J J (Bs 3 J J J J (Bs 3 J J J J (Bs 3 J J J J .nil))))) XR
    ·refine Da J J ?_
     refine D_val 5 J J J J J J J J J (V_index Tk J J J J (by omega) (by simp)) ?_;refine D_val 6 J J J J J J J J J (V_loadR (o := 0) Tk 1006 J J J J J) ?_;refine Da J J ?_;refine DD ?_;refine Va J J ?_;refine Ds J J J ?_;refine Da J J ?_;refine Nt 7 J J J J J J fun back => ?_;refine S_tailO Tk 1006 J J J J J J (fun _ => J) fun A' => ?_;refine back _ _ _ _ (by kernel_rfl) ?_; clear back
     refine Da J J ?_;refine Nt 8 J J J J J J fun back => ?_;refine S_lendO 1006 J J (fun hA hn hc hx => ?_) (fun g off cur hA hbg hnc hcm hl hfit ht' hG hb hcells => ?_)
     ·subst hA
      refine S_callN 1006 Tryz.call60 (c_CloneIntN _ _ (intC r) _ ⟨none, _, J, by simp at hq1; omega, by omega, by rw [hc]; simp [maxLen], by rw [intC_length]; simp, .inl hn⟩ (intC_one r)) rfl rfl rfl ?_;rintro v G' A'' ⟨A, c, base, rfl, rfl, rfl⟩ hext
      refine S_newRow 1006 J J ?_;refine S_base0 1006 J J ?_;refine back _ _ _ _ (by kernel_rfl) ?_; clear back
      refine Da J J ?_;refine Ns 10 J J J J J J J J J ?_;refine DD ?_;refine Va J J ?_;exact EK (1007 :: wKeys 3) (Res.t0 Tryz.results135) ⟨J, J⟩ (Wpp [_, _, _] kg spg J ‹_› J J J J J J J J) J (.blk J J (Wsub 15 J J J J J J J J J J J J J J J J (Bs 3 J J J J (Bs 3 J J J J (Bs 3 J J J J .nil))))) XR
     ·subst hA
      refine S_callN 1006 Tryz.call60 (c_CloneIntN _ _ (intC r) _ ⟨_, _, J, by simp at hq1; omega, hnc, hcm, by rw [intC_length]; simp, .inr ⟨_, rfl, hcells⟩⟩ (intC_one r)) rfl rfl rfl ?_;rintro v G' A'' ⟨A, c, base, rfl, rfl, rfl⟩ hext
      refine S_newRow 1006 J J ?_;refine S_base0 1006 J J ?_;refine S_backO 2005 (base := 0) (PH.add_self _ _ _) hb (Nat.zero_le _) hnc hcm hl hfit ht' ?_
      rw [PH.del_add hG]
      refine back _ _ _ _ (by kernel_rfl) ?_; clear back
      refine Da J J ?_;refine Ns 10 J J J J J J J J J ?_;refine DD ?_;refine Va J J ?_;exact EK (1007 :: wKeys 3) (Res.t0 Tryz.results135) ⟨J, J⟩ (Wpp [_, _, _] kg spg J ‹_› J J J J J J J J) J (.blk J J (Wsub 15 J J J J J J J J J J J J J J J J (Bs 3 J J J J (Bs 3 J J J J (Bs 3 J J J J .nil))))) XR
    ·refine Da J J ?_
     refine D_val 5 J J J J J J J J J (V_index Tk J J J J (by omega) (by simp)) ?_;refine D_val 6 J J J J J J J J J (V_loadR (o := 0) Tk 1006 J J J J J) ?_;refine Da J J ?_;refine DD ?_;refine Va J J ?_;refine Ds J J J ?_;refine Da J J ?_;refine Nt 7 J J J J J J fun back => ?_;refine S_tailO Tk 1006 J J J J J J (fun _ => J) fun A' => ?_;refine back _ _ _ _ (by kernel_rfl) ?_; clear back
     refine Da J J ?_;refine Nt 8 J J J J J J fun back => ?_;refine S_lendO 1006 J J (fun hA hn hc hx => ?_) (fun g off cur hA hbg hnc hcm hl hfit ht' hG hb hcells => ?_)
     ·subst hA
      refine S_callN 1006 Tryz.call60 (c_CloneIntN _ _ (intC r) _ ⟨none, _, J, by simp at hq1; omega, by omega, by rw [hc]; simp [maxLen], by rw [intC_length]; simp, .inl hn⟩ (intC_one r)) rfl rfl rfl ?_;rintro v G' A'' ⟨A, c, base, rfl, rfl, rfl⟩ hext
      refine S_newRow 1006 J J ?_;refine S_base0 1006 J J ?_;refine back _ _ _ _ (by kernel_rfl) ?_; clear back
      refine Da J J ?_;refine Ns 10 J J J J J J J J J ?_;refine DD ?_;refine Va J J ?_;exact EK (1007 :: wKeys 3) (Res.t0 Tryz.results135) ⟨J, J⟩ (Wpp [_, _, _] kg spg J ‹_› J J J J J J J J) J (.blk J J (Wsub 15 J J J J J J J J J J J J J J J J (Bs 3 J J J J (Bs 3 J J J J (Bs 3 J J J J .nil))))) XR
     ·subst hA
      refine S_callN 1006 Tryz.call60 (c_CloneIntN _ _ (intC r) _ ⟨_, _, J, by simp at hq1; omega, hnc, hcm, by rw [intC_length]; simp, .inr ⟨_, rfl, hcells⟩⟩ (intC_one r)) rfl rfl rfl ?_;rintro v G' A'' ⟨A, c, base, rfl, rfl, rfl⟩ hext
      refine S_newRow 1006 J J ?_;refine S_base0 1006 J J ?_;refine S_backO 2005 (base := 0) (PH.add_self _ _ _) hb (Nat.zero_le _) hnc hcm hl hfit ht' ?_
      rw [PH.del_add hG]
      refine back _ _ _ _ (by kernel_rfl) ?_; clear back
      refine Da J J ?_;refine Ns 10 J J J J J J J J J ?_;refine DD ?_;refine Va J J ?_;exact EK (1007 :: wKeys 3) (Res.t0 Tryz.results135) ⟨J, J⟩ (Wpp [_, _, _] kg spg J ‹_› J J J J J J J J) J (.blk J J (Wsub 15 J J J J J J J J J J J J J J J J (Bs 3 J J J J (Bs 3 J J J J (Bs 3 J J J J .nil))))) XR
end
section
attribute [local irreducible] X Pure Mod
theorem c_insert (i : Nat) (hi : i = 0 ∨ i = 1 ∨ i = 2) (b : Nat) (pre rest : List Value) (x0 tv : Value) (hpre : pre.length = 5 * i) (L1 L2 : List Stm) (v : Value) (G : PH) (h1 : Sts G L1 v) (h2 : Sts G L2 tv) (hlen : L1.length + L2.length ≤ 1000000000) :
  Mod Tryz.prog 114 [.pointer (some ⟨b, 5 * i, none⟩), v] G (blkHP b 73 (pre ++ x0 :: tv :: rest)) fun _ G' A' => ∃ tv', Sts G' (L1 ++ L2) tv' ∧ A' = blkHP b 73 (pre ++ x0 :: tv' :: rest) := by
 obtain ⟨A0, c0, rfl, _⟩ := id h1
 obtain ⟨A2, c2, rfl, _⟩ := id h2
 refine Mod.intro Tryz.func114 Tryz.ntmps114 J J fun w S => ?_;refine S_unpack 1 [900] rfl rfl (by rintro _ _ ⟨rfl, rfl⟩; rfl) rfl ?_;rintro _ _ ⟨rfl, rfl⟩
 refine NM J J ?_;refine S_reE 0 (.ptr 900 (5 * i)) J J ?_;refine Va J J ?_;refine Ds J J J ?_
 rcases hi with rfl | rfl | rfl
 ·obtain rfl : pre = [] := List.eq_nil_of_length_eq_zero (by simpa using hpre)
  refine Da J J ?_;refine D_sole 2 J J (N_call 2 Tryz.call52 (c_copyStmts L1 _ _ h1) J J J J J J J J J J ?_)
  rintro v1 G1 hv1 hext1
  obtain ⟨A1, c1, rfl, _⟩ := id hv1
  obtain ⟨xs1, hx1, hc1⟩ := Sr_Sx (fun s cs h => Stm.rep_len h) hv1
  obtain ⟨xs2, hx2, hc2⟩ := Sr_Sx (fun s cs h => Stm.rep_len h) (Sts_le hext1.le h2)
  refine Da J J ?_;refine Nt 7 J J J J J J fun back => ?_;refine S_slice Tk ZT_ok J J J J (by decide) (by decide) J J J J fun b11 => ?_;refine back _ _ _ _ (by kernel_rfl) ?_; clear back
  refine Da J J ?_;refine Nt 8 J J J J J J fun back => ?_;refine S_lendB 11 J J J J fun hG hb => ?_;refine S_call Tryz.call129 (c_Concat _ _ _ _ _ xs1 xs2 _ ⟨_, _, J, by omega, by omega, by simp [maxLen], J, .inr ⟨_, J, gcells_own⟩⟩ (Sx_le (le_add hG) hx1) (Sx_le (le_add hG) hx2) (Cs_one Stm.rep_one hc1) (Cs_one Stm.rep_one hc2) hlen) J J J ?_;rintro v' G3 hv' hext3
  obtain ⟨A', c', rfl, _⟩ := id hv'
  refine S_backB 11 [.v (.slice A1 L1.length c1), .v (.slice A2 L2.length c2)] (hext3.le _ _ (PH.add_self _ _ _)) J J hb ?_;refine back _ _ _ _ (by kernel_rfl) ?_; clear back
  refine Da J J ?_;refine Ns 11 J J J J J J J J J ?_;refine DD ?_;refine Va J J ?_
  have hle := le_del hext3.le hG
  refine EK [900] (Res.t0 Tryz.results114) ⟨_, ?_, J⟩ ⟨J, J⟩ J (Bs 2 J J J J .nil) (hext1.trans (PH.ext.del hG hext3))
  refine Sx_Sr (Sx_le newp_add_le hv') (by simp) (Cs_append2 (Cs_mono (Stm.reps_le hle L1) hc1) (Cs_mono (Stm.reps_le hle L2) hc2))
 ·obtain ⟨y0, y1, y2, y3, y4, rfl⟩ : ∃ y0 y1 y2 y3 y4, pre = [y0, y1, y2, y3, y4] := by
   match pre, hpre with
   | [y0, y1, y2, y3, y4], _ => exact ⟨_, _, _, _, _, rfl⟩
  refine Da J J ?_;refine D_sole 2 J J (N_call 2 Tryz.call52 (c_copyStmts L1 _ _ h1) J J J J J J J J J J ?_)
  rintro v1 G1 hv1 hext1
  obtain ⟨A1, c1, rfl, _⟩ := id hv1
  obtain ⟨xs1, hx1, hc1⟩ := Sr_Sx (fun s cs h => Stm.rep_len h) hv1
  obtain ⟨xs2, hx2, hc2⟩ := Sr_Sx (fun s cs h => Stm.rep_len h) (Sts_le hext1.le h2)
  refine Da J J ?_;refine Nt 7 J J J J J J fun back => ?_;refine S_slice Tk ZT_ok J J J J (by decide) (by decide) J J J J fun b11 => ?_;refine back _ _ _ _ (by kernel_rfl) ?_; clear back
  refine Da J J ?_;refine Nt 8 J J J J J J fun back => ?_;refine S_lendB 11 J J J J fun hG hb => ?_;refine S_call Tryz.call129 (c_Concat _ _ _ _ _ xs1 xs2 _ ⟨_, _, J, by omega, by omega, by simp [maxLen], J, .inr ⟨_, J, gcells_own⟩⟩ (Sx_le (le_add hG) hx1) (Sx_le (le_add hG) hx2) (Cs_one Stm.rep_one hc1) (Cs_one Stm.rep_one hc2) hlen) J J J ?_;rintro v' G3 hv' hext3
  obtain ⟨A', c', rfl, _⟩ := id hv'
  refine S_backB 11 [.v (.slice A1 L1.length c1), .v (.slice A2 L2.length c2)] (hext3.le _ _ (PH.add_self _ _ _)) J J hb ?_;refine back _ _ _ _ (by kernel_rfl) ?_; clear back
  refine Da J J ?_;refine Ns 11 J J J J J J J J J ?_;refine DD ?_;refine Va J J ?_
  have hle := le_del hext3.le hG
  refine EK [900] (Res.t0 Tryz.results114) ⟨_, ?_, J⟩ ⟨J, J⟩ J (Bs 7 J J J J .nil) (hext1.trans (PH.ext.del hG hext3))
  refine Sx_Sr (Sx_le newp_add_le hv') (by simp) (Cs_append2 (Cs_mono (Stm.reps_le hle L1) hc1) (Cs_mono (Stm.reps_le hle L2) hc2))
 ·obtain ⟨y0, y1, y2, y3, y4, y5, y6, y7, y8, y9, rfl⟩ : ∃ y0 y1 y2 y3 y4 y5 y6 y7 y8 y9, pre = [y0, y1, y2, y3, y4, y5, y6, y7, y8, y9] := by
   match pre, hpre with
   | [y0, y1, y2, y3, y4, y5, y6, y7, y8, y9], _ => exact ⟨_, _, _, _, _, _, _, _, _, _, rfl⟩
  refine Da J J ?_;refine D_sole 2 J J (N_call 2 Tryz.call52 (c_copyStmts L1 _ _ h1) J J J J J J J J J J ?_)
  rintro v1 G1 hv1 hext1
  obtain ⟨A1, c1, rfl, _⟩ := id hv1
  obtain ⟨xs1, hx1, hc1⟩ := Sr_Sx (fun s cs h => Stm.rep_len h) hv1
  obtain ⟨xs2, hx2, hc2⟩ := Sr_Sx (fun s cs h => Stm.rep_len h) (Sts_le hext1.le h2)
  refine Da J J ?_;refine Nt 7 J J J J J J fun back => ?_;refine S_slice Tk ZT_ok J J J J (by decide) (by decide) J J J J fun b11 => ?_;refine back _ _ _ _ (by kernel_rfl) ?_; clear back
  refine Da J J ?_;refine Nt 8 J J J J J J fun back => ?_;refine S_lendB 11 J J J J fun hG hb => ?_;refine S_call Tryz.call129 (c_Concat _ _ _ _ _ xs1 xs2 _ ⟨_, _, J, by omega, by omega, by simp [maxLen], J, .inr ⟨_, J, gcells_own⟩⟩ (Sx_le (le_add hG) hx1) (Sx_le (le_add hG) hx2) (Cs_one Stm.rep_one hc1) (Cs_one Stm.rep_one hc2) hlen) J J J ?_;rintro v' G3 hv' hext3
  obtain ⟨A', c', rfl, _⟩ := id hv'
  refine S_backB 11 [.v (.slice A1 L1.length c1), .v (.slice A2 L2.length c2)] (hext3.le _ _ (PH.add_self _ _ _)) J J hb ?_;refine back _ _ _ _ (by kernel_rfl) ?_; clear back
  refine Da J J ?_;refine Ns 11 J J J J J J J J J ?_;refine DD ?_;refine Va J J ?_
  have hle := le_del hext3.le hG
  refine EK [900] (Res.t0 Tryz.results114) ⟨_, ?_, J⟩ ⟨J, J⟩ J (Bs 12 J J J J .nil) (hext1.trans (PH.ext.del hG hext3))
  refine Sx_Sr (Sx_le newp_add_le hv') (by simp) (Cs_append2 (Cs_mono (Stm.reps_le hle L1) hc1) (Cs_mono (Stm.reps_le hle L2) hc2))
theorem c_insertS (i : Nat) (hi : i = 0 ∨ i = 1 ∨ i = 2) (b : Nat) (pre rest : List Value) (x0 tv : Value) (hpre : pre.length = 5 * i) (L1 L2 : List Stm) (v : Value) (G : PH) (h1 : Sts G L1 v) (h2 : Sts G L2 tv) (hlen : L1.length + L2.length ≤ 1000000000) :
  Mod Tryz.prog 114 [.pointer (some ⟨b, 5 * i, none⟩), v] G (blkHP b 73 (pre ++ x0 :: tv :: rest)) fun _ G' A' => ∃ tv', Sts G' (L1 ++ L2) tv' ∧ A' = blkHP b 73 ((pre ++ x0 :: tv :: rest).set (5 * i + 1) tv') := by
 have e : ∀ tv', (pre ++ x0 :: tv :: rest).set (5 * i + 1) tv' = pre ++ x0 :: tv' :: rest := by
  intro tv'
  rw [List.set_append_right _ _ (by omega), hpre]
  simp
 simp only [e]
 exact c_insert i hi b pre rest x0 tv hpre L1 L2 v G h1 h2 hlen
end
end Go.Proofs.YtcbdilccmjpnbaaGreat
