/- Walks of the program's functions, one after the other (part 12); without conditions of their own. -/
import Derived.Test.YtcbdilccmjpnbaaGreatDoorWM2
import Derived.Test.YtcbdilccmjpnbaaGreatDoorWM10
set_option linter.unusedVariables false
set_option linter.unusedSimpArgs false
set_option maxRecDepth 100000
set_option maxHeartbeats 4000000
open Go.RowKit
namespace Go.Proofs.YtcbdilccmjpnbaaGreatDoor
section
attribute [local irreducible] X Pure Mod
theorem prgs_cnt {G : PH} {p : List (List Stm)} {v : Value} (hc : cntP p ≤ 1048576) (h : Prg G p v) : PrgS G p v :=
 ⟨h, fun l hl => Sh_cnt (by have := cntP_mem hl; omega), by have := len_cntP p; omega⟩
theorem szR_two (c : Nat) : (c ≤ 1048576 ∧ szR c 1048576 = 1048576 - (c : Int)) ∨ (¬ c ≤ 1048576 ∧ szR c 1048576 = -1) := by
 unfold szR
 by_cases h : c ≤ 1048576
 ·exact .inl ⟨h, by rw [if_pos (by omega)]⟩
 ·exact .inr ⟨h, by rw [if_neg (by omega)]⟩
theorem c_FnExactAllStuck (p : List (List Stm)) (v0 : Value) (G : PH) (hTab : TabG G) (hp0 : Prg0 G p v0) : Pure Tryz.prog 4 [v0] G fun v G' => v = .bool true := by
 obtain ⟨Ap, cp, rfl, _⟩ := id hp0
 refine Pure.intro Tryz.func4 Tryz.ntmps4 J J fun w => ?_; refine Va J J ?_;refine S_call Tryz.call6 (c_szSS p _ 1048576 _ hp0 (by omega) (by omega)) J J J ?_;rintro v1 G1 ⟨rfl, rfl⟩ _
 rcases szR_two (cntP p) with ⟨hc, hz⟩ | ⟨hc, hz⟩ <;> rw [hz]
 rotate_left
 ·refine Va J J ?_
  refine RT J J ?_;refine Va J J ?_;exact S_retp (Res.t1 Tryz.results4 J J) XR J
 refine Va J J ?_;refine RF J (by simp; omega) ?_;refine Va J J ?_
 have hp := prg0_ok hc hp0
 refine S_call Tryz.call8 (c_toSS p _ _ hp hc) J J J ?_;rintro v2 G2 hp2 hext2
 obtain ⟨A2, c2, rfl, _⟩ := id hp2
 refine Va J J ?_;refine S_call Tryz.call11 (c_sAllStuck p _ _ (prgs_cnt hc hp2)) J J J ?_;rintro v3 G3 rfl hext3
 refine Va J J ?_
 have hx3 := hext2.trans hext3
 refine S_call Tryz.call8 (c_toSS p _ _ (Prg_le hx3.le hp) hc) J J J ?_;rintro v4 G4 hp4 hext4
 obtain ⟨A4, c4, rfl, _⟩ := id hp4
 have hx4 := hx3.trans hext4
 refine Va J J ?_;refine S_call Tryz.call12 (c_iAllStuck p _ _ (prgs_cnt hc hp4) (TabG_le hx4.le hTab)) J J J ?_;rintro v5 G5 ⟨rfl, rfl⟩ _
 refine Va J J ?_
 generalize (endsP p).isSome = ok
 generalize stuckP p = st
 refine S_valV J J J (V_neqB g_boolY u_boolY J J) ?_;refine Va J J ?_;refine GF J J (by simp) ?_;refine Va J J ?_;refine S_valV J J J (V_neqB g_boolY u_boolY J J) ?_;refine Va J J ?_;refine RF J (by simp) ?_;refine Va J J ?_;refine S_call Tryz.call8 (c_toSS p _ _ (Prg_le hx4.le hp) hc) J J J ?_;rintro v6 G6 hp6 hext6
 obtain ⟨A6, c6, rfl, _⟩ := id hp6
 have hx6 := hx4.trans hext6
 refine Va J J ?_;refine S_call Tryz.call10 (c_eqSS p _ _ _ (Prg_le hext6.le hp4) hp6) J J J ?_;rintro v7 G7 ⟨rfl, rfl⟩ _
 refine Va J J ?_;refine RF J J ?_;refine Va J J ?_;exact S_retp (Res.t1 Tryz.results4 J J) hx6 J
end
end Go.Proofs.YtcbdilccmjpnbaaGreatDoor
