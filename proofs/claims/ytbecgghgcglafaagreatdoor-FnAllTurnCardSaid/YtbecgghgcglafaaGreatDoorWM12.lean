/- Walks of the program's functions, one after the other (part 12); without conditions of their own. -/
import Derived.Test.YtbecgghgcglafaaGreatDoorWM7
import Derived.Test.YtbecgghgcglafaaGreatDoorWM8
import Derived.Test.YtbecgghgcglafaaGreatDoorWM10
import Derived.Test.YtbecgghgcglafaaGreatDoorWM11
import Derived.Test.YtbecgghgcglafaaGreatDoorWM2
import Derived.Below
import Derived.ChangeOld
import Derived.ChangeShapes
import Derived.LaidMore
import Derived.MakeChecks
import Derived.OpenShut
import Derived.ProofKit
import Derived.ShutString
import Derived.Stop.LaidErr
import Derived.Test.YtbecgghgcglafaaGreatDoorRows
import Derived.WalkKit
set_option linter.unusedVariables false
set_option linter.unusedSimpArgs false
set_option maxRecDepth 100000
set_option maxHeartbeats 4000000
open Go.RowKit
namespace Go.Proofs.YtbecgghgcglafaaGreatDoor
section
attribute [local irreducible] X Pure Mod
theorem Cs_app {α : Type} {sz : Nat} {rep : α → List Value → Prop} {l l' : List α} {xs ys : List Value} (h : Cs sz rep l xs) (h' : Cs sz rep l' ys) : Cs sz rep (l ++ l') (xs ++ ys) := Cs_append2 h h'
def progV (v : Value) (G : PH) : Prop := ∃ p, PrgS G p v
def kG : Nat := 1 + 3 * kS + 1 + 12
theorem c_l2Progs (b : Nat) (l : List Int) (sv : Value) (N : Nat) (G : PH) (hl : Byts G l sv) (hN : N + kG ≤ 1000000000) : Drw 23 b sv [] N kG G progV := by
 obtain ⟨A, c, rfl, hl1, _⟩ := id hl
 have hkG : kG = 1 + 3 * kS + 1 + 12 := rfl
 refine Mod.intro Tryz.func23 Tryz.ntmps23 J J fun w S => ?_;refine Va J J ?_;refine S_callPr 1 7 Tryz.call41 (c_l2Prog b l _ _ G hl (by omega)) J J J J (fun _ => J) ?_;rintro v G3 A' B' ⟨rfl, A1, n1, c1, xs1, base1, rfl, rfl, p, rfl, hp1, hp3, hcs, hsh⟩ hext3
 refine S_newRow 7 J J ?_;refine S_capO 7 J fun hnc1 hcm1 _ => ?_;refine S_someO 7 J (by omega) fun gp offp eA => ?_
 subst eA
 refine Va J J ?_;refine S_callM 1 Tryz.call22 (c_pick b l _ _ _ _ (Byts_le hext3.le hl) ⟨by omega, by omega⟩ (by omega)) J J J J (fun _ => J) ?_;rintro v G2 A' ⟨rfl, rfl, m, rfl, hm0, hm1⟩ _
 refine Va J J ?_
 have hsh' : ∀ q ∈ p, Sh q := fun q hq => (hsh q hq).1
 have hxl := Cs_length hcs
 refine S_condp J (fun h0 => ?_) (fun h0 => ?_) <;> refine Va J J ?_
 ·have hx1 : ∀ u ∈ xs1, u.oneCell' = true := Cs_one stsRep_one hcs
  refine S_nilO (base := w.heap.size) (e := 36) (size := 1) 8 ?_
  refine S_appSplit Tk 7 8 J J J J J J J J J J J J J J (fun _ _ => J) (src_row 7 J) hx1 (by simp only; omega) (by simp only [maxLen]; omega) (Nat.le_refl _) (.inr (Nat.le_refl _)) (fun hroom => ?_) (fun hroom g8 c8 => ?_) <;> refine Va J J ?_
  ·refine S_appO Tk 7 J J J J J J J J J J J (fun _ _ => J) (src_pre 7 J (by omega) (by show List.take (p.length * 1) _ = _; rw [← hxl, List.take_left])) hx1 (by simp only; omega) (by simp only [maxLen]; omega) (Nat.le_refl _) fun A4 c4 => ?_
   refine Va J J ?_;refine S_freezeR 7 J J (Nat.le_refl _) fun G9 hext9 hnc9 hcm9 hcl9 => ?_
   have hP : Prg G9 ((p ++ p ++ p)) _ := frzL (newp_le _ _) (Cs_mono (fun _ _ _ h => stsRep_le hext9.le h) ((Cs_app (Cs_app hcs hcs) hcs))) (by simp <;> omega) (by omega) hnc9 hcm9 hcl9
   refine S_rdLe 1 (N + kG) (by omega) J J ?_;exact S_retm 1 (Res.t1 Tryz.results23 J J) J (hext3.trans hext9) ⟨J, p ++ p ++ p, by simpa using hP, by intro q hq; simp at hq; exact hsh' q hq, by simp; omega⟩
  ·refine S_appO Tk 8 J J J J J J J J J J J (fun _ _ => J) (src_row 7 J) hx1 (by simp only; omega) (by simp only [maxLen]; omega) (Nat.le_refl _) fun A4 c4 => ?_
   refine Va J J ?_;refine S_freezeR 8 J J (Nat.le_refl _) fun G9 hext9 hnc9 hcm9 hcl9 => ?_
   have hP : Prg G9 ((p ++ p ++ p)) _ := frzL (newp_le _ _) (Cs_mono (fun _ _ _ h => stsRep_le hext9.le h) ((Cs_app (Cs_app hcs hcs) hcs))) (by simp <;> omega) (by omega) hnc9 hcm9 hcl9
   refine S_rdLe 1 (N + kG) (by omega) J J ?_;exact S_retm 1 (Res.t1 Tryz.results23 J J) J (hext3.trans hext9) ⟨J, p ++ p ++ p, by simpa using hP, by intro q hq; simp at hq; exact hsh' q hq, by simp; omega⟩
 refine S_condp J (fun h1 => ?_) (fun h1 => ?_) <;> refine Va J J ?_
 ·refine S_emptyO Tk 8 J J J J fun A8 => ?_
  refine Va J J ?_;refine S_freezeR 8 J J (Nat.le_refl _) fun G9 hext9 hnc9 hcm9 hcl9 => ?_
  have hP : Prg G9 ([]) _ := frzL (newp_le _ _) (Cs_mono (fun _ _ _ h => stsRep_le hext9.le h) (rfl)) (by simp <;> omega) (by omega) hnc9 hcm9 hcl9
  refine S_rdLe 1 (N + kG) (by omega) J J ?_;exact S_retm 1 (Res.t1 Tryz.results23 J J) J (hext3.trans hext9) ⟨J, [], hP, by simp, by simp⟩
 refine S_condp J (fun h2 => ?_) (fun h2 => ?_) <;> refine Va J J ?_
 ·obtain ⟨pv0, e0, hv0, hset0⟩ := sts_at hcs (i := 0) (by omega)
  obtain ⟨Ap0, cp0, rfl, _⟩ := id hv0
  refine S_index Tk J J J J J J (by omega) (by omega) ?_;refine Va J J ?_;refine S_valV J J J (V_loadR' Tk 7 J J (by simp [add_lit']) J J e0) ?_;refine Va J J ?_;refine S_callM 1 Tryz.call42 (c_l2Bent b l _ _ _ _ _ (Byts_le hext3.le hl) hv0 (hsh' _ (List.getElem_mem _)) (by omega)) J J J J (fun _ => J) ?_;rintro v G11 A' ⟨rfl, l11, hv11, hs11⟩ hx11
  obtain ⟨Ap1, cp1, rfl, _⟩ := id hv11
  refine Va J J ?_;refine S_callM 1 Tryz.call42 (c_l2Bent b l _ _ _ _ _ (Byts_le (hext3.trans hx11).le hl) hv11 hs11 (by omega)) J J J J (fun _ => J) ?_;rintro v G12 A' ⟨rfl, l12, hv12, hs12⟩ hx12
  obtain ⟨Ap2, cp2, rfl, _⟩ := id hv12
  refine Va J J ?_;refine S_callM 1 Tryz.call42 (c_l2Bent b l _ _ _ _ _ (Byts_le ((hext3.trans hx11).trans hx12).le hl) hv12 hs12 (by omega)) J J J J (fun _ => J) ?_;rintro v G13 A' ⟨rfl, l13, hv13, hs13⟩ hx13
  obtain ⟨Ap3, cp3, rfl, _⟩ := id hv13
  refine Va J J ?_;refine S_callM 1 Tryz.call42 (c_l2Bent b l _ _ _ _ _ (Byts_le (((hext3.trans hx11).trans hx12).trans hx13).le hl) hv13 hs13 (by omega)) J J J J (fun _ => J) ?_;rintro v G14 A' ⟨rfl, l14, hv14, hs14⟩ hx14
  obtain ⟨Ap4, cp4, rfl, _⟩ := id hv14
  refine Va J J ?_;refine S_index Tk J J J J J J (by omega) (by omega) ?_;refine Va J J ?_;refine S_storeO Tk 7 (o := 0) J J J (by simp [add_lit']) J J J J J (by omega) J ?_;refine Va J J ?_
  have hxx := ((hx11.trans hx12).trans hx13).trans hx14
  have hcs14 := (sts_at (Cs_mono (fun _ _ _ h => stsRep_le hxx.le h) hcs) (i := 0) (by omega)).choose_spec.2.2 _ _ hv14
  have hsh14 : ∀ q ∈ List.set p 0 l14, Sh q := by
   intro q hq
   rcases List.mem_or_eq_of_mem_set hq with hq | rfl
   ·exact hsh' q hq
   ·exact hs14
  refine S_freezeR 7 J J (Nat.le_refl _) fun G9 hext9 hnc9 hcm9 hcl9 => ?_
  have hP : Prg G9 ((p.set 0 l14)) _ := frzL (newp_le _ _) (Cs_mono (fun _ _ _ h => stsRep_le hext9.le h) (hcs14)) (by simp <;> omega) (by omega) hnc9 hcm9 hcl9
  refine S_rdLe 1 (N + kG) (by omega) J J ?_;exact S_retm 1 (Res.t1 Tryz.results23 J J) J ((hext3.trans hxx).trans hext9) ⟨J, p.set 0 l14, by simpa using hP, hsh14, by simp; omega⟩
 ·refine S_freezeR 7 J J (Nat.le_refl _) fun G9 hext9 hnc9 hcm9 hcl9 => ?_
  have hP : Prg G9 (p) _ := frzL (newp_le _ _) (Cs_mono (fun _ _ _ h => stsRep_le hext9.le h) (hcs)) (by simp <;> omega) (by omega) hnc9 hcm9 hcl9
  refine S_rdLe 1 (N + kG) (by omega) J J ?_;exact S_retm 1 (Res.t1 Tryz.results23 J J) J (hext3.trans hext9) ⟨J, p, hP, hsh', by omega⟩
end
section
attribute [local irreducible] X Pure Mod
def prgO (n : Nat) (xs : List Value) (G : PH) : Prop := ∃ p : List (List Stm), n = p.length ∧ 1 ≤ p.length ∧ p.length ≤ 3 ∧ Cs 1 (stsRep G) p xs ∧ ∀ l ∈ p, Sh l
theorem c_l6SomeL (b : Nat) (l : List Int) (sv : Value) (N : Nat) (G : PH) (hl : Byts G l sv) (hN : N + kP ≤ 1000000000) : Mod Tryz.prog 43 [.pointer (some ⟨b, 0, none⟩)] G (rdHP b sv N) fun v G' R => ∃ A' B', R = pairHP A' B' ∧ Covers (rdHP b sv N) A' ∧ A' = rdHP b sv (N + kP) ∧ ∃ A n c xs base ov, v = .tuple #[.slice A n c, ov] ∧ B' = rowO base 36 1 A n c xs ∧ prgO n xs G' := by
 obtain ⟨A, c, rfl, hl1, _⟩ := id hl
 have hkP : kP = 20 + 3 * kS := rfl
 refine Mod.intro Tryz.func43 Tryz.ntmps43 J J fun w S => ?_;refine Va J J ?_;refine S_emptyO Tk 6 J J J J fun A0 => ?_;refine Va J J ?_;refine S_loop (α := Nat × Option Addr × Nat × List Int) (fun y => y.1 ≤ 5 ∧ y.2.2.2.length = y.1 ∧ ∀ x ∈ y.2.2.2, I64 x) (fun y => 5 - y.1) []
  (fun y => [(5, .val (.int .i64 (y.1 : Nat))), (4, .val (.slice y.2.1 y.2.2.2.length y.2.2.1)), (0, .val (.pointer (some ⟨b, 0, none⟩))), (2, .val (.slice none 0 0)), (3, .val (.slice none 0 0))])
  (fun y => [.hp 6 (rowO w.heap.size 3 1 y.2.1 y.2.2.2.length y.2.2.1 (intC y.2.2.2)), .hp 1 (rdHP b (.slice A l.length c) (N + y.1))]) (fun y => G) (0, A0, 0, []) ⟨by simp, rfl, by simp⟩ rfl ?_ ?_ ?_
 ·exact ⟨⟨_, J, J⟩, ⟨_, J, J⟩, ⟨_, J, J⟩, ⟨_, J, J⟩, ⟨_, J, J⟩, trivial⟩
 ·exact .hp (.hp .nil)
 rintro ⟨i, A5, c5, ow⟩ ⟨hi, hil, how⟩
 simp only at hi hil how ⊢
 refine Va J J ?_
 refine S_condp J (fun h => ?_) (fun h => ?_) <;> refine Va J J ?_
 ·refine S_callM 1 Tryz.call22 (c_pick b l _ _ _ G hl ⟨by omega, by omega⟩ (by omega)) J J J J (fun _ => J) ?_
  rintro v G2 A' ⟨rfl, rfl, m, rfl, h0, h1⟩ _
  refine Va J J ?_;refine S_slice Tk ZT_ok J J J J (by decide) (by decide) J J J J fun b2 => ?_;refine Va J J ?_;refine S_app1 Tk 6 16 J J J J J J J J J J J J J J (by intro u hu; simp at hu; rcases hu with rfl; rfl) rfl (fun _ _ => rfl) (by omega) (Nat.le_refl _) fun A6 c6 => ?_;refine Va J J ?_;refine S_add J J J J (by omega) ?_;refine Va J J ?_;refine S_again (i + 1, A6, c6, ow ++ [m]) ⟨by simp only; omega, by simp; omega, ?_⟩ (by simp only; omega) rfl ⟨⟨_, rfl, by simp [denO]⟩, ⟨_, rfl, by simp [denO]⟩, ⟨_, rfl, rfl⟩, ⟨_, rfl, rfl⟩, ⟨_, rfl, rfl⟩, trivial⟩ ?_
  ·intro x hx
   rcases List.mem_append.1 hx with hx | hx
   ·exact how x hx
   ·rw [List.mem_singleton.1 hx]; exact ⟨by omega, by omega⟩
  simp only [List.length_append, List.length_singleton, intC_append]
  exact .drop (.hp (.hp .nil))
 obtain rfl : i = 5 := by omega
 refine S_callPr 1 7 Tryz.call41 (c_l2Prog b l _ _ G hl (by omega)) J J J J (fun _ => J) ?_;rintro v G3 A' B' ⟨rfl, A1, n1, c1, xs1, base1, rfl, rfl, p, rfl, hp1, hp3, hcs, hsh⟩ hext3
 refine S_newRow 7 J J ?_;refine S_capO 7 J fun hnc1 hcm1 _ => ?_;refine S_someO 7 J (by omega) fun gp offp eA => ?_
 subst eA
 refine S_capO 6 J fun hnc5 hcm5 _ => ?_;refine S_someO 6 J (by omega) fun go offo eA => ?_
 subst eA
 refine Va J J ?_;refine S_callM 1 Tryz.call22 (c_pick b l _ _ _ _ (Byts_le hext3.le hl) ⟨by omega, by omega⟩ (by omega)) J J J J (fun _ => J) ?_;rintro v G2 A' ⟨rfl, rfl, m, rfl, hm0, hm1⟩ _
 refine Va J J ?_
 refine S_condp J (fun h9 => ?_) (fun h9 => ?_) <;> refine Va J J ?_
 ·refine S_lendO 6 J J (fun _ hn _ _ => by omega) (fun g1 off1 cur eA hbg hnc hcm hxl hfit htake hGg hbb hcells => ?_)
  cases eA
  have howG : Ints (G2.add go (.cells cur 3 (0, 0))) ow (.slice (some ⟨go, offo, none⟩) ow.length c5) := ints_of hcells rfl hnc hcm (by omega) how
  refine S_loop (α := Nat × List Value × List (List Stm) × PH) (fun y => y.1 ≤ p.length ∧ y.2.2.1.length = p.length ∧ PH.ext w.heap.size (G2.add go (.cells cur 3 (0, 0))) y.2.2.2 ∧ Cs 1 (stsRep (y.2.2.2.del go)) y.2.2.1 y.2.1 ∧ (∀ q ∈ y.2.2.1, Sh q) ∧ ∀ j (hj : j < y.2.2.1.length), y.1 ≤ j → stmtsOk y.2.2.1[j] = true) (fun y => p.length - y.1) []
   (fun y => [(7, .val (.int .i64 (y.1 : Nat))), (6, .val (.slice (some ⟨gp, offp, none⟩) p.length c1)), (4, .val (.slice (some ⟨go, offo, none⟩) ow.length c5)), (0, .val (.pointer (some ⟨b, 0, none⟩))), (2, .val (.slice none 0 0)), (3, .val (.slice none 0 0))])
   (fun y => [.hp 7 (rowO w.heap.size 36 1 (some ⟨gp, offp, none⟩) p.length c1 y.2.1), .hp 1 (rdHP b (.slice A l.length c) (N + 5 + (1 + 3 * kS) + 1))]) (fun y => y.2.2.2) (0, xs1, p, G2.add go (.cells cur 3 (0, 0))) ⟨Nat.zero_le _, rfl, PH.ext.refl _ _, ?_, fun q hq => (hsh q hq).1, fun j hj _ => (hsh _ (List.getElem_mem hj)).2⟩ rfl ?_ ?_ ?_
  ·simp only
   rw [PH.del_add hGg]
   exact hcs
  ·exact ⟨⟨_, J, J⟩, ⟨_, J, J⟩, ⟨_, J, J⟩, ⟨_, J, J⟩, ⟨_, J, J⟩, ⟨_, J, J⟩, trivial⟩
  ·exact .hp (.hp .nil)
  rintro ⟨i, xs7, p7, G7⟩ ⟨hi7, hl7, hext7, hcs7, hsh7, hok7⟩
  simp only at hi7 hl7 hext7 hcs7 hsh7 hok7 ⊢
  have hG7 : G7 go = some (.cells cur 3 (0, 0)) := hext7.le go _ (PH.add_self _ _ _)
  refine Va J J ?_
  refine S_condp J (fun h12 => ?_) (fun h12 => ?_) <;> refine Va J J ?_
  ·have hi8 : i < p7.length := by omega
   obtain ⟨pv0, e0, hv0, hset0⟩ := sts_at hcs7 hi8
   obtain ⟨Ap0, cp0, rfl, _⟩ := id hv0
   refine S_index Tk J J J J J J (by omega) (by omega) ?_;refine Va J J ?_;refine S_valV J J J (V_loadR' (o := i) Tk 7 J J (by simp [add_lit']) J J e0) ?_;refine Va J J ?_
   have hokL : okL p7[i] := ⟨3, -1, by have := hok7 i hi8 (Nat.le_refl _); simp only [stmtsOk, Bool.and_eq_true] at this; exact this.1⟩
   refine S_call Tryz.call65 (Tm_all ow p7[i] (-1) 3 _ _ G7 (Sts_le (del_le G7 go) hv0) (Ints_le hext7.le howG) hil (by omega) (by omega) (hsh7 _ (List.getElem_mem hi8)) hokL) J J J ?_;rintro v3 G8 ⟨X3, hv3, hs3⟩ hext8
   replace hv3 := Sts_le (newp_del hG7) hv3
   obtain ⟨A31, c31, rfl, _⟩ := id hv3
   refine Va J J ?_;refine S_index Tk J J J J J J (by omega) (by omega) ?_;refine Va J J ?_;refine S_storeO Tk 7 (o := i) J J J (by simp [add_lit']) J J J J J (by have := Cs_length hcs7; omega) rfl ?_;refine Va J J ?_;refine S_add J J J J (by omega) ?_;refine Va J J ?_;refine S_again (i + 1, xs7.set i _, p7.set i X3, G8) ⟨by simp only; omega, by simp; omega, hext7.trans hext8, (sts_at (Cs_mono (fun _ _ _ h => stsRep_le (del_mono hext8.le go) h) hcs7) hi8).choose_spec.2.2 _ _ hv3, ?_, ?_⟩ (by simp only; omega) rfl ⟨⟨_, rfl, by simp [denO]⟩, ⟨_, rfl, rfl⟩, ⟨_, rfl, rfl⟩, ⟨_, rfl, rfl⟩, ⟨_, rfl, rfl⟩, ⟨_, rfl, rfl⟩, trivial⟩ (.hp (.hp .nil))
   ·intro q hq
    rcases List.mem_or_eq_of_mem_set hq with hq | rfl
    ·exact hsh7 q hq
    ·exact hs3
   ·intro j hj hij
    simp only at hj hij ⊢
    rw [List.getElem_set_ne (by omega)]
    exact hok7 j (by simpa using hj) (by omega)
  ·refine S_backO 6 hG7 hbb hbg hnc hcm hxl hfit htake ?_
   have hE7 := hext3.trans (PH.ext.del hGg hext7)
   refine S_callM 1 Tryz.call22 (c_pick b l _ _ _ _ (Byts_le (PH.ext.le (hE7)) hl) ⟨by omega, by omega⟩ (by omega)) J J J J (fun _ => J) ?_;rintro v G2 A' ⟨rfl, rfl, m2, rfl, hm20, hm21⟩ _
   refine Va J J ?_
   refine S_condp J (fun h10 => ?_) (fun h10 => ?_) <;> refine Va J J ?_
   ·refine S_sliceG Tk ZT_ok J J J J (by decide) (by decide) J J J J (fun _ => J) fun bq Gq hxq hcq => ?_
    refine Va J J ?_;refine S_callM 1 Tryz.call64 (c_numL b [-1, 2] (Byts_le (PH.ext.trans (hE7) hxq).le hl) hcq J (Nat.le_refl _) (by decide) (by decide) (i64_small (by decide)) (by omega)) J J J J (fun _ => J) ?_;rintro v G' A' ⟨rfl, rfl, m3, hmem3, rfl⟩ _
    have hi3 : I64 m3 := i64_small (l := [-1, 2]) (by decide) m3 hmem3
    refine Va J J ?_;refine S_index Tk J J J J J J (by omega) (by omega) ?_;refine Va J J ?_;refine S_storeO Tk 6 (o := 0) J J J (by simp [add_lit']) J J J J J (by rw [intC_length]; omega) rfl ?_;refine Va J J ?_
    have e5 : (intC ow).set 0 (.int .i64 m3) = intC (ow.set 0 m3) := by
     cases ow with
     | nil => simp at hil
     | cons x r => rfl
    have how3 : ∀ x ∈ ow.set 0 m3, I64 x := by
     intro x hx
     rcases List.mem_or_eq_of_mem_set hx with hx | rfl
     ·exact how x hx
     ·exact hi3
    rw [e5]
    have hxF := (PH.ext.trans (hE7) hxq)
    have hCSF := (Cs_mono (fun _ _ _ h => stsRep_le hxq.le h) (hcs7))
    refine S_rdLe 1 (N + kP) (by omega) J J ?_;refine S_pair 1 7 60 J J J J ?_;exact S_retm 60 (Res.t2 Tryz.results43 J J J J) J hxF ⟨_, _, J, rd_covers _ _ _ _, J, _, _, _, _, _, _, J, J, _, (by first | omega | (simp only [List.length_set]; omega) | simp), (by first | omega | (simp only [List.length_set]; omega) | simp), (by first | omega | (simp only [List.length_set]; omega) | simp), hCSF, hsh7⟩
   refine S_condp J (fun h11 => ?_) (fun h11 => ?_) <;> refine Va J J ?_
   ·rcases ow with _ | ⟨ox, orr⟩
    ·simp at hil
    have hxF := (hE7)
    have hCSF := (hcs7)
    have ho5 : orr.length = 4 := by simpa using hil
    refine Ds J J J ?_;refine Da J J ?_;refine D_val 2 J J J J J J J J J (V_slice1 Tk J J J) ?_;refine Da J J ?_;refine DD ?_;refine Va J J ?_;refine S_rdLe 1 (N + kP) (by omega) J J ?_;refine S_pair 1 7 60 J J J J ?_;exact S_retm 60 (Res.t2 Tryz.results43 J J J J) J hxF ⟨_, _, J, rd_covers _ _ _ _, J, _, _, _, _, _, _, J, J, _, (by first | omega | (simp only [List.length_set]; omega) | simp), (by first | omega | (simp only [List.length_set]; omega) | simp), (by first | omega | (simp only [List.length_set]; omega) | simp), hCSF, hsh7⟩
   refine S_condp J (fun h12 => ?_) (fun h12 => ?_) <;> refine Va J J ?_
   ·obtain ⟨pv0, e0, hv0, hset0⟩ := sts_at (hcs7) (i := 0) (by omega)
    obtain ⟨Ap0, cp0, rfl, _⟩ := id hv0
    refine S_index Tk J J J J J J (by omega) (by omega) ?_;refine Va J J ?_;refine S_valV J J J (V_loadR' Tk 7 J J (by simp [add_lit']) J J e0) ?_;refine Va J J ?_
    have hx10 := (hE7)
    refine S_callM 1 Tryz.call42 (c_l2Bent b l _ _ _ _ _ (Byts_le hx10.le hl) hv0 (hsh7 _ (List.getElem_mem _)) (by omega)) J J J J (fun _ => J) ?_;rintro v G11 A' ⟨rfl, l11, hv11, hs11⟩ hx11
    obtain ⟨Ap1, cp1, rfl, _⟩ := id hv11
    refine Va J J ?_;refine S_callM 1 Tryz.call42 (c_l2Bent b l _ _ _ _ _ (Byts_le (hx10.trans hx11).le hl) hv11 hs11 (by omega)) J J J J (fun _ => J) ?_;rintro v G12 A' ⟨rfl, l12, hv12, hs12⟩ hx12
    obtain ⟨Ap2, cp2, rfl, _⟩ := id hv12
    refine Va J J ?_;refine S_callM 1 Tryz.call42 (c_l2Bent b l _ _ _ _ _ (Byts_le ((hx10.trans hx11).trans hx12).le hl) hv12 hs12 (by omega)) J J J J (fun _ => J) ?_;rintro v G13 A' ⟨rfl, l13, hv13, hs13⟩ hx13
    obtain ⟨Ap3, cp3, rfl, _⟩ := id hv13
    refine Va J J ?_;refine S_index Tk J J J J J J (by omega) (by omega) ?_;refine Va J J ?_;refine S_storeO Tk 7 (o := 0) J J J (by simp [add_lit']) J J J J J (by have := Cs_length (hcs7); omega) rfl ?_;refine Va J J ?_
    have hcs13 := (sts_at (Cs_mono (fun _ _ _ h => stsRep_le ((hx11.trans hx12).trans hx13).le h) (hcs7)) (i := 0) (by omega)).choose_spec.2.2 _ _ hv13
    have hsh13 : ∀ q ∈ List.set (p7) 0 l13, Sh q := by
     intro q hq
     rcases List.mem_or_eq_of_mem_set hq with hq | rfl
     ·exact hsh7 q hq
     ·exact hs13
    have hxF := (((hx10.trans hx11).trans hx12).trans hx13)
    have hCSF := hcs13
    refine S_rdLe 1 (N + kP) (by omega) J J ?_;refine S_pair 1 7 60 J J J J ?_;exact S_retm 60 (Res.t2 Tryz.results43 J J J J) J hxF ⟨_, _, J, rd_covers _ _ _ _, J, _, _, _, _, _, _, J, J, _, (by first | omega | (simp only [List.length_set]; omega) | simp), (by first | omega | (simp only [List.length_set]; omega) | simp), (by first | omega | (simp only [List.length_set]; omega) | simp), hCSF, hsh13⟩
   ·have hxF := (hE7)
    have hCSF := (hcs7)
    refine S_rdLe 1 (N + kP) (by omega) J J ?_;refine S_pair 1 7 60 J J J J ?_;exact S_retm 60 (Res.t2 Tryz.results43 J J J J) J hxF ⟨_, _, J, rd_covers _ _ _ _, J, _, _, _, _, _, _, J, J, _, (by first | omega | (simp only [List.length_set]; omega) | simp), (by first | omega | (simp only [List.length_set]; omega) | simp), (by first | omega | (simp only [List.length_set]; omega) | simp), hCSF, hsh7⟩
 ·refine S_callM 1 Tryz.call22 (c_pick b l _ _ _ _ (Byts_le (PH.ext.le (hext3)) hl) ⟨by omega, by omega⟩ (by omega)) J J J J (fun _ => J) ?_
  rintro v G2 A' ⟨rfl, rfl, m2, rfl, hm20, hm21⟩ _
  refine Va J J ?_
  refine S_condp J (fun h10 => ?_) (fun h10 => ?_) <;> refine Va J J ?_
  ·refine S_sliceG Tk ZT_ok J J J J (by decide) (by decide) J J J J (fun _ => J) fun bq Gq hxq hcq => ?_
   refine Va J J ?_;refine S_callM 1 Tryz.call64 (c_numL b [-1, 2] (Byts_le (PH.ext.trans (hext3) hxq).le hl) hcq J (Nat.le_refl _) (by decide) (by decide) (i64_small (by decide)) (by omega)) J J J J (fun _ => J) ?_;rintro v G' A' ⟨rfl, rfl, m3, hmem3, rfl⟩ _
   have hi3 : I64 m3 := i64_small (l := [-1, 2]) (by decide) m3 hmem3
   refine Va J J ?_;refine S_index Tk J J J J J J (by omega) (by omega) ?_;refine Va J J ?_;refine S_storeO Tk 6 (o := 0) J J J (by simp [add_lit']) J J J J J (by rw [intC_length]; omega) rfl ?_;refine Va J J ?_
   have e5 : (intC ow).set 0 (.int .i64 m3) = intC (ow.set 0 m3) := by
    cases ow with
    | nil => simp at hil
    | cons x r => rfl
   have how3 : ∀ x ∈ ow.set 0 m3, I64 x := by
    intro x hx
    rcases List.mem_or_eq_of_mem_set hx with hx | rfl
    ·exact how x hx
    ·exact hi3
   rw [e5]
   have hxF := (PH.ext.trans (hext3) hxq)
   have hCSF := (Cs_mono (fun _ _ _ h => stsRep_le hxq.le h) (hcs))
   refine S_rdLe 1 (N + kP) (by omega) J J ?_;refine S_pair 1 7 60 J J J J ?_;exact S_retm 60 (Res.t2 Tryz.results43 J J J J) J hxF ⟨_, _, J, rd_covers _ _ _ _, J, _, _, _, _, _, _, J, J, _, (by first | omega | (simp only [List.length_set]; omega) | simp), (by first | omega | (simp only [List.length_set]; omega) | simp), (by first | omega | (simp only [List.length_set]; omega) | simp), hCSF, (fun l hl => (hsh l hl).1)⟩
  refine S_condp J (fun h11 => ?_) (fun h11 => ?_) <;> refine Va J J ?_
  ·rcases ow with _ | ⟨ox, orr⟩
   ·simp at hil
   have hxF := (hext3)
   have hCSF := (hcs)
   have ho5 : orr.length = 4 := by simpa using hil
   refine Ds J J J ?_;refine Da J J ?_;refine D_val 2 J J J J J J J J J (V_slice1 Tk J J J) ?_;refine Da J J ?_;refine DD ?_;refine Va J J ?_;refine S_rdLe 1 (N + kP) (by omega) J J ?_;refine S_pair 1 7 60 J J J J ?_;exact S_retm 60 (Res.t2 Tryz.results43 J J J J) J hxF ⟨_, _, J, rd_covers _ _ _ _, J, _, _, _, _, _, _, J, J, _, (by first | omega | (simp only [List.length_set]; omega) | simp), (by first | omega | (simp only [List.length_set]; omega) | simp), (by first | omega | (simp only [List.length_set]; omega) | simp), hCSF, (fun l hl => (hsh l hl).1)⟩
  refine S_condp J (fun h12 => ?_) (fun h12 => ?_) <;> refine Va J J ?_
  ·obtain ⟨pv0, e0, hv0, hset0⟩ := sts_at (hcs) (i := 0) (by omega)
   obtain ⟨Ap0, cp0, rfl, _⟩ := id hv0
   refine S_index Tk J J J J J J (by omega) (by omega) ?_;refine Va J J ?_;refine S_valV J J J (V_loadR' Tk 7 J J (by simp [add_lit']) J J e0) ?_;refine Va J J ?_
   have hx10 := (hext3)
   refine S_callM 1 Tryz.call42 (c_l2Bent b l _ _ _ _ _ (Byts_le hx10.le hl) hv0 ((fun l hl => (hsh l hl).1) _ (List.getElem_mem _)) (by omega)) J J J J (fun _ => J) ?_;rintro v G11 A' ⟨rfl, l11, hv11, hs11⟩ hx11
   obtain ⟨Ap1, cp1, rfl, _⟩ := id hv11
   refine Va J J ?_;refine S_callM 1 Tryz.call42 (c_l2Bent b l _ _ _ _ _ (Byts_le (hx10.trans hx11).le hl) hv11 hs11 (by omega)) J J J J (fun _ => J) ?_;rintro v G12 A' ⟨rfl, l12, hv12, hs12⟩ hx12
   obtain ⟨Ap2, cp2, rfl, _⟩ := id hv12
   refine Va J J ?_;refine S_callM 1 Tryz.call42 (c_l2Bent b l _ _ _ _ _ (Byts_le ((hx10.trans hx11).trans hx12).le hl) hv12 hs12 (by omega)) J J J J (fun _ => J) ?_;rintro v G13 A' ⟨rfl, l13, hv13, hs13⟩ hx13
   obtain ⟨Ap3, cp3, rfl, _⟩ := id hv13
   refine Va J J ?_;refine S_index Tk J J J J J J (by omega) (by omega) ?_;refine Va J J ?_;refine S_storeO Tk 7 (o := 0) J J J (by simp [add_lit']) J J J J J (by have := Cs_length (hcs); omega) rfl ?_;refine Va J J ?_
   have hcs13 := (sts_at (Cs_mono (fun _ _ _ h => stsRep_le ((hx11.trans hx12).trans hx13).le h) (hcs)) (i := 0) (by omega)).choose_spec.2.2 _ _ hv13
   have hsh13 : ∀ q ∈ List.set (p) 0 l13, Sh q := by
    intro q hq
    rcases List.mem_or_eq_of_mem_set hq with hq | rfl
    ·exact (fun l hl => (hsh l hl).1) q hq
    ·exact hs13
   have hxF := (((hx10.trans hx11).trans hx12).trans hx13)
   have hCSF := hcs13
   refine S_rdLe 1 (N + kP) (by omega) J J ?_;refine S_pair 1 7 60 J J J J ?_;exact S_retm 60 (Res.t2 Tryz.results43 J J J J) J hxF ⟨_, _, J, rd_covers _ _ _ _, J, _, _, _, _, _, _, J, J, _, (by first | omega | (simp only [List.length_set]; omega) | simp), (by first | omega | (simp only [List.length_set]; omega) | simp), (by first | omega | (simp only [List.length_set]; omega) | simp), hCSF, hsh13⟩
  ·have hxF := (hext3)
   have hCSF := (hcs)
   refine S_rdLe 1 (N + kP) (by omega) J J ?_;refine S_pair 1 7 60 J J J J ?_;exact S_retm 60 (Res.t2 Tryz.results43 J J J J) J hxF ⟨_, _, J, rd_covers _ _ _ _, J, _, _, _, _, _, _, J, J, _, (by first | omega | (simp only [List.length_set]; omega) | simp), (by first | omega | (simp only [List.length_set]; omega) | simp), (by first | omega | (simp only [List.length_set]; omega) | simp), hCSF, (fun l hl => (hsh l hl).1)⟩
theorem Cs_take1 {G : PH} : ∀ {p : List (List Stm)} {xs : List Value} (m : Nat), Cs 1 (stsRep G) p xs → Cs 1 (stsRep G) (p.take m) (xs.take (m * 1))
 | p, xs, 0, h => by simp; exact J
 | [], xs, m + 1, h => by
  have : xs = [] := h
  subst this
  simp; exact J
 | l :: p, xs, m + 1, h => by
  obtain ⟨cs, ys, rfl, h2, h3, h4⟩ := h
  have : cs.length = 1 := h2
  obtain ⟨v, rfl⟩ := List.length_eq_one_iff.1 this
  have ih := Cs_take1 m h4
  exact ⟨[v], ys.take (m * 1), by simp, J, h3, ih⟩
theorem Sh_takeW {l : List Stm} (h : Sh l) (m : Nat) : Sh (l.take m) := ⟨by rw [List.length_take]; have := h.1; omega, shL_iff.2 fun s hs => shL_iff.1 h.2 s (List.mem_of_mem_take hs)⟩
theorem Rw_takeW {α : Type} {G : PH} {sz : Nat} {rep : α → List Value → Prop} : ∀ {l : List α} {ad : Addr} (m : Nat), Rw G sz rep l ad → Rw G sz rep (l.take m) ad
 | _, _, 0, _ => trivial
 | [], _, m + 1, _ => trivial
 | x :: l, _, m + 1, h => ⟨h.1, Rw_takeW m h.2⟩
theorem Sts_take {G : PH} {l : List Stm} {A : Option Addr} {n c m : Nat} (h : Sts G l (.slice A n c)) (hm : m < n) : Sts G (l.take m) (.slice (A.map (·.add 0)) m c) := by
 obtain ⟨A', c', e, h1, h2, h3, h4⟩ := h
 cases e
 refine ⟨_, _, by rw [List.length_take, Nat.min_eq_left (by omega)], by rw [List.length_take]; omega, by rw [List.length_take]; omega, h3, ?_⟩
 rcases h4 with h4 | ⟨ad, rfl, hr⟩
 ·omega
 ·exact .inr ⟨ad, by simp [add_zero'], Rw_takeW m hr⟩
def kW : Nat := (1 + 3 * kS) + 1 + kP + 1 + 3
structure SW where
 p : List (List Stm)
 A : Option Addr
 c : Nat
 xs : List Value
 i : Nat
 G : PH
def SWok (w : World) (G : PH) (y : SW) : Prop := 1 ≤ y.p.length ∧ y.p.length ≤ 3 ∧ PH.ext w.heap.size G y.G ∧ Cs 1 (stsRep y.G) y.p y.xs ∧ (∀ q ∈ y.p, Sh q) ∧ y.i ≤ y.p.length
theorem c_l8Small (b : Nat) (l : List Int) (sv : Value) (N : Nat) (G : PH) (hl : Byts G l sv) (hN : N + kW ≤ 1000000000) : Drw 24 b sv [] N kW G progV := by
 obtain ⟨A, c, rfl, hl1, _⟩ := id hl
 have hkW : kW = (1 + 3 * kS) + 1 + kP + 1 + 3 := rfl
 refine Mod.intro Tryz.func24 Tryz.ntmps24 J J fun w S => ?_;refine Va J J ?_;refine S_callPr 1 7 Tryz.call41 (c_l2Prog b l _ _ G hl (by omega)) J J J J (fun _ => J) ?_;rintro v G3 A' B' ⟨rfl, A1, n1, c1, xs1, base1, rfl, rfl, p, rfl, hp1, hp3, hcs, hsh⟩ hext3
 refine S_newRow 7 J J ?_;refine Va J J ?_;refine S_callM 1 Tryz.call22 (c_pick b l _ _ _ _ (Byts_le hext3.le hl) ⟨by omega, by omega⟩ (by omega)) J J J J (fun _ => J) ?_;rintro v G2 A' ⟨rfl, rfl, m, rfl, hm0, hm1⟩ _
 refine Va J J ?_;refine S_cut (α := SW) (fun y => SWok w G y ∧ y.i = 0) (fun y => []) (fun y => [(3, .val (.slice y.A y.p.length y.c)), (0, .val (.pointer (some ⟨b, 0, none⟩)))])
  (fun y => [.hp 7 (rowO w.heap.size 36 1 y.A y.p.length y.c y.xs), .hp 1 (rdHP b (.slice A l.length c) (N + ((1 + 3 * kS) + 1 + kP)))]) (fun y => y.G) ?_ ?_
 ·refine S_condp J (fun h9 => ?_) (fun h9 => ?_) <;> refine Va J J ?_
  ·refine S_callPr 1 7 Tryz.call43 (c_l6SomeL b l _ _ _ (Byts_le hext3.le hl) (by omega)) J J J J (fun _ => J) ?_
   rintro v G4 A' B' ⟨rfl, A2, n2, c2, xs2, base2, ov, rfl, rfl, p2, rfl, hp21, hp23, hcs2, hsh2⟩ hext4
   refine S_newRow 7 J J ?_;refine Va J J ?_;refine S_rdLe 1 (N + ((1 + 3 * kS) + 1 + kP)) (by omega) J J ?_;refine S_pick [7, 1] J ?_;exact S_meet ⟨p2, A2, c2, xs2, 0, _⟩ ⟨⟨hp21, hp23, hext3.trans hext4, hcs2, hsh2, Nat.zero_le _⟩, J⟩ J ⟨⟨_, J, J⟩, ⟨_, J, J⟩, trivial⟩ (.hp (.hp .nil))
  ·refine S_rdLe 1 (N + ((1 + 3 * kS) + 1 + kP)) (by omega) J J ?_
   refine S_pick [7, 1] J ?_;exact S_meet ⟨p, A1, c1, xs1, 0, _⟩ ⟨⟨hp1, hp3, hext3, hcs, fun q hq => (hsh q hq).1, Nat.zero_le _⟩, J⟩ J ⟨⟨_, J, J⟩, ⟨_, J, J⟩, trivial⟩ (.hp (.hp .nil))
 clear hcs hsh hp1 hp3
 rintro ⟨p, A1, c1, xs1, i0, G4⟩ ⟨⟨hp1, hp3, hext4, hcs, hsh, _⟩, _⟩
 simp only at hp1 hp3 hext4 hcs hsh ⊢
 refine S_capO 7 J fun hnc1 hcm1 _ => ?_;refine S_someO 7 J (by omega) fun gp offp eA => ?_
 subst eA
 refine Va J J ?_
 by_cases h3 : 2 < p.length
 ·refine GT J J (by simp; omega) ?_
  refine Va J J ?_;refine S_callM 1 Tryz.call22 (c_pick b l _ _ _ _ (Byts_le hext4.le hl) ⟨by omega, by omega⟩ (by omega)) J J J J (fun _ => J) ?_;rintro v G2 A' ⟨rfl, rfl, m, rfl, hm0, hm1⟩ _
  refine Va J J ?_;refine S_cut (α := SW) (fun y => SWok w G y ∧ y.i = 0) (fun y => []) (fun y => [(3, .val (.slice y.A y.p.length y.c)), (0, .val (.pointer (some ⟨b, 0, none⟩)))])
   (fun y => [.hp 7 (rowO w.heap.size 36 1 y.A y.p.length y.c y.xs), .hp 1 (rdHP b (.slice A l.length c) (N + ((1 + 3 * kS) + 1 + kP + 1)))]) (fun y => y.G) ?_ ?_
  ·refine S_condp J (fun h9 => ?_) (fun h9 => ?_) <;> refine Va J J ?_
   ·refine S_valV J J J (V_sliceHi (m := 2) Tk J J J (by omega) (by omega) (by omega)) ?_
    refine Va J J ?_;refine S_shortO 7 (m := 2) (by omega) J J ?_
    have htl : (p.take 2).length = 2 := by rw [List.length_take]; omega
    exact S_meet ⟨p.take 2, some ⟨gp, offp, none⟩, c1, _, 0, _⟩ ⟨⟨by simp only; omega, by simp only; omega, hext4, Cs_take1 2 hcs, fun q hq => hsh q (List.mem_of_mem_take hq), Nat.zero_le _⟩, rfl⟩ rfl ⟨⟨_, rfl, by simp only [htl]; simp [denO, add_lit']⟩, ⟨_, rfl, rfl⟩, trivial⟩ (by simp only [htl]; exact .hp (.hp .nil))
   ·exact S_meet ⟨p, some ⟨gp, offp, none⟩, c1, xs1, 0, _⟩ ⟨⟨hp1, hp3, hext4, hcs, hsh, Nat.zero_le _⟩, J⟩ J ⟨⟨_, J, J⟩, ⟨_, J, J⟩, trivial⟩ (.hp (.hp .nil))
  clear hcs hsh hp1 hp3
  rintro ⟨p, A1, c1, xs1, i0, G4⟩ ⟨⟨hp1, hp3, hext4, hcs, hsh, _⟩, _⟩
  simp only at hp1 hp3 hext4 hcs hsh ⊢
  refine Va J J ?_;refine S_loop (α := SW) (fun y => SWok w G y) (fun y => y.p.length - y.i) []
   (fun y => [(4, .val (.int .i64 (y.i : Nat))), (3, .val (.slice y.A y.p.length y.c)), (0, .val (.pointer (some ⟨b, 0, none⟩)))])
   (fun y => [.hp 7 (rowO w.heap.size 36 1 y.A y.p.length y.c y.xs), .hp 1 (rdHP b (.slice A l.length c) (N + ((1 + 3 * kS) + 1 + kP + 1) + y.i))]) (fun y => y.G) ⟨p, A1, c1, xs1, 0, G4⟩ ⟨hp1, hp3, hext4, hcs, hsh, Nat.zero_le _⟩ rfl ⟨⟨_, rfl, rfl⟩, ⟨_, rfl, rfl⟩, ⟨_, rfl, rfl⟩, trivial⟩ (.hp (.hp .nil)) ?_
  clear hcs hsh hp1 hp3
  rintro ⟨p, A1, c1, xs1, i, G5⟩ ⟨hp1, hp3, hext5, hcs, hsh, hi⟩
  simp only at hp1 hp3 hext5 hcs hsh hi ⊢
  refine S_capO 7 J fun hnc5 hcm5 _ => ?_;refine S_someO 7 J (by omega) fun g5 o5 eA => ?_
  subst eA
  have hxl := Cs_length hcs
  refine Va J J ?_
  refine S_condp J (fun h7 => ?_) (fun h7 => ?_) <;> refine Va J J ?_
  ·have hil : i < p.length := by omega
   obtain ⟨pv0, e0, hv0, hset0⟩ := sts_at hcs hil
   have hshi := hsh _ (List.getElem_mem hil)
   obtain ⟨Ap0, cp0, rfl, hq1, hq2, hq3, _⟩ := id hv0
   refine S_index Tk J J J J J J (by omega) (by omega) ?_;refine Va J J ?_;refine S_valV J J J (V_loadR' (o := i) Tk 7 J J (by simp [add_lit']) J J e0) ?_;refine Va J J ?_
   by_cases hlen : 2 < p[i].length
   ·refine GT J J (by simp; omega) ?_
    refine Va J J ?_;refine S_callM 1 Tryz.call22 (c_pick b l _ _ _ _ (Byts_le hext5.le hl) ⟨by omega, by omega⟩ (by omega)) J J J J (fun _ => J) ?_;rintro v G2 A' ⟨rfl, rfl, m2, rfl, hm20, hm21⟩ _
    refine Va J J ?_
    refine S_condp J (fun h9 => ?_) (fun h9 => ?_) <;> refine Va J J ?_
    ·refine S_index Tk J J J J J J (by omega) (by omega) ?_
     refine Va J J ?_;refine S_valV J J J (V_loadR' (o := i) Tk 7 J J (by simp [add_lit']) J J e0) ?_;refine Va J J ?_;refine S_valV J J J (V_sliceHi (m := 2) Tk J J J (by omega) (by omega) (by omega)) ?_;refine Va J J ?_;refine S_index Tk J J J J J J (by omega) (by omega) ?_;refine Va J J ?_;refine S_storeO Tk 7 (o := i) J J J (by simp [add_lit']) J J J J J (by omega) J ?_;refine Va J J ?_;refine S_add J J J J (by omega) ?_
     refine Va J J ?_
     have hsl : (p.set i (p[i].take 2)).length = p.length := List.length_set ..
     refine S_again ⟨p.set i (p[i].take 2), some ⟨g5, o5, none⟩, c1, _, i + 1, _⟩ ⟨by simp only; omega, by simp only; omega, hext5, hset0 _ _ (Sts_take hv0 hlen), ?_, by simp only; omega⟩ (by simp only; omega) rfl ⟨⟨_, rfl, by simp [denO]⟩, ⟨_, rfl, by simp only [hsl]⟩, ⟨_, rfl, rfl⟩, trivial⟩ (by simp only [hsl]; exact .hp (.hp .nil))
     intro q hq
     rcases List.mem_or_eq_of_mem_set hq with hq | rfl
     ·exact hsh q hq
     ·exact Sh_takeW hshi 2
    ·refine S_add J J J J (by omega) ?_
     refine Va J J ?_;exact S_again ⟨p, some ⟨g5, o5, none⟩, c1, xs1, i + 1, _⟩ ⟨hp1, hp3, hext5, hcs, hsh, hil⟩ (by simp only; omega) rfl ⟨⟨_, rfl, by simp [denO]⟩, ⟨_, rfl, rfl⟩, ⟨_, rfl, rfl⟩, trivial⟩ (.hp (.hp .nil))
   ·refine GF J J (by simp; omega) ?_
    refine Va J J ?_;refine S_add J J J J (by omega) ?_;refine Va J J ?_;refine S_rdLe 1 (N + ((1 + 3 * kS) + 1 + kP + 1) + (i + 1)) (by omega) J J ?_;exact S_again ⟨p, some ⟨g5, o5, none⟩, c1, xs1, i + 1, _⟩ ⟨hp1, hp3, hext5, hcs, hsh, hil⟩ (by simp only; omega) rfl ⟨⟨_, rfl, by simp [denO]⟩, ⟨_, rfl, rfl⟩, ⟨_, rfl, rfl⟩, trivial⟩ (.hp (.hp .nil))
  ·refine S_freezeR 7 J J (Nat.le_refl _) fun G9 hext9 hnc9 hcm9 hcl9 => ?_
   have hP : Prg G9 p _ := frzL (newp_le _ _) (Cs_mono (fun _ _ _ h => stsRep_le hext9.le h) hcs) rfl (by omega) hnc9 hcm9 hcl9
   refine S_rdLe 1 (N + kW) (by omega) J J ?_;exact S_retm 1 (Res.t1 Tryz.results24 J J) J (hext5.trans hext9) ⟨J, p, hP, hsh, by omega⟩
 ·refine GF J J (by simp; omega) ?_
  refine Va J J ?_;refine S_rdLe 1 (N + ((1 + 3 * kS) + 1 + kP + 1)) (by omega) J J ?_;refine S_loop (α := SW) (fun y => SWok w G y) (fun y => y.p.length - y.i) []
   (fun y => [(4, .val (.int .i64 (y.i : Nat))), (3, .val (.slice y.A y.p.length y.c)), (0, .val (.pointer (some ⟨b, 0, none⟩)))])
   (fun y => [.hp 7 (rowO w.heap.size 36 1 y.A y.p.length y.c y.xs), .hp 1 (rdHP b (.slice A l.length c) (N + ((1 + 3 * kS) + 1 + kP + 1) + y.i))]) (fun y => y.G) ⟨p, (some ⟨gp, offp, none⟩), c1, xs1, 0, G4⟩ ⟨hp1, hp3, hext4, hcs, hsh, Nat.zero_le _⟩ rfl ⟨⟨_, rfl, rfl⟩, ⟨_, rfl, rfl⟩, ⟨_, rfl, rfl⟩, trivial⟩ (.hp (.hp .nil)) ?_
  clear hcs hsh hp1 hp3
  rintro ⟨p, A1, c1, xs1, i, G5⟩ ⟨hp1, hp3, hext5, hcs, hsh, hi⟩
  simp only at hp1 hp3 hext5 hcs hsh hi ⊢
  refine S_capO 7 J fun hnc5 hcm5 _ => ?_;refine S_someO 7 J (by omega) fun g5 o5 eA => ?_
  subst eA
  have hxl := Cs_length hcs
  refine Va J J ?_
  refine S_condp J (fun h7 => ?_) (fun h7 => ?_) <;> refine Va J J ?_
  ·have hil : i < p.length := by omega
   obtain ⟨pv0, e0, hv0, hset0⟩ := sts_at hcs hil
   have hshi := hsh _ (List.getElem_mem hil)
   obtain ⟨Ap0, cp0, rfl, hq1, hq2, hq3, _⟩ := id hv0
   refine S_index Tk J J J J J J (by omega) (by omega) ?_;refine Va J J ?_;refine S_valV J J J (V_loadR' (o := i) Tk 7 J J (by simp [add_lit']) J J e0) ?_;refine Va J J ?_
   by_cases hlen : 2 < p[i].length
   ·refine GT J J (by simp; omega) ?_
    refine Va J J ?_;refine S_callM 1 Tryz.call22 (c_pick b l _ _ _ _ (Byts_le hext5.le hl) ⟨by omega, by omega⟩ (by omega)) J J J J (fun _ => J) ?_;rintro v G2 A' ⟨rfl, rfl, m2, rfl, hm20, hm21⟩ _
    refine Va J J ?_
    refine S_condp J (fun h9 => ?_) (fun h9 => ?_) <;> refine Va J J ?_
    ·refine S_index Tk J J J J J J (by omega) (by omega) ?_
     refine Va J J ?_;refine S_valV J J J (V_loadR' (o := i) Tk 7 J J (by simp [add_lit']) J J e0) ?_;refine Va J J ?_;refine S_valV J J J (V_sliceHi (m := 2) Tk J J J (by omega) (by omega) (by omega)) ?_;refine Va J J ?_;refine S_index Tk J J J J J J (by omega) (by omega) ?_;refine Va J J ?_;refine S_storeO Tk 7 (o := i) J J J (by simp [add_lit']) J J J J J (by omega) J ?_;refine Va J J ?_;refine S_add J J J J (by omega) ?_
     refine Va J J ?_
     have hsl : (p.set i (p[i].take 2)).length = p.length := List.length_set ..
     refine S_again ⟨p.set i (p[i].take 2), some ⟨g5, o5, none⟩, c1, _, i + 1, _⟩ ⟨by simp only; omega, by simp only; omega, hext5, hset0 _ _ (Sts_take hv0 hlen), ?_, by simp only; omega⟩ (by simp only; omega) rfl ⟨⟨_, rfl, by simp [denO]⟩, ⟨_, rfl, by simp only [hsl]⟩, ⟨_, rfl, rfl⟩, trivial⟩ (by simp only [hsl]; exact .hp (.hp .nil))
     intro q hq
     rcases List.mem_or_eq_of_mem_set hq with hq | rfl
     ·exact hsh q hq
     ·exact Sh_takeW hshi 2
    ·refine S_add J J J J (by omega) ?_
     refine Va J J ?_;exact S_again ⟨p, some ⟨g5, o5, none⟩, c1, xs1, i + 1, _⟩ ⟨hp1, hp3, hext5, hcs, hsh, hil⟩ (by simp only; omega) rfl ⟨⟨_, rfl, by simp [denO]⟩, ⟨_, rfl, rfl⟩, ⟨_, rfl, rfl⟩, trivial⟩ (.hp (.hp .nil))
   ·refine GF J J (by simp; omega) ?_
    refine Va J J ?_;refine S_add J J J J (by omega) ?_;refine Va J J ?_;refine S_rdLe 1 (N + ((1 + 3 * kS) + 1 + kP + 1) + (i + 1)) (by omega) J J ?_;exact S_again ⟨p, some ⟨g5, o5, none⟩, c1, xs1, i + 1, _⟩ ⟨hp1, hp3, hext5, hcs, hsh, hil⟩ (by simp only; omega) rfl ⟨⟨_, rfl, by simp [denO]⟩, ⟨_, rfl, rfl⟩, ⟨_, rfl, rfl⟩, trivial⟩ (.hp (.hp .nil))
  ·refine S_freezeR 7 J J (Nat.le_refl _) fun G9 hext9 hnc9 hcm9 hcl9 => ?_
   have hP : Prg G9 p _ := frzL (newp_le _ _) (Cs_mono (fun _ _ _ h => stsRep_le hext9.le h) hcs) rfl (by omega) hnc9 hcm9 hcl9
   refine S_rdLe 1 (N + kW) (by omega) J J ?_;exact S_retm 1 (Res.t1 Tryz.results24 J J) J (hext5.trans hext9) ⟨J, p, hP, hsh, by omega⟩
theorem c_DrawAllEnds (l : List Int) (cv : Value) (G : PH) (hl : Byts G l cv) : Pure Tryz.prog 11 [cv] G fun v' G' => progV v' G' := by
 have hkb : kG + 1 ≤ 1000000000 ∧ kW + 1 ≤ 1000000000 := by decide
 obtain ⟨Ac, cc, rfl, _⟩ := id hl
 refine Pure.intro Tryz.func11 Tryz.ntmps11 J J fun w => ?_; refine Va J J ?_;refine S_callN 1 Tryz.call21 (c_l11Open l _ G hl) J J J ?_;rintro v1 G1 A1 ⟨b, sv, l', rfl, rfl, hl', rfl⟩ hext1
 refine S_newHP 1 J J ?_;refine Va J J ?_;refine S_callM 1 Tryz.call22 (c_pick b l' _ _ 0 _ hl' ⟨by omega, by omega⟩ (by omega)) J J J J (fun _ => J) ?_;rintro v G3 A' ⟨rfl, rfl, m, rfl, hm0, hm1⟩ _
 refine Va J J ?_
 refine S_condp J (fun h => ?_) (fun h => ?_) <;> refine Va J J ?_
 ·refine S_callM 1 Tryz.call23 (c_l2Progs b l' _ _ _ hl' (by omega)) J J J J (fun _ => J) ?_
  rintro v2 G2 A2 ⟨rfl, p, hp⟩ hext2
  obtain ⟨Ap, cp, rfl, _⟩ := id hp.1
  refine Va J J ?_;exact S_retp (Res.t1 Tryz.results11 J J) (hext1.trans hext2) ⟨p, hp⟩
 ·refine S_callM 1 Tryz.call24 (c_l8Small b l' _ _ _ hl' (by omega)) J J J J (fun _ => J) ?_
  rintro v2 G2 A2 ⟨rfl, p, hp⟩ hext2
  obtain ⟨Ap, cp, rfl, _⟩ := id hp.1
  refine Va J J ?_;exact S_retp (Res.t1 Tryz.results11 J J) (hext1.trans hext2) ⟨p, hp⟩
theorem c_DrawAllStuck (l : List Int) (cv : Value) (G : PH) (hl : Byts G l cv) : Pure Tryz.prog 7 [cv] G fun v' G' => progV v' G' := by
 have hd := c_DrawAllEnds l cv G hl
 obtain ⟨Ac, cc, rfl, _⟩ := id hl
 refine Pure.intro Tryz.func7 Tryz.ntmps7 J J fun w => ?_; refine Va J J ?_;refine S_call Tryz.call11 hd J J J ?_;rintro v1 G1 ⟨p, hp⟩ hext1
 obtain ⟨Ap, cp, rfl, _⟩ := id hp.1
 refine Va J J ?_;exact S_retp (Res.t1 Tryz.results7 J J) hext1 ⟨p, hp⟩
end
section
def GB (w : World) (a0 : Option Addr) : PH := fun b => match a0 with
 | some x => if b = x.block then w.heap[b]? else none
 | none => none
theorem GB_emb (w : World) (a0 : Option Addr) : Emb (GB w a0) w := by
 intro b o h
 unfold GB at h
 split at h
 ·split at h
  ·exact h
  ·cases h
 ·cases h
theorem gcell_GB {w : World} {x a : Addr} {v : Value} (hb : a.block = x.block) (h : w.cell? a = some v) : gcell (GB w (some x)) a = some v := by
 unfold gcell
 simp only [GB, hb, if_true]
 unfold World.cell? at h
 rw [hb] at h
 cases ho : w.heap[x.block]? with
 | none => simp [ho] at h
 | some o => cases o <;> simp_all
theorem gcells_of {G : PH} {a : Addr} : ∀ {cs : List Value}, (∀ j v, cs[j]? = some v → gcell G (a.add j) = some v) → gcells G a cs := by
 intro cs
 induction cs generalizing a with
 | nil => intro _; trivial
 | cons v cs ih =>
  intro h
  refine ⟨by have := h 0 v J; rwa [add_zero'] at this, ih fun j u hj => ?_⟩
  rw [add_add', Nat.add_comm 1 j]
  exact h (j + 1) u (by simpa using hj)
theorem block_add' (x : Addr) (i : Nat) : (x.add i).block = x.block := by unfold Addr.add; split <;> rfl
theorem Cs_byte : ∀ (l : List Int), (∀ n ∈ l, 0 ≤ n ∧ n ≤ 255) → Cs 1 byteRep l (l.map fun n => .int .u8 n)
 | [], _ => rfl
 | n :: l, h => ⟨[.int .u8 n], _, rfl, rfl, ⟨rfl, h n (List.mem_cons_self ..)⟩, Cs_byte l fun m hm => h m (List.mem_cons_of_mem _ hm)⟩
theorem byts_of {w : World} {a : Option Addr} {len cap : Nat} {zs : List Int} (h : (a = none ∧ len = 0 ∧ cap = 0 ∧ zs = []) ∨ ∃ x, a = some x ∧ len ≤ cap ∧ cap ≤ maxLen ∧ zs.length = cap ∧ (∀ i, i < zs.length → w.cell? (x.add i) = some (.int .u8 (zs.getD i 0))) ∧ ∀ n ∈ zs, (Lit.int .u8 n).wf = true)
  (hlen : len ≤ 1048576) : ∃ l, Byts (GB w a) l (.slice a len cap) ∧ l.length = len := by
 rcases h with ⟨rfl, rfl, rfl, rfl⟩ | ⟨x, rfl, h1, h2, h3, h4, h5⟩
 ·exact ⟨[], Sr_nil J, J⟩
 ·have hl : (zs.take len).length = len := by simp; omega
  refine ⟨zs.take len, Sx_Sr ⟨some x, cap, J, by omega, h1, h2, ?_, ?_⟩ hl.symm (Cs_byte _ ?_), hl⟩
  ·simp; omega
  ·refine .inr ⟨x, rfl, gcells_of fun j v hj => ?_⟩
   simp only [List.getElem?_map, Option.map_eq_some_iff] at hj
   obtain ⟨n, hn, rfl⟩ := hj
   have hj2 : zs[j]? = some n := by
    rw [List.getElem?_take] at hn
    split at hn
    ·exact hn
    ·cases hn
   have hjl : j < zs.length := (List.getElem?_eq_some_iff.1 hj2).1
   refine gcell_GB (block_add' x j) ?_
   rw [h4 j hjl]
   simp [List.getD_eq_getElem?_getD, hj2]
  ·intro n hn
   have := h5 n (List.mem_of_mem_take hn)
   have e1 : IntKind.u8.min = 0 := rfl
   have e2 : IntKind.u8.max = 255 := rfl
   simp only [Lit.wf, Bool.and_eq_true, decide_eq_true_eq, e1, e2] at this
   omega
end
section
open Go.ChangeShapes Go.WideShapes Go.ChangeAt Go.RowKit
def GWT (w : World) (a0 : Option Addr) (g : Nat) : PH := fun b => if b = g then w.heap[b]? else GB w a0 b
theorem GWT_emb (w : World) (a0 : Option Addr) (g : Nat) : Emb (GWT w a0 g) w := by
 intro b o h
 unfold GWT at h
 split at h
 ·exact h
 ·exact GB_emb w a0 b o h
theorem GB_GWT (w : World) (a0 : Option Addr) (g : Nat) : (GB w a0).le (GWT w a0 g) := by
 intro b o h
 unfold GWT
 split
 ·exact GB_emb w a0 b o h
 ·exact h
theorem law1T {f : FuncId} {a : Option Addr} {len cap : Nat} {zs : List Int} {w : World} (hT : Lib.TabIs Tryz.prog w "internal/strconv.uint64pow10" .u64 Lib.pow10Tab)
  (h : (a = none ∧ len = 0 ∧ cap = 0 ∧ zs = []) ∨ ∃ x, a = some x ∧ len ≤ cap ∧ cap ≤ maxLen ∧ zs.length = cap ∧ (∀ i, i < zs.length → w.cell? (x.add i) = some (.int .u8 (zs.getD i 0))) ∧ ∀ n ∈ zs, (Lit.int .u8 n).wf = true)
  (hc : ∀ G, TabG G → (len ≤ 1048576 → ∃ l, Byts G l (.slice a len cap) ∧ l.length = len) → Pure Tryz.prog f [.slice a len cap] G fun v G' => v = .bool true) :
  Calls Tryz.prog f #[.slice a len cap] w fun e w' => e = .returned (.bool true) ∧ Below w.heap.size w w' := by
 obtain ⟨g, hg, hcs⟩ : ∃ g, Tryz.prog.globalNamed "internal/strconv.uint64pow10" = some g ∧ ∃ o, w.heap[g]? = some o := by
  unfold Lib.TabIs World.var? at hT
  cases hg : Tryz.prog.globalNamed "internal/strconv.uint64pow10" with
  | none => rw [hg] at hT; cases hT
  | some g =>
   refine ⟨g, J, ?_⟩
   rw [hg] at hT
   cases ho : w.heap[g]? with
   | none => simp [ho] at hT
   | some o => exact ⟨o, rfl⟩
 obtain ⟨o, ho⟩ := hcs
 have hTab : TabG (GWT w a g) := by
  intro w' hw'
  have h1 : w'.heap[g]? = some o := hw' g o (by simp [GWT, ho])
  unfold Lib.TabIs World.var? at hT ⊢
  rw [hg] at hT ⊢
  simp only [Option.bind_some, ho, h1] at hT ⊢
  exact hT
 exact (hc (GWT w a g) hTab (fun hlen => by
  obtain ⟨l, hl, e⟩ := byts_of h hlen
  exact ⟨l, Byts_le (GB_GWT w a g) hl, e⟩) w (GWT_emb w a g)).mono fun e w' ⟨v, G', h1, h2, h3, h4, h5⟩ => ⟨by rw [h1, h2], h5⟩
theorem own : ownKnob Tryz.prog.godebug = none := by kernel_rfl
theorem laidOut : laidOutB Tryz.prog = true := by kernel_rfl
def laidT : List (String × DataW Unit) := [("math/bits.deBruijn32tab", Rows.laid_math_bits_deBruijn32tab), ("math/bits.deBruijn64tab", Rows.laid_math_bits_deBruijn64tab), ("internal/strconv.uint64pow10", Rows.laid_internal_strconv_uint64pow10)]
set_option maxRecDepth 100000 in
theorem door_met (os : Os) (args : Array Value) : laidMetH Tryz.prog laidT ((World.doorLaid Tryz.prog 24 os).forCall (fun _ _ => 0) ⟨#[], args, []⟩).memory :=
 laidMetH_of_parts3 (fuel := 8) (laidMet_of_run' 8 (by kernel_rfl) (by kernel_rfl)) (by kernel_rfl) (by kernel_rfl)
theorem gPow : Tryz.prog.globalNamed "internal/strconv.uint64pow10" = some 0 := by kernel_rfl
theorem tPow : (Tryz.prog.globals[0]?).map (·.type) = some 181 := by kernel_rfl
theorem uPow : Tryz.prog.underlying 181 = some (.array 20 173) := by kernel_rfl
theorem uElem : Tryz.prog.underlying 173 = some (.int .u64) := by kernel_rfl
theorem cElem : Tryz.prog.cellsOf 173 = 1 := by kernel_rfl
theorem cPow : Tryz.prog.cellsOf 181 = 20 := by kernel_rfl
set_option maxRecDepth 100000 in
theorem pow_eq : (Rows.laid_internal_strconv_uint64pow10 : DataW Unit) = Lib.tabData .u64 Lib.pow10Tab := by
 simp [Rows.laid_internal_strconv_uint64pow10, Lib.tabData, Lib.pow10Tab, List.range, List.range.loop]
theorem of_laid {W : World} (h : laidMetH Tryz.prog laidT W) : Lib.TabIs Tryz.prog W "internal/strconv.uint64pow10" .u64 Lib.pow10Tab := by
 rw [MakeChecks.laidMetH_plain _ _ _ (by kernel_rfl)] at h
 have h2 : laidMet Tryz.prog [("internal/strconv.uint64pow10", Rows.laid_internal_strconv_uint64pow10)] W := h.tail.tail
 rw [pow_eq] at h2
 exact Lib.tabIs_of_head gPow tPow uPow uElem cElem cPow h2
def IsRow (k : IntKind) (w : World) (a : Option Addr) (len cap : Nat) (zs : List Int) : Prop :=
 (a = none ∧ len = 0 ∧ cap = 0 ∧ zs = []) ∨
 ∃ x, a = some x ∧ len ≤ cap ∧ cap ≤ maxLen ∧ zs.length = cap ∧ (∀ i, i < zs.length → w.cell? (x.add i) = some (.int k (zs.getD i 0))) ∧ ∀ n ∈ zs, (Lit.int k n).wf = true
end
end Go.Proofs.YtbecgghgcglafaaGreatDoor
