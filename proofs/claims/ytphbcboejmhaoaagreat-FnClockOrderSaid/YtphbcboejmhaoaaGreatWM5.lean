/- Walks of the program's functions, one after the other (part 5); without conditions of their own. -/
import Derived.Test.YtphbcboejmhaoaaGreatWM3
import Derived.Test.YtphbcboejmhaoaaGreatWM4
import Derived.Test.YtphbcboejmhaoaaGreatWM2
set_option linter.unusedVariables false
set_option linter.unusedSimpArgs false
set_option maxRecDepth 100000
set_option maxHeartbeats 4000000
open Go.RowKit
namespace Go.Proofs.YtphbcboejmhaoaaGreat
section
attribute [local irreducible] X Pure Mod
def PrgS (G : PH) (p : List (List Stm)) (v : Value) : Prop := Prg G p v ∧ (∀ l ∈ p, Sh l) ∧ p.length ≤ 1000000
theorem PrgS_le {G G' : PH} (hl : G.le G') {p : List (List Stm)} {v : Value} (h : PrgS G p v) : PrgS G' p v := ⟨Prg_le hl h.1, h.2⟩
theorem del_le (G : PH) (g : Nat) : (G.del g).le G := by
 intro b o h
 unfold PH.del at h
 split at h
 ·cases h
 ·exact h
theorem Cs_intC {l : List Int} (h : ∀ x ∈ l, I64 x) : Cs 1 intRep l (intC l) := by
 induction l with
 | nil => rfl
 | cons n l ih => exact ⟨[.int .i64 n], intC l, rfl, rfl, ⟨rfl, h n (List.mem_cons_self ..)⟩, ih fun x hx => h x (List.mem_cons_of_mem _ hx)⟩
def kP : Nat := 20 + 3 * kS
def l6V (v : Value) (G : PH) : Prop := ∃ p pv ow ov, v = .tuple #[pv, ov] ∧ PrgS G p pv ∧ 1 ≤ p.length ∧ p.length ≤ 3 ∧ Ints G ow ov ∧ ow.length ≤ 5
theorem del_mono {G G' : PH} (h : G.le G') (g : Nat) : (G.del g).le (G'.del g) := by
 intro b o hb
 unfold PH.del at hb ⊢
 split at hb
 ·cases hb
 ·rename_i hne; rw [if_neg hne]; exact h b o hb
theorem newp_del {G G' : PH} {g : Nat} {o : Obj} (h : G g = some o) : (newp G G').le (G'.del g) := by
 intro b o' hb
 unfold newp at hb
 unfold PH.del
 split at hb
 ·cases hb
 ·rename_i hn
  rw [if_neg (by rintro rfl; rw [h] at hn; cases hn)]; exact hb
theorem sts_at {G : PH} {p : List (List Stm)} {xs : List Value} (h : Cs 1 (stsRep G) p xs) {i : Nat} (hi : i < p.length) : ∃ v, xs[i]? = some v ∧ Sts G p[i] v ∧ ∀ v' l', Sts G l' v' → Cs 1 (stsRep G) (p.set i l') (xs.set i v') := by
 obtain ⟨cs, h1, h2, ⟨v, rfl, hv⟩, h4⟩ := Cs_at h hi
 refine ⟨v, ?_, hv, fun v' l' hl => ?_⟩
 ·have := congrArg (·[0]?) h1
  simp only [List.getElem?_cons_zero] at this
  rw [← this, List.getElem?_take_of_lt (by omega), List.getElem?_drop]
  simp
 ·have := h4 0 v' l' (by omega) ⟨v', rfl, hl⟩
  simpa using this
theorem Sr_tail {α : Type} {G : PH} {sz : Nat} {rep : α → List Value → Prop} {s : α} {r : List α} {A : Option Addr} {n c : Nat} (h : Sr G sz rep (s :: r) (.slice A n c)) {m : Nat} (hm : m = r.length) : Sr G sz rep r (.slice (if c = 1 then A else A.map (·.add (1 * sz))) m (c - 1)) := by
 subst hm
 obtain ⟨A', c', e, h1, h2, h3, h4⟩ := h
 cases e
 simp only [List.length_cons] at h1 h2 h4
 refine ⟨_, _, J, by omega, by omega, by omega, ?_⟩
 rcases h4 with h4 | ⟨ad, rfl, h5⟩
 ·omega
 ·by_cases hr : r.length = 0
  ·exact .inl hr
  ·right
   rw [if_neg (by omega)]
   exact ⟨_, J, by simpa using h5.2⟩
theorem c_l6Some (b : Nat) (l : List Int) (sv : Value) (N : Nat) (G : PH) (hl : Byts G l sv) (hN : N + kP ≤ 1000000000) : Drw 23 b sv [] N kP G l6V := by
 obtain ⟨A, c, rfl, hl1, _⟩ := id hl
 have hkP : kP = 20 + 3 * kS := rfl
 refine Mod.intro Tryz.func23 Tryz.ntmps23 J J fun w S => ?_;refine Va J J ?_;refine S_emptyO Tk 6 J J J J fun A0 => ?_;refine Va J J ?_;refine S_loop (α := Nat × Option Addr × Nat × List Int) (fun y => y.1 ≤ 5 ∧ y.2.2.2.length = y.1 ∧ ∀ x ∈ y.2.2.2, I64 x) (fun y => 5 - y.1) []
  (fun y => [(5, .val (.int .i64 (y.1 : Nat))), (4, .val (.slice y.2.1 y.2.2.2.length y.2.2.1)), (0, .val (.pointer (some ⟨b, 0, none⟩))), (2, .val (.slice none 0 0)), (3, .val (.slice none 0 0))])
  (fun y => [.hp 6 (rowO w.heap.size 3 1 y.2.1 y.2.2.2.length y.2.2.1 (intC y.2.2.2)), .hp 1 (rdHP b (.slice A l.length c) (N + y.1))]) (fun y => G) (0, A0, 0, []) ⟨by simp, rfl, by simp⟩ rfl ?_ ?_ ?_
 ·exact ⟨⟨_, J, J⟩, ⟨_, J, J⟩, ⟨_, J, J⟩, ⟨_, J, J⟩, ⟨_, J, J⟩, trivial⟩
 ·exact .hp (.hp .nil)
 rintro ⟨i, A5, c5, ow⟩ ⟨hi, hil, how⟩
 simp only at hi hil how ⊢
 refine Va J J ?_
 refine S_condp J (fun h => ?_) (fun h => ?_) <;> refine Va J J ?_
 ·refine S_callM 1 Tryz.call22 (c_pick b l _ _ _ G hl ⟨by omega, by omega⟩ (by omega)) J J J J (fun _ => J) ?_
  rintro v G2 A' ⟨rfl, rfl, m, rfl, h0, h1⟩ _
  refine Va J J ?_;refine S_slice Tk ZT_ok J J J J (by decide) (by decide) J J J J fun b2 => ?_;refine Va J J ?_;refine S_app1 Tk 6 16 J J J J J J J J J J J J J J (by intro u hu; simp at hu; rcases hu with rfl; rfl) rfl (fun _ _ => rfl) (by omega) (Nat.le_refl _) fun A6 c6 => ?_;refine Va J J ?_;refine S_add J J J J (by omega) ?_;refine Va J J ?_;refine S_again (i + 1, A6, c6, ow ++ [m]) ⟨by simp only; omega, by simp; omega, ?_⟩ (by simp only; omega) rfl ⟨⟨_, rfl, by simp [denO]⟩, ⟨_, rfl, by simp [denO]⟩, ⟨_, rfl, rfl⟩, ⟨_, rfl, rfl⟩, ⟨_, rfl, rfl⟩, trivial⟩ ?_
  ·intro x hx
   rcases List.mem_append.1 hx with hx | hx
   ·exact how x hx
   ·rw [List.mem_singleton.1 hx]; exact ⟨by omega, by omega⟩
  simp only [List.length_append, List.length_singleton, intC_append]
  exact .drop (.hp (.hp .nil))
 obtain rfl : i = 5 := by omega
 refine S_callPr 1 7 Tryz.call44 (c_l2Prog b l _ _ G hl (by omega)) J J J J (fun _ => J) ?_;rintro v G3 A' B' ⟨rfl, A1, n1, c1, xs1, base1, rfl, rfl, p, rfl, hp1, hp3, hcs, hsh⟩ hext3
 refine S_newRow 7 J J ?_;refine S_capO 7 J fun hnc1 hcm1 _ => ?_;refine S_someO 7 J (by omega) fun gp offp eA => ?_
 subst eA
 refine S_capO 6 J fun hnc5 hcm5 _ => ?_;refine S_someO 6 J (by omega) fun go offo eA => ?_
 subst eA
 refine Va J J ?_;refine S_callM 1 Tryz.call22 (c_pick b l _ _ _ _ (Byts_le hext3.le hl) ⟨by omega, by omega⟩ (by omega)) J J J J (fun _ => J) ?_;rintro v G2 A' ⟨rfl, rfl, m, rfl, hm0, hm1⟩ _
 refine Va J J ?_
 refine S_condp J (fun h9 => ?_) (fun h9 => ?_) <;> refine Va J J ?_
 ·refine S_lendO 6 J J (fun _ hn _ _ => by omega) (fun g1 off1 cur eA hbg hnc hcm hxl hfit htake hGg hbb hcells => ?_)
  cases eA
  have howG : Ints (G2.add go (.cells cur 3 (0, 0))) ow (.slice (some ⟨go, offo, none⟩) ow.length c5) := ints_of hcells rfl hnc hcm (by omega) how
  refine S_loop (α := Nat × List Value × List (List Stm) × PH) (fun y => y.1 ≤ p.length ∧ y.2.2.1.length = p.length ∧ PH.ext w.heap.size (G2.add go (.cells cur 3 (0, 0))) y.2.2.2 ∧ Cs 1 (stsRep (y.2.2.2.del go)) y.2.2.1 y.2.1 ∧ (∀ q ∈ y.2.2.1, Sh q) ∧ ∀ j (hj : j < y.2.2.1.length), y.1 ≤ j → stmtsOk y.2.2.1[j] = true) (fun y => p.length - y.1) []
   (fun y => [(7, .val (.int .i64 (y.1 : Nat))), (6, .val (.slice (some ⟨gp, offp, none⟩) p.length c1)), (4, .val (.slice (some ⟨go, offo, none⟩) ow.length c5)), (0, .val (.pointer (some ⟨b, 0, none⟩))), (2, .val (.slice none 0 0)), (3, .val (.slice none 0 0))])
   (fun y => [.hp 7 (rowO w.heap.size 40 1 (some ⟨gp, offp, none⟩) p.length c1 y.2.1), .hp 1 (rdHP b (.slice A l.length c) (N + 5 + (1 + 3 * kS) + 1))]) (fun y => y.2.2.2) (0, xs1, p, G2.add go (.cells cur 3 (0, 0))) ⟨Nat.zero_le _, rfl, PH.ext.refl _ _, ?_, fun q hq => (hsh q hq).1, fun j hj _ => (hsh _ (List.getElem_mem hj)).2⟩ rfl ?_ ?_ ?_
  ·simp only
   rw [PH.del_add hGg]
   exact hcs
  ·exact ⟨⟨_, J, J⟩, ⟨_, J, J⟩, ⟨_, J, J⟩, ⟨_, J, J⟩, ⟨_, J, J⟩, ⟨_, J, J⟩, trivial⟩
  ·exact .hp (.hp .nil)
  rintro ⟨i, xs7, p7, G7⟩ ⟨hi7, hl7, hext7, hcs7, hsh7, hok7⟩
  simp only at hi7 hl7 hext7 hcs7 hsh7 hok7 ⊢
  have hG7 : G7 go = some (.cells cur 3 (0, 0)) := hext7.le go _ (PH.add_self _ _ _)
  refine Va J J ?_
  refine S_condp J (fun h12 => ?_) (fun h12 => ?_) <;> refine Va J J ?_
  ·have hi8 : i < p7.length := by omega
   obtain ⟨pv0, e0, hv0, hset0⟩ := sts_at hcs7 hi8
   obtain ⟨Ap0, cp0, rfl, _⟩ := id hv0
   refine S_index Tk J J J J J J (by omega) (by omega) ?_;refine Va J J ?_;refine S_valV J J J (V_loadR' (o := i) Tk 7 J J (by simp [add_lit']) J J e0) ?_;refine Va J J ?_
   have hokL : okL p7[i] := ⟨3, -1, by have := hok7 i hi8 (Nat.le_refl _); simp only [stmtsOk, Bool.and_eq_true] at this; exact this.1⟩
   refine S_call Tryz.call45 (Tm_all ow p7[i] (-1) 3 _ _ G7 (Sts_le (del_le G7 go) hv0) (Ints_le hext7.le howG) hil (by omega) (by omega) (hsh7 _ (List.getElem_mem hi8)) hokL) J J J ?_;rintro v3 G8 ⟨X3, hv3, hs3⟩ hext8
   replace hv3 := Sts_le (newp_del hG7) hv3
   obtain ⟨A31, c31, rfl, _⟩ := id hv3
   refine Va J J ?_;refine S_index Tk J J J J J J (by omega) (by omega) ?_;refine Va J J ?_;refine S_storeO Tk 7 (o := i) J J J (by simp [add_lit']) J J J J J (by have := Cs_length hcs7; omega) rfl ?_;refine Va J J ?_;refine S_add J J J J (by omega) ?_;refine Va J J ?_;refine S_again (i + 1, xs7.set i _, p7.set i X3, G8) ⟨by simp only; omega, by simp; omega, hext7.trans hext8, (sts_at (Cs_mono (fun _ _ _ h => stsRep_le (del_mono hext8.le go) h) hcs7) hi8).choose_spec.2.2 _ _ hv3, ?_, ?_⟩ (by simp only; omega) rfl ⟨⟨_, rfl, by simp [denO]⟩, ⟨_, rfl, rfl⟩, ⟨_, rfl, rfl⟩, ⟨_, rfl, rfl⟩, ⟨_, rfl, rfl⟩, ⟨_, rfl, rfl⟩, trivial⟩ (.hp (.hp .nil))
   ·intro q hq
    rcases List.mem_or_eq_of_mem_set hq with hq | rfl
    ·exact hsh7 q hq
    ·exact hs3
   ·intro j hj hij
    simp only at hj hij ⊢
    rw [List.getElem_set_ne (by omega)]
    exact hok7 j (by simpa using hj) (by omega)
  ·refine S_backO 6 hG7 hbb hbg hnc hcm hxl hfit htake ?_
   have hE7 := hext3.trans (PH.ext.del hGg hext7)
   refine S_callM 1 Tryz.call22 (c_pick b l _ _ _ _ (Byts_le (PH.ext.le (hE7)) hl) ⟨by omega, by omega⟩ (by omega)) J J J J (fun _ => J) ?_;rintro v G2 A' ⟨rfl, rfl, m2, rfl, hm20, hm21⟩ _
   refine Va J J ?_
   refine S_condp J (fun h10 => ?_) (fun h10 => ?_) <;> refine Va J J ?_
   ·refine S_sliceG Tk ZT_ok J J J J (by decide) (by decide) J J J J (fun _ => J) fun bq Gq hxq hcq => ?_
    refine Va J J ?_;refine S_callM 1 Tryz.call46 (c_numL b [-1, 2] (Byts_le (PH.ext.trans (hE7) hxq).le hl) hcq J (Nat.le_refl _) (by decide) (by decide) (i64_small (by decide)) (by omega)) J J J J (fun _ => J) ?_;rintro v G' A' ⟨rfl, rfl, m3, hmem3, rfl⟩ _
    have hi3 : I64 m3 := i64_small (l := [-1, 2]) (by decide) m3 hmem3
    refine Va J J ?_;refine S_index Tk J J J J J J (by omega) (by omega) ?_;refine Va J J ?_;refine S_storeO Tk 6 (o := 0) J J J (by simp [add_lit']) J J J J J (by rw [intC_length]; omega) rfl ?_;refine Va J J ?_
    have e5 : (intC ow).set 0 (.int .i64 m3) = intC (ow.set 0 m3) := by
     cases ow with
     | nil => simp at hil
     | cons x r => rfl
    have how3 : ∀ x ∈ ow.set 0 m3, I64 x := by
     intro x hx
     rcases List.mem_or_eq_of_mem_set hx with hx | rfl
     ·exact how x hx
     ·exact hi3
    rw [e5]
    refine S_freezeR 7 J J (Nat.le_refl _) fun G5 hext5 hnc7 hcm7 hcl7 => ?_;refine S_freezeR 6 J J (Nat.le_refl _) fun G6 hext6 hnc6 hcm6 hcl6 => ?_
    have hP : Prg G5 _ _ := frzL (newp_le _ _) (Cs_mono (fun _ _ _ h => stsRep_le hext5.le h) ((Cs_mono (fun _ _ _ h => stsRep_le hxq.le h) (hcs7)))) (by first | omega | (simp only [List.length_set]; omega) | simp) (by omega) hnc7 hcm7 hcl7
    have hO : Ints G6 (ow.set 0 m3) _ := frzL (newp_le _ _) (Cs_intC (how3)) (by first | omega | (simp only [List.length_set]; omega) | simp) (by omega) hnc6 hcm6 hcl6
    have hxF := (((PH.ext.trans (hE7) hxq)).trans hext5).trans hext6
    refine S_rdLe 1 (N + kP) (by omega) J J ?_;exact S_retm 1 (Res.t2 Tryz.results23 J J J J) J hxF ⟨J, _, _, _, _, J, ⟨Prg_le hext6.le hP, hsh7, by first | omega | (simp only [List.length_set]; omega) | simp⟩, by first | omega | (simp only [List.length_set]; omega) | simp, by first | omega | (simp only [List.length_set]; omega) | simp, hO, by first | omega | (simp only [List.length_set]; omega) | simp⟩
   refine S_condp J (fun h11 => ?_) (fun h11 => ?_) <;> refine Va J J ?_
   ·rcases ow with _ | ⟨ox, orr⟩
    ·simp at hil
    refine S_freezeR 7 J J (Nat.le_refl _) fun G5 hext5 hnc7 hcm7 hcl7 => ?_;refine S_freezeR 6 J J (Nat.le_refl _) fun G6 hext6 hnc6 hcm6 hcl6 => ?_
    have hP : Prg G5 _ _ := frzL (newp_le _ _) (Cs_mono (fun _ _ _ h => stsRep_le hext5.le h) ((hcs7))) (by first | omega | (simp only [List.length_set]; omega) | simp) (by omega) hnc7 hcm7 hcl7
    have hO : Ints G6 ((ox :: orr)) _ := frzL (newp_le _ _) (Cs_intC (how)) (by first | omega | (simp only [List.length_set]; omega) | simp) (by omega) hnc6 hcm6 hcl6
    have hxF := (((hE7)).trans hext5).trans hext6
    have ho5 : orr.length = 4 := by simpa using hil
    refine Ds J J J ?_;refine Da J J ?_;refine D_val 2 J J J J J J J J J (V_slice1 Tk J J J) ?_;refine Da J J ?_;refine DD ?_;refine Va J J ?_;refine S_rdLe 1 (N + kP) (by omega) J J ?_;exact S_retm 1 (Res.t2 Tryz.results23 J J J J) J hxF ⟨J, _, _, _, _, J, ⟨Prg_le hext6.le hP, hsh7, by omega⟩, by omega, by omega, Sr_tail hO J, by omega⟩
   refine S_condp J (fun h12 => ?_) (fun h12 => ?_) <;> refine Va J J ?_
   ·obtain ⟨pv0, e0, hv0, hset0⟩ := sts_at (hcs7) (i := 0) (by omega)
    obtain ⟨Ap0, cp0, rfl, _⟩ := id hv0
    refine S_index Tk J J J J J J (by omega) (by omega) ?_;refine Va J J ?_;refine S_valV J J J (V_loadR' Tk 7 J J (by simp [add_lit']) J J e0) ?_;refine Va J J ?_
    have hx10 := (hE7)
    refine S_callM 1 Tryz.call47 (c_l2Bent b l _ _ _ _ _ (Byts_le hx10.le hl) hv0 (hsh7 _ (List.getElem_mem _)) (by omega)) J J J J (fun _ => J) ?_;rintro v G11 A' ⟨rfl, l11, hv11, hs11⟩ hx11
    obtain ⟨Ap1, cp1, rfl, _⟩ := id hv11
    refine Va J J ?_;refine S_callM 1 Tryz.call47 (c_l2Bent b l _ _ _ _ _ (Byts_le (hx10.trans hx11).le hl) hv11 hs11 (by omega)) J J J J (fun _ => J) ?_;rintro v G12 A' ⟨rfl, l12, hv12, hs12⟩ hx12
    obtain ⟨Ap2, cp2, rfl, _⟩ := id hv12
    refine Va J J ?_;refine S_callM 1 Tryz.call47 (c_l2Bent b l _ _ _ _ _ (Byts_le ((hx10.trans hx11).trans hx12).le hl) hv12 hs12 (by omega)) J J J J (fun _ => J) ?_;rintro v G13 A' ⟨rfl, l13, hv13, hs13⟩ hx13
    obtain ⟨Ap3, cp3, rfl, _⟩ := id hv13
    refine Va J J ?_;refine S_index Tk J J J J J J (by omega) (by omega) ?_;refine Va J J ?_;refine S_storeO Tk 7 (o := 0) J J J (by simp [add_lit']) J J J J J (by have := Cs_length (hcs7); omega) rfl ?_;refine Va J J ?_
    have hcs13 := (sts_at (Cs_mono (fun _ _ _ h => stsRep_le ((hx11.trans hx12).trans hx13).le h) (hcs7)) (i := 0) (by omega)).choose_spec.2.2 _ _ hv13
    have hsh13 : ∀ q ∈ List.set (p7) 0 l13, Sh q := by
     intro q hq
     rcases List.mem_or_eq_of_mem_set hq with hq | rfl
     ·exact hsh7 q hq
     ·exact hs13
    refine S_freezeR 7 J J (Nat.le_refl _) fun G5 hext5 hnc7 hcm7 hcl7 => ?_;refine S_freezeR 6 J J (Nat.le_refl _) fun G6 hext6 hnc6 hcm6 hcl6 => ?_
    have hP : Prg G5 _ _ := frzL (newp_le _ _) (Cs_mono (fun _ _ _ h => stsRep_le hext5.le h) (hcs13)) (by first | omega | (simp only [List.length_set]; omega) | simp) (by omega) hnc7 hcm7 hcl7
    have hO : Ints G6 (ow) _ := frzL (newp_le _ _) (Cs_intC (how)) (by first | omega | (simp only [List.length_set]; omega) | simp) (by omega) hnc6 hcm6 hcl6
    have hxF := (((((hx10.trans hx11).trans hx12).trans hx13)).trans hext5).trans hext6
    refine S_rdLe 1 (N + kP) (by omega) J J ?_;exact S_retm 1 (Res.t2 Tryz.results23 J J J J) J hxF ⟨J, _, _, _, _, J, ⟨Prg_le hext6.le hP, hsh13, by first | omega | (simp only [List.length_set]; omega) | simp⟩, by first | omega | (simp only [List.length_set]; omega) | simp, by first | omega | (simp only [List.length_set]; omega) | simp, hO, by first | omega | (simp only [List.length_set]; omega) | simp⟩
   ·refine S_freezeR 7 J J (Nat.le_refl _) fun G5 hext5 hnc7 hcm7 hcl7 => ?_
    refine S_freezeR 6 J J (Nat.le_refl _) fun G6 hext6 hnc6 hcm6 hcl6 => ?_
    have hP : Prg G5 _ _ := frzL (newp_le _ _) (Cs_mono (fun _ _ _ h => stsRep_le hext5.le h) ((hcs7))) (by first | omega | (simp only [List.length_set]; omega) | simp) (by omega) hnc7 hcm7 hcl7
    have hO : Ints G6 (ow) _ := frzL (newp_le _ _) (Cs_intC (how)) (by first | omega | (simp only [List.length_set]; omega) | simp) (by omega) hnc6 hcm6 hcl6
    have hxF := (((hE7)).trans hext5).trans hext6
    refine S_rdLe 1 (N + kP) (by omega) J J ?_;exact S_retm 1 (Res.t2 Tryz.results23 J J J J) J hxF ⟨J, _, _, _, _, J, ⟨Prg_le hext6.le hP, hsh7, by first | omega | (simp only [List.length_set]; omega) | simp⟩, by first | omega | (simp only [List.length_set]; omega) | simp, by first | omega | (simp only [List.length_set]; omega) | simp, hO, by first | omega | (simp only [List.length_set]; omega) | simp⟩
 ·refine S_callM 1 Tryz.call22 (c_pick b l _ _ _ _ (Byts_le (PH.ext.le (hext3)) hl) ⟨by omega, by omega⟩ (by omega)) J J J J (fun _ => J) ?_
  rintro v G2 A' ⟨rfl, rfl, m2, rfl, hm20, hm21⟩ _
  refine Va J J ?_
  refine S_condp J (fun h10 => ?_) (fun h10 => ?_) <;> refine Va J J ?_
  ·refine S_sliceG Tk ZT_ok J J J J (by decide) (by decide) J J J J (fun _ => J) fun bq Gq hxq hcq => ?_
   refine Va J J ?_;refine S_callM 1 Tryz.call46 (c_numL b [-1, 2] (Byts_le (PH.ext.trans (hext3) hxq).le hl) hcq J (Nat.le_refl _) (by decide) (by decide) (i64_small (by decide)) (by omega)) J J J J (fun _ => J) ?_;rintro v G' A' ⟨rfl, rfl, m3, hmem3, rfl⟩ _
   have hi3 : I64 m3 := i64_small (l := [-1, 2]) (by decide) m3 hmem3
   refine Va J J ?_;refine S_index Tk J J J J J J (by omega) (by omega) ?_;refine Va J J ?_;refine S_storeO Tk 6 (o := 0) J J J (by simp [add_lit']) J J J J J (by rw [intC_length]; omega) rfl ?_;refine Va J J ?_
   have e5 : (intC ow).set 0 (.int .i64 m3) = intC (ow.set 0 m3) := by
    cases ow with
    | nil => simp at hil
    | cons x r => rfl
   have how3 : ∀ x ∈ ow.set 0 m3, I64 x := by
    intro x hx
    rcases List.mem_or_eq_of_mem_set hx with hx | rfl
    ·exact how x hx
    ·exact hi3
   rw [e5]
   refine S_freezeR 7 J J (Nat.le_refl _) fun G5 hext5 hnc7 hcm7 hcl7 => ?_;refine S_freezeR 6 J J (Nat.le_refl _) fun G6 hext6 hnc6 hcm6 hcl6 => ?_
   have hP : Prg G5 _ _ := frzL (newp_le _ _) (Cs_mono (fun _ _ _ h => stsRep_le hext5.le h) ((Cs_mono (fun _ _ _ h => stsRep_le hxq.le h) (hcs)))) (by first | omega | (simp only [List.length_set]; omega) | simp) (by omega) hnc7 hcm7 hcl7
   have hO : Ints G6 (ow.set 0 m3) _ := frzL (newp_le _ _) (Cs_intC (how3)) (by first | omega | (simp only [List.length_set]; omega) | simp) (by omega) hnc6 hcm6 hcl6
   have hxF := (((PH.ext.trans (hext3) hxq)).trans hext5).trans hext6
   refine S_rdLe 1 (N + kP) (by omega) J J ?_;exact S_retm 1 (Res.t2 Tryz.results23 rfl rfl rfl rfl) rfl hxF ⟨rfl, _, _, _, _, rfl, ⟨Prg_le hext6.le hP, (fun l hl => (hsh l hl).1), by first | omega | (simp only [List.length_set]; omega) | simp⟩, by first | omega | (simp only [List.length_set]; omega) | simp, by first | omega | (simp only [List.length_set]; omega) | simp, hO, by first | omega | (simp only [List.length_set]; omega) | simp⟩
  refine S_condp J (fun h11 => ?_) (fun h11 => ?_) <;> refine Va J J ?_
  ·rcases ow with _ | ⟨ox, orr⟩
   ·simp at hil
   refine S_freezeR 7 J J (Nat.le_refl _) fun G5 hext5 hnc7 hcm7 hcl7 => ?_;refine S_freezeR 6 J J (Nat.le_refl _) fun G6 hext6 hnc6 hcm6 hcl6 => ?_
   have hP : Prg G5 _ _ := frzL (newp_le _ _) (Cs_mono (fun _ _ _ h => stsRep_le hext5.le h) ((hcs))) (by first | omega | (simp only [List.length_set]; omega) | simp) (by omega) hnc7 hcm7 hcl7
   have hO : Ints G6 ((ox :: orr)) _ := frzL (newp_le _ _) (Cs_intC (how)) (by first | omega | (simp only [List.length_set]; omega) | simp) (by omega) hnc6 hcm6 hcl6
   have hxF := (((hext3)).trans hext5).trans hext6
   have ho5 : orr.length = 4 := by simpa using hil
   refine Ds J J J ?_;refine Da J J ?_;refine D_val 2 J J J J J J J J J (V_slice1 Tk J J J) ?_;refine Da J J ?_;refine DD ?_;refine Va J J ?_;refine S_rdLe 1 (N + kP) (by omega) J J ?_;exact S_retm 1 (Res.t2 Tryz.results23 rfl rfl rfl rfl) rfl hxF ⟨rfl, _, _, _, _, rfl, ⟨Prg_le hext6.le hP, (fun l hl => (hsh l hl).1), by omega⟩, by omega, by omega, Sr_tail hO rfl, by omega⟩
  refine S_condp J (fun h12 => ?_) (fun h12 => ?_) <;> refine Va J J ?_
  ·obtain ⟨pv0, e0, hv0, hset0⟩ := sts_at (hcs) (i := 0) (by omega)
   obtain ⟨Ap0, cp0, rfl, _⟩ := id hv0
   refine S_index Tk J J J J J J (by omega) (by omega) ?_;refine Va J J ?_;refine S_valV J J J (V_loadR' Tk 7 J J (by simp [add_lit']) J J e0) ?_;refine Va J J ?_
   have hx10 := (hext3)
   refine S_callM 1 Tryz.call47 (c_l2Bent b l _ _ _ _ _ (Byts_le hx10.le hl) hv0 ((fun l hl => (hsh l hl).1) _ (List.getElem_mem _)) (by omega)) J J J J (fun _ => J) ?_;rintro v G11 A' ⟨rfl, l11, hv11, hs11⟩ hx11
   obtain ⟨Ap1, cp1, rfl, _⟩ := id hv11
   refine Va J J ?_;refine S_callM 1 Tryz.call47 (c_l2Bent b l _ _ _ _ _ (Byts_le (hx10.trans hx11).le hl) hv11 hs11 (by omega)) J J J J (fun _ => J) ?_;rintro v G12 A' ⟨rfl, l12, hv12, hs12⟩ hx12
   obtain ⟨Ap2, cp2, rfl, _⟩ := id hv12
   refine Va J J ?_;refine S_callM 1 Tryz.call47 (c_l2Bent b l _ _ _ _ _ (Byts_le ((hx10.trans hx11).trans hx12).le hl) hv12 hs12 (by omega)) J J J J (fun _ => J) ?_;rintro v G13 A' ⟨rfl, l13, hv13, hs13⟩ hx13
   obtain ⟨Ap3, cp3, rfl, _⟩ := id hv13
   refine Va J J ?_;refine S_index Tk J J J J J J (by omega) (by omega) ?_;refine Va J J ?_;refine S_storeO Tk 7 (o := 0) J J J (by simp [add_lit']) J J J J J (by have := Cs_length (hcs); omega) rfl ?_;refine Va J J ?_
   have hcs13 := (sts_at (Cs_mono (fun _ _ _ h => stsRep_le ((hx11.trans hx12).trans hx13).le h) (hcs)) (i := 0) (by omega)).choose_spec.2.2 _ _ hv13
   have hsh13 : ∀ q ∈ List.set (p) 0 l13, Sh q := by
    intro q hq
    rcases List.mem_or_eq_of_mem_set hq with hq | rfl
    ·exact (fun l hl => (hsh l hl).1) q hq
    ·exact hs13
   refine S_freezeR 7 J J (Nat.le_refl _) fun G5 hext5 hnc7 hcm7 hcl7 => ?_;refine S_freezeR 6 J J (Nat.le_refl _) fun G6 hext6 hnc6 hcm6 hcl6 => ?_
   have hP : Prg G5 _ _ := frzL (newp_le _ _) (Cs_mono (fun _ _ _ h => stsRep_le hext5.le h) (hcs13)) (by first | omega | (simp only [List.length_set]; omega) | simp) (by omega) hnc7 hcm7 hcl7
   have hO : Ints G6 (ow) _ := frzL (newp_le _ _) (Cs_intC (how)) (by first | omega | (simp only [List.length_set]; omega) | simp) (by omega) hnc6 hcm6 hcl6
   have hxF := (((((hx10.trans hx11).trans hx12).trans hx13)).trans hext5).trans hext6
   refine S_rdLe 1 (N + kP) (by omega) J J ?_;exact S_retm 1 (Res.t2 Tryz.results23 J J J J) J hxF ⟨J, _, _, _, _, J, ⟨Prg_le hext6.le hP, hsh13, by first | omega | (simp only [List.length_set]; omega) | simp⟩, by first | omega | (simp only [List.length_set]; omega) | simp, by first | omega | (simp only [List.length_set]; omega) | simp, hO, by first | omega | (simp only [List.length_set]; omega) | simp⟩
  ·refine S_freezeR 7 J J (Nat.le_refl _) fun G5 hext5 hnc7 hcm7 hcl7 => ?_
   refine S_freezeR 6 J J (Nat.le_refl _) fun G6 hext6 hnc6 hcm6 hcl6 => ?_
   have hP : Prg G5 _ _ := frzL (newp_le _ _) (Cs_mono (fun _ _ _ h => stsRep_le hext5.le h) ((hcs))) (by first | omega | (simp only [List.length_set]; omega) | simp) (by omega) hnc7 hcm7 hcl7
   have hO : Ints G6 (ow) _ := frzL (newp_le _ _) (Cs_intC (how)) (by first | omega | (simp only [List.length_set]; omega) | simp) (by omega) hnc6 hcm6 hcl6
   have hxF := (((hext3)).trans hext5).trans hext6
   refine S_rdLe 1 (N + kP) (by omega) J J ?_;exact S_retm 1 (Res.t2 Tryz.results23 rfl rfl rfl rfl) rfl hxF ⟨rfl, _, _, _, _, rfl, ⟨Prg_le hext6.le hP, (fun l hl => (hsh l hl).1), by first | omega | (simp only [List.length_set]; omega) | simp⟩, by first | omega | (simp only [List.length_set]; omega) | simp, by first | omega | (simp only [List.length_set]; omega) | simp, hO, by first | omega | (simp only [List.length_set]; omega) | simp⟩
end
section
section
variable {C : Ctx} {ks : List Nat} {all : Array Oper} {k : List It} {E : Env} {ι : Ids} {L : List Ent} {G : PH} {R : List Nat} {pend : List Pd}
def rdyL (all : Array Oper) (R : List Nat) : List Nat → Option (List Nat)
 | [] => some []
 | i :: l => match nthOp i all.toList with
  | some o => match clearOf R o.after.toList with
   | true => match rdyL all R l with
    | some r => some (i :: r)
    | none => none
   | false => rdyL all R l
  | none => none
theorem rdyL_sound : ∀ {l r : List Nat}, rdyL all R l = some r → ∀ i ∈ l, ∀ o, all[i]? = some o → (∀ e ∈ edgesA o, e ∉ R) → i ∈ r := by
 intro l
 induction l with
 | nil => intro r _ i hi; cases hi
 | cons x l ih =>
  intro r h i hi o ho he
  simp only [rdyL] at h
  split at h
  ·rename_i o' ho'
   split at h
   ·split at h
    ·rename_i r' hr'
     cases h
     rcases List.mem_cons.1 hi with rfl | hi
     ·exact List.mem_cons_self ..
     ·exact List.mem_cons_of_mem _ (ih hr' i hi o ho he)
    ·cases h
   ·rename_i hc
    rcases List.mem_cons.1 hi with rfl | hi
    ·have ho'' : all[i]? = some o' := by simpa using nthOp_eq ho'
     rw [ho] at ho''; cases ho''
     obtain ⟨e, h1, h2, h3⟩ := clearOf_eq hc
     exact absurd h3 (he e.on (List.mem_map.2 ⟨e, List.mem_filter.2 ⟨h1, h2⟩, J⟩))
    ·exact ih h i hi o ho he
  ·cases h
def AllN (P : Nat → Prop) : List Nat → Prop
 | [] => True
 | j :: l => P j ∧ AllN P l
theorem AllN_mem {P : Nat → Prop} : ∀ {l : List Nat}, AllN P l → ∀ j ∈ l, P j
 | [], _, j, hj => by cases hj
 | x :: l, h, j, hj => by
  rcases List.mem_cons.1 hj with rfl | hj
  ·exact h.1
  ·exact AllN_mem h.2 j hj
theorem rdyL_sub : ∀ {l r : List Nat}, rdyL all R l = some r → ∀ i ∈ r, i ∈ l := by
 intro l
 induction l with
 | nil => intro r h i hi; cases h; cases hi
 | cons x l ih =>
  intro r h i hi
  simp only [rdyL] at h
  split at h
  ·split at h
   ·split at h
    ·rename_i r' hr'
     cases h
     rcases List.mem_cons.1 hi with rfl | hi
     ·exact List.mem_cons_self ..
     ·exact List.mem_cons_of_mem _ (ih hr' i hi)
    ·cases h
   ·exact List.mem_cons_of_mem _ (ih h i hi)
  ·cases h
theorem D_list {j0 : Nat} {js : List Nat} (hs : rdyL all R R = some (j0 :: js)) (h : AllN (Nx C ks all k R pend E ι L G) (j0 :: js)) : D C ks all k R pend E ι L G := by
 intro hok hp hdis
 refine DR_core hok hp hdis (fun h => by subst h; cases hs) ?_
 intro i hi o' ho' he
 exact AllN_mem h i (rdyL_sound hs i hi o' ho' he) hok hp hdis o' ho'
end
section
variable {C : Ctx} {k : List It} {E : Env} {ι : Ids} {L : List Ent} {G : PH} {all : Array Oper} {l : List Oper}
theorem S_Bhp (key κ : Nat) {b ty : Nat} {cs : List Cel} {vs : List Value} {L' : List Ent} (hj : lookI key ι = some b) (hB : lookB key L = some (ty, cs)) (hd : denL ι cs = some vs) (hL' : delB key L = some L') (hk : X C k E ι (.hp κ (blkHP b ty vs) :: L') G) : X C k E ι L G := by
 intro a w g1 g2 g3 g4
 obtain ⟨Ss, ho, hS⟩ := g4.own
 obtain ⟨S, Ss', b', hb', hh, hSb, hm, ho', hT⟩ := owns_delB hd ho hB hL'
 rw [hj] at hb'; cases hb'
 refine hk a w g1 g2 g3 ⟨g4.os, g4.tape, g4.output, g4.size, g4.keep, g4.emb, S :: Ss', ⟨blkHP_holds.2 ⟨hh, hSb⟩, fun T hT' x hx hx' => (hT T hT').2 x hx' hx, ho'⟩, ?_⟩
 intro T hT' x hx
 rcases List.mem_cons.1 hT' with rfl | hT'
 ·exact hS T hm x hx
 ·exact hS T (hT T hT').1 x hx
theorem S_hpB (κ key : Nat) {b ty : Nat} {vs : List Value} {L' : List Ent} (hL : getH κ L = some (blkHP b ty vs)) (hL' : delH κ L = some L') (hf : lookI key ι = none) (hk : X C k E ((key, b) :: ι) (.blk key ty (vL vs) :: L') G) : X C k E ι L G := by
 intro a w g1 g2 g3 g4
 obtain ⟨Ss, ho, hS⟩ := g4.own
 obtain ⟨S, Ss', hA, hm, ho', hT⟩ := owns_del ho hL hL'
 obtain ⟨hh, hSb⟩ := blkHP_holds.1 hA
 refine hk a w g1 g2 (g3.ids hf) ⟨g4.os, g4.tape, g4.output, g4.size, g4.keep, g4.emb, S :: Ss', ⟨⟨b, vs, by simp [lookI], denL_vL _ _, hh, hSb⟩, fun T hT' x hx hx' => (hT T hT').2 x hx' hx, owns_ids ho' hf⟩, ?_⟩
 intro T hT' x hx
 rcases List.mem_cons.1 hT' with rfl | hT'
 ·exact hS T hm x hx
 ·exact hS T (hT T hT').1 x hx
theorem S_unpair (κ κ1 κ2 : Nat) {A B : HP} {L' : List Ent} (hL : getH κ L = some (pairHP A B)) (hL' : delH κ L = some L') (hk : X C k E ι (.hp κ1 A :: .hp κ2 B :: L') G) : X C k E ι L G := by
 intro a w g1 g2 g3 g4
 obtain ⟨Ss, ho, hS⟩ := g4.own
 obtain ⟨S, Ss', ⟨S1, S2, hA, hB, hd, hSS⟩, hm, ho', hT⟩ := owns_del ho hL hL'
 refine hk a w g1 g2 g3 ⟨g4.os, g4.tape, g4.output, g4.size, g4.keep, g4.emb, S1 :: S2 :: Ss', ⟨hA, ?_, hB, ?_, ho'⟩, ?_⟩
 ·intro T hT' x hx hx'
  rcases List.mem_cons.1 hT' with rfl | hT'
  ·exact hd x hx hx'
  ·exact (hT T hT').2 x hx' ((hSS x).2 (.inl hx))
 ·intro T hT' x hx hx'
  exact (hT T hT').2 x hx' ((hSS x).2 (.inr hx))
 ·intro T hT' x hx
  rcases List.mem_cons.1 hT' with rfl | hT'
  ·exact hS S hm x ((hSS x).2 (.inl hx))
  rcases List.mem_cons.1 hT' with rfl | hT'
  ·exact hS S hm x ((hSS x).2 (.inr hx))
  ·exact hS T (hT T hT').1 x hx
theorem S_pick (kk : List Nat) {L1 L2 : List Ent} (hL : pickE kk L = some (L1, L2)) (hk : X C k E ι L1 G) : X C k E ι L G := by
 intro a w h1 h2 h3 h4
 obtain ⟨Ss, ho, hS⟩ := h4.own
 obtain ⟨Sx, Sr, g1, g2, g3, g4⟩ := pickE_sound hL ho
 exact hk a w h1 h2 h3 ⟨h4.os, h4.tape, h4.output, h4.size, h4.keep, h4.emb, Sx, g1, fun T hT => hS T ((g4 T).1 (.inl hT))⟩
theorem S_newHP (κ : Nat) {B : Nat} {A : HP} {L' : List Ent} (hL : getH κ L = some (newHP B A)) (hL' : setH κ A L = some L') (hk : X C k E ι L' G) : X C k E ι L G := by
 intro a w h1 h2 h3 h4
 refine hk a w h1 h2 h3 ?_;obtain ⟨S, ⟨hA, hB⟩, hSG, hturn⟩ := h4.turn hL
 exact hturn _ _ G w S hL' hA h4.emb XR (fun b hb => ⟨hSG b hb, .inl hb⟩) J J J (Nat.le_refl _) fun _ _ _ => J
end
section
variable {C : Ctx} {k : List It} {E : Env} {ι : Ids} {L : List Ent} {G : PH}
theorem S_cut {α : Type} {c : Code} (inv : α → Prop) (ι2 : α → Ids) (E2 : α → Env) (L2 : α → List Ent) (G2 : α → PH) (h1 : X C (.code c :: .stop (fun a w => ∃ y, inv y ∧ St C (E2 y) (ι2 y) (L2 y) (G2 y) a w) :: k) E ι L G)
  (h2 : ∀ y, inv y → X C k (E2 y) (ι2 y) (L2 y) (G2 y)) : X C (.code c :: k) E ι L G := by
 intro a w q1 q2 q3 q4
 refine wpIn_mono (h1 a w q1 q2 q3 q4) ?_
 intro e a' w' q
 cases e with
 | normal =>
  obtain ⟨y, hy, g1, g2, g3, g4⟩ := q
  exact h2 y hy a' w' g1 g2 g3 g4
 | _ => exact q
theorem S_meet {α : Type} {inv : α → Prop} {ι2 : α → Ids} {E2 : α → Env} {L2 : α → List Ent} {G2 : α → PH} (y : α) (hy : inv y) (hG : G = G2 y) (hE : subE ι E (ι2 y) (E2 y)) (hL : subL ι (ι2 y) L (L2 y)) : X C (.stop (fun a w => ∃ y, inv y ∧ St C (E2 y) (ι2 y) (L2 y) (G2 y) a w) :: k) E ι L G :=
 S_stop fun a w h => ⟨y, hy, by subst hG; exact h.sub hE hL⟩
end
def starHP : List HP → HP
 | [] => emptyHP
 | A :: r => pairHP A (starHP r)
section
variable {C : Ctx} {ι : Ids} {E : Env} {L : List Ent} {G : PH} {d : Option Nat} {ty : Nat} {pos : String} {af : Array Edge} {g : Option (Nat × Bool)}
theorem V_sliceHi {T : Tab} (hT : tabOk C.P T) {t e sz sz' m : Nat} {os os' : List Nat} {tk : TK} {x : Operand} {A : Option Addr} {n c : Nat} (ht : lookT t T = some ⟨.slc e, sz', os'⟩) (he : lookT e T = some ⟨tk, sz, os⟩) (hx : ev E x = some (.val (.slice A n c))) (hm : m ≤ n) (hnc : n ≤ c) (hpos : 0 < c) :
  Vl C ι E L G ⟨d, .slice t x none (some (.const (.int .i64 (m : Nat)))) none, ty, pos, af, g⟩ (.slice (A.map (·.add 0)) m c) := by
 intro a w hE hw
 have ex := ev_sound hE hx
 simp only [denO, Option.some.injEq] at ex
 have hu := tyOk_slice (hT _ _ ht) rfl
 simp only [execOp, Option.map_some, Option.map_none, ← ex]
 have : a.eval (.const (.int .i64 (m : Nat))) = .int .i64 (m : Nat) := rfl
 rw [this]
 have h1 : (m : Int) ≤ (n : Int) := by omega
 have h2 : ¬ ((m : Int) < 0) := by omega
 have h3 : ¬ (c = 0) := by omega
 have h4 : (m : Int) ≤ (c : Int) := by omega
 simp only [Instr.sliceAt, Sem.run_bind, run_underlying hu, Result.andThen_ok]
 simp [Instr.slice, run_underlying hu, Instr.sliceBounds, Instr.sliceBound, asIntOf, tyOk_size (hT _ _ he), h1, h2, h3, h4]
 intro h5
 omega
end
end
section
attribute [local irreducible] X Pure Mod
theorem Rw_take {α : Type} {G : PH} {sz : Nat} {rep : α → List Value → Prop} : ∀ {L : List α} {ad : Addr} (m : Nat), Rw G sz rep L ad → Rw G sz rep (L.take m) ad
 | [], _, m, h => by simpa using h
 | x :: L, _, 0, h => trivial
 | x :: L, _, m + 1, h => ⟨h.1, Rw_take m h.2⟩
theorem c_l11Open (l : List Int) (cv : Value) (G : PH) (hl : Byts G l cv) : Mod Tryz.prog 21 [cv] G emptyHP fun v G' A' => ∃ b sv l', v = .pointer (some ⟨b, 0, none⟩) ∧ A' = rdHP b sv 0 ∧ Byts G l' sv ∧ G' = G := by
 obtain ⟨A, c, rfl, hl1, hl2, hl3, hl4⟩ := id hl
 refine Mod.intro Tryz.func21 Tryz.ntmps21 J J fun w S => ?_;refine Va J J ?_
 refine S_condp J (fun h => ?_) (fun h => ?_) <;> refine Va J J ?_
 ·refine S_valV J J J (V_sliceHi (m := 2000) Tk J J J (by omega) hl2 (by omega)) ?_
  refine Va J J ?_;refine S_box J J J J J fun b => ?_;refine Va J J ?_
  have hl5 : Byts G (l.take 2000) (.slice (A.map (·.add 0)) 2000 c) := by
   refine ⟨_, _, by rw [List.length_take, Nat.min_eq_left (by omega)], by rw [List.length_take]; omega, by rw [List.length_take]; omega, hl3, ?_⟩
   rcases hl4 with hl4 | ⟨ad, rfl, hr⟩
   ·omega
   ·exact .inr ⟨ad, by simp [add_zero'], Rw_take 2000 hr⟩
  exact RK [10] (Res.t1 Tryz.results21 J J) ⟨b, _, _, J, J, hl5, J⟩ ⟨0, Nat.le_refl _, J, J⟩ J (.blk J J .nil) XR
 ·refine S_box J J J J J fun b => ?_
  refine Va J J ?_;exact RK [10] (Res.t1 Tryz.results21 J J) ⟨b, _, _, J, J, hl, J⟩ ⟨0, Nat.le_refl _, J, J⟩ J (.blk J J .nil) XR
mutual
/-- a copy, so deep at most -/
def cpS : Stm → Nat → Stm
 | .mk k a b n x y, d => .mk k a b n (cpL x d) (cpL y d)
def cpL : List Stm → Nat → List Stm
 | _, 0 => []
 | [], _ + 1 => []
 | s :: r, d + 1 => cpS s d :: cpL r (d + 1)
end
theorem cpL_succ (L : List Stm) (d : Nat) : cpL L (d + 1) = L.map (cpS · d) := by
 induction L with
 | nil => rfl
 | cons s r ih => simp [cpL, ih]
def Cp (L : List Stm) : Prop := ∀ (d : Nat) (v : Value) (G : PH), Sts G L v → d ≤ 1000 → Pure Tryz.prog 86 [v, .int .i64 (d : Nat)] G fun v' G' => Sts G' (cpL L d) v'
theorem c_l2Copy (L : List Stm) (hb : ∀ k (hk : k < L.length), Cp L[k].body ∧ Cp L[k].els) : Cp L := by
 intro d v G hst hd3
 obtain ⟨A, c, rfl, hl1, _⟩ := id hst
 refine Pure.intro Tryz.func86 Tryz.ntmps86 J J fun w => ?_; refine Va J J ?_;refine S_emptyO Tk 5 J J J J fun A0 => ?_;refine Va J J ?_;refine S_loop (α := Nat × Option Addr × Nat × List Value × PH) (fun y => y.1 ≤ L.length ∧ (0 < y.1 → 0 < d) ∧ PH.ext w.heap.size G y.2.2.2.2 ∧ Cs 6 (Stm.rep y.2.2.2.2) ((L.take y.1).map (cpS · (d - 1))) y.2.2.2.1) (fun y => L.length - y.1) []
  (fun y => [(6, .val (.int .i64 (y.1 : Nat))), (5, .val (.slice y.2.1 y.1 y.2.2.1)), (0, .val (.slice A L.length c)), (1, .val (.int .i64 (d : Nat)))])
  (fun y => [.hp 5 (rowO w.heap.size 65 6 y.2.1 y.1 y.2.2.1 y.2.2.2.1)]) (fun y => y.2.2.2.2) (0, A0, 0, [], G) ⟨Nat.zero_le _, fun h => absurd h (by simp), PH.ext.refl _ _, rfl⟩ rfl ?_ ?_ ?_
 ·exact ⟨⟨_, J, J⟩, ⟨_, J, J⟩, ⟨_, J, J⟩, ⟨_, J, J⟩, trivial⟩
 ·exact .hp .nil
 rintro ⟨i, A5, c5, xs5, G2⟩ ⟨hi, hid, hext, hcs5⟩
 simp only at hi hid hext hcs5 ⊢
 refine Va J J ?_
 refine S_cond J (fun h => ?_) (fun h => ?_) <;> refine Va J J ?_
 ·simp only [Bool.and_eq_true, decide_eq_true_eq] at h
  have hkl : i < L.length := by omega
  obtain ⟨e, rfl⟩ : ∃ e, d = e + 1 := ⟨d - 1, by omega⟩
  obtain ⟨ad, cs, rfl, hcs, hrep⟩ := Sr_at (Sts_le hext.le hst) hkl
  obtain ⟨hbx, hby⟩ := hb i hkl
  generalize hs : L[i] = s at hrep hbx hby
  obtain ⟨q1, q2, q3, q4, q5, q6⟩ := s
  obtain ⟨vx, vy, rfl, i1, i2, i3, i4, hx, hy⟩ := Stm.rep_iff.1 hrep
  simp only [Stm.body, Stm.els] at hbx hby
  obtain ⟨Ax, cx, rfl, hx1, _⟩ := id hx
  obtain ⟨Ay, cy, rfl, hy1, _⟩ := id hy
  refine S_index Tk J J J J J J (by omega) (by omega) ?_;refine Va J J ?_;refine S_loadA Tk J J J J J (by simpa using hcs) ?_;refine Va J J ?_;refine AZ ZT_ok J J J J fun b7 => ?_;refine Va J J ?_;refine S_subI J J J J (by omega) ?_;refine Va J J ?_
  rw [show (((e + 1 : Nat) : Int) - 1) = ((e : Nat) : Int) by omega]
  refine S_call Tryz.call86 (hbx e _ _ hx (by omega)) J J J ?_;rintro v3 G3 hv3 hext3
  obtain ⟨A31, c31, rfl, _⟩ := id hv3
  refine Va J J ?_;refine S_subI J J J J (by omega) ?_;refine Va J J ?_
  rw [show (((e + 1 : Nat) : Int) - 1) = ((e : Nat) : Int) by omega]
  refine S_call Tryz.call86 (hby e _ _ (Sts_le hext3.le hy) (by omega)) J J J ?_;rintro v4 G4 hv4 hext4
  obtain ⟨A41, c41, rfl, _⟩ := id hv4
  refine Va J J ?_;refine S_slice Tk ZT_ok J J J J (by decide) (by decide) J J J J fun b2 => ?_;refine Va J J ?_
  refine S_app1 Tk 5 37 J J J J J J J J J J J J J J (by intro u hu; simp at hu; rcases hu with rfl | rfl | rfl | rfl | rfl | rfl <;> rfl) rfl (fun _ _ => rfl) (by omega) (Nat.le_refl _) fun A6 c6 => ?_
  refine Va J J ?_;refine S_add J J J J (by omega) ?_;refine Va J J ?_;refine S_again (i + 1, A6, c6, _, G4) ⟨by simp only; omega, fun _ => by omega, (hext.trans hext3).trans hext4, ?_⟩ (by simp only; omega) rfl ⟨⟨_, rfl, by simp [denO]⟩, ⟨_, rfl, by simp [denO]⟩, ⟨_, rfl, rfl⟩, ⟨_, rfl, rfl⟩, trivial⟩ (by first | exact .drop (.hp .nil) | exact .drop (.drop (.hp .nil)))
  simp only
  rw [List.take_succ_eq_append_getElem hkl, List.map_append, hs]
  exact Cs_append (Cs_mono (Stm.reps_le (hext3.trans hext4).le _) hcs5) (Stm.rep_iff.2 ⟨_, _, J, i1, i2, i3, i4, Sts_le hext4.le hv3, hv4⟩) J
 ·refine S_freezeR 5 J J (Nat.le_refl _) fun Gf hextf hncf hcmf hclf => ?_
  have hvf : Sts Gf _ _ := frz (Cs_mono (Stm.reps_le hextf.le _) hcs5) (by simp; omega) (by omega) hncf hcmf hclf
  refine S_retp (Res.t1 Tryz.results86 J J) (hext.trans hextf) ?_
  have h' : ¬ (i < L.length ∧ 0 < d) := by simpa using h
  rcases Nat.eq_zero_or_pos d with rfl | hd
  ·have : i = 0 := by
    rcases Nat.eq_zero_or_pos i with h | h
    ·exact h
    ·have := hid h; omega
   subst this
   simpa [cpL] using hvf
  ·obtain ⟨e, rfl⟩ : ∃ e, d = e + 1 := ⟨d - 1, by omega⟩
   have : i = L.length := by omega
   subst this
   rw [List.take_length] at hvf
   rw [cpL_succ]
   exact hvf
mutual
theorem Cp_stm : ∀ (s : Stm), Cp s.body ∧ Cp s.els
 | .mk k a b n x y => ⟨Cp_all x, Cp_all y⟩
theorem Cp_at : ∀ (L : List Stm) (k : Nat) (hk : k < L.length), Cp L[k].body ∧ Cp L[k].els
 | [], k, hk => absurd hk (by simp)
 | s :: L, 0, _ => Cp_stm s
 | s :: L, k + 1, hk => Cp_at L k (by simpa using hk)
theorem Cp_all : ∀ (L : List Stm), Cp L
 | L => c_l2Copy L fun k hk => Cp_at L k hk
end
end
section
attribute [local irreducible] X Pure Mod
mutual
def oneS : Stm → Nat → Stm
 | .mk k a b n x y, d => .mk k (if k = 3 then a else if k = 4 then 0 else a) (if k = 3 then 0 else b) n (oneL x d) (oneL y d)
def oneL : List Stm → Nat → List Stm
 | _, 0 => []
 | [], _ + 1 => []
 | s :: r, d + 1 => oneS s d :: oneL r (d + 1)
end
theorem oneL_succ (L : List Stm) (d : Nat) : oneL L (d + 1) = L.map (oneS · d) := by
 induction L with
 | nil => rfl
 | cons s r ih => simp [oneL, ih]
theorem one_sh : ∀ (d : Nat) (L : List Stm), Sh L → Sh (oneL L d)
 | 0, L, _ => by
  have : oneL L 0 = [] := by cases L <;> rfl
  rw [this]; exact Sh_nil
 | d + 1, L, h => by
  rw [oneL_succ]
  refine ⟨by rw [List.length_map]; exact h.1, shL_iff.2 fun s hs => ?_⟩
  obtain ⟨s0, hs0, rfl⟩ := List.mem_map.1 hs
  have h0 := shL_iff.1 h.2 s0 hs0
  obtain ⟨k, a, b, n, x, y⟩ := s0
  obtain ⟨hx, hy⟩ := Stm.short_mk.1 h0
  simp only [oneS]
  exact Stm.short_mk.2 ⟨one_sh d x hx, one_sh d y hy⟩
def On (L : List Stm) : Prop := ∀ (d : Nat) (v : Value) (G : PH), Sts G L v → d ≤ 1000 → Pure Tryz.prog 52 [v, .int .i64 (d : Nat)] G fun v' G' => Sts G' (oneL L d) v'
theorem c_l7One (L : List Stm) (hb : ∀ k (hk : k < L.length), On L[k].body ∧ On L[k].els) : On L := by
 intro d v G hst hd3
 obtain ⟨A, c, rfl, hl1, _⟩ := id hst
 refine Pure.intro Tryz.func52 Tryz.ntmps52 J J fun w => ?_; refine Va J J ?_;refine S_emptyO Tk 5 J J J J fun A0 => ?_;refine Va J J ?_;refine S_loop (α := Nat × Option Addr × Nat × List Value × PH) (fun y => y.1 ≤ L.length ∧ (0 < y.1 → 0 < d) ∧ PH.ext w.heap.size G y.2.2.2.2 ∧ Cs 6 (Stm.rep y.2.2.2.2) ((L.take y.1).map (oneS · (d - 1))) y.2.2.2.1) (fun y => L.length - y.1) []
  (fun y => [(6, .val (.int .i64 (y.1 : Nat))), (5, .val (.slice y.2.1 y.1 y.2.2.1)), (0, .val (.slice A L.length c)), (1, .val (.int .i64 (d : Nat)))])
  (fun y => [.hp 5 (rowO w.heap.size 65 6 y.2.1 y.1 y.2.2.1 y.2.2.2.1)]) (fun y => y.2.2.2.2) (0, A0, 0, [], G) ⟨Nat.zero_le _, fun h => absurd h (by simp), PH.ext.refl _ _, rfl⟩ rfl ?_ ?_ ?_
 ·exact ⟨⟨_, J, J⟩, ⟨_, J, J⟩, ⟨_, J, J⟩, ⟨_, J, J⟩, trivial⟩
 ·exact .hp .nil
 rintro ⟨i, A5, c5, xs5, G2⟩ ⟨hi, hid, hext, hcs5⟩
 simp only at hi hid hext hcs5 ⊢
 refine Va J J ?_
 refine S_cond J (fun h => ?_) (fun h => ?_) <;> refine Va J J ?_
 ·simp only [Bool.and_eq_true, decide_eq_true_eq] at h
  have hkl : i < L.length := by omega
  obtain ⟨e, rfl⟩ : ∃ e, d = e + 1 := ⟨d - 1, by omega⟩
  obtain ⟨ad, cs, rfl, hcs, hrep⟩ := Sr_at (Sts_le hext.le hst) hkl
  obtain ⟨hbx, hby⟩ := hb i hkl
  generalize hs : L[i] = s at hrep hbx hby
  obtain ⟨q1, q2, q3, q4, q5, q6⟩ := s
  obtain ⟨vx, vy, rfl, i1, i2, i3, i4, hx, hy⟩ := Stm.rep_iff.1 hrep
  simp only [Stm.body, Stm.els] at hbx hby
  obtain ⟨Ax, cx, rfl, hx1, _⟩ := id hx
  obtain ⟨Ay, cy, rfl, hy1, _⟩ := id hy
  refine S_index Tk J J J J J J (by omega) (by omega) ?_;refine Va J J ?_;refine S_loadA Tk J J J J J (by simpa using hcs) ?_;refine Va J J ?_;refine AZ ZT_ok J J J J fun b7 => ?_;refine Va J J ?_
  have i0 : I64 0 := ⟨by omega, by omega⟩
  refine S_condp J (fun h3 => ?_) (fun h3 => ?_) <;> refine Va J J ?_
  ·refine S_subI J J J J (by omega) ?_
   refine Va J J ?_
   rw [show (((e + 1 : Nat) : Int) - 1) = ((e : Nat) : Int) by omega]
   refine S_call Tryz.call52 (hbx e _ _ hx (by omega)) J J J ?_;rintro v3 G3 hv3 hext3
   obtain ⟨A31, c31, rfl, _⟩ := id hv3
   refine Va J J ?_;refine S_subI J J J J (by omega) ?_;refine Va J J ?_
   rw [show (((e + 1 : Nat) : Int) - 1) = ((e : Nat) : Int) by omega]
   refine S_call Tryz.call52 (hby e _ _ (Sts_le hext3.le hy) (by omega)) J J J ?_;rintro v4 G4 hv4 hext4
   obtain ⟨A41, c41, rfl, _⟩ := id hv4
   refine Va J J ?_;refine S_slice Tk ZT_ok J J J J (by decide) (by decide) J J J J fun b2 => ?_;refine Va J J ?_
   refine S_app1 Tk 5 45 J J J J J J J J J J J J J J (by intro u hu; simp at hu; rcases hu with rfl | rfl | rfl | rfl | rfl | rfl <;> rfl) rfl (fun _ _ => rfl) (by omega) (Nat.le_refl _) fun A6 c6 => ?_
   refine Va J J ?_;refine S_add J J J J (by omega) ?_;refine Va J J ?_;refine S_again (i + 1, A6, c6, _, G4) ⟨by simp only; omega, fun _ => by omega, (hext.trans hext3).trans hext4, ?_⟩ (by simp only; omega) rfl ⟨⟨_, rfl, by simp [denO]⟩, ⟨_, rfl, by simp [denO]⟩, ⟨_, rfl, rfl⟩, ⟨_, rfl, rfl⟩, trivial⟩ (by first | exact .drop (.hp .nil) | exact .drop (.drop (.hp .nil)))
   simp only
   rw [List.take_succ_eq_append_getElem hkl, List.map_append, hs]
   refine Cs_append (Cs_mono (Stm.reps_le (hext3.trans hext4).le _) hcs5) ?_ J
   simp only [Nat.add_sub_cancel, oneS, h3,if_true]
   exact Stm.rep_iff.2 ⟨_, _, J, by first | assumption | exact ⟨by omega, by omega⟩, by first | assumption | exact ⟨by omega, by omega⟩, by first | assumption | exact ⟨by omega, by omega⟩, i4, Sts_le hext4.le hv3, hv4⟩
  refine S_condp J (fun h4 => ?_) (fun h4 => ?_) <;> refine Va J J ?_
  ·refine S_subI J J J J (by omega) ?_
   refine Va J J ?_
   rw [show (((e + 1 : Nat) : Int) - 1) = ((e : Nat) : Int) by omega]
   refine S_call Tryz.call52 (hbx e _ _ hx (by omega)) J J J ?_;rintro v3 G3 hv3 hext3
   obtain ⟨A31, c31, rfl, _⟩ := id hv3
   refine Va J J ?_;refine S_subI J J J J (by omega) ?_;refine Va J J ?_
   rw [show (((e + 1 : Nat) : Int) - 1) = ((e : Nat) : Int) by omega]
   refine S_call Tryz.call52 (hby e _ _ (Sts_le hext3.le hy) (by omega)) J J J ?_;rintro v4 G4 hv4 hext4
   obtain ⟨A41, c41, rfl, _⟩ := id hv4
   refine Va J J ?_;refine S_slice Tk ZT_ok J J J J (by decide) (by decide) J J J J fun b2 => ?_;refine Va J J ?_
   refine S_app1 Tk 5 45 J J J J J J J J J J J J J J (by intro u hu; simp at hu; rcases hu with rfl | rfl | rfl | rfl | rfl | rfl <;> rfl) rfl (fun _ _ => rfl) (by omega) (Nat.le_refl _) fun A6 c6 => ?_
   refine Va J J ?_;refine S_add J J J J (by omega) ?_;refine Va J J ?_;refine S_again (i + 1, A6, c6, _, G4) ⟨by simp only; omega, fun _ => by omega, (hext.trans hext3).trans hext4, ?_⟩ (by simp only; omega) rfl ⟨⟨_, rfl, by simp [denO]⟩, ⟨_, rfl, by simp [denO]⟩, ⟨_, rfl, rfl⟩, ⟨_, rfl, rfl⟩, trivial⟩ (by first | exact .drop (.hp .nil) | exact .drop (.drop (.hp .nil)))
   simp only
   rw [List.take_succ_eq_append_getElem hkl, List.map_append, hs]
   refine Cs_append (Cs_mono (Stm.reps_le (hext3.trans hext4).le _) hcs5) ?_ J
   simp only [Nat.add_sub_cancel, oneS, h3,h4,if_true,if_false]
   exact Stm.rep_iff.2 ⟨_, _, J, by first | assumption | exact ⟨by omega, by omega⟩, by first | assumption | exact ⟨by omega, by omega⟩, by first | assumption | exact ⟨by omega, by omega⟩, i4, Sts_le hext4.le hv3, hv4⟩
  ·refine S_subI J J J J (by omega) ?_
   refine Va J J ?_
   rw [show (((e + 1 : Nat) : Int) - 1) = ((e : Nat) : Int) by omega]
   refine S_call Tryz.call52 (hbx e _ _ hx (by omega)) J J J ?_;rintro v3 G3 hv3 hext3
   obtain ⟨A31, c31, rfl, _⟩ := id hv3
   refine Va J J ?_;refine S_subI J J J J (by omega) ?_;refine Va J J ?_
   rw [show (((e + 1 : Nat) : Int) - 1) = ((e : Nat) : Int) by omega]
   refine S_call Tryz.call52 (hby e _ _ (Sts_le hext3.le hy) (by omega)) J J J ?_;rintro v4 G4 hv4 hext4
   obtain ⟨A41, c41, rfl, _⟩ := id hv4
   refine Va J J ?_;refine S_slice Tk ZT_ok J J J J (by decide) (by decide) J J J J fun b2 => ?_;refine Va J J ?_
   refine S_app1 Tk 5 45 J J J J J J J J J J J J J J (by intro u hu; simp at hu; rcases hu with rfl | rfl | rfl | rfl | rfl | rfl <;> rfl) rfl (fun _ _ => rfl) (by omega) (Nat.le_refl _) fun A6 c6 => ?_
   refine Va J J ?_;refine S_add J J J J (by omega) ?_;refine Va J J ?_;refine S_again (i + 1, A6, c6, _, G4) ⟨by simp only; omega, fun _ => by omega, (hext.trans hext3).trans hext4, ?_⟩ (by simp only; omega) rfl ⟨⟨_, rfl, by simp [denO]⟩, ⟨_, rfl, by simp [denO]⟩, ⟨_, rfl, rfl⟩, ⟨_, rfl, rfl⟩, trivial⟩ (by first | exact .drop (.hp .nil) | exact .drop (.drop (.hp .nil)))
   simp only
   rw [List.take_succ_eq_append_getElem hkl, List.map_append, hs]
   refine Cs_append (Cs_mono (Stm.reps_le (hext3.trans hext4).le _) hcs5) ?_ J
   simp only [Nat.add_sub_cancel, oneS, h3,h4,if_false]
   exact Stm.rep_iff.2 ⟨_, _, J, by first | assumption | exact ⟨by omega, by omega⟩, by first | assumption | exact ⟨by omega, by omega⟩, by first | assumption | exact ⟨by omega, by omega⟩, i4, Sts_le hext4.le hv3, hv4⟩
 ·refine S_freezeR 5 J J (Nat.le_refl _) fun Gf hextf hncf hcmf hclf => ?_
  have hvf : Sts Gf _ _ := frz (Cs_mono (Stm.reps_le hextf.le _) hcs5) (by simp; omega) (by omega) hncf hcmf hclf
  refine S_retp (Res.t1 Tryz.results52 J J) (hext.trans hextf) ?_
  have h' : ¬ (i < L.length ∧ 0 < d) := by simpa using h
  rcases Nat.eq_zero_or_pos d with rfl | hd
  ·have : i = 0 := by
    rcases Nat.eq_zero_or_pos i with h | h
    ·exact h
    ·have := hid h; omega
   subst this
   simpa [oneL] using hvf
  ·obtain ⟨e, rfl⟩ : ∃ e, d = e + 1 := ⟨d - 1, by omega⟩
   have : i = L.length := by omega
   subst this
   rw [List.take_length] at hvf
   rw [oneL_succ]
   exact hvf
mutual
theorem On_stm : ∀ (s : Stm), On s.body ∧ On s.els
 | .mk k a b n x y => ⟨On_all x, On_all y⟩
theorem On_at : ∀ (L : List Stm) (k : Nat) (hk : k < L.length), On L[k].body ∧ On L[k].els
 | [], k, hk => absurd hk (by simp)
 | s :: L, 0, _ => On_stm s
 | s :: L, k + 1, hk => On_at L k (by simpa using hk)
theorem On_all : ∀ (L : List Stm), On L
 | L => c_l7One L fun k hk => On_at L k hk
end
end
section
attribute [local irreducible] X Pure Mod
theorem c_CloneInt (v : Value) (n : Nat) (xs : List Value) (G : PH) (h : Sx G 1 v n xs) (h1 : ∀ u ∈ xs, u.oneCell' = true) : Pure Tryz.prog 61 [v] G fun v' G' => Sx (newp G G') 1 v' n xs := by
 obtain ⟨A, c, rfl, hn, hnc, hcm, hlen, hrow⟩ := h
 refine Pure.intro Tryz.func61 Tryz.ntmps61 J J fun w => ?_; refine Va J J ?_
 cases A with
 | none =>
  refine S_valV J J J (V_eqNil Tk J J) ?_;refine Va J J ?_;refine RT J J ?_;refine Va J J ?_;refine S_retp (Res.t1 Tryz.results61 J J) XR ⟨none, 0, ?_, by omega, ?_, by simp [maxLen], hlen, ?_⟩
  ·rcases hrow with rfl | ⟨a, h, _⟩
   ·rfl
   ·cases h
  ·rcases hrow with rfl | ⟨a, h, _⟩
   ·exact Nat.le_refl _
   ·cases h
  ·rcases hrow with rfl | ⟨a, h, _⟩
   ·exact .inl J
   ·cases h
 | some a =>
  refine S_valV J J J (V_eqNil Tk J J) ?_;refine Va J J ?_;refine RF J J ?_;refine Va J J ?_;refine S_emptyO Tk 5 J J J J fun A => ?_;refine Va J J ?_;refine S_appO Tk 5 J J J J J J J J J J J (fun _ _ => J) (src_G hlen (by
   rcases hrow with h | ⟨a', h, h2⟩
   ·exact .inl h
   ·exact .inr ⟨a', h, h2⟩)) h1 (by simp only; omega) (by simp only [maxLen]; omega) (Nat.le_refl _) fun A' c' => ?_
  refine Va J J ?_;refine S_freezeR 5 J J (Nat.le_refl _) fun G' hext hnc' hcm' hcells => ?_;refine S_retp (Res.t1 Tryz.results61 J J) hext ⟨A', c', by simp [denO], hn, by simpa using hnc', hcm', hlen, ?_⟩
  simpa using hcells
theorem c_CloneIntN (v : Value) (n : Nat) (xs : List Value) (G : PH) (h : Sx G 1 v n xs) (h1 : ∀ u ∈ xs, u.oneCell' = true) : Mod Tryz.prog 61 [v] G emptyHP fun v' G' A' => ∃ A c base, v' = .slice A n c ∧ G' = G ∧ A' = rowO base 3 1 A n c xs := by
 obtain ⟨A, c, rfl, hn, hnc, hcm, hlen, hrow⟩ := h
 refine Mod.intro Tryz.func61 Tryz.ntmps61 J J fun w S => ?_;refine Va J J ?_
 cases A with
 | none =>
  obtain rfl : n = 0 := by rcases hrow with h | ⟨a, h, _⟩; exact h; cases h
  obtain rfl : xs = [] := List.eq_nil_of_length_eq_zero (by simpa using hlen)
  refine S_valV J J J (V_eqNil Tk J J) ?_;refine Va J J ?_;refine RT J J ?_;refine Va J J ?_;refine S_nilO 5 (base := w.heap.size) (e := 3) (size := 1) ?_;exact S_retm 5 (Res.t1 Tryz.results61 J J) J XR ⟨none, 0, _, J, J, J⟩
 | some a =>
  refine S_valV J J J (V_eqNil Tk J J) ?_;refine Va J J ?_;refine RF J J ?_;refine Va J J ?_;refine S_emptyO Tk 5 J J J J fun A => ?_;refine Va J J ?_;refine S_appO Tk 5 J J J J J J J J J J J (fun _ _ => J) (src_G hlen (by
   rcases hrow with h | ⟨a', h, h2⟩
   ·exact .inl h
   ·exact .inr ⟨a', h, h2⟩)) h1 (by simp only; omega) (by simp only [maxLen]; omega) (Nat.le_refl _) fun A' c' => ?_
  refine Va J J ?_;refine S_retm 5 (Res.t1 Tryz.results61 J J) J XR ⟨A', c', w.heap.size, ?_, J, ?_⟩
  ·simp
  ·simp; rfl
theorem c_CloneStmN (v : Value) (n : Nat) (xs : List Value) (G : PH) (h : Sx G 6 v n xs) (h1 : ∀ u ∈ xs, u.oneCell' = true) : Mod Tryz.prog 138 [v] G emptyHP fun v' G' A' => ∃ A c base, v' = .slice A n c ∧ G' = G ∧ A' = rowO base 65 6 A n c xs := by
 obtain ⟨A, c, rfl, hn, hnc, hcm, hlen, hrow⟩ := h
 refine Mod.intro Tryz.func138 Tryz.ntmps138 J J fun w S => ?_;refine Va J J ?_
 cases A with
 | none =>
  obtain rfl : n = 0 := by rcases hrow with h | ⟨a, h, _⟩; exact h; cases h
  obtain rfl : xs = [] := List.eq_nil_of_length_eq_zero (by simpa using hlen)
  refine S_valV J J J (V_eqNil Tk J J) ?_;refine Va J J ?_;refine RT J J ?_;refine Va J J ?_;refine S_nilO 5 (base := w.heap.size) (e := 65) (size := 6) ?_;exact S_retm 5 (Res.t1 Tryz.results138 J J) J XR ⟨none, 0, _, J, J, J⟩
 | some a =>
  refine S_valV J J J (V_eqNil Tk J J) ?_;refine Va J J ?_;refine RF J J ?_;refine Va J J ?_;refine S_emptyO Tk 5 J J J J fun A => ?_;refine Va J J ?_;refine S_appO Tk 5 J J J J J J J J J J J (fun _ _ => J) (src_G hlen (by
   rcases hrow with h | ⟨a', h, h2⟩
   ·exact .inl h
   ·exact .inr ⟨a', h, h2⟩)) h1 (by simp only; omega) (by simp only [maxLen]; omega) (Nat.le_refl _) fun A' c' => ?_
  refine Va J J ?_;refine S_retm 5 (Res.t1 Tryz.results138 J J) J XR ⟨A', c', w.heap.size, ?_, J, ?_⟩
  ·simp
  ·simp; rfl
theorem c_Grow (n : Nat) (G : PH) (hn : n ≤ 3000000000) : Mod Tryz.prog 136 [.slice none 0 0, .int .i64 n] G emptyHP fun v G' A' => ∃ A c base, v = .slice A 0 c ∧ G' = G ∧ n ≤ c ∧ A' = rowO base 65 6 A 0 c [] := by
 refine Mod.intro Tryz.func136 Tryz.ntmps136 J J fun w S => ?_;refine Va J J ?_;refine RF J (by simp) ?_;refine Va J J ?_;refine S_valV J J J (V_cap Tk J J) ?_;refine Va J J ?_;refine S_subI J J J J (by omega) ?_;refine S_subI J J J J (by omega) ?_;refine Va J J ?_
 by_cases h0 : n = 0
 ·subst h0
  refine RF J J ?_;refine Va J J ?_;refine S_nilO 5 (base := w.heap.size) (e := 65) (size := 6) ?_;exact S_retm 5 (Res.t1 Tryz.results136 J J) J XR ⟨none, 0, w.heap.size, J, J, Nat.le_refl _, J⟩
 ·refine RT J (by simp; omega) ?_
  refine Va J J ?_;refine S_valV J J J (V_cap Tk J J) ?_;refine S_valV J J J (V_slice0 Tk J J J J) ?_;refine Va J J ?_
  refine S_growNil Tk 5 (n := n) J J J J J u_int J J J (by show some _ = some _; congr 3 <;> omega) (by omega) (by simp only [maxLen]; omega) (by simp only; omega) fun A c hc => ?_
  refine Va J J ?_;refine S_valV J J J (V_slice0 Tk J J J J) ?_;refine Va J J ?_;exact S_retm 5 (Res.t1 Tryz.results136 J J) J XR ⟨A, c, w.heap.size, J, J, hc, J⟩
theorem c_Concat (v v1 v2 : Value) (n1 n2 : Nat) (xs1 xs2 : List Value) (G : PH) (h : Sx G 1 v 2 [v1, v2]) (h1 : Sx G 6 v1 n1 xs1) (h2 : Sx G 6 v2 n2 xs2) (o1 : ∀ u ∈ xs1, u.oneCell' = true) (o2 : ∀ u ∈ xs2, u.oneCell' = true) (hsum : n1 + n2 ≤ 1000000000) :
  Pure Tryz.prog 135 [v] G fun v' G' => Sx (newp G G') 6 v' (n1 + n2) (xs1 ++ xs2) := by
 obtain ⟨A, c, rfl, hn, hnc, hcm, hlen, hrow⟩ := h
 obtain ⟨A1, c1, rfl, hn1, hnc1, hcm1, hlen1, hrow1⟩ := h1
 obtain ⟨A2, c2, rfl, hn2, hnc2, hcm2, hlen2, hrow2⟩ := h2
 obtain ⟨ad, rfl, hcells⟩ : ∃ ad, A = some ad ∧ gcells G ad [.slice A1 n1 c1, .slice A2 n2 c2] := by
  rcases hrow with h | h
  ·omega
  ·exact h
 refine Pure.intro Tryz.func135 Tryz.ntmps135 J J fun w => ?_; refine Va J J ?_;refine S_unroll 2 ?_;refine Va J J ?_;refine RT J J ?_;refine Va J J ?_;refine S_index Tk J J J J J J (by omega) (by omega) ?_;refine S_load Tk J J J J J (by simpa [add_zero'] using hcells.1) ?_;refine Va J J ?_;refine S_add J J J J (by omega) ?_;refine Va J J ?_;refine RF J (by simp) ?_;refine Va J J ?_;refine S_add J J J J (by omega) ?_
 refine Va J J ?_;refine S_next ?_;refine Va J J ?_;refine RT J J ?_;refine Va J J ?_;refine S_index Tk J J J J J J (by omega) (by omega) ?_;refine S_load Tk J J J J J (by simpa using hcells.2.1) ?_;refine Va J J ?_;refine S_add J J J J (by omega) ?_;refine Va J J ?_;refine RF J (by simp; omega) ?_;refine Va J J ?_;refine S_add J J J J (by omega) ?_;refine Va J J ?_;refine S_next ?_;refine Va J J ?_
 refine RF J J ?_;refine Va J J ?_;refine S_newE 7 ?_;refine S_callM 7 Tryz.call136 (c_Grow (n1 + n2) _ (by omega)) J J (by show some [Value.slice none 0 0, Value.int .i64 (0 + (n1 : Int) + n2)] = _; rw [show ((0 : Int) + n1 + n2) = ((n1 + n2 : Nat) : Int) by omega]) rfl (fun _ => rfl) ?_;rintro v' G' A' ⟨A, cg, base, rfl, rfl, hcg, rfl⟩ hext
 refine S_rebase 7 (fun _ h => h) J J ?_;refine Va J J ?_;refine S_unroll 2 ?_;refine Va J J ?_;refine RT J J ?_;refine Va J J ?_;refine S_index Tk J J J J J J (by omega) (by omega) ?_;refine S_load Tk J J J J J (by simpa [add_zero'] using hcells.1) ?_;refine Va J J ?_;refine S_appO Tk 7 J J J J J J J J J J J (fun _ _ => J) (src_G hlen1 hrow1) o1 (by simp only; omega) (by simp only [maxLen]; omega) (Nat.le_refl _) fun A1' c1' => ?_
 refine Va J J ?_;refine S_add J J J J (by omega) ?_;refine Va J J ?_;refine S_next ?_;refine Va J J ?_;refine RT J J ?_;refine Va J J ?_;refine S_index Tk J J J J J J (by omega) (by omega) ?_;refine S_load Tk J J J J J (by simpa using hcells.2.1) ?_;refine Va J J ?_;refine S_appO Tk 7 J J J J J J J J J J J (fun _ _ => J) (src_G hlen2 hrow2) o2 (by simp only; omega) (by simp only [maxLen]; omega) (Nat.le_refl _) fun A2' c2' => ?_
 refine Va J J ?_;refine S_add J J J J (by omega) ?_;refine Va J J ?_;refine S_next ?_;refine Va J J ?_;refine RF J J ?_;refine Va J J ?_;refine S_freezeR 7 J J (Nat.le_refl _) fun G' hext' hnc' hcm' hcl => ?_;refine S_retp (Res.t1 Tryz.results135 J J) hext' ⟨A2', c2', by simp, hsum, by simpa using hnc', hcm', by rw [List.length_append, hlen1, hlen2, Nat.add_mul], ?_⟩
 simpa using hcl
end
section
attribute [local irreducible] X Pure Mod
def cutN (n : Int) : Int := if 999 < n then 999 else if n < -999 then -999 else n
def b2i (b : Bool) : Int := if b then 1 else 0
def doOp (op a b : Int) : Int :=
 if op = 1 then cutN (a + b) else if op = 2 then cutN (a - b) else if op = 3 then cutN (a * b) else if op = 4 then b2i (decide (a < b)) else if op = 5 then b2i (decide (a = b)) else 0
def numDo (op a b : Int) : Int × Bool := if numOk a && numOk b && opOk op then (doOp op a b, true) else (0, false)
theorem c_NumCut (n : Int) (G : PH) : Pure Tryz.prog 90 [.int .i64 n] G fun v G' => v = .int .i64 (cutN n) ∧ G' = G := by
 refine Pure.intro Tryz.func90 Tryz.ntmps90 J J fun w => ?_; refine Va J J ?_
 repeat' (first
  | (refine S_condp J (fun h => ?_) (fun h => ?_) <;> refine Va J J ?_) | (refine S_cond J (fun h => ?_) (fun h => ?_) <;> refine Va J J ?_) | (refine S_box J J J J J fun b => ?_; refine Va J J ?_) | (refine AZ ZT_ok J J J J fun b => ?_; refine Va J J ?_) | (refine S_guardp J J (fun h => ?_) (fun h => ?_) <;> refine Va J J ?_) | (refine S_guard J J (fun h => ?_) (fun h => ?_) <;> refine Va J J ?_)
  | (refine S_retP Tryz.results90 J J XR ⟨?_, J⟩))
 all_goals (congr 1; simp only [cutN]; repeat' split)
 all_goals omega
theorem c_l1If (b : Bool) (G : PH) : Pure Tryz.prog 91 [.bool b] G fun v G' => v = .int .i64 (b2i b) ∧ G' = G := by
 refine Pure.intro Tryz.func91 Tryz.ntmps91 J J fun w => ?_; refine Va J J ?_
 refine S_cond J (fun h => ?_) (fun h => ?_) <;> refine Va J J ?_ <;> (refine S_retP Tryz.results91 J J XR ⟨?_, J⟩) <;> simp [b2i, h]
theorem numOk_iff {n : Int} : numOk n = true ↔ -999 ≤ n ∧ n ≤ 999 := by simp [numOk]
theorem mul_bnd {a b : Int} (ha : -999 ≤ a ∧ a ≤ 999) (hb : -999 ≤ b ∧ b ≤ 999) : -998001 ≤ a * b ∧ a * b ≤ 998001 := by
 have h1 : a.natAbs ≤ 999 := by omega
 have h2 : b.natAbs ≤ 999 := by omega
 have h3 : (a * b).natAbs ≤ 998001 := by rw [Int.natAbs_mul]; exact Nat.le_trans (Nat.mul_le_mul h1 h2) (by decide)
 omega
theorem c_NumDo (op a b : Int) (G : PH) : Pure Tryz.prog 82 [.int .i64 op, .int .i64 a, .int .i64 b] G fun v G' => v = .tuple #[.int .i64 (numDo op a b).1, .bool (numDo op a b).2] ∧ G' = G := by
 refine Pure.intro Tryz.func82 Tryz.ntmps82 J J fun w => ?_; refine Va J J ?_;refine S_call Tryz.call89 (c_NumOk _ _) J J J ?_;rintro v G' ⟨rfl, rfl⟩ _
 refine Va J J ?_
 by_cases ha : numOk a = true
 rotate_left
 ·refine GT J J (by simp [ha]) ?_
  refine Va J J ?_;exact S_retp (Res.t2 Tryz.results82 J J J J) XR ⟨by simp [numDo, ha], J⟩
 refine GF J J (by simp [ha]) ?_;refine Va J J ?_;refine S_call Tryz.call89 (c_NumOk _ _) J J J ?_;rintro v G' ⟨rfl, rfl⟩ _
 refine Va J J ?_
 by_cases hb : numOk b = true
 rotate_left
 ·refine RT J (by simp [hb]) ?_
  refine Va J J ?_;exact S_retp (Res.t2 Tryz.results82 J J J J) XR ⟨by simp [numDo, hb], J⟩
 refine RF J (by simp [hb]) ?_;refine Va J J ?_
 have qa := numOk_iff.1 ha
 have qb := numOk_iff.1 hb
 have qm := mul_bnd qa qb
 repeat' (first
  | (refine S_condp J (fun h => ?_) (fun h => ?_) <;> refine Va J J ?_)
  | (refine S_add J J J J (by omega) ?_; refine Va J J ?_)
  | (refine S_subI J J J J (by omega) ?_; refine Va J J ?_)
  | (refine S_mul J J J J (by omega) ?_; refine Va J J ?_)
  | (refine S_call Tryz.call90 (c_NumCut _ _) J J J ?_; rintro v G' ⟨rfl, rfl⟩ _; refine Va J J ?_)
  | (refine S_call Tryz.call91 (c_l1If _ _) J J J ?_; rintro v G' ⟨rfl, rfl⟩ _; refine Va J J ?_)
  | exact S_retp (Res.t2 Tryz.results82 J J J J) XR ⟨by first | (simp_all [numDo, doOp, opOk]; done) | (rw [numDo, if_neg (by simp [opOk]; omega)]), rfl⟩)
theorem c_truth (b : Bool) (G : PH) : Pure Tryz.prog 130 [.bool b] G fun v G' => v = .int .i64 (b2i b) ∧ G' = G := by
 refine Pure.intro Tryz.func130 Tryz.ntmps130 J J fun w => ?_; refine Va J J ?_
 refine S_cond J (fun h => ?_) (fun h => ?_) <;> refine Va J J ?_ <;> (refine S_retP Tryz.results130 J J XR ⟨?_, J⟩) <;> simp [b2i, h]
theorem c_iNumCut (n : Int) (G : PH) : Pure Tryz.prog 129 [.int .i64 n] G fun v G' => v = .int .i64 (cutN n) ∧ G' = G := by
 refine Pure.intro Tryz.func129 Tryz.ntmps129 J J fun w => ?_; refine Va J J ?_;refine S_valV J J J (V_min J J) ?_;refine S_valV J J J (V_max J J) ?_;refine Va J J ?_;refine S_retp (Res.t1 Tryz.results129 J J) XR ⟨?_, J⟩
 congr 1
 unfold cutN
 repeat' split
 all_goals omega
theorem c_nadd (a b : Int) (G : PH) (h : -1998 ≤ a + b ∧ a + b ≤ 1998) : Pure Tryz.prog 124 [.int .i64 a, .int .i64 b] G fun v G' => v = .int .i64 (a + b) ∧ G' = G := by
 refine Pure.intro Tryz.func124 Tryz.ntmps124 J J fun w => ?_; refine Va J J ?_;refine S_add J J J J (by omega) ?_;refine Va J J ?_;exact S_retp (Res.t1 Tryz.results124 J J) XR ⟨J, J⟩
theorem c_nsub (a b : Int) (G : PH) (h : -1998 ≤ a - b ∧ a - b ≤ 1998) : Pure Tryz.prog 125 [.int .i64 a, .int .i64 b] G fun v G' => v = .int .i64 (a - b) ∧ G' = G := by
 refine Pure.intro Tryz.func125 Tryz.ntmps125 J J fun w => ?_; refine Va J J ?_;refine S_subI J J J J (by omega) ?_;refine Va J J ?_;exact S_retp (Res.t1 Tryz.results125 J J) XR ⟨J, J⟩
theorem c_nmul (a b : Int) (G : PH) (h : -998001 ≤ a * b ∧ a * b ≤ 998001) : Pure Tryz.prog 126 [.int .i64 a, .int .i64 b] G fun v G' => v = .int .i64 (a * b) ∧ G' = G := by
 refine Pure.intro Tryz.func126 Tryz.ntmps126 J J fun w => ?_; refine Va J J ?_;refine S_mul J J J J (by omega) ?_;refine Va J J ?_;exact S_retp (Res.t1 Tryz.results126 J J) XR ⟨J, J⟩
theorem c_nless (a b : Int) (G : PH) : Pure Tryz.prog 127 [.int .i64 a, .int .i64 b] G fun v G' => v = .int .i64 (b2i (decide (a < b))) ∧ G' = G := by
 refine Pure.intro Tryz.func127 Tryz.ntmps127 J J fun w => ?_; refine Va J J ?_
 (refine S_call Tryz.call130 (c_truth _ _) J J J ?_; rintro v G' ⟨rfl, rfl⟩ _; refine Va J J ?_)
 exact S_retp (Res.t1 Tryz.results127 J J) XR ⟨J, J⟩
theorem c_nsame (a b : Int) (G : PH) : Pure Tryz.prog 128 [.int .i64 a, .int .i64 b] G fun v G' => v = .int .i64 (b2i (decide (a = b))) ∧ G' = G := by
 refine Pure.intro Tryz.func128 Tryz.ntmps128 J J fun w => ?_; refine Va J J ?_
 (refine S_call Tryz.call130 (c_truth _ _) J J J ?_; rintro v G' ⟨rfl, rfl⟩ _; refine Va J J ?_)
 exact S_retp (Res.t1 Tryz.results128 J J) XR ⟨J, J⟩
theorem cutN_b2i (b : Bool) : cutN (b2i b) = b2i b := by cases b <;> rfl
theorem built_table : Tryz.prog.built 181 [(1, .func (.func 124) #[] #[]), (2, .func (.func 125) #[] #[]), (3, .func (.func 126) #[] #[]), (4, .func (.func 127) #[] #[]), (5, .func (.func 128) #[] #[])] =
  some #[.nilFunc, .func (.func 124) #[] #[], .func (.func 125) #[] #[], .func (.func 126) #[] #[], .func (.func 127) #[] #[], .func (.func 128) #[] #[]] := by kernel_rfl
theorem c_iNumDo (op a b : Int) (G : PH) : Pure Tryz.prog 123 [.int .i64 op, .int .i64 a, .int .i64 b] G fun v G' => v = .tuple #[.int .i64 (numDo op a b).1, .bool (numDo op a b).2] ∧ G' = G := by
 refine Pure.intro Tryz.func123 Tryz.ntmps123 J J fun w => ?_; refine Va J J ?_;refine S_valV (v := .agg #[.nilFunc, .func (.func 124) #[] #[], .func (.func 125) #[] #[], .func (.func 126) #[] #[], .func (.func 127) #[] #[], .func (.func 128) #[] #[]]) J J J (V_builtC J built_table) ?_;refine AZ ZT_ok J J J J fun b5 => ?_;refine Va J J ?_
 (refine S_call Tryz.call100 (c_isOp _ _) J J J ?_; rintro v G' ⟨rfl, rfl⟩ _; refine Va J J ?_)
 by_cases ho : opOk op = true
 rotate_left
 ·refine GT J J (by simp [ho]) ?_
  refine Va J J ?_;exact S_retp (Res.t2 Tryz.results123 J J J J) XR ⟨by simp [numDo, ho], J⟩
 refine GF J J (by simp [ho]) ?_;refine Va J J ?_
 (refine S_call Tryz.call99 (c_iNumOk _ _) J J J ?_; rintro v G' ⟨rfl, rfl⟩ _; refine Va J J ?_)
 by_cases ha : numOk a = true
 rotate_left
 ·refine GT J J (by simp [ho, ha]) ?_
  refine Va J J ?_;exact S_retp (Res.t2 Tryz.results123 J J J J) XR ⟨by simp [numDo, ha], J⟩
 refine GF J J (by simp [ho, ha]) ?_;refine Va J J ?_
 (refine S_call Tryz.call99 (c_iNumOk _ _) J J J ?_; rintro v G' ⟨rfl, rfl⟩ _; refine Va J J ?_)
 by_cases hb : numOk b = true
 rotate_left
 ·refine RT J (by simp [ho, ha, hb]) ?_
  refine Va J J ?_;exact S_retp (Res.t2 Tryz.results123 J J J J) XR ⟨by simp [numDo, hb], J⟩
 refine RF J (by simp [ho, ha, hb]) ?_
 have qa := numOk_iff.1 ha
 have qb := numOk_iff.1 hb
 have qm := mul_bnd qa qb
 have qo : op = 1 ∨ op = 2 ∨ op = 3 ∨ op = 4 ∨ op = 5 := by simp [opOk] at ho; omega
 rcases qo with rfl | rfl | rfl | rfl | rfl
 ·refine Va J J ?_
  refine S_callV (vs := [.int .i64 a, .int .i64 b]) (cap := #[]) J Tryz.call124 (c_nadd a b _ (by omega)) J J J ?_;rintro v G' ⟨rfl, rfl⟩ _
  (refine S_call Tryz.call129 (c_iNumCut _ _) J J J ?_; rintro v G' ⟨rfl, rfl⟩ _; refine Va J J ?_)
  exact S_retp (Res.t2 Tryz.results123 J J J J) XR ⟨by simp [numDo, ha, hb, ho, doOp], J⟩
 ·refine Va J J ?_
  refine S_callV (vs := [.int .i64 a, .int .i64 b]) (cap := #[]) J Tryz.call125 (c_nsub a b _ (by omega)) J J J ?_;rintro v G' ⟨rfl, rfl⟩ _
  (refine S_call Tryz.call129 (c_iNumCut _ _) J J J ?_; rintro v G' ⟨rfl, rfl⟩ _; refine Va J J ?_)
  exact S_retp (Res.t2 Tryz.results123 J J J J) XR ⟨by simp [numDo, ha, hb, ho, doOp], J⟩
 ·refine Va J J ?_
  refine S_callV (vs := [.int .i64 a, .int .i64 b]) (cap := #[]) J Tryz.call126 (c_nmul a b _ (by omega)) J J J ?_;rintro v G' ⟨rfl, rfl⟩ _
  (refine S_call Tryz.call129 (c_iNumCut _ _) J J J ?_; rintro v G' ⟨rfl, rfl⟩ _; refine Va J J ?_)
  exact S_retp (Res.t2 Tryz.results123 J J J J) XR ⟨by simp [numDo, ha, hb, ho, doOp], J⟩
 ·refine Va J J ?_
  refine S_callV (vs := [.int .i64 a, .int .i64 b]) (cap := #[]) J Tryz.call127 (c_nless a b _) J J J ?_;rintro v G' ⟨rfl, rfl⟩ _
  (refine S_call Tryz.call129 (c_iNumCut _ _) J J J ?_; rintro v G' ⟨rfl, rfl⟩ _; refine Va J J ?_)
  exact S_retp (Res.t2 Tryz.results123 J J J J) XR ⟨by simp [numDo, ha, hb, ho, doOp, cutN_b2i], J⟩
 ·refine Va J J ?_
  refine S_callV (vs := [.int .i64 a, .int .i64 b]) (cap := #[]) J Tryz.call128 (c_nsame a b _) J J J ?_;rintro v G' ⟨rfl, rfl⟩ _
  (refine S_call Tryz.call129 (c_iNumCut _ _) J J J ?_; rintro v G' ⟨rfl, rfl⟩ _; refine Va J J ?_)
  exact S_retp (Res.t2 Tryz.results123 J J J J) XR ⟨by simp [numDo, ha, hb, ho, doOp, cutN_b2i], J⟩
end
section
attribute [local irreducible] X Pure Mod
theorem shape {G : PH} {ps : List Prc} {ts : List Value} (h1 : 1 ≤ ps.length) (h3 : ps.length ≤ 3) (ht : Tds G ps ts) :
  (∃ p0 A0 c0, ps = [p0] ∧ ts = [.slice A0 p0.todo.length c0] ∧ Sts G p0.todo (.slice A0 p0.todo.length c0)) ∨
  (∃ p0 A0 c0 p1 A1 c1, ps = [p0, p1] ∧ ts = [.slice A0 p0.todo.length c0, .slice A1 p1.todo.length c1] ∧ Sts G p0.todo (.slice A0 p0.todo.length c0) ∧ Sts G p1.todo (.slice A1 p1.todo.length c1)) ∨
  (∃ p0 A0 c0 p1 A1 c1 p2 A2 c2, ps = [p0, p1, p2] ∧ ts = [.slice A0 p0.todo.length c0, .slice A1 p1.todo.length c1, .slice A2 p2.todo.length c2] ∧ Sts G p0.todo (.slice A0 p0.todo.length c0) ∧ Sts G p1.todo (.slice A1 p1.todo.length c1) ∧ Sts G p2.todo (.slice A2 p2.todo.length c2)) := by
 have one : ∀ {p : Prc} {v : Value}, Sts G p.todo v → ∃ A c, v = .slice A p.todo.length c := fun h => ⟨h.choose, h.choose_spec.choose, h.choose_spec.choose_spec.1⟩
 match ps, ts, ht, h1, h3 with
 | [p0], [v0], h, _, _ =>
  obtain ⟨A0, c0, rfl⟩ := one h.1
  exact .inl ⟨p0, A0, c0, J, J, h.1⟩
 | [p0, p1], [v0, v1], h, _, _ =>
  obtain ⟨A0, c0, rfl⟩ := one h.1
  obtain ⟨A1, c1, rfl⟩ := one h.2.1
  exact .inr (.inl ⟨p0, A0, c0, p1, A1, c1, J, J, h.1, h.2.1⟩)
 | [p0, p1, p2], [v0, v1, v2], h, _, _ =>
  obtain ⟨A0, c0, rfl⟩ := one h.1
  obtain ⟨A1, c1, rfl⟩ := one h.2.1
  obtain ⟨A2, c2, rfl⟩ := one h.2.2.1
  exact .inr (.inr ⟨p0, A0, c0, p1, A1, c1, p2, A2, c2, J, J, h.1, h.2.1, h.2.2.1⟩)
 | _ :: _ :: _ :: _ :: _, _, _, _, h3 => simp at h3
 | [], _, _, h1, _ => simp at h1
def codeP (W : Wld) (p : Prc) : Int :=
 if p.mode = 1 then 2
 else if p.mode = 2 then (if W.rm p.room = 0 then 0 else 2)
 else match p.todo with
  | [] => 1
  | s :: _ => if s.kind = 8 then (if W.rm s.a = 0 then 0 else 2) else 0
def codeOf (W : Wld) (who : Int) : Int :=
 if who < 0 ∨ (W.procs.length : Int) ≤ who then 3 else match W.procs[who.toNat]? with
  | some p => codeP W p
  | none => 3
def HeadOk (p : Prc) : Prop := (p.mode = 2 → p.room = 0 ∨ p.room = 1) ∧ ∀ s r, p.todo = s :: r → s.kind = 8 → s.a = 0 ∨ s.a = 1
theorem Sts_head {G : PH} {s : Stm} {r : List Stm} {A : Option Addr} {n c : Nat} (h : Sts G (s :: r) (.slice A n c)) :
  ∃ ad vx vy, A = some ad ∧ gcells G ad [.int .i64 s.kind, .int .i64 s.a, .int .i64 s.b, .int .i64 s.n, vx, vy] ∧ Sts G s.body vx ∧ Sts G s.els vy ∧ I64 s.kind ∧ I64 s.a ∧ I64 s.b ∧ I64 s.n := by
 obtain ⟨ad, cs, rfl, h1, h2⟩ := Sr_at h (k := 0) (by simp)
 rw [show (0 : Nat) * 6 = 0 from rfl, add_zero'] at h1
 obtain ⟨k, a, b, n, x, y⟩ := s
 obtain ⟨vx, vy, rfl, i1, i2, i3, i4, hx, hy⟩ := Stm.rep_iff.1 h2
 exact ⟨ad, vx, vy, J, h1, hx, hy, i1, i2, i3, i4⟩
theorem c_code (W : Wld) (who : Int) (b : Nat) (ts : List Value) (G : PH) (h1 : 1 ≤ W.procs.length) (h3 : W.procs.length ≤ 3) (ht : Tds G W.procs ts) (hh : ∀ p ∈ W.procs, HeadOk p) :
  Mod Tryz.prog 57 [.pointer (some ⟨b, 0, none⟩), .int .i64 who] G (worldP b W ts) fun v G' A' => v = .int .i64 (codeOf W who) ∧ G' = G ∧ A' = worldP b W ts := by
 refine Mod.intro Tryz.func57 Tryz.ntmps57 J J fun w S => ?_;obtain ⟨ps, x0, x1, x2, m0, m1, q0, q1, sd⟩ := W
 rcases shape h1 h3 ht with ⟨⟨a0, a1, a2, td0, mo0, on0, ro0⟩, A0, k0, rfl, rfl, s0⟩ | ⟨⟨a0, a1, a2, td0, mo0, on0, ro0⟩, A0, k0, ⟨b0, b1, b2, td1, mo1, on1, ro1⟩, A1, k1, rfl, rfl, s0, s1⟩ | ⟨⟨a0, a1, a2, td0, mo0, on0, ro0⟩, A0, k0, ⟨b0, b1, b2, td1, mo1, on1, ro1⟩, A1, k1, ⟨d0, d1, d2, td2, mo2, on2, ro2⟩, A2, k2, rfl, rfl, s0, s1, s2⟩
 ·by_cases hw : who < 0 ∨ 1 ≤ who
  ·refine OpP 1 0 J J J J fun bp bc br bs bg kp sp asd ksd aq0 kq0 aq1 kq1 kc spc kr spr ks sps kg spg hbg hmk => ?_; obtain ⟨g0, rfl⟩ := len1 hbg; clear hbg; refine NM J J ?_; dsimp only [wEnts, wCels, procCs, regEs, WX.of, vi]
   refine Va J J ?_
   refine RT J (by simp <;> omega) ?_
   refine Va J J ?_
   exact RK (1007 :: wKeys 1) (Res.t1 Tryz.results57 J J) ⟨by rw [codeOf, if_pos (by simp <;> omega)], rfl, rfl⟩ (Wpp [_] kg spg rfl ‹_› rfl rfl rfl rfl rfl rfl rfl rfl) rfl (.blk rfl rfl (Wsub 5 rfl rfl rfl rfl rfl rfl rfl rfl rfl rfl rfl rfl rfl rfl rfl rfl (Bs 3 rfl rfl rfl rfl .nil))) XR
  obtain rfl : who = 0 := by omega
  have hh0 := hh _ (List.mem_cons_self ..)
  refine OpP 1 0 J J J J fun bp bc br bs bg kp sp asd ksd aq0 kq0 aq1 kq1 kc spc kr spr ks sps kg spg hbg hmk => ?_; obtain ⟨g0, rfl⟩ := len1 hbg; clear hbg; refine NM J J ?_; dsimp only [wEnts, wCels, procCs, regEs, WX.of, vi]
  refine Va J J ?_;refine RF J J ?_;refine Va J J ?_;refine AZ ZT_ok J J J J fun b5 => ?_;refine Va J J ?_
  by_cases hm1 : mo0 = 1
  ·refine RT J (by simp [hm1]) ?_
   refine Va J J ?_;refine RT J (by simp [hm1]) ?_;refine Va J J ?_;exact RK (1007 :: wKeys 1) (Res.t1 Tryz.results57 J J) ⟨by simp [codeOf, codeP, hm1], J, J⟩ (Wpp [_] kg spg J ‹_› J J J J J J J J) J (.blk J J (Wsub 5 J J J J J J J J J J J J J J J J (Bs 3 J J J J .nil))) XR
  by_cases hm2 : mo0 = 2
  ·subst hm2
   have hro := hh0.1 rfl
   simp only at hro
   rcases hro with rfl | rfl <;>
   ·refine RF J J ?_
    refine Va J J ?_;refine Ds J J J ?_;refine Da J J ?_;refine D_setP 31 (b := true) J J ?_;refine Da J J ?_;refine DD ?_;refine Va J J ?_
    refine S_condp J (fun h => ?_) (fun h => ?_) <;> refine Va J J ?_
    ·exact RK (1007 :: wKeys 1) (Res.t1 Tryz.results57 J J) ⟨by simp [codeOf, codeP, Wld.rm, h], J, J⟩ (Wpp [_] kg spg J ‹_› J J J J J J J J) J (.blk J J (Wsub 5 J J J J J J J J J J J J J J J J (Bs 3 J J J J .nil))) XR
    ·refine RT J J ?_
     refine Va J J ?_;exact RK (1007 :: wKeys 1) (Res.t1 Tryz.results57 J J) ⟨by have h' := Classical.not_not.1 h; simp [codeOf, codeP, Wld.rm, h'], rfl, rfl⟩ (Wpp [_] kg spg rfl ‹_› rfl rfl rfl rfl rfl rfl rfl rfl) rfl (.blk rfl rfl (Wsub 5 rfl rfl rfl rfl rfl rfl rfl rfl rfl rfl rfl rfl rfl rfl rfl rfl (Bs 3 rfl rfl rfl rfl .nil))) XR
  refine RF J (by simp [hm1]) ?_;refine Va J J ?_;refine Ds J J J ?_;refine Da J J ?_;refine D_split 31 J (fun _ => J) (fun h => absurd h (by simp [hm2])) (fun h => ?_)
  refine Da J J ?_;refine DD ?_;refine Va J J ?_;refine RF J (by simp [hm2]) ?_;refine Va J J ?_
  rcases hTD : td0 with _ | ⟨s, r⟩
  ·subst hTD
   refine RT J J ?_;refine Va J J ?_;exact RK (1007 :: wKeys 1) (Res.t1 Tryz.results57 J J) ⟨by simp [codeOf, codeP, hm1, hm2], J, J⟩ (Wpp [_] kg spg J ‹_› J J J J J J J J) J (.blk J J (Wsub 5 J J J J J J J J J J J J J J J J (Bs 3 J J J J .nil))) XR
  subst hTD
  obtain ⟨ad, vx, vy, rfl, hcs, _⟩ := Sts_head s0
  refine RF J (by simp <;> omega) ?_
  refine Va J J ?_
  by_cases hk8 : s.kind = 8
  ·have hsa := hh0.2 s r rfl hk8
   obtain ⟨sk, sa, sb, sn, sx, sy⟩ := s
   simp only [Stm.kind, Stm.a] at hk8 hsa hcs
   subst hk8
   rcases hsa with rfl | rfl <;>
   ·refine Ds J J J ?_
    refine Da J J ?_
    refine D_val 2 J J J J J J J J J (V_index Tk J J J J (by omega) (by simp <;> omega)) ?_
    refine Da J J ?_;refine D_val 4 J J J J J J J J J (V_load Tk J J J (by simpa [add_add', add_zero'] using gcells_at hcs 0 _ J)) ?_;refine Da J J ?_;refine D_setP 58 (b := true) J J ?_;refine Da J J ?_
    refine D_val 13 J J J J J J J J J (V_index Tk J J J J (by omega) (by simp <;> omega)) ?_
    refine Da J J ?_;refine D_val 15 J J J J J J J J J (V_load Tk J J J (by simpa [add_add', add_zero'] using gcells_at hcs 1 _ J)) ?_;refine Da J J ?_;refine DD ?_;refine Va J J ?_
    refine S_condp J (fun h => ?_) (fun h => ?_) <;> refine Va J J ?_
    ·exact RK (1007 :: wKeys 1) (Res.t1 Tryz.results57 J J) ⟨by simp [codeOf, codeP, Wld.rm, hm1, hm2, Stm.kind, Stm.a, h], J, J⟩ (Wpp [_] kg spg J ‹_› J J J J J J J J) J (.blk J J (Wsub 5 J J J J J J J J J J J J J J J J (Bs 3 J J J J .nil))) XR
    ·exact RK (1007 :: wKeys 1) (Res.t1 Tryz.results57 J J) ⟨by have h' := Classical.not_not.1 h; simp [codeOf, codeP, Wld.rm, hm1, hm2, Stm.kind, Stm.a, h'], rfl, rfl⟩ (Wpp [_] kg spg rfl ‹_› rfl rfl rfl rfl rfl rfl rfl rfl) rfl (.blk rfl rfl (Wsub 5 rfl rfl rfl rfl rfl rfl rfl rfl rfl rfl rfl rfl rfl rfl rfl rfl (Bs 3 rfl rfl rfl rfl .nil))) XR
  refine Ds J J J ?_;refine Da J J ?_
  refine D_val 2 J J J J J J J J J (V_index Tk J J J J (by omega) (by simp <;> omega)) ?_
  refine Da J J ?_;refine D_val 4 J J J J J J J J J (V_load Tk J J J (by simpa [add_add', add_zero'] using gcells_at hcs 0 _ J)) ?_;refine Da J J ?_;refine D_split 58 J (fun _ => J) (fun h => absurd h (by simp [hk8])) (fun h => ?_)
  refine Da J J ?_;refine DD ?_;refine Va J J ?_;exact RK (1007 :: wKeys 1) (Res.t1 Tryz.results57 J J) ⟨by simp [codeOf, codeP, hm1, hm2, hk8], J, J⟩ (Wpp [_] kg spg J ‹_› J J J J J J J J) J (.blk J J (Wsub 5 J J J J J J J J J J J J J J J J (Bs 3 J J J J .nil))) XR
 ·have hh0 := hh _ (List.mem_cons_self ..)
  have hh1 := hh _ (List.mem_cons_of_mem _ (List.mem_cons_self ..))
  by_cases hw : who < 0 ∨ 2 ≤ who
  ·refine OpP 1 0 J J J J fun bp bc br bs bg kp sp asd ksd aq0 kq0 aq1 kq1 kc spc kr spr ks sps kg spg hbg hmk => ?_; obtain ⟨g0, g1, rfl⟩ := len2 hbg; clear hbg; refine NM J J ?_; dsimp only [wEnts, wCels, procCs, regEs, WX.of, vi]
   refine Va J J ?_
   refine RT J (by simp <;> omega) ?_
   refine Va J J ?_
   exact RK (1007 :: wKeys 2) (Res.t1 Tryz.results57 J J) ⟨by rw [codeOf, if_pos (by simp <;> omega)], rfl, rfl⟩ (Wpp [_, _] kg spg rfl ‹_› rfl rfl rfl rfl rfl rfl rfl rfl) rfl (.blk rfl rfl (Wsub 10 rfl rfl rfl rfl rfl rfl rfl rfl rfl rfl rfl rfl rfl rfl rfl rfl (Bs 3 rfl rfl rfl rfl (Bs 3 rfl rfl rfl rfl .nil)))) XR
  rcases (by omega : who = 0 ∨ who = 1) with rfl | rfl
  ·refine OpP 1 0 J J J J fun bp bc br bs bg kp sp asd ksd aq0 kq0 aq1 kq1 kc spc kr spr ks sps kg spg hbg hmk => ?_; obtain ⟨g0, g1, rfl⟩ := len2 hbg; clear hbg; refine NM J J ?_; dsimp only [wEnts, wCels, procCs, regEs, WX.of, vi]
   refine Va J J ?_;refine RF J J ?_;refine Va J J ?_;refine AZ ZT_ok J J J J fun b5 => ?_;refine Va J J ?_
   by_cases hm1 : mo0 = 1
   ·refine RT J (by simp [hm1]) ?_
    refine Va J J ?_;refine RT J (by simp [hm1]) ?_;refine Va J J ?_;exact RK (1007 :: wKeys 2) (Res.t1 Tryz.results57 J J) ⟨by simp [codeOf, codeP, hm1], J, J⟩ (Wpp [_, _] kg spg J ‹_› J J J J J J J J) J (.blk J J (Wsub 10 J J J J J J J J J J J J J J J J (Bs 3 J J J J (Bs 3 J J J J .nil)))) XR
   by_cases hm2 : mo0 = 2
   ·subst hm2
    have hro := hh0.1 rfl
    simp only at hro
    rcases hro with rfl | rfl <;>
    ·refine RF J J ?_
     refine Va J J ?_;refine Ds J J J ?_;refine Da J J ?_;refine D_setP 31 (b := true) J J ?_;refine Da J J ?_;refine DD ?_;refine Va J J ?_
     refine S_condp J (fun h => ?_) (fun h => ?_) <;> refine Va J J ?_
     ·exact RK (1007 :: wKeys 2) (Res.t1 Tryz.results57 J J) ⟨by simp [codeOf, codeP, Wld.rm, h], J, J⟩ (Wpp [_, _] kg spg J ‹_› J J J J J J J J) J (.blk J J (Wsub 10 J J J J J J J J J J J J J J J J (Bs 3 J J J J (Bs 3 J J J J .nil)))) XR
     ·refine RT J J ?_
      refine Va J J ?_;exact RK (1007 :: wKeys 2) (Res.t1 Tryz.results57 J J) ⟨by have h' := Classical.not_not.1 h; simp [codeOf, codeP, Wld.rm, h'], rfl, rfl⟩ (Wpp [_, _] kg spg rfl ‹_› rfl rfl rfl rfl rfl rfl rfl rfl) rfl (.blk rfl rfl (Wsub 10 rfl rfl rfl rfl rfl rfl rfl rfl rfl rfl rfl rfl rfl rfl rfl rfl (Bs 3 rfl rfl rfl rfl (Bs 3 rfl rfl rfl rfl .nil)))) XR
   refine RF J (by simp [hm1]) ?_;refine Va J J ?_;refine Ds J J J ?_;refine Da J J ?_;refine D_split 31 J (fun _ => J) (fun h => absurd h (by simp [hm2])) (fun h => ?_)
   refine Da J J ?_;refine DD ?_;refine Va J J ?_;refine RF J (by simp [hm2]) ?_;refine Va J J ?_
   rcases hTD : td0 with _ | ⟨s, r⟩
   ·subst hTD
    refine RT J J ?_;refine Va J J ?_;exact RK (1007 :: wKeys 2) (Res.t1 Tryz.results57 J J) ⟨by simp [codeOf, codeP, hm1, hm2], J, J⟩ (Wpp [_, _] kg spg J ‹_› J J J J J J J J) J (.blk J J (Wsub 10 J J J J J J J J J J J J J J J J (Bs 3 J J J J (Bs 3 J J J J .nil)))) XR
   subst hTD
   obtain ⟨ad, vx, vy, rfl, hcs, _⟩ := Sts_head s0
   refine RF J (by simp <;> omega) ?_
   refine Va J J ?_
   by_cases hk8 : s.kind = 8
   ·have hsa := hh0.2 s r rfl hk8
    obtain ⟨sk, sa, sb, sn, sx, sy⟩ := s
    simp only [Stm.kind, Stm.a] at hk8 hsa hcs
    subst hk8
    rcases hsa with rfl | rfl <;>
    ·refine Ds J J J ?_
     refine Da J J ?_
     refine D_val 2 J J J J J J J J J (V_index Tk J J J J (by omega) (by simp <;> omega)) ?_
     refine Da J J ?_;refine D_val 4 J J J J J J J J J (V_load Tk J J J (by simpa [add_add', add_zero'] using gcells_at hcs 0 _ J)) ?_;refine Da J J ?_;refine D_setP 58 (b := true) J J ?_;refine Da J J ?_
     refine D_val 13 J J J J J J J J J (V_index Tk J J J J (by omega) (by simp <;> omega)) ?_
     refine Da J J ?_;refine D_val 15 J J J J J J J J J (V_load Tk J J J (by simpa [add_add', add_zero'] using gcells_at hcs 1 _ J)) ?_;refine Da J J ?_;refine DD ?_;refine Va J J ?_
     refine S_condp J (fun h => ?_) (fun h => ?_) <;> refine Va J J ?_
     ·exact RK (1007 :: wKeys 2) (Res.t1 Tryz.results57 J J) ⟨by simp [codeOf, codeP, Wld.rm, hm1, hm2, Stm.kind, Stm.a, h], J, J⟩ (Wpp [_, _] kg spg J ‹_› J J J J J J J J) J (.blk J J (Wsub 10 J J J J J J J J J J J J J J J J (Bs 3 J J J J (Bs 3 J J J J .nil)))) XR
     ·exact RK (1007 :: wKeys 2) (Res.t1 Tryz.results57 J J) ⟨by have h' := Classical.not_not.1 h; simp [codeOf, codeP, Wld.rm, hm1, hm2, Stm.kind, Stm.a, h'], rfl, rfl⟩ (Wpp [_, _] kg spg rfl ‹_› rfl rfl rfl rfl rfl rfl rfl rfl) rfl (.blk rfl rfl (Wsub 10 rfl rfl rfl rfl rfl rfl rfl rfl rfl rfl rfl rfl rfl rfl rfl rfl (Bs 3 rfl rfl rfl rfl (Bs 3 rfl rfl rfl rfl .nil)))) XR
   refine Ds J J J ?_;refine Da J J ?_
   refine D_val 2 J J J J J J J J J (V_index Tk J J J J (by omega) (by simp <;> omega)) ?_
   refine Da J J ?_;refine D_val 4 J J J J J J J J J (V_load Tk J J J (by simpa [add_add', add_zero'] using gcells_at hcs 0 _ J)) ?_;refine Da J J ?_;refine D_split 58 J (fun _ => J) (fun h => absurd h (by simp [hk8])) (fun h => ?_)
   refine Da J J ?_;refine DD ?_;refine Va J J ?_;exact RK (1007 :: wKeys 2) (Res.t1 Tryz.results57 J J) ⟨by simp [codeOf, codeP, hm1, hm2, hk8], J, J⟩ (Wpp [_, _] kg spg J ‹_› J J J J J J J J) J (.blk J J (Wsub 10 J J J J J J J J J J J J J J J J (Bs 3 J J J J (Bs 3 J J J J .nil)))) XR
  ·refine OpP 1 0 J J J J fun bp bc br bs bg kp sp asd ksd aq0 kq0 aq1 kq1 kc spc kr spr ks sps kg spg hbg hmk => ?_; obtain ⟨g0, g1, rfl⟩ := len2 hbg; clear hbg; refine NM J J ?_; dsimp only [wEnts, wCels, procCs, regEs, WX.of, vi]
   refine Va J J ?_;refine RF J J ?_;refine Va J J ?_;refine AZ ZT_ok J J J J fun b5 => ?_;refine Va J J ?_
   by_cases hm1 : mo1 = 1
   ·refine RT J (by simp [hm1]) ?_
    refine Va J J ?_;refine RT J (by simp [hm1]) ?_;refine Va J J ?_;exact RK (1007 :: wKeys 2) (Res.t1 Tryz.results57 J J) ⟨by simp [codeOf, codeP, hm1], J, J⟩ (Wpp [_, _] kg spg J ‹_› J J J J J J J J) J (.blk J J (Wsub 10 J J J J J J J J J J J J J J J J (Bs 3 J J J J (Bs 3 J J J J .nil)))) XR
   by_cases hm2 : mo1 = 2
   ·subst hm2
    have hro := hh1.1 rfl
    simp only at hro
    rcases hro with rfl | rfl <;>
    ·refine RF J J ?_
     refine Va J J ?_;refine Ds J J J ?_;refine Da J J ?_;refine D_setP 31 (b := true) J J ?_;refine Da J J ?_;refine DD ?_;refine Va J J ?_
     refine S_condp J (fun h => ?_) (fun h => ?_) <;> refine Va J J ?_
     ·exact RK (1007 :: wKeys 2) (Res.t1 Tryz.results57 J J) ⟨by simp [codeOf, codeP, Wld.rm, h], J, J⟩ (Wpp [_, _] kg spg J ‹_› J J J J J J J J) J (.blk J J (Wsub 10 J J J J J J J J J J J J J J J J (Bs 3 J J J J (Bs 3 J J J J .nil)))) XR
     ·refine RT J J ?_
      refine Va J J ?_;exact RK (1007 :: wKeys 2) (Res.t1 Tryz.results57 J J) ⟨by have h' := Classical.not_not.1 h; simp [codeOf, codeP, Wld.rm, h'], rfl, rfl⟩ (Wpp [_, _] kg spg rfl ‹_› rfl rfl rfl rfl rfl rfl rfl rfl) rfl (.blk rfl rfl (Wsub 10 rfl rfl rfl rfl rfl rfl rfl rfl rfl rfl rfl rfl rfl rfl rfl rfl (Bs 3 rfl rfl rfl rfl (Bs 3 rfl rfl rfl rfl .nil)))) XR
   refine RF J (by simp [hm1]) ?_;refine Va J J ?_;refine Ds J J J ?_;refine Da J J ?_;refine D_split 31 J (fun _ => J) (fun h => absurd h (by simp [hm2])) (fun h => ?_)
   refine Da J J ?_;refine DD ?_;refine Va J J ?_;refine RF J (by simp [hm2]) ?_;refine Va J J ?_
   rcases hTD : td1 with _ | ⟨s, r⟩
   ·subst hTD
    refine RT J J ?_;refine Va J J ?_;exact RK (1007 :: wKeys 2) (Res.t1 Tryz.results57 J J) ⟨by simp [codeOf, codeP, hm1, hm2], J, J⟩ (Wpp [_, _] kg spg J ‹_› J J J J J J J J) J (.blk J J (Wsub 10 J J J J J J J J J J J J J J J J (Bs 3 J J J J (Bs 3 J J J J .nil)))) XR
   subst hTD
   obtain ⟨ad, vx, vy, rfl, hcs, _⟩ := Sts_head s1
   refine RF J (by simp <;> omega) ?_
   refine Va J J ?_
   by_cases hk8 : s.kind = 8
   ·have hsa := hh1.2 s r rfl hk8
    obtain ⟨sk, sa, sb, sn, sx, sy⟩ := s
    simp only [Stm.kind, Stm.a] at hk8 hsa hcs
    subst hk8
    rcases hsa with rfl | rfl <;>
    ·refine Ds J J J ?_
     refine Da J J ?_
     refine D_val 2 J J J J J J J J J (V_index Tk J J J J (by omega) (by simp <;> omega)) ?_
     refine Da J J ?_;refine D_val 4 J J J J J J J J J (V_load Tk J J J (by simpa [add_add', add_zero'] using gcells_at hcs 0 _ J)) ?_;refine Da J J ?_;refine D_setP 58 (b := true) J J ?_;refine Da J J ?_
     refine D_val 13 J J J J J J J J J (V_index Tk J J J J (by omega) (by simp <;> omega)) ?_
     refine Da J J ?_;refine D_val 15 J J J J J J J J J (V_load Tk J J J (by simpa [add_add', add_zero'] using gcells_at hcs 1 _ J)) ?_;refine Da J J ?_;refine DD ?_;refine Va J J ?_
     refine S_condp J (fun h => ?_) (fun h => ?_) <;> refine Va J J ?_
     ·exact RK (1007 :: wKeys 2) (Res.t1 Tryz.results57 J J) ⟨by simp [codeOf, codeP, Wld.rm, hm1, hm2, Stm.kind, Stm.a, h], J, J⟩ (Wpp [_, _] kg spg J ‹_› J J J J J J J J) J (.blk J J (Wsub 10 J J J J J J J J J J J J J J J J (Bs 3 J J J J (Bs 3 J J J J .nil)))) XR
     ·exact RK (1007 :: wKeys 2) (Res.t1 Tryz.results57 J J) ⟨by have h' := Classical.not_not.1 h; simp [codeOf, codeP, Wld.rm, hm1, hm2, Stm.kind, Stm.a, h'], rfl, rfl⟩ (Wpp [_, _] kg spg rfl ‹_› rfl rfl rfl rfl rfl rfl rfl rfl) rfl (.blk rfl rfl (Wsub 10 rfl rfl rfl rfl rfl rfl rfl rfl rfl rfl rfl rfl rfl rfl rfl rfl (Bs 3 rfl rfl rfl rfl (Bs 3 rfl rfl rfl rfl .nil)))) XR
   refine Ds J J J ?_;refine Da J J ?_
   refine D_val 2 J J J J J J J J J (V_index Tk J J J J (by omega) (by simp <;> omega)) ?_
   refine Da J J ?_;refine D_val 4 J J J J J J J J J (V_load Tk J J J (by simpa [add_add', add_zero'] using gcells_at hcs 0 _ J)) ?_;refine Da J J ?_;refine D_split 58 J (fun _ => J) (fun h => absurd h (by simp [hk8])) (fun h => ?_)
   refine Da J J ?_;refine DD ?_;refine Va J J ?_;exact RK (1007 :: wKeys 2) (Res.t1 Tryz.results57 J J) ⟨by simp [codeOf, codeP, hm1, hm2, hk8], J, J⟩ (Wpp [_, _] kg spg J ‹_› J J J J J J J J) J (.blk J J (Wsub 10 J J J J J J J J J J J J J J J J (Bs 3 J J J J (Bs 3 J J J J .nil)))) XR
 ·have hh0 := hh _ (List.mem_cons_self ..)
  have hh1 := hh _ (List.mem_cons_of_mem _ (List.mem_cons_self ..))
  have hh2 := hh _ (List.mem_cons_of_mem _ (List.mem_cons_of_mem _ (List.mem_cons_self ..)))
  by_cases hw : who < 0 ∨ 3 ≤ who
  ·refine OpP 1 0 J J J J fun bp bc br bs bg kp sp asd ksd aq0 kq0 aq1 kq1 kc spc kr spr ks sps kg spg hbg hmk => ?_; obtain ⟨g0, g1, g2, rfl⟩ := len3 hbg; clear hbg; refine NM J J ?_; dsimp only [wEnts, wCels, procCs, regEs, WX.of, vi]
   refine Va J J ?_
   refine RT J (by simp <;> omega) ?_
   refine Va J J ?_
   exact RK (1007 :: wKeys 3) (Res.t1 Tryz.results57 J J) ⟨by rw [codeOf, if_pos (by simp <;> omega)], rfl, rfl⟩ (Wpp [_, _, _] kg spg rfl ‹_› rfl rfl rfl rfl rfl rfl rfl rfl) rfl (.blk rfl rfl (Wsub 15 rfl rfl rfl rfl rfl rfl rfl rfl rfl rfl rfl rfl rfl rfl rfl rfl (Bs 3 rfl rfl rfl rfl (Bs 3 rfl rfl rfl rfl (Bs 3 rfl rfl rfl rfl .nil))))) XR
  rcases (by omega : who = 0 ∨ who = 1 ∨ who = 2) with rfl | rfl | rfl
  ·refine OpP 1 0 J J J J fun bp bc br bs bg kp sp asd ksd aq0 kq0 aq1 kq1 kc spc kr spr ks sps kg spg hbg hmk => ?_; obtain ⟨g0, g1, g2, rfl⟩ := len3 hbg; clear hbg; refine NM J J ?_; dsimp only [wEnts, wCels, procCs, regEs, WX.of, vi]
   refine Va J J ?_;refine RF J J ?_;refine Va J J ?_;refine AZ ZT_ok J J J J fun b5 => ?_;refine Va J J ?_
   by_cases hm1 : mo0 = 1
   ·refine RT J (by simp [hm1]) ?_
    refine Va J J ?_;refine RT J (by simp [hm1]) ?_;refine Va J J ?_;exact RK (1007 :: wKeys 3) (Res.t1 Tryz.results57 J J) ⟨by simp [codeOf, codeP, hm1], J, J⟩ (Wpp [_, _, _] kg spg J ‹_› J J J J J J J J) J (.blk J J (Wsub 15 J J J J J J J J J J J J J J J J (Bs 3 J J J J (Bs 3 J J J J (Bs 3 J J J J .nil))))) XR
   by_cases hm2 : mo0 = 2
   ·subst hm2
    have hro := hh0.1 rfl
    simp only at hro
    rcases hro with rfl | rfl <;>
    ·refine RF J J ?_
     refine Va J J ?_;refine Ds J J J ?_;refine Da J J ?_;refine D_setP 31 (b := true) J J ?_;refine Da J J ?_;refine DD ?_;refine Va J J ?_
     refine S_condp J (fun h => ?_) (fun h => ?_) <;> refine Va J J ?_
     ·exact RK (1007 :: wKeys 3) (Res.t1 Tryz.results57 J J) ⟨by simp [codeOf, codeP, Wld.rm, h], J, J⟩ (Wpp [_, _, _] kg spg J ‹_› J J J J J J J J) J (.blk J J (Wsub 15 J J J J J J J J J J J J J J J J (Bs 3 J J J J (Bs 3 J J J J (Bs 3 J J J J .nil))))) XR
     ·refine RT J J ?_
      refine Va J J ?_;exact RK (1007 :: wKeys 3) (Res.t1 Tryz.results57 J J) ⟨by have h' := Classical.not_not.1 h; simp [codeOf, codeP, Wld.rm, h'], rfl, rfl⟩ (Wpp [_, _, _] kg spg rfl ‹_› rfl rfl rfl rfl rfl rfl rfl rfl) rfl (.blk rfl rfl (Wsub 15 rfl rfl rfl rfl rfl rfl rfl rfl rfl rfl rfl rfl rfl rfl rfl rfl (Bs 3 rfl rfl rfl rfl (Bs 3 rfl rfl rfl rfl (Bs 3 rfl rfl rfl rfl .nil))))) XR
   refine RF J (by simp [hm1]) ?_;refine Va J J ?_;refine Ds J J J ?_;refine Da J J ?_;refine D_split 31 J (fun _ => J) (fun h => absurd h (by simp [hm2])) (fun h => ?_)
   refine Da J J ?_;refine DD ?_;refine Va J J ?_;refine RF J (by simp [hm2]) ?_;refine Va J J ?_
   rcases hTD : td0 with _ | ⟨s, r⟩
   ·subst hTD
    refine RT J J ?_;refine Va J J ?_;exact RK (1007 :: wKeys 3) (Res.t1 Tryz.results57 J J) ⟨by simp [codeOf, codeP, hm1, hm2], J, J⟩ (Wpp [_, _, _] kg spg J ‹_› J J J J J J J J) J (.blk J J (Wsub 15 J J J J J J J J J J J J J J J J (Bs 3 J J J J (Bs 3 J J J J (Bs 3 J J J J .nil))))) XR
   subst hTD
   obtain ⟨ad, vx, vy, rfl, hcs, _⟩ := Sts_head s0
   refine RF J (by simp <;> omega) ?_
   refine Va J J ?_
   by_cases hk8 : s.kind = 8
   ·have hsa := hh0.2 s r rfl hk8
    obtain ⟨sk, sa, sb, sn, sx, sy⟩ := s
    simp only [Stm.kind, Stm.a] at hk8 hsa hcs
    subst hk8
    rcases hsa with rfl | rfl <;>
    ·refine Ds J J J ?_
     refine Da J J ?_
     refine D_val 2 J J J J J J J J J (V_index Tk J J J J (by omega) (by simp <;> omega)) ?_
     refine Da J J ?_;refine D_val 4 J J J J J J J J J (V_load Tk J J J (by simpa [add_add', add_zero'] using gcells_at hcs 0 _ J)) ?_;refine Da J J ?_;refine D_setP 58 (b := true) J J ?_;refine Da J J ?_
     refine D_val 13 J J J J J J J J J (V_index Tk J J J J (by omega) (by simp <;> omega)) ?_
     refine Da J J ?_;refine D_val 15 J J J J J J J J J (V_load Tk J J J (by simpa [add_add', add_zero'] using gcells_at hcs 1 _ J)) ?_;refine Da J J ?_;refine DD ?_;refine Va J J ?_
     refine S_condp J (fun h => ?_) (fun h => ?_) <;> refine Va J J ?_
     ·exact RK (1007 :: wKeys 3) (Res.t1 Tryz.results57 J J) ⟨by simp [codeOf, codeP, Wld.rm, hm1, hm2, Stm.kind, Stm.a, h], J, J⟩ (Wpp [_, _, _] kg spg J ‹_› J J J J J J J J) J (.blk J J (Wsub 15 J J J J J J J J J J J J J J J J (Bs 3 J J J J (Bs 3 J J J J (Bs 3 J J J J .nil))))) XR
     ·exact RK (1007 :: wKeys 3) (Res.t1 Tryz.results57 J J) ⟨by have h' := Classical.not_not.1 h; simp [codeOf, codeP, Wld.rm, hm1, hm2, Stm.kind, Stm.a, h'], rfl, rfl⟩ (Wpp [_, _, _] kg spg rfl ‹_› rfl rfl rfl rfl rfl rfl rfl rfl) rfl (.blk rfl rfl (Wsub 15 rfl rfl rfl rfl rfl rfl rfl rfl rfl rfl rfl rfl rfl rfl rfl rfl (Bs 3 rfl rfl rfl rfl (Bs 3 rfl rfl rfl rfl (Bs 3 rfl rfl rfl rfl .nil))))) XR
   refine Ds J J J ?_;refine Da J J ?_
   refine D_val 2 J J J J J J J J J (V_index Tk J J J J (by omega) (by simp <;> omega)) ?_
   refine Da J J ?_;refine D_val 4 J J J J J J J J J (V_load Tk J J J (by simpa [add_add', add_zero'] using gcells_at hcs 0 _ J)) ?_;refine Da J J ?_;refine D_split 58 J (fun _ => J) (fun h => absurd h (by simp [hk8])) (fun h => ?_)
   refine Da J J ?_;refine DD ?_;refine Va J J ?_;exact RK (1007 :: wKeys 3) (Res.t1 Tryz.results57 J J) ⟨by simp [codeOf, codeP, hm1, hm2, hk8], J, J⟩ (Wpp [_, _, _] kg spg J ‹_› J J J J J J J J) J (.blk J J (Wsub 15 J J J J J J J J J J J J J J J J (Bs 3 J J J J (Bs 3 J J J J (Bs 3 J J J J .nil))))) XR
  ·refine OpP 1 0 J J J J fun bp bc br bs bg kp sp asd ksd aq0 kq0 aq1 kq1 kc spc kr spr ks sps kg spg hbg hmk => ?_; obtain ⟨g0, g1, g2, rfl⟩ := len3 hbg; clear hbg; refine NM J J ?_; dsimp only [wEnts, wCels, procCs, regEs, WX.of, vi]
   refine Va J J ?_;refine RF J J ?_;refine Va J J ?_;refine AZ ZT_ok J J J J fun b5 => ?_;refine Va J J ?_
   by_cases hm1 : mo1 = 1
   ·refine RT J (by simp [hm1]) ?_
    refine Va J J ?_;refine RT J (by simp [hm1]) ?_;refine Va J J ?_;exact RK (1007 :: wKeys 3) (Res.t1 Tryz.results57 J J) ⟨by simp [codeOf, codeP, hm1], J, J⟩ (Wpp [_, _, _] kg spg J ‹_› J J J J J J J J) J (.blk J J (Wsub 15 J J J J J J J J J J J J J J J J (Bs 3 J J J J (Bs 3 J J J J (Bs 3 J J J J .nil))))) XR
   by_cases hm2 : mo1 = 2
   ·subst hm2
    have hro := hh1.1 rfl
    simp only at hro
    rcases hro with rfl | rfl <;>
    ·refine RF J J ?_
     refine Va J J ?_;refine Ds J J J ?_;refine Da J J ?_;refine D_setP 31 (b := true) J J ?_;refine Da J J ?_;refine DD ?_;refine Va J J ?_
     refine S_condp J (fun h => ?_) (fun h => ?_) <;> refine Va J J ?_
     ·exact RK (1007 :: wKeys 3) (Res.t1 Tryz.results57 J J) ⟨by simp [codeOf, codeP, Wld.rm, h], J, J⟩ (Wpp [_, _, _] kg spg J ‹_› J J J J J J J J) J (.blk J J (Wsub 15 J J J J J J J J J J J J J J J J (Bs 3 J J J J (Bs 3 J J J J (Bs 3 J J J J .nil))))) XR
     ·refine RT J J ?_
      refine Va J J ?_;exact RK (1007 :: wKeys 3) (Res.t1 Tryz.results57 J J) ⟨by have h' := Classical.not_not.1 h; simp [codeOf, codeP, Wld.rm, h'], rfl, rfl⟩ (Wpp [_, _, _] kg spg rfl ‹_› rfl rfl rfl rfl rfl rfl rfl rfl) rfl (.blk rfl rfl (Wsub 15 rfl rfl rfl rfl rfl rfl rfl rfl rfl rfl rfl rfl rfl rfl rfl rfl (Bs 3 rfl rfl rfl rfl (Bs 3 rfl rfl rfl rfl (Bs 3 rfl rfl rfl rfl .nil))))) XR
   refine RF J (by simp [hm1]) ?_;refine Va J J ?_;refine Ds J J J ?_;refine Da J J ?_;refine D_split 31 J (fun _ => J) (fun h => absurd h (by simp [hm2])) (fun h => ?_)
   refine Da J J ?_;refine DD ?_;refine Va J J ?_;refine RF J (by simp [hm2]) ?_;refine Va J J ?_
   rcases hTD : td1 with _ | ⟨s, r⟩
   ·subst hTD
    refine RT J J ?_;refine Va J J ?_;exact RK (1007 :: wKeys 3) (Res.t1 Tryz.results57 J J) ⟨by simp [codeOf, codeP, hm1, hm2], J, J⟩ (Wpp [_, _, _] kg spg J ‹_› J J J J J J J J) J (.blk J J (Wsub 15 J J J J J J J J J J J J J J J J (Bs 3 J J J J (Bs 3 J J J J (Bs 3 J J J J .nil))))) XR
   subst hTD
   obtain ⟨ad, vx, vy, rfl, hcs, _⟩ := Sts_head s1
   refine RF J (by simp <;> omega) ?_
   refine Va J J ?_
   by_cases hk8 : s.kind = 8
   ·have hsa := hh1.2 s r rfl hk8
    obtain ⟨sk, sa, sb, sn, sx, sy⟩ := s
    simp only [Stm.kind, Stm.a] at hk8 hsa hcs
    subst hk8
    rcases hsa with rfl | rfl <;>
    ·refine Ds J J J ?_
     refine Da J J ?_
     refine D_val 2 J J J J J J J J J (V_index Tk J J J J (by omega) (by simp <;> omega)) ?_
     refine Da J J ?_;refine D_val 4 J J J J J J J J J (V_load Tk J J J (by simpa [add_add', add_zero'] using gcells_at hcs 0 _ J)) ?_;refine Da J J ?_;refine D_setP 58 (b := true) J J ?_;refine Da J J ?_
     refine D_val 13 J J J J J J J J J (V_index Tk J J J J (by omega) (by simp <;> omega)) ?_
     refine Da J J ?_;refine D_val 15 J J J J J J J J J (V_load Tk J J J (by simpa [add_add', add_zero'] using gcells_at hcs 1 _ J)) ?_;refine Da J J ?_;refine DD ?_;refine Va J J ?_
     refine S_condp J (fun h => ?_) (fun h => ?_) <;> refine Va J J ?_
     ·exact RK (1007 :: wKeys 3) (Res.t1 Tryz.results57 J J) ⟨by simp [codeOf, codeP, Wld.rm, hm1, hm2, Stm.kind, Stm.a, h], J, J⟩ (Wpp [_, _, _] kg spg J ‹_› J J J J J J J J) J (.blk J J (Wsub 15 J J J J J J J J J J J J J J J J (Bs 3 J J J J (Bs 3 J J J J (Bs 3 J J J J .nil))))) XR
     ·exact RK (1007 :: wKeys 3) (Res.t1 Tryz.results57 J J) ⟨by have h' := Classical.not_not.1 h; simp [codeOf, codeP, Wld.rm, hm1, hm2, Stm.kind, Stm.a, h'], rfl, rfl⟩ (Wpp [_, _, _] kg spg rfl ‹_› rfl rfl rfl rfl rfl rfl rfl rfl) rfl (.blk rfl rfl (Wsub 15 rfl rfl rfl rfl rfl rfl rfl rfl rfl rfl rfl rfl rfl rfl rfl rfl (Bs 3 rfl rfl rfl rfl (Bs 3 rfl rfl rfl rfl (Bs 3 rfl rfl rfl rfl .nil))))) XR
   refine Ds J J J ?_;refine Da J J ?_
   refine D_val 2 J J J J J J J J J (V_index Tk J J J J (by omega) (by simp <;> omega)) ?_
   refine Da J J ?_;refine D_val 4 J J J J J J J J J (V_load Tk J J J (by simpa [add_add', add_zero'] using gcells_at hcs 0 _ J)) ?_;refine Da J J ?_;refine D_split 58 J (fun _ => J) (fun h => absurd h (by simp [hk8])) (fun h => ?_)
   refine Da J J ?_;refine DD ?_;refine Va J J ?_;exact RK (1007 :: wKeys 3) (Res.t1 Tryz.results57 J J) ⟨by simp [codeOf, codeP, hm1, hm2, hk8], J, J⟩ (Wpp [_, _, _] kg spg J ‹_› J J J J J J J J) J (.blk J J (Wsub 15 J J J J J J J J J J J J J J J J (Bs 3 J J J J (Bs 3 J J J J (Bs 3 J J J J .nil))))) XR
  ·refine OpP 1 0 J J J J fun bp bc br bs bg kp sp asd ksd aq0 kq0 aq1 kq1 kc spc kr spr ks sps kg spg hbg hmk => ?_; obtain ⟨g0, g1, g2, rfl⟩ := len3 hbg; clear hbg; refine NM J J ?_; dsimp only [wEnts, wCels, procCs, regEs, WX.of, vi]
   refine Va J J ?_;refine RF J J ?_;refine Va J J ?_;refine AZ ZT_ok J J J J fun b5 => ?_;refine Va J J ?_
   by_cases hm1 : mo2 = 1
   ·refine RT J (by simp [hm1]) ?_
    refine Va J J ?_;refine RT J (by simp [hm1]) ?_;refine Va J J ?_;exact RK (1007 :: wKeys 3) (Res.t1 Tryz.results57 J J) ⟨by simp [codeOf, codeP, hm1], J, J⟩ (Wpp [_, _, _] kg spg J ‹_› J J J J J J J J) J (.blk J J (Wsub 15 J J J J J J J J J J J J J J J J (Bs 3 J J J J (Bs 3 J J J J (Bs 3 J J J J .nil))))) XR
   by_cases hm2 : mo2 = 2
   ·subst hm2
    have hro := hh2.1 rfl
    simp only at hro
    rcases hro with rfl | rfl <;>
    ·refine RF J J ?_
     refine Va J J ?_;refine Ds J J J ?_;refine Da J J ?_;refine D_setP 31 (b := true) J J ?_;refine Da J J ?_;refine DD ?_;refine Va J J ?_
     refine S_condp J (fun h => ?_) (fun h => ?_) <;> refine Va J J ?_
     ·exact RK (1007 :: wKeys 3) (Res.t1 Tryz.results57 J J) ⟨by simp [codeOf, codeP, Wld.rm, h], J, J⟩ (Wpp [_, _, _] kg spg J ‹_› J J J J J J J J) J (.blk J J (Wsub 15 J J J J J J J J J J J J J J J J (Bs 3 J J J J (Bs 3 J J J J (Bs 3 J J J J .nil))))) XR
     ·refine RT J J ?_
      refine Va J J ?_;exact RK (1007 :: wKeys 3) (Res.t1 Tryz.results57 J J) ⟨by have h' := Classical.not_not.1 h; simp [codeOf, codeP, Wld.rm, h'], rfl, rfl⟩ (Wpp [_, _, _] kg spg rfl ‹_› rfl rfl rfl rfl rfl rfl rfl rfl) rfl (.blk rfl rfl (Wsub 15 rfl rfl rfl rfl rfl rfl rfl rfl rfl rfl rfl rfl rfl rfl rfl rfl (Bs 3 rfl rfl rfl rfl (Bs 3 rfl rfl rfl rfl (Bs 3 rfl rfl rfl rfl .nil))))) XR
   refine RF J (by simp [hm1]) ?_;refine Va J J ?_;refine Ds J J J ?_;refine Da J J ?_;refine D_split 31 J (fun _ => J) (fun h => absurd h (by simp [hm2])) (fun h => ?_)
   refine Da J J ?_;refine DD ?_;refine Va J J ?_;refine RF J (by simp [hm2]) ?_;refine Va J J ?_
   rcases hTD : td2 with _ | ⟨s, r⟩
   ·subst hTD
    refine RT J J ?_;refine Va J J ?_;exact RK (1007 :: wKeys 3) (Res.t1 Tryz.results57 J J) ⟨by simp [codeOf, codeP, hm1, hm2], J, J⟩ (Wpp [_, _, _] kg spg J ‹_› J J J J J J J J) J (.blk J J (Wsub 15 J J J J J J J J J J J J J J J J (Bs 3 J J J J (Bs 3 J J J J (Bs 3 J J J J .nil))))) XR
   subst hTD
   obtain ⟨ad, vx, vy, rfl, hcs, _⟩ := Sts_head s2
   refine RF J (by simp <;> omega) ?_
   refine Va J J ?_
   by_cases hk8 : s.kind = 8
   ·have hsa := hh2.2 s r rfl hk8
    obtain ⟨sk, sa, sb, sn, sx, sy⟩ := s
    simp only [Stm.kind, Stm.a] at hk8 hsa hcs
    subst hk8
    rcases hsa with rfl | rfl <;>
    ·refine Ds J J J ?_
     refine Da J J ?_
     refine D_val 2 J J J J J J J J J (V_index Tk J J J J (by omega) (by simp <;> omega)) ?_
     refine Da J J ?_;refine D_val 4 J J J J J J J J J (V_load Tk J J J (by simpa [add_add', add_zero'] using gcells_at hcs 0 _ J)) ?_;refine Da J J ?_;refine D_setP 58 (b := true) J J ?_;refine Da J J ?_
     refine D_val 13 J J J J J J J J J (V_index Tk J J J J (by omega) (by simp <;> omega)) ?_
     refine Da J J ?_;refine D_val 15 J J J J J J J J J (V_load Tk J J J (by simpa [add_add', add_zero'] using gcells_at hcs 1 _ J)) ?_;refine Da J J ?_;refine DD ?_;refine Va J J ?_
     refine S_condp J (fun h => ?_) (fun h => ?_) <;> refine Va J J ?_
     ·exact RK (1007 :: wKeys 3) (Res.t1 Tryz.results57 J J) ⟨by simp [codeOf, codeP, Wld.rm, hm1, hm2, Stm.kind, Stm.a, h], J, J⟩ (Wpp [_, _, _] kg spg J ‹_› J J J J J J J J) J (.blk J J (Wsub 15 J J J J J J J J J J J J J J J J (Bs 3 J J J J (Bs 3 J J J J (Bs 3 J J J J .nil))))) XR
     ·exact RK (1007 :: wKeys 3) (Res.t1 Tryz.results57 J J) ⟨by have h' := Classical.not_not.1 h; simp [codeOf, codeP, Wld.rm, hm1, hm2, Stm.kind, Stm.a, h'], rfl, rfl⟩ (Wpp [_, _, _] kg spg rfl ‹_› rfl rfl rfl rfl rfl rfl rfl rfl) rfl (.blk rfl rfl (Wsub 15 rfl rfl rfl rfl rfl rfl rfl rfl rfl rfl rfl rfl rfl rfl rfl rfl (Bs 3 rfl rfl rfl rfl (Bs 3 rfl rfl rfl rfl (Bs 3 rfl rfl rfl rfl .nil))))) XR
   refine Ds J J J ?_;refine Da J J ?_
   refine D_val 2 J J J J J J J J J (V_index Tk J J J J (by omega) (by simp <;> omega)) ?_
   refine Da J J ?_;refine D_val 4 J J J J J J J J J (V_load Tk J J J (by simpa [add_add', add_zero'] using gcells_at hcs 0 _ J)) ?_;refine Da J J ?_;refine D_split 58 J (fun _ => J) (fun h => absurd h (by simp [hk8])) (fun h => ?_)
   refine Da J J ?_;refine DD ?_;refine Va J J ?_;exact RK (1007 :: wKeys 3) (Res.t1 Tryz.results57 J J) ⟨by simp [codeOf, codeP, hm1, hm2, hk8], J, J⟩ (Wpp [_, _, _] kg spg J ‹_› J J J J J J J J) J (.blk J J (Wsub 15 J J J J J J J J J J J J J J J J (Bs 3 J J J J (Bs 3 J J J J (Bs 3 J J J J .nil))))) XR
end
section
attribute [local irreducible] X Pure Mod
def deedV (k a b n : Int) (vx vy : Value) : Value :=
 if k = 1 then .iface 127 (.agg #[.int .i64 a, .int .i64 n])
 else if k = 2 then .iface 129 (.agg #[.int .i64 a, .int .i64 b, .int .i64 n])
 else if k = 3 then .iface 131 (.agg #[.int .i64 a, .int .i64 b])
 else if k = 4 then .iface 133 (.agg #[.int .i64 a, .int .i64 b])
 else if k = 5 then .iface 135 (.agg #[.int .i64 a])
 else if k = 6 then .iface 137 (.agg #[.int .i64 k, .int .i64 a, .int .i64 b, .int .i64 n, vx, vy])
 else if k = 7 then .iface 138 (.agg #[.int .i64 k, .int .i64 a, .int .i64 b, .int .i64 n, vx, vy])
 else if k = 8 then .iface 139 (.agg #[.int .i64 k, .int .i64 a, .int .i64 b, .int .i64 n, vx, vy])
 else if k = 9 then .iface 141 (.agg #[.int .i64 a])
 else if k = 10 then .iface 142 (.agg #[.int .i64 a])
 else if k = 12 then .iface 144 (.agg #[.int .i64 a])
 else .iface 146 (.agg #[])
theorem c_deedOf (k a b n : Int) (A1 : Option Addr) (n1 c1 : Nat) (A2 : Option Addr) (n2 c2 : Nat) (G : PH) : Pure Tryz.prog 78 [.agg #[.int .i64 k, .int .i64 a, .int .i64 b, .int .i64 n, .slice A1 n1 c1, .slice A2 n2 c2]] G fun v G' => v = deedV k a b n (.slice A1 n1 c1) (.slice A2 n2 c2) ∧ G' = G := by
 refine Pure.intro Tryz.func78 Tryz.ntmps78 J J fun w => ?_; refine Va J J ?_
 repeat' (first
  | (refine S_condp J (fun h => ?_) (fun h => ?_) <;> refine Va J J ?_) | (refine S_cond J (fun h => ?_) (fun h => ?_) <;> refine Va J J ?_) | (refine S_box J J J J J fun b => ?_; refine Va J J ?_) | (refine AZ ZT_ok J J J J fun b => ?_; refine Va J J ?_) | (refine S_guardp J J (fun h => ?_) (fun h => ?_) <;> refine Va J J ?_) | (refine S_guard J J (fun h => ?_) (fun h => ?_) <;> refine Va J J ?_)
  | exact S_retp (Res.t1 Tryz.results78 J J) XR ⟨by simp_all [deedV], J⟩
  | (refine S_valV J J J (V_build0 (by kernel_rfl)) ?_; refine S_valV J J J (V_iface (by kernel_rfl) J J) ?_; refine Va J J ?_))
end
end Go.Proofs.YtphbcboejmhaoaaGreat
