/- Walks of the program's functions, one after the other (part 13); without conditions of their own. -/
import Derived.Test.YtphbcboejmhaoaaGreatWM10
import Derived.Test.YtphbcboejmhaoaaGreatWM12
import Derived.Test.YtphbcboejmhaoaaGreatWM2
set_option linter.unusedVariables false
set_option linter.unusedSimpArgs false
set_option maxRecDepth 100000
set_option maxHeartbeats 4000000
open Go.RowKit
namespace Go.Proofs.YtphbcboejmhaoaaGreat
section
attribute [local irreducible] X Pure Mod
def stN (ms : List Mk) (i : Nat) : Nat := ((ms.take i).filter (·.store)).length
def whN (ms : List Mk) (w : Nat) (i : Nat) : Nat := ((ms.take i).filter fun m => decide (¬ (m.who : Int) = (w : Int))).length
theorem stN_succ {ms : List Mk} {i : Nat} (h : i < ms.length) : stN ms (i + 1) = stN ms i + if ms[i].store then 1 else 0 := by
 unfold stN
 rw [List.take_succ_eq_append_getElem h, List.filter_append, List.length_append]
 cases hs : ms[i].store <;> simp [hs]
theorem whN_succ {ms : List Mk} {w i : Nat} (h : i < ms.length) : whN ms w (i + 1) = whN ms w i + if ¬ (ms[i].who : Int) = (w : Int) then 1 else 0 := by
 unfold whN
 rw [List.take_succ_eq_append_getElem h, List.filter_append, List.length_append]
 by_cases hs : (ms[i].who : Int) = (w : Int) <;> simp [hs]
theorem stN_le (ms : List Mk) (i : Nat) : stN ms i ≤ ms.length := Nat.le_trans (List.length_filter_le ..) (by rw [List.length_take]; omega)
theorem whN_le (ms : List Mk) (w i : Nat) : whN ms w i ≤ ms.length := Nat.le_trans (List.length_filter_le ..) (by rw [List.length_take]; omega)
theorem len_pos {α : Type} {l : List α} {f : α → Bool} {x : α} (hx : x ∈ l) (hf : f x = true) : 0 < (l.filter f).length := List.length_pos_of_mem (List.mem_filter.2 ⟨hx, hf⟩)
theorem alone {ms : List Mk} (w : Nat) (h : racesL ms ≠ []) : 0 < stN ms ms.length ∧ 0 < whN ms w ms.length := by
 obtain ⟨x, hx⟩ := List.exists_mem_of_ne_nil _ h
 obtain ⟨_, h1, h2, h3⟩ := mem_racesTo.1 hx
 have hi : x.1 < ms.length := by omega
 rw [rcAt_eq hi h2, race_eq] at h3
 simp only [Bool.and_eq_true, Bool.or_eq_true, decide_eq_true_eq] at h3
 obtain ⟨⟨⟨h4, _⟩, h5⟩, _⟩ := h3
 unfold stN whN
 rw [List.take_length]
 constructor
 ·rcases h5 with h5 | h5
  ·exact len_pos (List.getElem_mem hi) h5
  ·exact len_pos (List.getElem_mem h2) h5
 ·by_cases hw : (ms[x.1].who : Int) = (w : Int)
  ·exact len_pos (List.getElem_mem h2) (by simp only [decide_eq_true_eq]; omega)
  ·exact len_pos (List.getElem_mem hi) (by simp only [decide_eq_true_eq]; exact hw)
theorem c_FnRaceAlone (A : Option Addr) (n c : Nat) (G : PH) (hl : n ≤ 1048576 → ∃ l, Byts G l (.slice A n c) ∧ l.length = n) : Pure Tryz.prog 3 [.slice A n c] G fun v G' => v = .bool true := by
 refine Pure.intro Tryz.func3 Tryz.ntmps3 J J fun w => ?_; refine Va J J ?_
 refine S_condp J (fun h => ?_) (fun h => ?_) <;> refine Va J J ?_
 ·exact S_retp (Res.t1 Tryz.results3 J J) XR J
 obtain ⟨l, hb, hll⟩ := hl (by omega)
 refine S_call Tryz.call9 (c_DrawRacesOf l _ _ hb) J J J ?_;rintro v1 G1 ⟨p, pv, q, qv, rfl, hp, hq, _⟩ hext1
 obtain ⟨Ap, cp, rfl, _⟩ := id hp.1
 obtain ⟨Aq, cq, rfl, _⟩ := id hq
 refine Va J J ?_;refine S_call Tryz.call10 (c_iRacesOf p q _ _ _ hp hq) J J J ?_;rintro v2 G2 hr2 hext2
 obtain ⟨Ar, cr, rfl, _⟩ := id hr2
 refine Va J J ?_;refine S_call Tryz.call11 (c_sRacesOf p q _ _ _ (PrgS_le hext2.le hp) (Ints_le hext2.le hq)) J J J ?_;rintro v3 G3 hr3 hext3
 obtain ⟨Ar3, cr3, rfl, _⟩ := id hr3
 refine Va J J ?_;refine RF J (by simp) ?_;refine Va J J ?_;refine S_call Tryz.call12 (c_iMarksOf p q _ _ _ (PrgS_le (hext2.trans hext3).le hp) (Ints_le (hext2.trans hext3).le hq)) J J J ?_;rintro v4 G4 hm4 hext4
 obtain ⟨Am, cm, rfl, _⟩ := id hm4
 have hml := marksL_len p q
 clear hr2 hr3
 generalize marksL p q = ms at hm4 hml ⊢
 have hw0 : ∃ w0 : Nat, ∀ h : 0 < ms.length, ms[0].who = w0 := by
  cases ms with
  | nil => exact ⟨0, fun h => absurd h (by simp)⟩
  | cons a r => exact ⟨a.who, fun _ => rfl⟩
 obtain ⟨w0, hw0⟩ := hw0
 refine Va J J ?_;refine S_loop (α := Nat) (fun i => i ≤ ms.length) (fun i => ms.length - i) []
  (fun i => [(9, .val (.int .i64 (i : Nat))), (7, .val (.int .i64 (stN ms i : Nat))), (8, .val (.int .i64 (whN ms w0 i : Nat))), (6, .val (.slice Am ms.length cm)), (5, .val (.slice Ar (racesL ms).length cr))])
  (fun _ => []) (fun _ => G4) 0 (Nat.zero_le _) rfl ⟨⟨_, rfl, rfl⟩, ⟨_, rfl, rfl⟩, ⟨_, rfl, rfl⟩, ⟨_, rfl, rfl⟩, ⟨_, rfl, rfl⟩, trivial⟩ .nil ?_
 intro i hi
 refine Va J J ?_
 refine S_condp J (fun h5 => ?_) (fun h5 => ?_) <;> refine Va J J ?_
 ·have hil : i < ms.length := by omega
  have hst := stN_le ms i
  have hwh := whN_le ms w0 i
  have hst1 := stN_succ hil
  have hwh1 := whN_succ (w := w0) hil
  obtain ⟨ad, ca, rfl, hca, hma⟩ := mk_at hm4 hil
  obtain ⟨ad', cb, e, hcb, hmb⟩ := mk_at hm4 (k := 0) (by omega)
  cases e
  rw [show (0 : Nat) * 5 = 0 from rfl, add_zero'] at hcb
  have hwb := hw0 (by omega)
  generalize ms[i] = a at hma hst1 hwh1
  generalize ms[0]'(by omega) = b at hmb hwb
  obtain ⟨Aa, ka, rfl, _⟩ := id hma
  obtain ⟨Ab, kb, rfl, _⟩ := id hmb
  subst hwb
  refine S_index Tk J J J J J J (by omega) (by omega) ?_;refine Va J J ?_;refine S_load Tk J J J J J (by simpa [add_add'] using gcells_at hca 2 _ J) ?_;refine Va J J ?_
  refine S_cond J (fun h6 => ?_) (fun h6 => ?_) <;> refine Va J J ?_
  ·rw [h6] at hst1
   refine S_add J J J J (by omega) ?_;refine Va J J ?_;refine Ds J J J ?_;refine Da J J ?_;refine D_val 2 J J J J J J J J J (V_index Tk J J J J (by omega) (by omega)) ?_;refine Da J J ?_;refine D_val 4 J J J J J J J J J (V_load Tk J J J (by simpa [add_zero'] using gcells_at hca 0 _ J)) ?_;refine Da J J ?_;refine D_val 6 J J J J J J J J J (V_index Tk J J J J (by omega) (by omega)) ?_;refine Da J J ?_
   refine D_val 8 J J J J J J J J J (V_load Tk J J J (by simpa [add_zero'] using gcells_at hcb 0 _ J)) ?_;refine Da J J ?_;refine DD ?_;refine Va J J ?_
   refine S_condp J (fun h7 => ?_) (fun h7 => ?_) <;> refine Va J J ?_
   ·refine S_add J J J J (by omega) ?_
    refine Va J J ?_;refine S_add J J J J (by omega) ?_;refine Va J J ?_;exact S_again (i + 1) (by omega) (by omega) J ⟨⟨_, J, by simp [denO]⟩, ⟨_, J, by simp [denO, hst1]⟩, ⟨_, J, by simp [denO, hwh1, h7]⟩, ⟨_, J, J⟩, ⟨_, J, J⟩, trivial⟩ .nil
   ·refine S_add J J J J (by omega) ?_
    refine Va J J ?_;exact S_again (i + 1) (by omega) (by omega) J ⟨⟨_, J, by simp [denO]⟩, ⟨_, J, by simp [denO, hst1]⟩, ⟨_, J, by simp [denO, hwh1, h7]⟩, ⟨_, J, J⟩, ⟨_, J, J⟩, trivial⟩ .nil
  ·rw [h6] at hst1
   refine Ds J J J ?_;refine Da J J ?_;refine D_val 2 J J J J J J J J J (V_index Tk J J J J (by omega) (by omega)) ?_;refine Da J J ?_;refine D_val 4 J J J J J J J J J (V_load Tk J J J (by simpa [add_zero'] using gcells_at hca 0 _ J)) ?_;refine Da J J ?_;refine D_val 6 J J J J J J J J J (V_index Tk J J J J (by omega) (by omega)) ?_;refine Da J J ?_;refine D_val 8 J J J J J J J J J (V_load Tk J J J (by simpa [add_zero'] using gcells_at hcb 0 _ J)) ?_
   refine Da J J ?_;refine DD ?_;refine Va J J ?_
   refine S_condp J (fun h7 => ?_) (fun h7 => ?_) <;> refine Va J J ?_
   ·refine S_add J J J J (by omega) ?_
    refine Va J J ?_;refine S_add J J J J (by omega) ?_;refine Va J J ?_;exact S_again (i + 1) (by omega) (by omega) J ⟨⟨_, J, by simp [denO]⟩, ⟨_, J, by simp [denO, hst1]⟩, ⟨_, J, by simp [denO, hwh1, h7]⟩, ⟨_, J, J⟩, ⟨_, J, J⟩, trivial⟩ .nil
   ·refine S_add J J J J (by omega) ?_
    refine Va J J ?_;exact S_again (i + 1) (by omega) (by omega) J ⟨⟨_, J, by simp [denO]⟩, ⟨_, J, by simp [denO, hst1]⟩, ⟨_, J, by simp [denO, hwh1, h7]⟩, ⟨_, J, J⟩, ⟨_, J, J⟩, trivial⟩ .nil
 ·obtain rfl : i = ms.length := by omega
  refine S_retp (Res.t1 Tryz.results3 J J) (((hext1.trans hext2).trans hext3).trans hext4) ?_
  by_cases hr : racesL ms = []
  ·rw [hr]; simp
  ·obtain ⟨h1, h2⟩ := alone w0 hr
   simp [h1, h2]
end
end Go.Proofs.YtphbcboejmhaoaaGreat
