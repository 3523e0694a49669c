/- Walks of the program's functions, one after the other (part 13); without conditions of their own. -/
import Derived.Test.YtphbcboejmhaoaaGreatWM10
import Derived.Test.YtphbcboejmhaoaaGreatWM12
import Derived.Test.YtphbcboejmhaoaaGreatWM2
set_option linter.unusedVariables false
set_option linter.unusedSimpArgs false
set_option maxRecDepth 100000
set_option maxHeartbeats 4000000
open Go.RowKit
namespace Go.Proofs.YtphbcboejmhaoaaGreat
section
attribute [local irreducible] X Pure Mod
def rcLt (x y : Nat × Nat) : Prop := x.1 < y.1 ∨ (x.1 = y.1 ∧ x.2 < y.2)
theorem rowTo_sorted (ms : List Mk) (i : Nat) : ∀ j, (rowTo ms i j).Pairwise rcLt := by
 intro j
 induction j with
 | zero => simp [rowTo]
 | succ j ih =>
  by_cases h : i < j
  ·rw [rowTo_succ h]
   split
   ·refine List.pairwise_append.2 ⟨ih, by simp, fun x hx y hy => ?_⟩
    rw [List.mem_singleton.1 hy]
    obtain ⟨h1, _, h3, _⟩ := mem_rowTo.1 hx
    exact .inr ⟨h1, h3⟩
   ·rw [List.append_nil]; exact ih
  ·have : rowTo ms i (j + 1) = [] := by
    unfold rowTo
    rw [List.map_eq_nil_iff, List.filter_eq_nil_iff]
    intro k hk
    have := List.mem_range.1 hk
    simp; omega
   rw [this]; exact List.Pairwise.nil
theorem racesTo_sorted (ms : List Mk) : ∀ i, (racesTo ms i).Pairwise rcLt := by
 intro i
 induction i with
 | zero => simp [racesTo]
 | succ i ih =>
  rw [racesTo_succ]
  refine List.pairwise_append.2 ⟨ih, rowTo_sorted ms i _, fun x hx y hy => ?_⟩
  obtain ⟨h1, _⟩ := mem_racesTo.1 hx
  obtain ⟨h2, _⟩ := mem_rowTo.1 hy
  exact .inl (by omega)
theorem races_lt {ms : List Mk} {i j : Nat} (hj : j < (racesL ms).length) (h : i < j) : rcLt ((racesL ms)[i]'(by omega)) (racesL ms)[j] :=
 List.pairwise_iff_getElem.1 (show (racesL ms).Pairwise rcLt from racesTo_sorted ms ms.length) i j (by omega) hj h
theorem rc_at {G : PH} {l : List (Nat × Nat)} {k c : Nat} {A : Option Addr} (h : Rcs G l (.slice A l.length c)) (hk : k < l.length) : ∃ ad, A = some ad ∧ gcell G (ad.add (k * 2)) = some (.int .i64 (l[k].1 : Nat)) ∧ gcell G (ad.add (k * 2 + 1)) = some (.int .i64 (l[k].2 : Nat)) := by
 obtain ⟨ad, cs, rfl, hcs, rfl⟩ := Sr_at h hk
 exact ⟨ad, J, hcs.1, by have := hcs.2.1; rwa [add_add'] at this⟩
theorem few {ms : List Mk} : 2 * ((racesL ms).length : Int) ≤ (ms.length : Int) * ((ms.length : Int) - 1) := by
 have h := racesL_len ms
 have h2 : (2 * (racesL ms).length + ms.length * (ms.length + 1) : Int) ≤ 2 * (ms.length * ms.length) := by exact_mod_cast h
 have e1 : (ms.length : Int) * ((ms.length : Int) + 1) = ms.length * ms.length + ms.length := by rw [Int.mul_add, Int.mul_one]
 have e2 : (ms.length : Int) * ((ms.length : Int) - 1) = ms.length * ms.length - ms.length := by rw [Int.mul_sub, Int.mul_one]
 rw [e1] at h2
 rw [e2]
 omega
theorem c_FnRaceFew (A : Option Addr) (n c : Nat) (G : PH) (hl : n ≤ 1048576 → ∃ l, Byts G l (.slice A n c) ∧ l.length = n) : Pure Tryz.prog 5 [.slice A n c] G fun v G' => v = .bool true := by
 refine Pure.intro Tryz.func5 Tryz.ntmps5 J J fun w => ?_; refine Va J J ?_
 refine S_condp J (fun h => ?_) (fun h => ?_) <;> refine Va J J ?_
 ·exact S_retp (Res.t1 Tryz.results5 J J) XR J
 obtain ⟨l, hb, hll⟩ := hl (by omega)
 refine S_call Tryz.call9 (c_DrawRacesOf l _ _ hb) J J J ?_;rintro v1 G1 ⟨p, pv, q, qv, rfl, hp, hq, _⟩ hext1
 obtain ⟨Ap, cp, rfl, _⟩ := id hp.1
 obtain ⟨Aq, cq, rfl, _⟩ := id hq
 refine Va J J ?_;refine S_call Tryz.call10 (c_iRacesOf p q _ _ _ hp hq) J J J ?_;rintro v2 G2 hr2 hext2
 obtain ⟨Ar, cr, rfl, _⟩ := id hr2
 refine Va J J ?_;refine S_call Tryz.call12 (c_iMarksOf p q _ _ _ (PrgS_le hext2.le hp) (Ints_le hext2.le hq)) J J J ?_;rintro v3 G3 hm3 hext3
 obtain ⟨Am, cm, rfl, _⟩ := id hm3
 refine Va J J ?_;refine S_call Tryz.call11 (c_sRacesOf p q _ _ _ (PrgS_le (hext2.trans hext3).le hp) (Ints_le (hext2.trans hext3).le hq)) J J J ?_;rintro v4 G4 hr4 hext4
 obtain ⟨Ar4, cr4, rfl, _⟩ := id hr4
 refine Va J J ?_;refine GF J J (by simp) ?_;refine Va J J ?_;refine S_call Tryz.call14 (c_sMarksOf p q _ _ _ (PrgS_le ((hext2.trans hext3).trans hext4).le hp) (Ints_le ((hext2.trans hext3).trans hext4).le hq)) J J J ?_;rintro v5 G5 hm5 hext5
 obtain ⟨Am5, cm5, rfl, _⟩ := id hm5
 refine Va J J ?_;refine RF J (by simp) ?_
 have hr5 := Rcs_le ((hext3.trans hext4).trans hext5).le hr2
 have hml := marksL_len p q
 clear hr2 hr4 hm3 hm5
 generalize marksL p q = ms at hr5 hml ⊢
 have hfew := few (ms := ms)
 have hbig : (racesL ms).length ≤ 40200 := by have := races_len2 (ms := ms) (i := ms.length) (j := 0) (Nat.le_refl _) (Nat.zero_le _) hml; rw [List.length_append] at this; unfold racesL; omega
 refine Va J J ?_;refine S_loop (α := Nat) (fun i => 1 ≤ i ∧ i ≤ (racesL ms).length + 1) (fun i => (racesL ms).length + 1 - i) []
  (fun i => [(7, .val (.int .i64 (i : Nat))), (6, .val (.slice Am ms.length cm)), (5, .val (.slice Ar (racesL ms).length cr))])
  (fun _ => []) (fun _ => G5) 1 ⟨by omega, by omega⟩ rfl ⟨⟨_, rfl, rfl⟩, ⟨_, rfl, rfl⟩, ⟨_, rfl, rfl⟩, trivial⟩ .nil ?_
 rintro i ⟨hi1, hi⟩
 refine Va J J ?_
 refine S_condp J (fun h5 => ?_) (fun h5 => ?_) <;> refine Va J J ?_
 ·have hil : i < (racesL ms).length := by omega
  have hlt := races_lt hil (show i - 1 < i by omega)
  obtain ⟨ad, rfl, hx1, hx2⟩ := rc_at hr5 hil
  obtain ⟨ad', e, hy1, hy2⟩ := rc_at hr5 (k := i - 1) (by omega)
  cases e
  generalize (racesL ms)[i] = x at hlt hx1 hx2
  generalize (racesL ms)[i - 1]'(by omega) = y at hlt hy1 hy2
  have hsub : (((i : Nat) : Int) - 1).toNat = i - 1 := by omega
  refine Ds J J J ?_;refine Da J J ?_;refine D_val 2 J J J J J J J J J (V_index Tk J J J J (by omega) (by omega)) ?_;refine Da J J ?_;refine D_val 4 J J J J J J J J J (V_load Tk J J J (by simpa [add_zero'] using hx1)) ?_;refine Da J J ?_;refine D_val 7 J J J J J J J J J (V_sub J J (by omega)) ?_;refine Da J J ?_;refine D_val 8 J J J J J J J J J (V_index Tk J J J J (by omega) (by omega)) ?_;refine Da J J ?_
  refine D_val 10 J J J J J J J J J (V_load Tk J J J (by simpa [add_zero', hsub] using hy1)) ?_;refine Da J J ?_;refine D_split 56 J (fun _ => J) (fun hh => absurd hh (by unfold rcLt at hlt; simp; omega)) (fun hh => ?_)
  refine Da J J ?_;refine D_val 15 J J J J J J J J J (V_index Tk J J J J (by omega) (by omega)) ?_;refine Da J J ?_;refine D_val 17 J J J J J J J J J (V_load Tk J J J (by simpa [add_zero'] using hx1)) ?_;refine Da J J ?_;refine D_val 20 J J J J J J J J J (V_sub J J (by omega)) ?_;refine Da J J ?_;refine D_val 21 J J J J J J J J J (V_index Tk J J J J (by omega) (by omega)) ?_;refine Da J J ?_;refine D_val 23 J J J J J J J J J (V_load Tk J J J (by simpa [add_zero', hsub] using hy1)) ?_
  refine Da J J ?_;refine D_split 69 J (fun _ => J) (fun he => ?_) (fun he => ?_)
  ·refine Da J J ?_
   refine D_val 28 J J J J J J J J J (V_index Tk J J J J (by omega) (by omega)) ?_;refine Da J J ?_;refine D_val 30 J J J J J J J J J (V_load Tk J J J (by simpa [add_add'] using hx2)) ?_;refine Da J J ?_;refine D_val 33 J J J J J J J J J (V_sub J J (by omega)) ?_;refine Da J J ?_;refine D_val 34 J J J J J J J J J (V_index Tk J J J J (by omega) (by omega)) ?_;refine Da J J ?_;refine D_val 36 J J J J J J J J J (V_load Tk J J J (by simpa [add_add', hsub] using hy2)) ?_
   refine Da J J ?_;refine DD ?_;refine Va J J ?_;refine RF J (by unfold rcLt at hlt; simp at he ⊢; omega) ?_;refine Va J J ?_;refine S_add J J J J (by omega) ?_;refine Va J J ?_;exact S_again (i + 1) ⟨by omega, by omega⟩ (by omega) J ⟨⟨_, J, by simp [denO]⟩, ⟨_, J, J⟩, ⟨_, J, J⟩, trivial⟩ .nil
  ·refine Da J J ?_
   refine DD ?_;refine Va J J ?_;refine S_add J J J J (by omega) ?_;refine Va J J ?_;exact S_again (i + 1) ⟨by omega, by omega⟩ (by omega) J ⟨⟨_, J, by simp [denO]⟩, ⟨_, J, J⟩, ⟨_, J, J⟩, trivial⟩ .nil
 ·refine S_mul J J J J (by omega) ?_
  refine Va J J ?_;refine S_subI J J J J (by omega) ?_;refine Va J J ?_
  have hnn : 0 ≤ (ms.length : Int) * ((ms.length : Int) - 1) := by omega
  have hnm : (ms.length : Int) * ((ms.length : Int) - 1) ≤ 200 * 200 := by
   rcases Nat.eq_zero_or_pos ms.length with h0 | h0
   ·rw [h0]; decide
   ·exact Int.mul_le_mul (by omega) (by omega) (by omega) (by omega)
  refine S_mul J J J J (by omega) ?_;refine Va J J ?_;refine GT J J (by simpa using hfew) ?_;refine Va J J ?_;refine S_retp (Res.t1 Tryz.results5 J J) ((((hext1.trans hext2).trans hext3).trans hext4).trans hext5) ?_
  first | rfl | simp
end
end Go.Proofs.YtphbcboejmhaoaaGreat
