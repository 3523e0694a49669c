/- Walks of the program's functions, one after the other (part 8); without conditions of their own. -/
import Derived.Test.YtbecgghgcglafaaGreatDoorWM3
import Derived.Test.YtbecgghgcglafaaGreatDoorWM4
import Derived.Test.YtbecgghgcglafaaGreatDoorWM7
import Derived.Test.YtbecgghgcglafaaGreatDoorWM2
set_option linter.unusedVariables false
set_option linter.unusedSimpArgs false
set_option maxRecDepth 100000
set_option maxHeartbeats 4000000
open Go.RowKit
namespace Go.Proofs.YtbecgghgcglafaaGreatDoor
section
attribute [local irreducible] X Pure Mod
def bentV (v : Value) (G : PH) : Prop := ∃ l, Sts G l v ∧ Sh l
theorem Sh_set {l : List Stm} {k : Nat} {s : Stm} (h : Sh l) (hs : Stm.short s) : Sh (l.set k s) := by
 refine ⟨by simpa using h.1, shL_iff.2 fun x hx => ?_⟩
 rcases List.mem_or_eq_of_mem_set hx with hx | rfl
 ·exact shL_iff.1 h.2 x hx
 ·exact hs
theorem c_l2Bent (b : Nat) (l : List Int) (sv : Value) (ls : List Stm) (lv : Value) (N : Nat) (G : PH) (hl : Byts G l sv) (hst : Sts G ls lv) (hsh : Sh ls) (hN : N + 3 ≤ 1000000000) : Drw 42 b sv [lv] N 3 G bentV := by
 obtain ⟨A, c, rfl, hl1, _⟩ := id hl
 obtain ⟨A2, c2, xs, rfl, hxl, hxg, hcs⟩ := sts_cells hst
 have hlen := hsh.1
 refine Mod.intro Tryz.func42 Tryz.ntmps42 J J fun w S => ?_;refine Va J J ?_;refine S_emptyO Tk 5 J J J J fun A0 => ?_;refine Va J J ?_;refine S_appO Tk 5 J J J J J J J J J J J (fun _ _ => J) (src_G hxl hxg) (Cs_one Stm.rep_one hcs) (by simp only; omega) (by simp only [maxLen]; omega) (Nat.le_refl _) fun A4 c4 => ?_
 rw [List.nil_append, Nat.zero_add]
 refine Va J J ?_
 refine S_condp J (fun h => ?_) (fun h => ?_) <;> refine Va J J ?_
 ·refine S_freezeR 5 J J (Nat.le_refl _) fun Gf hextf hncf hcmf hclf => ?_
  have hvf : Sts Gf _ _ := frz (Cs_mono (Stm.reps_le hextf.le _) hcs) rfl (by omega) hncf hcmf hclf
  refine S_rdLe 1 (N + 3) (by omega) J J ?_;exact S_retm 1 (Res.t1 Tryz.results42 J J) J hextf ⟨J, _, hvf, hsh⟩
 refine S_callM 1 Tryz.call22 (c_pick b l _ _ N G hl ⟨by omega, by omega⟩ (by omega)) J J J J (fun _ => J) ?_;rintro v G2 A' ⟨rfl, rfl, k, rfl, hk0, hk1⟩ _
 refine Va J J ?_;refine S_callM 1 Tryz.call22 (c_pick b l _ _ _ _ hl ⟨by omega, by omega⟩ (by omega)) J J J J (fun _ => J) ?_;rintro v G2 A' ⟨rfl, rfl, m, rfl, hm0, hm1⟩ _
 obtain ⟨k, rfl⟩ := Int.eq_ofNat_of_zero_le hk0
 have hkl : k < ls.length := by omega
 refine S_capO 5 J fun hnc4 hcm4 _ => ?_;refine S_someO 5 J (by omega) fun g off eA => ?_
 subst eA
 obtain ⟨cs, hcsd, hcsl, hrep, hset⟩ := Cs_at hcs hkl
 generalize hs : ls[k] = s at hrep
 have hss : Stm.short s := by rw [← hs]; exact shL_iff.1 hsh.2 _ (List.getElem_mem _)
 obtain ⟨q1, q2, q3, q4, q5, q6⟩ := s
 rw [Stm.short_mk] at hss
 obtain ⟨vx, vy, rfl, i1, i2, i3, i4, hx, hy⟩ := Stm.rep_iff.1 hrep
 refine Va J J ?_
 have hoff : ∀ f, f < 6 → k * 6 + f < xs.length := fun f hf => by omega
 have hto : ((k : Int).toNat : Nat) = k := by omega
 refine S_condp J (fun h => ?_) (fun h => ?_) <;> refine Va J J ?_
 ·(refine S_sliceG Tk ZT_ok J J J J (by decide) (by decide) J J J J (fun _ => J) fun bq Gq hxq hcq => ?_)
  refine Va J J ?_;refine S_callM 1 Tryz.call64 (c_numL b [0, 12, 13, -1, 9] (Byts_le hxq.le hl) hcq J (Nat.le_refl _) (by decide) (by decide) (i64_small (by decide)) (by omega)) J J J J (fun _ => J) ?_;rintro v G' A' ⟨rfl, rfl, m1, hmem1, rfl⟩ _
  have hi1 : I64 m1 := i64_small (l := [0, 12, 13, -1, 9]) (by decide) m1 hmem1
  refine Va J J ?_;refine S_index Tk J J J J J J (by omega) (by omega) ?_;refine Va J J ?_;refine S_storeO Tk 5 (o := k * 6 + 0) J J J (by simp [add_lit', Nat.add_assoc]) J J J J J (by omega) J ?_;refine Va J J ?_
  have hcs2 := hset 0 (.int .i64 m1) (.mk m1 q2 q3 q4 q5 q6) (by omega) (Stm.rep_iff.2 ⟨_, _, rfl, by assumption, by assumption, by assumption, by assumption, hx, hy⟩)
  have hcs3 := Cs_mono (Stm.reps_le hxq.le _) hcs2
  refine S_freezeR 5 J J (Nat.le_refl _) fun Gf hextf hncf hcmf hclf => ?_
  have hvf : Sts Gf _ _ := frz (Cs_mono (Stm.reps_le hextf.le _) hcs3) (by simp) (by omega) hncf hcmf hclf
  refine S_rdLe 1 (N + 3) (by omega) J J ?_;exact S_retm 1 (Res.t1 Tryz.results42 J J) J (hxq.trans hextf) ⟨J, _, hvf, Sh_set hsh (Stm.short_mk.2 hss)⟩
 refine S_condp J (fun h => ?_) (fun h => ?_) <;> refine Va J J ?_
 ·(refine S_sliceG Tk ZT_ok J J J J (by decide) (by decide) J J J J (fun _ => J) fun bq Gq hxq hcq => ?_)
  refine Va J J ?_;refine S_callM 1 Tryz.call64 (c_numL b [-1, 3, 2, 9223372036854775807] (Byts_le hxq.le hl) hcq J (Nat.le_refl _) (by decide) (by decide) (i64_small (by decide)) (by omega)) J J J J (fun _ => J) ?_;rintro v G' A' ⟨rfl, rfl, m1, hmem1, rfl⟩ _
  have hi1 : I64 m1 := i64_small (l := [-1, 3, 2, 9223372036854775807]) (by decide) m1 hmem1
  refine Va J J ?_;refine S_index Tk J J J J J J (by omega) (by omega) ?_;refine Va J J ?_;refine S_storeO Tk 5 (o := k * 6 + 1) J J J (by simp [add_lit', Nat.add_assoc]) J J J J J (by omega) J ?_;refine Va J J ?_
  have hcs2 := hset 1 (.int .i64 m1) (.mk q1 m1 q3 q4 q5 q6) (by omega) (Stm.rep_iff.2 ⟨_, _, rfl, by assumption, by assumption, by assumption, by assumption, hx, hy⟩)
  have hcs3 := Cs_mono (Stm.reps_le hxq.le _) hcs2
  refine S_freezeR 5 J J (Nat.le_refl _) fun Gf hextf hncf hcmf hclf => ?_
  have hvf : Sts Gf _ _ := frz (Cs_mono (Stm.reps_le hextf.le _) hcs3) (by simp) (by omega) hncf hcmf hclf
  refine S_rdLe 1 (N + 3) (by omega) J J ?_;exact S_retm 1 (Res.t1 Tryz.results42 J J) J (hxq.trans hextf) ⟨J, _, hvf, Sh_set hsh (Stm.short_mk.2 hss)⟩
 refine S_condp J (fun h => ?_) (fun h => ?_) <;> refine Va J J ?_
 ·(refine S_sliceG Tk ZT_ok J J J J (by decide) (by decide) J J J J (fun _ => J) fun bq Gq hxq hcq => ?_)
  refine Va J J ?_;refine S_callM 1 Tryz.call64 (c_numL b [-1, 3, 1] (Byts_le hxq.le hl) hcq J (Nat.le_refl _) (by decide) (by decide) (i64_small (by decide)) (by omega)) J J J J (fun _ => J) ?_;rintro v G' A' ⟨rfl, rfl, m1, hmem1, rfl⟩ _
  have hi1 : I64 m1 := i64_small (l := [-1, 3, 1]) (by decide) m1 hmem1
  refine Va J J ?_;refine S_index Tk J J J J J J (by omega) (by omega) ?_;refine Va J J ?_;refine S_storeO Tk 5 (o := k * 6 + 2) J J J (by simp [add_lit', Nat.add_assoc]) J J J J J (by omega) J ?_;refine Va J J ?_
  have hcs2 := hset 2 (.int .i64 m1) (.mk q1 q2 m1 q4 q5 q6) (by omega) (Stm.rep_iff.2 ⟨_, _, rfl, by assumption, by assumption, by assumption, by assumption, hx, hy⟩)
  have hcs3 := Cs_mono (Stm.reps_le hxq.le _) hcs2
  refine S_freezeR 5 J J (Nat.le_refl _) fun Gf hextf hncf hcmf hclf => ?_
  have hvf : Sts Gf _ _ := frz (Cs_mono (Stm.reps_le hextf.le _) hcs3) (by simp) (by omega) hncf hcmf hclf
  refine S_rdLe 1 (N + 3) (by omega) J J ?_;exact S_retm 1 (Res.t1 Tryz.results42 J J) J (hxq.trans hextf) ⟨J, _, hvf, Sh_set hsh (Stm.short_mk.2 hss)⟩
 refine S_condp J (fun h => ?_) (fun h => ?_) <;> refine Va J J ?_
 ·(refine S_sliceG Tk ZT_ok J J J J (by decide) (by decide) J J J J (fun _ => J) fun bq Gq hxq hcq => ?_)
  refine Va J J ?_;refine S_callM 1 Tryz.call64 (c_numL b [1000, 6, 1] (Byts_le hxq.le hl) hcq J (Nat.le_refl _) (by decide) (by decide) (i64_small (by decide)) (by omega)) J J J J (fun _ => J) ?_;rintro v G' A' ⟨rfl, rfl, m1, hmem1, rfl⟩ _
  have hi1 : I64 m1 := i64_small (l := [1000, 6, 1]) (by decide) m1 hmem1
  refine Va J J ?_;refine S_index Tk J J J J J J (by omega) (by omega) ?_;refine Va J J ?_;refine S_storeO Tk 5 (o := k * 6 + 3) J J J (by simp [add_lit', Nat.add_assoc]) J J J J J (by omega) J ?_;refine Va J J ?_
  have hcs2 := hset 3 (.int .i64 m1) (.mk q1 q2 q3 m1 q5 q6) (by omega) (Stm.rep_iff.2 ⟨_, _, rfl, by assumption, by assumption, by assumption, by assumption, hx, hy⟩)
  have hcs3 := Cs_mono (Stm.reps_le hxq.le _) hcs2
  refine S_freezeR 5 J J (Nat.le_refl _) fun Gf hextf hncf hcmf hclf => ?_
  have hvf : Sts Gf _ _ := frz (Cs_mono (Stm.reps_le hextf.le _) hcs3) (by simp) (by omega) hncf hcmf hclf
  refine S_rdLe 1 (N + 3) (by omega) J J ?_;exact S_retm 1 (Res.t1 Tryz.results42 J J) J (hxq.trans hextf) ⟨J, _, hvf, Sh_set hsh (Stm.short_mk.2 hss)⟩
 refine S_condp J (fun h => ?_) (fun h => ?_) <;> refine Va J J ?_
 ·refine S_sliceG Tk ZT_ok J J J J (by decide) (by decide) J J J J (fun _ => J) fun bq Gq hxq hcq => ?_
  refine Va J J ?_
  have hy1 : Sts Gq [.mk 11 0 0 0 [] []] (.slice (some ⟨bq, 0, none⟩) 1 1) := ⟨some ⟨bq, 0, none⟩, 1, rfl, by simp, by simp, by simp [maxLen], .inr ⟨_, rfl, ⟨_, hcq, Stm.rep_iff.2 ⟨_, _, rfl, ⟨by omega, by omega⟩, ⟨by omega, by omega⟩, ⟨by omega, by omega⟩, ⟨by omega, by omega⟩, Sr_nil rfl, Sr_nil rfl⟩⟩, trivial⟩⟩
  refine S_index Tk J J J J J J (by omega) (by omega) ?_;refine Va J J ?_;refine S_storeO Tk 5 (o := k * 6 + 5) J J J (by simp [add_lit', Nat.add_assoc]) J J J J J (by omega) J ?_;refine Va J J ?_
  have hcs2 := (Cs_at (Cs_mono (Stm.reps_le hxq.le _) hcs) hkl).choose_spec.2.2.2 5 (.slice (some ⟨bq, 0, none⟩) 1 1) (.mk q1 q2 q3 q4 q5 [.mk 11 0 0 0 [] []]) (by omega) (by
   rw [← (Cs_at (Cs_mono (Stm.reps_le hxq.le _) hcs) hkl).choose_spec.1, hcsd]
   exact Stm.rep_iff.2 ⟨_, _, J, i1, i2, i3, i4, Sts_le hxq.le hx, hy1⟩)
  refine S_freezeR 5 J J (Nat.le_refl _) fun Gf hextf hncf hcmf hclf => ?_
  have hvf : Sts Gf _ _ := frz (Cs_mono (Stm.reps_le hextf.le _) hcs2) (by simp) (by omega) hncf hcmf hclf
  refine S_rdLe 1 (N + 3) (by omega) J J ?_;exact S_retm 1 (Res.t1 Tryz.results42 J J) J (hxq.trans hextf) ⟨J, _, hvf, Sh_set hsh (Stm.short_mk.2 ⟨hss.1, by simp, Stm.short_mk.2 ⟨Sh_nil, Sh_nil⟩, trivial⟩)⟩
 refine S_condp J (fun h => ?_) (fun h => ?_) <;> refine Va J J ?_
 ·refine S_index Tk J J J J J J (by omega) (by omega) ?_
  refine Va J J ?_;refine S_valV J J J (V_loadRA Tk 5 J J (by simp [add_lit']) J hcsd J) ?_;refine Va J J ?_;refine S_sliceG Tk ZT_ok J J J J (by decide) (by decide) J J J J (fun _ => J) fun bq Gq hxq hcq => ?_;refine Va J J ?_
  have hy1 : Sts Gq [.mk q1 q2 q3 q4 q5 q6] (.slice (some ⟨bq, 0, none⟩) 1 1) := ⟨some ⟨bq, 0, none⟩, 1, rfl, by simp, by simp, by simp [maxLen], .inr ⟨_, rfl, ⟨_, hcq, Stm.rep_iff.2 ⟨_, _, rfl, i1, i2, i3, i4, Sts_le hxq.le hx, Sts_le hxq.le hy⟩⟩, trivial⟩⟩
  refine S_index Tk J J J J J J (by omega) (by omega) ?_;refine Va J J ?_;refine S_storeO Tk 5 (o := k * 6 + 4) J J J (by simp [add_lit', Nat.add_assoc]) J J J J J (by omega) J ?_;refine Va J J ?_
  have hcs2 := (Cs_at (Cs_mono (Stm.reps_le hxq.le _) hcs) hkl).choose_spec.2.2.2 4 (.slice (some ⟨bq, 0, none⟩) 1 1) (.mk q1 q2 q3 q4 [.mk q1 q2 q3 q4 q5 q6] q6) (by omega) (by
   rw [← (Cs_at (Cs_mono (Stm.reps_le hxq.le _) hcs) hkl).choose_spec.1, hcsd]
   exact Stm.rep_iff.2 ⟨_, _, J, i1, i2, i3, i4, hy1, Sts_le hxq.le hy⟩)
  refine S_freezeR 5 J J (Nat.le_refl _) fun Gf hextf hncf hcmf hclf => ?_
  have hvf : Sts Gf _ _ := frz (Cs_mono (Stm.reps_le hextf.le _) hcs2) (by simp) (by omega) hncf hcmf hclf
  refine S_rdLe 1 (N + 3) (by omega) J J ?_;exact S_retm 1 (Res.t1 Tryz.results42 J J) J (hxq.trans hextf) ⟨J, _, hvf, Sh_set hsh (Stm.short_mk.2 ⟨⟨by simp, Stm.short_mk.2 hss, trivial⟩, hss.2⟩)⟩
 refine S_condp J (fun h => ?_) (fun h => ?_) <;> refine Va J J ?_
 ·refine S_loop (α := Option Addr × Nat × List Value × List Stm) (fun y => Cs 6 (Stm.rep G2) y.2.2.2 y.2.2.1 ∧ Sh y.2.2.2) (fun y => 15 - y.2.2.2.length) []
   (fun y => [(5, .val (.slice y.1 y.2.2.2.length y.2.1))])
   (fun y => [.hp 5 (rowO w.heap.size 94 6 y.1 y.2.2.2.length y.2.1 y.2.2.1), .hp 1 (rdHP b (.slice A l.length c) (N + 1 + 1))]) (fun y => G2) (some ⟨g, off, none⟩, c4, xs, ls) ⟨hcs, hsh⟩ rfl ?_ ?_ ?_
  ·exact ⟨⟨_, J, J⟩, trivial⟩
  ·exact .hp (.hp .nil)
  rintro ⟨A5, c5, xs5, ls5⟩ ⟨hcs5, hsh5⟩
  simp only at hcs5 hsh5 ⊢
  have hlen5 := hsh5.1
  refine Va J J ?_
  refine S_condp J (fun h => ?_) (fun h => ?_) <;> refine Va J J ?_
  ·refine S_slice Tk ZT_ok J J J J (by decide) (by decide) J J J J fun b2 => ?_
   refine Va J J ?_
   refine S_app1 Tk 5 82 J J J J J J J J J J J J J J (by intro u hu; simp at hu; rcases hu with rfl | rfl | rfl | rfl | rfl | rfl <;> rfl) rfl (fun _ _ => rfl) (by omega) (Nat.le_refl _) fun A6 c6 => ?_
   refine Va J J ?_;refine S_again (A6, c6, _, ls5 ++ [.mk 11 0 0 0 [] []]) ⟨Cs_append hcs5 (Stm.rep_iff.2 ⟨_, _, J, ⟨by omega, by omega⟩, ⟨by omega, by omega⟩, ⟨by omega, by omega⟩, ⟨by omega, by omega⟩, Sr_nil J, Sr_nil J⟩) J, by simp only [List.length_append, List.length_singleton]; omega, shL_append.2 ⟨hsh5.2, Stm.short_mk.2 ⟨Sh_nil, Sh_nil⟩, trivial⟩⟩ (by simp; omega) rfl ⟨⟨_, rfl, by simp [denO]⟩, trivial⟩ ?_
   simp only [List.length_append, List.length_singleton]
   exact .drop (.hp (.hp .nil))
  ·refine S_freezeR 5 J J (Nat.le_refl _) fun Gf hextf hncf hcmf hclf => ?_
   have hvf : Sts Gf _ _ := frz (Cs_mono (Stm.reps_le hextf.le _) hcs5) rfl (by omega) hncf hcmf hclf
   refine S_rdLe 1 (N + 3) (by omega) J J ?_;exact S_retm 1 (Res.t1 Tryz.results42 J J) J hextf ⟨J, _, hvf, hsh5⟩
 ·refine S_freezeR 5 J J (Nat.le_refl _) fun Gf hextf hncf hcmf hclf => ?_
  have hvf : Sts Gf _ _ := frz (Cs_mono (Stm.reps_le hextf.le _) hcs) rfl (by omega) hncf hcmf hclf
  refine S_rdLe 1 (N + 3) (by omega) J J ?_;exact S_retm 1 (Res.t1 Tryz.results42 J J) J hextf ⟨J, _, hvf, hsh⟩
end
section
attribute [local irreducible] X Pure Mod
def okL (L : List Stm) : Prop := ∃ d r, listOk L d r = true
theorem okL_nil : okL [] := ⟨0, 0, rfl⟩
theorem stmtOk_parts {k a b n : Int} {x y : List Stm} {d r : Int} (h : stmtOk (.mk k a b n x y) d r = true) : okL x ∧ okL y ∧ (k = 3 → 0 ≤ b ∧ b < 3) ∧ (k = 4 → 0 ≤ a ∧ a < 3) ∧ (k = 9 ∨ k = 10 → 0 ≤ a ∧ a < 2) := by
 simp only [stmtOk] at h
 split at h
 ·cases h
 rename_i h0
 simp only [Bool.or_eq_true, Bool.and_eq_true, decide_eq_true_eq, not_or, not_and] at h0
 have hy : k ≠ 6 → y = [] := fun hk => List.eq_nil_of_length_eq_zero (by have := h0.1 hk; omega)
 split at h
 ·rename_i hk
  simp only [Bool.and_eq_true] at h
  refine ⟨⟨_, _, h.1.2⟩, ⟨_, _, h.2⟩, ?_, ?_, ?_⟩ <;> intro h3 <;> omega
 split at h
 ·rename_i hk
  simp only [Bool.and_eq_true] at h
  refine ⟨⟨_, _, h.2⟩, by rw [hy (by omega)]; exact okL_nil, ?_, ?_, ?_⟩ <;> intro h3 <;> omega
 ·simp only [Bool.and_eq_true, decide_eq_true_eq] at h
  obtain ⟨hx, hl⟩ := h
  rw [List.eq_nil_of_length_eq_zero hx, hy (by omega)]
  refine ⟨okL_nil, okL_nil, ?_, ?_, ?_⟩
  ·rintro rfl
   simp [leafOk] at hl
   omega
  ·rintro rfl
   simp [leafOk] at hl
   omega
  ·rintro (rfl | rfl) <;> (simp [leafOk] at hl; omega)
theorem newp_right {G G1 G2 : PH} (h : G1.le G2) : (newp G G1).le (newp G G2) := by
 intro b o hb
 unfold newp at hb ⊢
 split at hb
 ·cases hb
 ·exact h b o hb
theorem frzL {α : Type} {G G' Gx : PH} {sz : Nat} {rep : α → List Value → Prop} {L : List α} {A : Option Addr} {n c : Nat} {xs : List Value} (hle : (newp G G').le Gx) (hcs : Cs sz rep L xs) (hn : n = L.length) (hb : n ≤ 1000000000) (hnc : n ≤ c) (hcm : c ≤ maxLen) (hcl : n = 0 ∨ ∃ a, A = some a ∧ gcells (newp G G') a xs) : Sr Gx sz rep L (.slice A n c) := by
 subst hn
 refine Sx_Sr ⟨A, c, J, hb, hnc, hcm, Cs_length hcs, ?_⟩ J hcs
 rcases hcl with hcl | ⟨a, h1, h2⟩
 ·exact .inl hcl
 ·exact .inr ⟨a, h1, gcells_le hle h2⟩
def Tm (ow : List Int) (L : List Stm) : Prop := ∀ (room deep : Int) (v ov : Value) (G : PH), Sts G L v → Ints G ow ov → ow.length = 5 → 0 ≤ deep → deep ≤ 1000 → Sh L → okL L → Pure Tryz.prog 65 [v, ov, .int .i64 room, .int .i64 deep] G fun v' G' => bentV v' (newp G G')
theorem c_l6Tame_of (ow : List Int) (L : List Stm) (h0 : L ≠ [] → Tm ow []) (hb : ∀ k (hk : k < L.length), Tm ow L[k].body ∧ Tm ow L[k].els) : Tm ow L := by
 intro room deep v ov G hst how hol hd0 hd1 hsh hok
 obtain ⟨A, c, rfl, hl1, _⟩ := id hst
 obtain ⟨Ao, co, rfl, _⟩ := id how
 have hlen := hsh.1
 refine Pure.intro Tryz.func65 Tryz.ntmps65 J J fun w => ?_; refine Va J J ?_;refine S_emptyO Tk 5 J J J J fun A0 => ?_;refine Va J J ?_;refine S_loop (α := Nat × Option Addr × Nat × List Value × List Stm × PH) (fun y => y.2.2.2.2.1.length = y.1 ∧ y.1 ≤ L.length ∧ PH.ext w.heap.size G y.2.2.2.2.2 ∧ Cs 6 (Stm.rep (newp G y.2.2.2.2.2)) y.2.2.2.2.1 y.2.2.2.1 ∧ shL y.2.2.2.2.1) (fun y => L.length - y.1) []
  (fun y => [(10, .val (.int .i64 (y.1 : Nat))), (9, .val (.slice y.2.1 y.2.2.2.2.1.length y.2.2.1)), (0, .val (.slice A L.length c)), (1, .val (.slice Ao ow.length co)), (2, .val (.int .i64 room)), (3, .val (.int .i64 deep))])
  (fun y => [.hp 5 (rowO w.heap.size 94 6 y.2.1 y.2.2.2.2.1.length y.2.2.1 y.2.2.2.1)]) (fun y => y.2.2.2.2.2) (0, A0, 0, [], [], G) ⟨rfl, Nat.zero_le _, PH.ext.refl _ _, rfl, trivial⟩ rfl ?_ ?_ ?_
 ·exact ⟨⟨_, J, J⟩, ⟨_, J, J⟩, ⟨_, J, J⟩, ⟨_, J, J⟩, ⟨_, J, J⟩, ⟨_, J, J⟩, trivial⟩
 ·exact .hp .nil
 rintro ⟨i, A5, c5, xs5, ls5, G2⟩ ⟨hi, hil, hext, hcs5, hsh5⟩
 simp only at hi hil hext hcs5 hsh5 ⊢
 refine Va J J ?_
 refine S_cond J (fun h => ?_) (fun h => ?_) <;> refine Va J J ?_
 ·simp only [Bool.and_eq_true, decide_eq_true_eq] at h
  have hkl : i < L.length := by omega
  obtain ⟨ad, cs, rfl, hcs, hrep⟩ := Sr_at (Sts_le hext.le hst) hkl
  obtain ⟨hbx, hby⟩ := hb i hkl
  have hshk := shL_iff.1 hsh.2 _ (List.getElem_mem hkl)
  obtain ⟨dd, rr, hokL⟩ := hok
  have hokk : stmtOk L[i] dd rr = true := by
   rw [listOk_all, List.all_eq_true] at hokL
   exact hokL _ (List.getElem_mem hkl)
  have h00 := h0 (by rintro rfl; simp at hkl)
  generalize hs : L[i] = s at hrep hbx hby hshk hokk
  obtain ⟨q1, q2, q3, q4, q5, q6⟩ := s
  rw [Stm.short_mk] at hshk
  obtain ⟨vx, vy, rfl, i1, i2, i3, i4, hx, hy⟩ := Stm.rep_iff.1 hrep
  obtain ⟨ox, oy, hp3, hp4, hp9⟩ := stmtOk_parts hokk
  simp only [Stm.body, Stm.els] at hbx hby
  obtain ⟨Ax, cx, rfl, _⟩ := id hx
  obtain ⟨Ay, cy, rfl, _⟩ := id hy
  refine S_index Tk J J J J J J (by omega) (by omega) ?_;refine Va J J ?_;refine S_loadA Tk J J J J J (by simpa using hcs) ?_;refine Va J J ?_;refine AZ ZT_ok J J J J fun b11 => ?_;refine Va J J ?_
  by_cases e8 : q1 = 8
  ·subst e8
   repeat' (first
    | (refine GT J J J ?_; refine Va J J ?_)
    | (refine GF J J J ?_; refine Va J J ?_)
    | (refine RT J J ?_; refine Va J J ?_)
    | (refine RF J J ?_; refine Va J J ?_)
    | (refine RF J (decide_eq_false e8) ?_; refine Va J J ?_)
    | (refine GF J J (decide_eq_false e8) ?_; refine Va J J ?_)
    | (refine RF J (decide_eq_false e3) ?_; refine Va J J ?_)
    | (refine GF J J (decide_eq_false e3) ?_; refine Va J J ?_)
    | (refine RF J (decide_eq_false e4) ?_; refine Va J J ?_)
    | (refine GF J J (decide_eq_false e4) ?_; refine Va J J ?_)
    | (refine RF J (decide_eq_false e9) ?_; refine Va J J ?_)
    | (refine GF J J (decide_eq_false e9) ?_; refine Va J J ?_)
    | (refine RF J (decide_eq_false e10) ?_; refine Va J J ?_)
    | (refine GF J J (decide_eq_false e10) ?_; refine Va J J ?_)
    | fail)
   refine S_subI J J J J (by omega) ?_;refine Va J J ?_;refine S_call Tryz.call65 (hbx _ _ _ _ _ hx (Ints_le hext.le how) hol (by omega) (by omega) hshk.1 ox) J J J ?_;rintro v3 G3 ⟨X3, hv3, hs3⟩ hext3
   obtain ⟨A31, c31, rfl, _⟩ := id hv3
   refine Va J J ?_;refine S_subI J J J J (by omega) ?_;refine Va J J ?_;refine S_call Tryz.call65 (hby _ _ _ _ _ (Sts_le hext3.le hy) (Ints_le (hext.trans hext3).le how) hol (by omega) (by omega) hshk.2 oy) J J J ?_;rintro v4 G4 ⟨X4, hv4, hs4⟩ hext4
   obtain ⟨A41, c41, rfl, _⟩ := id hv4
   refine Va J J ?_;refine S_slice Tk ZT_ok J J J J (by decide) (by decide) J J J J fun b2 => ?_;refine Va J J ?_
   refine S_app1 Tk 5 103 J J J J J J J J J J J J J J (by intro u hu; simp at hu; rcases hu with rfl | rfl | rfl | rfl | rfl | rfl <;> rfl) rfl (fun _ _ => rfl) (by omega) (Nat.le_refl _) fun A6 c6 => ?_
   refine Va J J ?_;refine S_add J J J J (by omega) ?_;refine Va J J ?_;refine S_again (i + 1, A6, c6, _, ls5 ++ [.mk 8 q2 q3 q4 X3 X4], G4) ⟨by simp; omega, by simp only; omega, (hext.trans hext3).trans hext4, Cs_append (Cs_mono (Stm.reps_le (newp_right (hext3.trans hext4).le) _) hcs5) (Stm.rep_iff.2 ⟨_, _, rfl, by first | assumption | exact ⟨by omega, by omega⟩, by first | assumption | exact ⟨by omega, by omega⟩, by first | assumption | exact ⟨by omega, by omega⟩, by first | assumption | exact ⟨by omega, by omega⟩, Sts_le (PH.le.trans (newp_mono hext.le hext3.le) (newp_right hext4.le)) hv3, Sts_le (newp_mono (hext.trans hext3).le hext4.le) hv4⟩) rfl, shL_append.2 ⟨hsh5, Stm.short_mk.2 ⟨hs3, hs4⟩, trivial⟩⟩ (by simp only; omega) rfl ⟨⟨_, rfl, by simp [denO]⟩, ⟨_, rfl, by simp [denO]⟩, ⟨_, rfl, rfl⟩, ⟨_, rfl, rfl⟩, ⟨_, rfl, rfl⟩, ⟨_, rfl, rfl⟩, trivial⟩ ?_
   simp only [List.length_append, List.length_singleton]
   first
    | exact .drop (.hp .nil)
    | exact .drop (.drop (.hp .nil))
  by_cases e3 : q1 = 3
  ·subst e3
   repeat' (first
    | (refine GT J J J ?_; refine Va J J ?_)
    | (refine GF J J J ?_; refine Va J J ?_)
    | (refine RT J J ?_; refine Va J J ?_)
    | (refine RF J J ?_; refine Va J J ?_)
    | (refine RF J (decide_eq_false e8) ?_; refine Va J J ?_)
    | (refine GF J J (decide_eq_false e8) ?_; refine Va J J ?_)
    | (refine RF J (decide_eq_false e3) ?_; refine Va J J ?_)
    | (refine GF J J (decide_eq_false e3) ?_; refine Va J J ?_)
    | (refine RF J (decide_eq_false e4) ?_; refine Va J J ?_)
    | (refine GF J J (decide_eq_false e4) ?_; refine Va J J ?_)
    | (refine RF J (decide_eq_false e9) ?_; refine Va J J ?_)
    | (refine GF J J (decide_eq_false e9) ?_; refine Va J J ?_)
    | (refine RF J (decide_eq_false e10) ?_; refine Va J J ?_)
    | (refine GF J J (decide_eq_false e10) ?_; refine Va J J ?_)
    | fail)
   obtain ⟨ado, cso, eo, hcso, ⟨rfl, hio⟩⟩ := Sr_at (Ints_le hext.le how) (k := (q3).toNat) (by omega)
   cases eo
   refine S_index Tk J J J J J J (by omega) (by omega) ?_;refine Va J J ?_;refine S_load Tk J J J J J hcso.1 ?_;refine Va J J ?_
   refine S_cond J (fun h9 => ?_) (fun h9 => ?_) <;> refine Va J J ?_
   ·repeat' (first
     | (refine GT J J J ?_; refine Va J J ?_)
     | (refine GF J J J ?_; refine Va J J ?_)
     | (refine RT J J ?_; refine Va J J ?_)
     | (refine RF J J ?_; refine Va J J ?_)
     | (refine RF J (decide_eq_false e8) ?_; refine Va J J ?_)
     | (refine GF J J (decide_eq_false e8) ?_; refine Va J J ?_)
     | (refine RF J (decide_eq_false e3) ?_; refine Va J J ?_)
     | (refine GF J J (decide_eq_false e3) ?_; refine Va J J ?_)
     | (refine RF J (decide_eq_false e4) ?_; refine Va J J ?_)
     | (refine GF J J (decide_eq_false e4) ?_; refine Va J J ?_)
     | (refine RF J (decide_eq_false e9) ?_; refine Va J J ?_)
     | (refine GF J J (decide_eq_false e9) ?_; refine Va J J ?_)
     | (refine RF J (decide_eq_false e10) ?_; refine Va J J ?_)
     | (refine GF J J (decide_eq_false e10) ?_; refine Va J J ?_)
     | fail)
    refine S_subI J J J J (by omega) ?_;refine Va J J ?_;refine S_call Tryz.call65 (h00 _ _ _ _ _ (Sr_nil J) (Ints_le hext.le how) hol (by omega) (by omega) Sh_nil okL_nil) J J J ?_;rintro v3 G3 ⟨X3, hv3, hs3⟩ hext3
    obtain ⟨A31, c31, rfl, _⟩ := id hv3
    refine Va J J ?_;refine S_subI J J J J (by omega) ?_;refine Va J J ?_;refine S_call Tryz.call65 (h00 _ _ _ _ _ (Sts_le hext3.le (Sr_nil J)) (Ints_le (hext.trans hext3).le how) hol (by omega) (by omega) Sh_nil okL_nil) J J J ?_;rintro v4 G4 ⟨X4, hv4, hs4⟩ hext4
    obtain ⟨A41, c41, rfl, _⟩ := id hv4
    refine Va J J ?_;refine S_slice Tk ZT_ok J J J J (by decide) (by decide) J J J J fun b2 => ?_;refine Va J J ?_
    refine S_app1 Tk 5 103 J J J J J J J J J J J J J J (by intro u hu; simp at hu; rcases hu with rfl | rfl | rfl | rfl | rfl | rfl <;> rfl) rfl (fun _ _ => rfl) (by omega) (Nat.le_refl _) fun A6 c6 => ?_
    refine Va J J ?_;refine S_add J J J J (by omega) ?_;refine Va J J ?_;refine S_again (i + 1, A6, c6, _, ls5 ++ [.mk 1 q2 0 q3 X3 X4], G4) ⟨by simp; omega, by simp only; omega, (hext.trans hext3).trans hext4, Cs_append (Cs_mono (Stm.reps_le (newp_right (hext3.trans hext4).le) _) hcs5) (Stm.rep_iff.2 ⟨_, _, rfl, by first | assumption | exact ⟨by omega, by omega⟩, by first | assumption | exact ⟨by omega, by omega⟩, by first | assumption | exact ⟨by omega, by omega⟩, by first | assumption | exact ⟨by omega, by omega⟩, Sts_le (PH.le.trans (newp_mono hext.le hext3.le) (newp_right hext4.le)) hv3, Sts_le (newp_mono (hext.trans hext3).le hext4.le) hv4⟩) rfl, shL_append.2 ⟨hsh5, Stm.short_mk.2 ⟨hs3, hs4⟩, trivial⟩⟩ (by simp only; omega) rfl ⟨⟨_, rfl, by simp [denO]⟩, ⟨_, rfl, by simp [denO]⟩, ⟨_, rfl, rfl⟩, ⟨_, rfl, rfl⟩, ⟨_, rfl, rfl⟩, ⟨_, rfl, rfl⟩, trivial⟩ ?_
    simp only [List.length_append, List.length_singleton]
    first
     | exact .drop (.hp .nil)
     | exact .drop (.drop (.hp .nil))
   ·repeat' (first
     | (refine GT J J J ?_; refine Va J J ?_)
     | (refine GF J J J ?_; refine Va J J ?_)
     | (refine RT J J ?_; refine Va J J ?_)
     | (refine RF J J ?_; refine Va J J ?_)
     | (refine RF J (decide_eq_false e8) ?_; refine Va J J ?_)
     | (refine GF J J (decide_eq_false e8) ?_; refine Va J J ?_)
     | (refine RF J (decide_eq_false e3) ?_; refine Va J J ?_)
     | (refine GF J J (decide_eq_false e3) ?_; refine Va J J ?_)
     | (refine RF J (decide_eq_false e4) ?_; refine Va J J ?_)
     | (refine GF J J (decide_eq_false e4) ?_; refine Va J J ?_)
     | (refine RF J (decide_eq_false e9) ?_; refine Va J J ?_)
     | (refine GF J J (decide_eq_false e9) ?_; refine Va J J ?_)
     | (refine RF J (decide_eq_false e10) ?_; refine Va J J ?_)
     | (refine GF J J (decide_eq_false e10) ?_; refine Va J J ?_)
     | fail)
    refine S_subI J J J J (by omega) ?_;refine Va J J ?_;refine S_call Tryz.call65 (hbx _ _ _ _ _ hx (Ints_le hext.le how) hol (by omega) (by omega) hshk.1 ox) J J J ?_;rintro v3 G3 ⟨X3, hv3, hs3⟩ hext3
    obtain ⟨A31, c31, rfl, _⟩ := id hv3
    refine Va J J ?_;refine S_subI J J J J (by omega) ?_;refine Va J J ?_;refine S_call Tryz.call65 (hby _ _ _ _ _ (Sts_le hext3.le hy) (Ints_le (hext.trans hext3).le how) hol (by omega) (by omega) hshk.2 oy) J J J ?_;rintro v4 G4 ⟨X4, hv4, hs4⟩ hext4
    obtain ⟨A41, c41, rfl, _⟩ := id hv4
    refine Va J J ?_;refine S_slice Tk ZT_ok J J J J (by decide) (by decide) J J J J fun b2 => ?_;refine Va J J ?_
    refine S_app1 Tk 5 103 J J J J J J J J J J J J J J (by intro u hu; simp at hu; rcases hu with rfl | rfl | rfl | rfl | rfl | rfl <;> rfl) rfl (fun _ _ => rfl) (by omega) (Nat.le_refl _) fun A6 c6 => ?_
    refine Va J J ?_;refine S_add J J J J (by omega) ?_;refine Va J J ?_;refine S_again (i + 1, A6, c6, _, ls5 ++ [.mk 3 q2 q3 q4 X3 X4], G4) ⟨by simp; omega, by simp only; omega, (hext.trans hext3).trans hext4, Cs_append (Cs_mono (Stm.reps_le (newp_right (hext3.trans hext4).le) _) hcs5) (Stm.rep_iff.2 ⟨_, _, rfl, by first | assumption | exact ⟨by omega, by omega⟩, by first | assumption | exact ⟨by omega, by omega⟩, by first | assumption | exact ⟨by omega, by omega⟩, by first | assumption | exact ⟨by omega, by omega⟩, Sts_le (PH.le.trans (newp_mono hext.le hext3.le) (newp_right hext4.le)) hv3, Sts_le (newp_mono (hext.trans hext3).le hext4.le) hv4⟩) rfl, shL_append.2 ⟨hsh5, Stm.short_mk.2 ⟨hs3, hs4⟩, trivial⟩⟩ (by simp only; omega) rfl ⟨⟨_, rfl, by simp [denO]⟩, ⟨_, rfl, by simp [denO]⟩, ⟨_, rfl, rfl⟩, ⟨_, rfl, rfl⟩, ⟨_, rfl, rfl⟩, ⟨_, rfl, rfl⟩, trivial⟩ ?_
    simp only [List.length_append, List.length_singleton]
    first
     | exact .drop (.hp .nil)
     | exact .drop (.drop (.hp .nil))
  by_cases e4 : q1 = 4
  ·subst e4
   repeat' (first
    | (refine GT J J J ?_; refine Va J J ?_)
    | (refine GF J J J ?_; refine Va J J ?_)
    | (refine RT J J ?_; refine Va J J ?_)
    | (refine RF J J ?_; refine Va J J ?_)
    | (refine RF J (decide_eq_false e8) ?_; refine Va J J ?_)
    | (refine GF J J (decide_eq_false e8) ?_; refine Va J J ?_)
    | (refine RF J (decide_eq_false e3) ?_; refine Va J J ?_)
    | (refine GF J J (decide_eq_false e3) ?_; refine Va J J ?_)
    | (refine RF J (decide_eq_false e4) ?_; refine Va J J ?_)
    | (refine GF J J (decide_eq_false e4) ?_; refine Va J J ?_)
    | (refine RF J (decide_eq_false e9) ?_; refine Va J J ?_)
    | (refine GF J J (decide_eq_false e9) ?_; refine Va J J ?_)
    | (refine RF J (decide_eq_false e10) ?_; refine Va J J ?_)
    | (refine GF J J (decide_eq_false e10) ?_; refine Va J J ?_)
    | fail)
   obtain ⟨ado, cso, eo, hcso, ⟨rfl, hio⟩⟩ := Sr_at (Ints_le hext.le how) (k := (q2).toNat) (by omega)
   cases eo
   refine S_index Tk J J J J J J (by omega) (by omega) ?_;refine Va J J ?_;refine S_load Tk J J J J J hcso.1 ?_;refine Va J J ?_
   refine S_cond J (fun h9 => ?_) (fun h9 => ?_) <;> refine Va J J ?_
   ·repeat' (first
     | (refine GT J J J ?_; refine Va J J ?_)
     | (refine GF J J J ?_; refine Va J J ?_)
     | (refine RT J J ?_; refine Va J J ?_)
     | (refine RF J J ?_; refine Va J J ?_)
     | (refine RF J (decide_eq_false e8) ?_; refine Va J J ?_)
     | (refine GF J J (decide_eq_false e8) ?_; refine Va J J ?_)
     | (refine RF J (decide_eq_false e3) ?_; refine Va J J ?_)
     | (refine GF J J (decide_eq_false e3) ?_; refine Va J J ?_)
     | (refine RF J (decide_eq_false e4) ?_; refine Va J J ?_)
     | (refine GF J J (decide_eq_false e4) ?_; refine Va J J ?_)
     | (refine RF J (decide_eq_false e9) ?_; refine Va J J ?_)
     | (refine GF J J (decide_eq_false e9) ?_; refine Va J J ?_)
     | (refine RF J (decide_eq_false e10) ?_; refine Va J J ?_)
     | (refine GF J J (decide_eq_false e10) ?_; refine Va J J ?_)
     | fail)
    refine S_subI J J J J (by omega) ?_;refine Va J J ?_;refine S_call Tryz.call65 (h00 _ _ _ _ _ (Sr_nil J) (Ints_le hext.le how) hol (by omega) (by omega) Sh_nil okL_nil) J J J ?_;rintro v3 G3 ⟨X3, hv3, hs3⟩ hext3
    obtain ⟨A31, c31, rfl, _⟩ := id hv3
    refine Va J J ?_;refine S_subI J J J J (by omega) ?_;refine Va J J ?_;refine S_call Tryz.call65 (h00 _ _ _ _ _ (Sts_le hext3.le (Sr_nil J)) (Ints_le (hext.trans hext3).le how) hol (by omega) (by omega) Sh_nil okL_nil) J J J ?_;rintro v4 G4 ⟨X4, hv4, hs4⟩ hext4
    obtain ⟨A41, c41, rfl, _⟩ := id hv4
    refine Va J J ?_;refine S_slice Tk ZT_ok J J J J (by decide) (by decide) J J J J fun b2 => ?_;refine Va J J ?_
    refine S_app1 Tk 5 103 J J J J J J J J J J J J J J (by intro u hu; simp at hu; rcases hu with rfl | rfl | rfl | rfl | rfl | rfl <;> rfl) rfl (fun _ _ => rfl) (by omega) (Nat.le_refl _) fun A6 c6 => ?_
    refine Va J J ?_;refine S_add J J J J (by omega) ?_;refine Va J J ?_;refine S_again (i + 1, A6, c6, _, ls5 ++ [.mk 5 q3 0 0 X3 X4], G4) ⟨by simp; omega, by simp only; omega, (hext.trans hext3).trans hext4, Cs_append (Cs_mono (Stm.reps_le (newp_right (hext3.trans hext4).le) _) hcs5) (Stm.rep_iff.2 ⟨_, _, rfl, by first | assumption | exact ⟨by omega, by omega⟩, by first | assumption | exact ⟨by omega, by omega⟩, by first | assumption | exact ⟨by omega, by omega⟩, by first | assumption | exact ⟨by omega, by omega⟩, Sts_le (PH.le.trans (newp_mono hext.le hext3.le) (newp_right hext4.le)) hv3, Sts_le (newp_mono (hext.trans hext3).le hext4.le) hv4⟩) rfl, shL_append.2 ⟨hsh5, Stm.short_mk.2 ⟨hs3, hs4⟩, trivial⟩⟩ (by simp only; omega) rfl ⟨⟨_, rfl, by simp [denO]⟩, ⟨_, rfl, by simp [denO]⟩, ⟨_, rfl, rfl⟩, ⟨_, rfl, rfl⟩, ⟨_, rfl, rfl⟩, ⟨_, rfl, rfl⟩, trivial⟩ ?_
    simp only [List.length_append, List.length_singleton]
    first
     | exact .drop (.hp .nil)
     | exact .drop (.drop (.hp .nil))
   ·repeat' (first
     | (refine GT J J J ?_; refine Va J J ?_)
     | (refine GF J J J ?_; refine Va J J ?_)
     | (refine RT J J ?_; refine Va J J ?_)
     | (refine RF J J ?_; refine Va J J ?_)
     | (refine RF J (decide_eq_false e8) ?_; refine Va J J ?_)
     | (refine GF J J (decide_eq_false e8) ?_; refine Va J J ?_)
     | (refine RF J (decide_eq_false e3) ?_; refine Va J J ?_)
     | (refine GF J J (decide_eq_false e3) ?_; refine Va J J ?_)
     | (refine RF J (decide_eq_false e4) ?_; refine Va J J ?_)
     | (refine GF J J (decide_eq_false e4) ?_; refine Va J J ?_)
     | (refine RF J (decide_eq_false e9) ?_; refine Va J J ?_)
     | (refine GF J J (decide_eq_false e9) ?_; refine Va J J ?_)
     | (refine RF J (decide_eq_false e10) ?_; refine Va J J ?_)
     | (refine GF J J (decide_eq_false e10) ?_; refine Va J J ?_)
     | fail)
    refine S_subI J J J J (by omega) ?_;refine Va J J ?_;refine S_call Tryz.call65 (hbx _ _ _ _ _ hx (Ints_le hext.le how) hol (by omega) (by omega) hshk.1 ox) J J J ?_;rintro v3 G3 ⟨X3, hv3, hs3⟩ hext3
    obtain ⟨A31, c31, rfl, _⟩ := id hv3
    refine Va J J ?_;refine S_subI J J J J (by omega) ?_;refine Va J J ?_;refine S_call Tryz.call65 (hby _ _ _ _ _ (Sts_le hext3.le hy) (Ints_le (hext.trans hext3).le how) hol (by omega) (by omega) hshk.2 oy) J J J ?_;rintro v4 G4 ⟨X4, hv4, hs4⟩ hext4
    obtain ⟨A41, c41, rfl, _⟩ := id hv4
    refine Va J J ?_;refine S_slice Tk ZT_ok J J J J (by decide) (by decide) J J J J fun b2 => ?_;refine Va J J ?_
    refine S_app1 Tk 5 103 J J J J J J J J J J J J J J (by intro u hu; simp at hu; rcases hu with rfl | rfl | rfl | rfl | rfl | rfl <;> rfl) rfl (fun _ _ => rfl) (by omega) (Nat.le_refl _) fun A6 c6 => ?_
    refine Va J J ?_;refine S_add J J J J (by omega) ?_;refine Va J J ?_;refine S_again (i + 1, A6, c6, _, ls5 ++ [.mk 4 q2 q3 q4 X3 X4], G4) ⟨by simp; omega, by simp only; omega, (hext.trans hext3).trans hext4, Cs_append (Cs_mono (Stm.reps_le (newp_right (hext3.trans hext4).le) _) hcs5) (Stm.rep_iff.2 ⟨_, _, rfl, by first | assumption | exact ⟨by omega, by omega⟩, by first | assumption | exact ⟨by omega, by omega⟩, by first | assumption | exact ⟨by omega, by omega⟩, by first | assumption | exact ⟨by omega, by omega⟩, Sts_le (PH.le.trans (newp_mono hext.le hext3.le) (newp_right hext4.le)) hv3, Sts_le (newp_mono (hext.trans hext3).le hext4.le) hv4⟩) rfl, shL_append.2 ⟨hsh5, Stm.short_mk.2 ⟨hs3, hs4⟩, trivial⟩⟩ (by simp only; omega) rfl ⟨⟨_, rfl, by simp [denO]⟩, ⟨_, rfl, by simp [denO]⟩, ⟨_, rfl, rfl⟩, ⟨_, rfl, rfl⟩, ⟨_, rfl, rfl⟩, ⟨_, rfl, rfl⟩, trivial⟩ ?_
    simp only [List.length_append, List.length_singleton]
    first
     | exact .drop (.hp .nil)
     | exact .drop (.drop (.hp .nil))
  by_cases e9 : q1 = 9
  ·subst e9
   repeat' (first
    | (refine GT J J J ?_; refine Va J J ?_)
    | (refine GF J J J ?_; refine Va J J ?_)
    | (refine RT J J ?_; refine Va J J ?_)
    | (refine RF J J ?_; refine Va J J ?_)
    | (refine RF J (decide_eq_false e8) ?_; refine Va J J ?_)
    | (refine GF J J (decide_eq_false e8) ?_; refine Va J J ?_)
    | (refine RF J (decide_eq_false e3) ?_; refine Va J J ?_)
    | (refine GF J J (decide_eq_false e3) ?_; refine Va J J ?_)
    | (refine RF J (decide_eq_false e4) ?_; refine Va J J ?_)
    | (refine GF J J (decide_eq_false e4) ?_; refine Va J J ?_)
    | (refine RF J (decide_eq_false e9) ?_; refine Va J J ?_)
    | (refine GF J J (decide_eq_false e9) ?_; refine Va J J ?_)
    | (refine RF J (decide_eq_false e10) ?_; refine Va J J ?_)
    | (refine GF J J (decide_eq_false e10) ?_; refine Va J J ?_)
    | fail)
   refine S_add J J J J (by omega) ?_;refine Va J J ?_;obtain ⟨ado, cso, eo, hcso, ⟨rfl, hio⟩⟩ := Sr_at (Ints_le hext.le how) (k := (3 + q2).toNat) (by omega)
   cases eo
   refine S_index Tk J J J J J J (by omega) (by omega) ?_;refine Va J J ?_;refine S_load Tk J J J J J hcso.1 ?_;refine Va J J ?_
   refine S_cond J (fun h9 => ?_) (fun h9 => ?_) <;> refine Va J J ?_
   ·refine S_subI J J J J (by omega) ?_
    refine Va J J ?_;refine S_call Tryz.call65 (h00 _ _ _ _ _ (Sr_nil J) (Ints_le hext.le how) hol (by omega) (by omega) Sh_nil okL_nil) J J J ?_;rintro v3 G3 ⟨X3, hv3, hs3⟩ hext3
    obtain ⟨A31, c31, rfl, _⟩ := id hv3
    refine Va J J ?_;refine S_subI J J J J (by omega) ?_;refine Va J J ?_;refine S_call Tryz.call65 (h00 _ _ _ _ _ (Sts_le hext3.le (Sr_nil J)) (Ints_le (hext.trans hext3).le how) hol (by omega) (by omega) Sh_nil okL_nil) J J J ?_;rintro v4 G4 ⟨X4, hv4, hs4⟩ hext4
    obtain ⟨A41, c41, rfl, _⟩ := id hv4
    refine Va J J ?_;refine S_slice Tk ZT_ok J J J J (by decide) (by decide) J J J J fun b2 => ?_;refine Va J J ?_
    refine S_app1 Tk 5 103 J J J J J J J J J J J J J J (by intro u hu; simp at hu; rcases hu with rfl | rfl | rfl | rfl | rfl | rfl <;> rfl) rfl (fun _ _ => rfl) (by omega) (Nat.le_refl _) fun A6 c6 => ?_
    refine Va J J ?_;refine S_add J J J J (by omega) ?_;refine Va J J ?_;refine S_again (i + 1, A6, c6, _, ls5 ++ [.mk 11 0 0 0 X3 X4], G4) ⟨by simp; omega, by simp only; omega, (hext.trans hext3).trans hext4, Cs_append (Cs_mono (Stm.reps_le (newp_right (hext3.trans hext4).le) _) hcs5) (Stm.rep_iff.2 ⟨_, _, rfl, by first | assumption | exact ⟨by omega, by omega⟩, by first | assumption | exact ⟨by omega, by omega⟩, by first | assumption | exact ⟨by omega, by omega⟩, by first | assumption | exact ⟨by omega, by omega⟩, Sts_le (PH.le.trans (newp_mono hext.le hext3.le) (newp_right hext4.le)) hv3, Sts_le (newp_mono (hext.trans hext3).le hext4.le) hv4⟩) rfl, shL_append.2 ⟨hsh5, Stm.short_mk.2 ⟨hs3, hs4⟩, trivial⟩⟩ (by simp only; omega) rfl ⟨⟨_, rfl, by simp [denO]⟩, ⟨_, rfl, by simp [denO]⟩, ⟨_, rfl, rfl⟩, ⟨_, rfl, rfl⟩, ⟨_, rfl, rfl⟩, ⟨_, rfl, rfl⟩, trivial⟩ ?_
    simp only [List.length_append, List.length_singleton]
    first
     | exact .drop (.hp .nil)
     | exact .drop (.drop (.hp .nil))
   ·refine S_subI J J J J (by omega) ?_
    refine Va J J ?_;refine S_call Tryz.call65 (hbx _ _ _ _ _ hx (Ints_le hext.le how) hol (by omega) (by omega) hshk.1 ox) J J J ?_;rintro v3 G3 ⟨X3, hv3, hs3⟩ hext3
    obtain ⟨A31, c31, rfl, _⟩ := id hv3
    refine Va J J ?_;refine S_subI J J J J (by omega) ?_;refine Va J J ?_;refine S_call Tryz.call65 (hby _ _ _ _ _ (Sts_le hext3.le hy) (Ints_le (hext.trans hext3).le how) hol (by omega) (by omega) hshk.2 oy) J J J ?_;rintro v4 G4 ⟨X4, hv4, hs4⟩ hext4
    obtain ⟨A41, c41, rfl, _⟩ := id hv4
    refine Va J J ?_;refine S_slice Tk ZT_ok J J J J (by decide) (by decide) J J J J fun b2 => ?_;refine Va J J ?_
    refine S_app1 Tk 5 103 J J J J J J J J J J J J J J (by intro u hu; simp at hu; rcases hu with rfl | rfl | rfl | rfl | rfl | rfl <;> rfl) rfl (fun _ _ => rfl) (by omega) (Nat.le_refl _) fun A6 c6 => ?_
    refine Va J J ?_;refine S_add J J J J (by omega) ?_;refine Va J J ?_;refine S_again (i + 1, A6, c6, _, ls5 ++ [.mk 9 q2 q3 q4 X3 X4], G4) ⟨by simp; omega, by simp only; omega, (hext.trans hext3).trans hext4, Cs_append (Cs_mono (Stm.reps_le (newp_right (hext3.trans hext4).le) _) hcs5) (Stm.rep_iff.2 ⟨_, _, rfl, by first | assumption | exact ⟨by omega, by omega⟩, by first | assumption | exact ⟨by omega, by omega⟩, by first | assumption | exact ⟨by omega, by omega⟩, by first | assumption | exact ⟨by omega, by omega⟩, Sts_le (PH.le.trans (newp_mono hext.le hext3.le) (newp_right hext4.le)) hv3, Sts_le (newp_mono (hext.trans hext3).le hext4.le) hv4⟩) rfl, shL_append.2 ⟨hsh5, Stm.short_mk.2 ⟨hs3, hs4⟩, trivial⟩⟩ (by simp only; omega) rfl ⟨⟨_, rfl, by simp [denO]⟩, ⟨_, rfl, by simp [denO]⟩, ⟨_, rfl, rfl⟩, ⟨_, rfl, rfl⟩, ⟨_, rfl, rfl⟩, ⟨_, rfl, rfl⟩, trivial⟩ ?_
    simp only [List.length_append, List.length_singleton]
    first
     | exact .drop (.hp .nil)
     | exact .drop (.drop (.hp .nil))
  by_cases e10 : q1 = 10
  ·subst e10
   repeat' (first
    | (refine GT J J J ?_; refine Va J J ?_)
    | (refine GF J J J ?_; refine Va J J ?_)
    | (refine RT J J ?_; refine Va J J ?_)
    | (refine RF J J ?_; refine Va J J ?_)
    | (refine RF J (decide_eq_false e8) ?_; refine Va J J ?_)
    | (refine GF J J (decide_eq_false e8) ?_; refine Va J J ?_)
    | (refine RF J (decide_eq_false e3) ?_; refine Va J J ?_)
    | (refine GF J J (decide_eq_false e3) ?_; refine Va J J ?_)
    | (refine RF J (decide_eq_false e4) ?_; refine Va J J ?_)
    | (refine GF J J (decide_eq_false e4) ?_; refine Va J J ?_)
    | (refine RF J (decide_eq_false e9) ?_; refine Va J J ?_)
    | (refine GF J J (decide_eq_false e9) ?_; refine Va J J ?_)
    | (refine RF J (decide_eq_false e10) ?_; refine Va J J ?_)
    | (refine GF J J (decide_eq_false e10) ?_; refine Va J J ?_)
    | fail)
   refine S_add J J J J (by omega) ?_;refine Va J J ?_;obtain ⟨ado, cso, eo, hcso, ⟨rfl, hio⟩⟩ := Sr_at (Ints_le hext.le how) (k := (3 + q2).toNat) (by omega)
   cases eo
   refine S_index Tk J J J J J J (by omega) (by omega) ?_;refine Va J J ?_;refine S_load Tk J J J J J hcso.1 ?_;refine Va J J ?_
   refine S_cond J (fun h9 => ?_) (fun h9 => ?_) <;> refine Va J J ?_
   ·refine S_subI J J J J (by omega) ?_
    refine Va J J ?_;refine S_call Tryz.call65 (h00 _ _ _ _ _ (Sr_nil J) (Ints_le hext.le how) hol (by omega) (by omega) Sh_nil okL_nil) J J J ?_;rintro v3 G3 ⟨X3, hv3, hs3⟩ hext3
    obtain ⟨A31, c31, rfl, _⟩ := id hv3
    refine Va J J ?_;refine S_subI J J J J (by omega) ?_;refine Va J J ?_;refine S_call Tryz.call65 (h00 _ _ _ _ _ (Sts_le hext3.le (Sr_nil J)) (Ints_le (hext.trans hext3).le how) hol (by omega) (by omega) Sh_nil okL_nil) J J J ?_;rintro v4 G4 ⟨X4, hv4, hs4⟩ hext4
    obtain ⟨A41, c41, rfl, _⟩ := id hv4
    refine Va J J ?_;refine S_slice Tk ZT_ok J J J J (by decide) (by decide) J J J J fun b2 => ?_;refine Va J J ?_
    refine S_app1 Tk 5 103 J J J J J J J J J J J J J J (by intro u hu; simp at hu; rcases hu with rfl | rfl | rfl | rfl | rfl | rfl <;> rfl) rfl (fun _ _ => rfl) (by omega) (Nat.le_refl _) fun A6 c6 => ?_
    refine Va J J ?_;refine S_add J J J J (by omega) ?_;refine Va J J ?_;refine S_again (i + 1, A6, c6, _, ls5 ++ [.mk 11 0 0 0 X3 X4], G4) ⟨by simp; omega, by simp only; omega, (hext.trans hext3).trans hext4, Cs_append (Cs_mono (Stm.reps_le (newp_right (hext3.trans hext4).le) _) hcs5) (Stm.rep_iff.2 ⟨_, _, rfl, by first | assumption | exact ⟨by omega, by omega⟩, by first | assumption | exact ⟨by omega, by omega⟩, by first | assumption | exact ⟨by omega, by omega⟩, by first | assumption | exact ⟨by omega, by omega⟩, Sts_le (PH.le.trans (newp_mono hext.le hext3.le) (newp_right hext4.le)) hv3, Sts_le (newp_mono (hext.trans hext3).le hext4.le) hv4⟩) rfl, shL_append.2 ⟨hsh5, Stm.short_mk.2 ⟨hs3, hs4⟩, trivial⟩⟩ (by simp only; omega) rfl ⟨⟨_, rfl, by simp [denO]⟩, ⟨_, rfl, by simp [denO]⟩, ⟨_, rfl, rfl⟩, ⟨_, rfl, rfl⟩, ⟨_, rfl, rfl⟩, ⟨_, rfl, rfl⟩, trivial⟩ ?_
    simp only [List.length_append, List.length_singleton]
    first
     | exact .drop (.hp .nil)
     | exact .drop (.drop (.hp .nil))
   ·refine S_subI J J J J (by omega) ?_
    refine Va J J ?_;refine S_call Tryz.call65 (hbx _ _ _ _ _ hx (Ints_le hext.le how) hol (by omega) (by omega) hshk.1 ox) J J J ?_;rintro v3 G3 ⟨X3, hv3, hs3⟩ hext3
    obtain ⟨A31, c31, rfl, _⟩ := id hv3
    refine Va J J ?_;refine S_subI J J J J (by omega) ?_;refine Va J J ?_;refine S_call Tryz.call65 (hby _ _ _ _ _ (Sts_le hext3.le hy) (Ints_le (hext.trans hext3).le how) hol (by omega) (by omega) hshk.2 oy) J J J ?_;rintro v4 G4 ⟨X4, hv4, hs4⟩ hext4
    obtain ⟨A41, c41, rfl, _⟩ := id hv4
    refine Va J J ?_;refine S_slice Tk ZT_ok J J J J (by decide) (by decide) J J J J fun b2 => ?_;refine Va J J ?_
    refine S_app1 Tk 5 103 J J J J J J J J J J J J J J (by intro u hu; simp at hu; rcases hu with rfl | rfl | rfl | rfl | rfl | rfl <;> rfl) rfl (fun _ _ => rfl) (by omega) (Nat.le_refl _) fun A6 c6 => ?_
    refine Va J J ?_;refine S_add J J J J (by omega) ?_;refine Va J J ?_;refine S_again (i + 1, A6, c6, _, ls5 ++ [.mk 10 q2 q3 q4 X3 X4], G4) ⟨by simp; omega, by simp only; omega, (hext.trans hext3).trans hext4, Cs_append (Cs_mono (Stm.reps_le (newp_right (hext3.trans hext4).le) _) hcs5) (Stm.rep_iff.2 ⟨_, _, rfl, by first | assumption | exact ⟨by omega, by omega⟩, by first | assumption | exact ⟨by omega, by omega⟩, by first | assumption | exact ⟨by omega, by omega⟩, by first | assumption | exact ⟨by omega, by omega⟩, Sts_le (PH.le.trans (newp_mono hext.le hext3.le) (newp_right hext4.le)) hv3, Sts_le (newp_mono (hext.trans hext3).le hext4.le) hv4⟩) rfl, shL_append.2 ⟨hsh5, Stm.short_mk.2 ⟨hs3, hs4⟩, trivial⟩⟩ (by simp only; omega) rfl ⟨⟨_, rfl, by simp [denO]⟩, ⟨_, rfl, by simp [denO]⟩, ⟨_, rfl, rfl⟩, ⟨_, rfl, rfl⟩, ⟨_, rfl, rfl⟩, ⟨_, rfl, rfl⟩, trivial⟩ ?_
    simp only [List.length_append, List.length_singleton]
    first
     | exact .drop (.hp .nil)
     | exact .drop (.drop (.hp .nil))
  repeat' (first
   | (refine GT J J J ?_; refine Va J J ?_)
   | (refine GF J J J ?_; refine Va J J ?_)
   | (refine RT J J ?_; refine Va J J ?_)
   | (refine RF J J ?_; refine Va J J ?_)
   | (refine RF J (decide_eq_false e8) ?_; refine Va J J ?_)
   | (refine GF J J (decide_eq_false e8) ?_; refine Va J J ?_)
   | (refine RF J (decide_eq_false e3) ?_; refine Va J J ?_)
   | (refine GF J J (decide_eq_false e3) ?_; refine Va J J ?_)
   | (refine RF J (decide_eq_false e4) ?_; refine Va J J ?_)
   | (refine GF J J (decide_eq_false e4) ?_; refine Va J J ?_)
   | (refine RF J (decide_eq_false e9) ?_; refine Va J J ?_)
   | (refine GF J J (decide_eq_false e9) ?_; refine Va J J ?_)
   | (refine RF J (decide_eq_false e10) ?_; refine Va J J ?_)
   | (refine GF J J (decide_eq_false e10) ?_; refine Va J J ?_)
   | fail)
  refine GF J J (by simp [e9, e10]) ?_;refine Va J J ?_
  repeat' (first
   | (refine GT J J J ?_; refine Va J J ?_)
   | (refine GF J J J ?_; refine Va J J ?_)
   | (refine RT J J ?_; refine Va J J ?_)
   | (refine RF J J ?_; refine Va J J ?_)
   | (refine RF J (decide_eq_false e8) ?_; refine Va J J ?_)
   | (refine GF J J (decide_eq_false e8) ?_; refine Va J J ?_)
   | (refine RF J (decide_eq_false e3) ?_; refine Va J J ?_)
   | (refine GF J J (decide_eq_false e3) ?_; refine Va J J ?_)
   | (refine RF J (decide_eq_false e4) ?_; refine Va J J ?_)
   | (refine GF J J (decide_eq_false e4) ?_; refine Va J J ?_)
   | (refine RF J (decide_eq_false e9) ?_; refine Va J J ?_)
   | (refine GF J J (decide_eq_false e9) ?_; refine Va J J ?_)
   | (refine RF J (decide_eq_false e10) ?_; refine Va J J ?_)
   | (refine GF J J (decide_eq_false e10) ?_; refine Va J J ?_)
   | fail)
  refine S_subI J J J J (by omega) ?_;refine Va J J ?_;refine S_call Tryz.call65 (hbx _ _ _ _ _ hx (Ints_le hext.le how) hol (by omega) (by omega) hshk.1 ox) J J J ?_;rintro v3 G3 ⟨X3, hv3, hs3⟩ hext3
  obtain ⟨A31, c31, rfl, _⟩ := id hv3
  refine Va J J ?_;refine S_subI J J J J (by omega) ?_;refine Va J J ?_;refine S_call Tryz.call65 (hby _ _ _ _ _ (Sts_le hext3.le hy) (Ints_le (hext.trans hext3).le how) hol (by omega) (by omega) hshk.2 oy) J J J ?_;rintro v4 G4 ⟨X4, hv4, hs4⟩ hext4
  obtain ⟨A41, c41, rfl, _⟩ := id hv4
  refine Va J J ?_;refine S_slice Tk ZT_ok J J J J (by decide) (by decide) J J J J fun b2 => ?_;refine Va J J ?_
  refine S_app1 Tk 5 103 J J J J J J J J J J J J J J (by intro u hu; simp at hu; rcases hu with rfl | rfl | rfl | rfl | rfl | rfl <;> rfl) rfl (fun _ _ => rfl) (by omega) (Nat.le_refl _) fun A6 c6 => ?_
  refine Va J J ?_;refine S_add J J J J (by omega) ?_;refine Va J J ?_;refine S_again (i + 1, A6, c6, _, ls5 ++ [.mk q1 q2 q3 q4 X3 X4], G4) ⟨by simp; omega, by simp only; omega, (hext.trans hext3).trans hext4, Cs_append (Cs_mono (Stm.reps_le (newp_right (hext3.trans hext4).le) _) hcs5) (Stm.rep_iff.2 ⟨_, _, rfl, by first | assumption | exact ⟨by omega, by omega⟩, by first | assumption | exact ⟨by omega, by omega⟩, by first | assumption | exact ⟨by omega, by omega⟩, by first | assumption | exact ⟨by omega, by omega⟩, Sts_le (PH.le.trans (newp_mono hext.le hext3.le) (newp_right hext4.le)) hv3, Sts_le (newp_mono (hext.trans hext3).le hext4.le) hv4⟩) rfl, shL_append.2 ⟨hsh5, Stm.short_mk.2 ⟨hs3, hs4⟩, trivial⟩⟩ (by simp only; omega) rfl ⟨⟨_, rfl, by simp [denO]⟩, ⟨_, rfl, by simp [denO]⟩, ⟨_, rfl, rfl⟩, ⟨_, rfl, rfl⟩, ⟨_, rfl, rfl⟩, ⟨_, rfl, rfl⟩, trivial⟩ ?_
  simp only [List.length_append, List.length_singleton]
  first
   | exact .drop (.hp .nil)
   | exact .drop (.drop (.hp .nil))
 ·refine S_freezeR 5 J J (Nat.le_refl _) fun Gf hextf hncf hcmf hclf => ?_
  have hvf : Sts (newp G Gf) _ _ := frzL (newp_mono hext.le hextf.le) (Cs_mono (Stm.reps_le (newp_right hextf.le) _) hcs5) rfl (by omega) hncf hcmf hclf
  exact S_retp (Res.t1 Tryz.results65 J J) (hext.trans hextf) ⟨_, hvf, by omega, hsh5⟩
theorem Tm_nil (ow : List Int) : Tm ow [] := c_l6Tame_of ow [] (fun h => absurd rfl h) fun k hk => absurd hk (by simp)
mutual
theorem Tm_stm (ow : List Int) : ∀ (s : Stm), Tm ow s.body ∧ Tm ow s.els
 | .mk k a b n x y => ⟨Tm_all ow x, Tm_all ow y⟩
theorem Tm_at (ow : List Int) : ∀ (L : List Stm) (k : Nat) (hk : k < L.length), Tm ow L[k].body ∧ Tm ow L[k].els
 | [], k, hk => absurd hk (by simp)
 | s :: L, 0, _ => Tm_stm ow s
 | s :: L, k + 1, hk => Tm_at ow L k (by simpa using hk)
theorem Tm_all (ow : List Int) : ∀ (L : List Stm), Tm ow L
 | L => c_l6Tame_of ow L (fun _ => Tm_nil ow) fun k hk => Tm_at ow L k hk
end
end
section
attribute [local irreducible] X Pure Mod
def PrgS (G : PH) (p : List (List Stm)) (v : Value) : Prop := Prg G p v ∧ (∀ l ∈ p, Sh l) ∧ p.length ≤ 1000000
theorem PrgS_le {G G' : PH} (hl : G.le G') {p : List (List Stm)} {v : Value} (h : PrgS G p v) : PrgS G' p v := ⟨Prg_le hl h.1, h.2⟩
theorem del_le (G : PH) (g : Nat) : (G.del g).le G := by
 intro b o h
 unfold PH.del at h
 split at h
 ·cases h
 ·exact h
theorem Cs_intC {l : List Int} (h : ∀ x ∈ l, I64 x) : Cs 1 intRep l (intC l) := by
 induction l with
 | nil => rfl
 | cons n l ih => exact ⟨[.int .i64 n], intC l, rfl, rfl, ⟨rfl, h n (List.mem_cons_self ..)⟩, ih fun x hx => h x (List.mem_cons_of_mem _ hx)⟩
def kP : Nat := 20 + 3 * kS
theorem del_mono {G G' : PH} (h : G.le G') (g : Nat) : (G.del g).le (G'.del g) := by
 intro b o hb
 unfold PH.del at hb ⊢
 split at hb
 ·cases hb
 ·rename_i hne; rw [if_neg hne]; exact h b o hb
theorem newp_del {G G' : PH} {g : Nat} {o : Obj} (h : G g = some o) : (newp G G').le (G'.del g) := by
 intro b o' hb
 unfold newp at hb
 unfold PH.del
 split at hb
 ·cases hb
 ·rename_i hn
  rw [if_neg (by rintro rfl; rw [h] at hn; cases hn)]; exact hb
theorem sts_at {G : PH} {p : List (List Stm)} {xs : List Value} (h : Cs 1 (stsRep G) p xs) {i : Nat} (hi : i < p.length) : ∃ v, xs[i]? = some v ∧ Sts G p[i] v ∧ ∀ v' l', Sts G l' v' → Cs 1 (stsRep G) (p.set i l') (xs.set i v') := by
 obtain ⟨cs, h1, h2, ⟨v, rfl, hv⟩, h4⟩ := Cs_at h hi
 refine ⟨v, ?_, hv, fun v' l' hl => ?_⟩
 ·have := congrArg (·[0]?) h1
  simp only [List.getElem?_cons_zero] at this
  rw [← this, List.getElem?_take_of_lt (by omega), List.getElem?_drop]
  simp
 ·have := h4 0 v' l' (by omega) ⟨v', rfl, hl⟩
  simpa using this
end
section
section
variable {C : Ctx} {ks : List Nat} {all : Array Oper} {k : List It} {E : Env} {ι : Ids} {L : List Ent} {G : PH} {R : List Nat} {pend : List Pd}
def rdyL (all : Array Oper) (R : List Nat) : List Nat → Option (List Nat)
 | [] => some []
 | i :: l => match nthOp i all.toList with
  | some o => match clearOf R o.after.toList with
   | true => match rdyL all R l with
    | some r => some (i :: r)
    | none => none
   | false => rdyL all R l
  | none => none
theorem rdyL_sound : ∀ {l r : List Nat}, rdyL all R l = some r → ∀ i ∈ l, ∀ o, all[i]? = some o → (∀ e ∈ edgesA o, e ∉ R) → i ∈ r := by
 intro l
 induction l with
 | nil => intro r _ i hi; cases hi
 | cons x l ih =>
  intro r h i hi o ho he
  simp only [rdyL] at h
  split at h
  ·rename_i o' ho'
   split at h
   ·split at h
    ·rename_i r' hr'
     cases h
     rcases List.mem_cons.1 hi with rfl | hi
     ·exact List.mem_cons_self ..
     ·exact List.mem_cons_of_mem _ (ih hr' i hi o ho he)
    ·cases h
   ·rename_i hc
    rcases List.mem_cons.1 hi with rfl | hi
    ·have ho'' : all[i]? = some o' := by simpa using nthOp_eq ho'
     rw [ho] at ho''; cases ho''
     obtain ⟨e, h1, h2, h3⟩ := clearOf_eq hc
     exact absurd h3 (he e.on (List.mem_map.2 ⟨e, List.mem_filter.2 ⟨h1, h2⟩, J⟩))
    ·exact ih h i hi o ho he
  ·cases h
def AllN (P : Nat → Prop) : List Nat → Prop
 | [] => True
 | j :: l => P j ∧ AllN P l
theorem AllN_mem {P : Nat → Prop} : ∀ {l : List Nat}, AllN P l → ∀ j ∈ l, P j
 | [], _, j, hj => by cases hj
 | x :: l, h, j, hj => by
  rcases List.mem_cons.1 hj with rfl | hj
  ·exact h.1
  ·exact AllN_mem h.2 j hj
theorem D_list {j0 : Nat} {js : List Nat} (hs : rdyL all R R = some (j0 :: js)) (h : AllN (Nx C ks all k R pend E ι L G) (j0 :: js)) : D C ks all k R pend E ι L G := by
 intro hok hp hdis
 refine DR_core hok hp hdis (fun h => by subst h; cases hs) ?_
 intro i hi o' ho' he
 exact AllN_mem h i (rdyL_sound hs i hi o' ho' he) hok hp hdis o' ho'
end
section
variable {C : Ctx} {k : List It} {E : Env} {ι : Ids} {L : List Ent} {G : PH} {all : Array Oper} {l : List Oper}
theorem S_Bhp (key κ : Nat) {b ty : Nat} {cs : List Cel} {vs : List Value} {L' : List Ent} (hj : lookI key ι = some b) (hB : lookB key L = some (ty, cs)) (hd : denL ι cs = some vs) (hL' : delB key L = some L') (hk : X C k E ι (.hp κ (blkHP b ty vs) :: L') G) : X C k E ι L G := by
 intro a w g1 g2 g3 g4
 obtain ⟨Ss, ho, hS⟩ := g4.own
 obtain ⟨S, Ss', b', hb', hh, hSb, hm, ho', hT⟩ := owns_delB hd ho hB hL'
 rw [hj] at hb'; cases hb'
 refine hk a w g1 g2 g3 ⟨g4.os, g4.tape, g4.output, g4.size, g4.keep, g4.emb, S :: Ss', ⟨blkHP_holds.2 ⟨hh, hSb⟩, fun T hT' x hx hx' => (hT T hT').2 x hx' hx, ho'⟩, ?_⟩
 intro T hT' x hx
 rcases List.mem_cons.1 hT' with rfl | hT'
 ·exact hS T hm x hx
 ·exact hS T (hT T hT').1 x hx
theorem S_hpB (κ key : Nat) {b ty : Nat} {vs : List Value} {L' : List Ent} (hL : getH κ L = some (blkHP b ty vs)) (hL' : delH κ L = some L') (hf : lookI key ι = none) (hk : X C k E ((key, b) :: ι) (.blk key ty (vL vs) :: L') G) : X C k E ι L G := by
 intro a w g1 g2 g3 g4
 obtain ⟨Ss, ho, hS⟩ := g4.own
 obtain ⟨S, Ss', hA, hm, ho', hT⟩ := owns_del ho hL hL'
 obtain ⟨hh, hSb⟩ := blkHP_holds.1 hA
 refine hk a w g1 g2 (g3.ids hf) ⟨g4.os, g4.tape, g4.output, g4.size, g4.keep, g4.emb, S :: Ss', ⟨⟨b, vs, by simp [lookI], denL_vL _ _, hh, hSb⟩, fun T hT' x hx hx' => (hT T hT').2 x hx' hx, owns_ids ho' hf⟩, ?_⟩
 intro T hT' x hx
 rcases List.mem_cons.1 hT' with rfl | hT'
 ·exact hS T hm x hx
 ·exact hS T (hT T hT').1 x hx
theorem S_unpair (κ κ1 κ2 : Nat) {A B : HP} {L' : List Ent} (hL : getH κ L = some (pairHP A B)) (hL' : delH κ L = some L') (hk : X C k E ι (.hp κ1 A :: .hp κ2 B :: L') G) : X C k E ι L G := by
 intro a w g1 g2 g3 g4
 obtain ⟨Ss, ho, hS⟩ := g4.own
 obtain ⟨S, Ss', ⟨S1, S2, hA, hB, hd, hSS⟩, hm, ho', hT⟩ := owns_del ho hL hL'
 refine hk a w g1 g2 g3 ⟨g4.os, g4.tape, g4.output, g4.size, g4.keep, g4.emb, S1 :: S2 :: Ss', ⟨hA, ?_, hB, ?_, ho'⟩, ?_⟩
 ·intro T hT' x hx hx'
  rcases List.mem_cons.1 hT' with rfl | hT'
  ·exact hd x hx hx'
  ·exact (hT T hT').2 x hx' ((hSS x).2 (.inl hx))
 ·intro T hT' x hx hx'
  exact (hT T hT').2 x hx' ((hSS x).2 (.inr hx))
 ·intro T hT' x hx
  rcases List.mem_cons.1 hT' with rfl | hT'
  ·exact hS S hm x ((hSS x).2 (.inl hx))
  rcases List.mem_cons.1 hT' with rfl | hT'
  ·exact hS S hm x ((hSS x).2 (.inr hx))
  ·exact hS T (hT T hT').1 x hx
theorem S_pick (kk : List Nat) {L1 L2 : List Ent} (hL : pickE kk L = some (L1, L2)) (hk : X C k E ι L1 G) : X C k E ι L G := by
 intro a w h1 h2 h3 h4
 obtain ⟨Ss, ho, hS⟩ := h4.own
 obtain ⟨Sx, Sr, g1, g2, g3, g4⟩ := pickE_sound hL ho
 exact hk a w h1 h2 h3 ⟨h4.os, h4.tape, h4.output, h4.size, h4.keep, h4.emb, Sx, g1, fun T hT => hS T ((g4 T).1 (.inl hT))⟩
theorem S_newHP (κ : Nat) {B : Nat} {A : HP} {L' : List Ent} (hL : getH κ L = some (newHP B A)) (hL' : setH κ A L = some L') (hk : X C k E ι L' G) : X C k E ι L G := by
 intro a w h1 h2 h3 h4
 refine hk a w h1 h2 h3 ?_;obtain ⟨S, ⟨hA, hB⟩, hSG, hturn⟩ := h4.turn hL
 exact hturn _ _ G w S hL' hA h4.emb XR (fun b hb => ⟨hSG b hb, .inl hb⟩) J J J (Nat.le_refl _) fun _ _ _ => J
end
section
variable {C : Ctx} {k : List It} {E : Env} {ι : Ids} {L : List Ent} {G : PH}
theorem S_cut {α : Type} {c : Code} (inv : α → Prop) (ι2 : α → Ids) (E2 : α → Env) (L2 : α → List Ent) (G2 : α → PH) (h1 : X C (.code c :: .stop (fun a w => ∃ y, inv y ∧ St C (E2 y) (ι2 y) (L2 y) (G2 y) a w) :: k) E ι L G)
  (h2 : ∀ y, inv y → X C k (E2 y) (ι2 y) (L2 y) (G2 y)) : X C (.code c :: k) E ι L G := by
 intro a w q1 q2 q3 q4
 refine wpIn_mono (h1 a w q1 q2 q3 q4) ?_
 intro e a' w' q
 cases e with
 | normal =>
  obtain ⟨y, hy, g1, g2, g3, g4⟩ := q
  exact h2 y hy a' w' g1 g2 g3 g4
 | _ => exact q
theorem S_meet {α : Type} {inv : α → Prop} {ι2 : α → Ids} {E2 : α → Env} {L2 : α → List Ent} {G2 : α → PH} (y : α) (hy : inv y) (hG : G = G2 y) (hE : subE ι E (ι2 y) (E2 y)) (hL : subL ι (ι2 y) L (L2 y)) : X C (.stop (fun a w => ∃ y, inv y ∧ St C (E2 y) (ι2 y) (L2 y) (G2 y) a w) :: k) E ι L G :=
 S_stop fun a w h => ⟨y, hy, by subst hG; exact h.sub hE hL⟩
end
def starHP : List HP → HP
 | [] => emptyHP
 | A :: r => pairHP A (starHP r)
section
variable {C : Ctx} {ι : Ids} {E : Env} {L : List Ent} {G : PH} {d : Option Nat} {ty : Nat} {pos : String} {af : Array Edge} {g : Option (Nat × Bool)}
theorem V_sliceHi {T : Tab} (hT : tabOk C.P T) {t e sz sz' m : Nat} {os os' : List Nat} {tk : TK} {x : Operand} {A : Option Addr} {n c : Nat} (ht : lookT t T = some ⟨.slc e, sz', os'⟩) (he : lookT e T = some ⟨tk, sz, os⟩) (hx : ev E x = some (.val (.slice A n c))) (hm : m ≤ n) (hnc : n ≤ c) (hpos : 0 < c) :
  Vl C ι E L G ⟨d, .slice t x none (some (.const (.int .i64 (m : Nat)))) none, ty, pos, af, g⟩ (.slice (A.map (·.add 0)) m c) := by
 intro a w hE hw
 have ex := ev_sound hE hx
 simp only [denO, Option.some.injEq] at ex
 have hu := tyOk_slice (hT _ _ ht) rfl
 simp only [execOp, Option.map_some, Option.map_none, ← ex]
 have : a.eval (.const (.int .i64 (m : Nat))) = .int .i64 (m : Nat) := rfl
 rw [this]
 have h1 : (m : Int) ≤ (n : Int) := by omega
 have h2 : ¬ ((m : Int) < 0) := by omega
 have h3 : ¬ (c = 0) := by omega
 have h4 : (m : Int) ≤ (c : Int) := by omega
 simp only [Instr.sliceAt, Sem.run_bind, run_underlying hu, Result.andThen_ok]
 simp [Instr.slice, run_underlying hu, Instr.sliceBounds, Instr.sliceBound, asIntOf, tyOk_size (hT _ _ he), h1, h2, h3, h4]
 intro h5
 omega
end
end
section
attribute [local irreducible] X Pure Mod
theorem Rw_take {α : Type} {G : PH} {sz : Nat} {rep : α → List Value → Prop} : ∀ {L : List α} {ad : Addr} (m : Nat), Rw G sz rep L ad → Rw G sz rep (L.take m) ad
 | [], _, m, h => by simpa using h
 | x :: L, _, 0, h => trivial
 | x :: L, _, m + 1, h => ⟨h.1, Rw_take m h.2⟩
theorem c_l11Open (l : List Int) (cv : Value) (G : PH) (hl : Byts G l cv) : Mod Tryz.prog 21 [cv] G emptyHP fun v G' A' => ∃ b sv l', v = .pointer (some ⟨b, 0, none⟩) ∧ A' = rdHP b sv 0 ∧ Byts G l' sv ∧ G' = G := by
 obtain ⟨A, c, rfl, hl1, hl2, hl3, hl4⟩ := id hl
 refine Mod.intro Tryz.func21 Tryz.ntmps21 J J fun w S => ?_;refine Va J J ?_
 refine S_condp J (fun h => ?_) (fun h => ?_) <;> refine Va J J ?_
 ·refine S_valV J J J (V_sliceHi (m := 2000) Tk J J J (by omega) hl2 (by omega)) ?_
  refine Va J J ?_;refine S_box J J J J J fun b => ?_;refine Va J J ?_
  have hl5 : Byts G (l.take 2000) (.slice (A.map (·.add 0)) 2000 c) := by
   refine ⟨_, _, by rw [List.length_take, Nat.min_eq_left (by omega)], by rw [List.length_take]; omega, by rw [List.length_take]; omega, hl3, ?_⟩
   rcases hl4 with hl4 | ⟨ad, rfl, hr⟩
   ·omega
   ·exact .inr ⟨ad, by simp [add_zero'], Rw_take 2000 hr⟩
  exact RK [10] (Res.t1 Tryz.results21 J J) ⟨b, _, _, J, J, hl5, J⟩ ⟨0, Nat.le_refl _, J, J⟩ J (.blk J J .nil) XR
 ·refine S_box J J J J J fun b => ?_
  refine Va J J ?_;exact RK [10] (Res.t1 Tryz.results21 J J) ⟨b, _, _, J, J, hl, J⟩ ⟨0, Nat.le_refl _, J, J⟩ J (.blk J J .nil) XR
mutual
/-- a copy, so deep at most -/
def cpS : Stm → Nat → Stm
 | .mk k a b n x y, d => .mk k a b n (cpL x d) (cpL y d)
def cpL : List Stm → Nat → List Stm
 | _, 0 => []
 | [], _ + 1 => []
 | s :: r, d + 1 => cpS s d :: cpL r (d + 1)
end
theorem cpL_succ (L : List Stm) (d : Nat) : cpL L (d + 1) = L.map (cpS · d) := by
 induction L with
 | nil => rfl
 | cons s r ih => simp [cpL, ih]
def Cp (L : List Stm) : Prop := ∀ (d : Nat) (v : Value) (G : PH), Sts G L v → d ≤ 1000 → Pure Tryz.prog 51 [v, .int .i64 (d : Nat)] G fun v' G' => Sts G' (cpL L d) v'
theorem c_l2Copy (L : List Stm) (hb : ∀ k (hk : k < L.length), Cp L[k].body ∧ Cp L[k].els) : Cp L := by
 intro d v G hst hd3
 obtain ⟨A, c, rfl, hl1, _⟩ := id hst
 refine Pure.intro Tryz.func51 Tryz.ntmps51 J J fun w => ?_; refine Va J J ?_;refine S_emptyO Tk 5 J J J J fun A0 => ?_;refine Va J J ?_;refine S_loop (α := Nat × Option Addr × Nat × List Value × PH) (fun y => y.1 ≤ L.length ∧ (0 < y.1 → 0 < d) ∧ PH.ext w.heap.size G y.2.2.2.2 ∧ Cs 6 (Stm.rep y.2.2.2.2) ((L.take y.1).map (cpS · (d - 1))) y.2.2.2.1) (fun y => L.length - y.1) []
  (fun y => [(6, .val (.int .i64 (y.1 : Nat))), (5, .val (.slice y.2.1 y.1 y.2.2.1)), (0, .val (.slice A L.length c)), (1, .val (.int .i64 (d : Nat)))])
  (fun y => [.hp 5 (rowO w.heap.size 94 6 y.2.1 y.1 y.2.2.1 y.2.2.2.1)]) (fun y => y.2.2.2.2) (0, A0, 0, [], G) ⟨Nat.zero_le _, fun h => absurd h (by simp), PH.ext.refl _ _, rfl⟩ rfl ?_ ?_ ?_
 ·exact ⟨⟨_, J, J⟩, ⟨_, J, J⟩, ⟨_, J, J⟩, ⟨_, J, J⟩, trivial⟩
 ·exact .hp .nil
 rintro ⟨i, A5, c5, xs5, G2⟩ ⟨hi, hid, hext, hcs5⟩
 simp only at hi hid hext hcs5 ⊢
 refine Va J J ?_
 refine S_cond J (fun h => ?_) (fun h => ?_) <;> refine Va J J ?_
 ·simp only [Bool.and_eq_true, decide_eq_true_eq] at h
  have hkl : i < L.length := by omega
  obtain ⟨e, rfl⟩ : ∃ e, d = e + 1 := ⟨d - 1, by omega⟩
  obtain ⟨ad, cs, rfl, hcs, hrep⟩ := Sr_at (Sts_le hext.le hst) hkl
  obtain ⟨hbx, hby⟩ := hb i hkl
  generalize hs : L[i] = s at hrep hbx hby
  obtain ⟨q1, q2, q3, q4, q5, q6⟩ := s
  obtain ⟨vx, vy, rfl, i1, i2, i3, i4, hx, hy⟩ := Stm.rep_iff.1 hrep
  simp only [Stm.body, Stm.els] at hbx hby
  obtain ⟨Ax, cx, rfl, hx1, _⟩ := id hx
  obtain ⟨Ay, cy, rfl, hy1, _⟩ := id hy
  refine S_index Tk J J J J J J (by omega) (by omega) ?_;refine Va J J ?_;refine S_loadA Tk J J J J J (by simpa using hcs) ?_;refine Va J J ?_;refine AZ ZT_ok J J J J fun b7 => ?_;refine Va J J ?_;refine S_subI J J J J (by omega) ?_;refine Va J J ?_
  rw [show (((e + 1 : Nat) : Int) - 1) = ((e : Nat) : Int) by omega]
  refine S_call Tryz.call51 (hbx e _ _ hx (by omega)) J J J ?_;rintro v3 G3 hv3 hext3
  obtain ⟨A31, c31, rfl, _⟩ := id hv3
  refine Va J J ?_;refine S_subI J J J J (by omega) ?_;refine Va J J ?_
  rw [show (((e + 1 : Nat) : Int) - 1) = ((e : Nat) : Int) by omega]
  refine S_call Tryz.call51 (hby e _ _ (Sts_le hext3.le hy) (by omega)) J J J ?_;rintro v4 G4 hv4 hext4
  obtain ⟨A41, c41, rfl, _⟩ := id hv4
  refine Va J J ?_;refine S_slice Tk ZT_ok J J J J (by decide) (by decide) J J J J fun b2 => ?_;refine Va J J ?_
  refine S_app1 Tk 5 37 J J J J J J J J J J J J J J (by intro u hu; simp at hu; rcases hu with rfl | rfl | rfl | rfl | rfl | rfl <;> rfl) rfl (fun _ _ => rfl) (by omega) (Nat.le_refl _) fun A6 c6 => ?_
  refine Va J J ?_;refine S_add J J J J (by omega) ?_;refine Va J J ?_;refine S_again (i + 1, A6, c6, _, G4) ⟨by simp only; omega, fun _ => by omega, (hext.trans hext3).trans hext4, ?_⟩ (by simp only; omega) rfl ⟨⟨_, rfl, by simp [denO]⟩, ⟨_, rfl, by simp [denO]⟩, ⟨_, rfl, rfl⟩, ⟨_, rfl, rfl⟩, trivial⟩ (by first | exact .drop (.hp .nil) | exact .drop (.drop (.hp .nil)))
  simp only
  rw [List.take_succ_eq_append_getElem hkl, List.map_append, hs]
  exact Cs_append (Cs_mono (Stm.reps_le (hext3.trans hext4).le _) hcs5) (Stm.rep_iff.2 ⟨_, _, J, i1, i2, i3, i4, Sts_le hext4.le hv3, hv4⟩) J
 ·refine S_freezeR 5 J J (Nat.le_refl _) fun Gf hextf hncf hcmf hclf => ?_
  have hvf : Sts Gf _ _ := frz (Cs_mono (Stm.reps_le hextf.le _) hcs5) (by simp; omega) (by omega) hncf hcmf hclf
  refine S_retp (Res.t1 Tryz.results51 J J) (hext.trans hextf) ?_
  have h' : ¬ (i < L.length ∧ 0 < d) := by simpa using h
  rcases Nat.eq_zero_or_pos d with rfl | hd
  ·have : i = 0 := by
    rcases Nat.eq_zero_or_pos i with h | h
    ·exact h
    ·have := hid h; omega
   subst this
   simpa [cpL] using hvf
  ·obtain ⟨e, rfl⟩ : ∃ e, d = e + 1 := ⟨d - 1, by omega⟩
   have : i = L.length := by omega
   subst this
   rw [List.take_length] at hvf
   rw [cpL_succ]
   exact hvf
mutual
theorem Cp_stm : ∀ (s : Stm), Cp s.body ∧ Cp s.els
 | .mk k a b n x y => ⟨Cp_all x, Cp_all y⟩
theorem Cp_at : ∀ (L : List Stm) (k : Nat) (hk : k < L.length), Cp L[k].body ∧ Cp L[k].els
 | [], k, hk => absurd hk (by simp)
 | s :: L, 0, _ => Cp_stm s
 | s :: L, k + 1, hk => Cp_at L k (by simpa using hk)
theorem Cp_all : ∀ (L : List Stm), Cp L
 | L => c_l2Copy L fun k hk => Cp_at L k hk
end
end
section
def intU (n : Int) (cs : List Value) : Prop := cs = [.int .i64 n]
abbrev IntsU (G : PH) (l : List Int) (v : Value) : Prop := Sr G 1 intU l v
theorem IntsU_le {G G' : PH} (hl : G.le G') {l : List Int} {v : Value} (h : IntsU G l v) : IntsU G' l v := Sr_mono hl (fun _ _ _ h => h) h
def sayU (x : Int × Int) (cs : List Value) : Prop := cs = [.int .i64 x.1, .int .i64 x.2]
abbrev SaysU (G : PH) (l : List (Int × Int)) (v : Value) : Prop := Sr G 2 sayU l v
def intsRep (G : PH) (l : List Int) (cs : List Value) : Prop := ∃ v, cs = [v] ∧ IntsU G l v
def prcRep (G : PH) (p : Prc) (cs : List Value) : Prop := ∃ vr vt, cs = [vr, vt, .int .i64 p.mode, .int .i64 p.on, .int .i64 p.room] ∧ IntsU G [p.r0, p.r1, p.r2] vr ∧ Sts G p.todo vt
theorem intsRep_le {G G' : PH} (hl : G.le G') {l : List Int} {cs : List Value} (h : intsRep G l cs) : intsRep G' l cs := let ⟨v, h1, h2⟩ := h; ⟨v, h1, IntsU_le hl h2⟩
theorem prcRep_le {G G' : PH} (hl : G.le G') {p : Prc} {cs : List Value} (h : prcRep G p cs) : prcRep G' p cs := let ⟨v, u, h1, h2, h3⟩ := h; ⟨v, u, h1, IntsU_le hl h2, Sts_le hl h3⟩
structure WGr (G : PH) (W : Wld) (vp vc vr vs vd : Value) : Prop where
 pr : Sr G 5 (prcRep G) W.procs vp
 ce : IntsU G [W.c0, W.c1, W.c2] vc
 ro : IntsU G [W.m0, W.m1] vr
 sg : Sr G 1 (intsRep G) [W.q0, W.q1] vs
 sd : SaysU G W.said vd
def WG (G : PH) (W : Wld) (v : Value) : Prop := ∃ vp vc vr vs vd, v = .agg #[vp, vc, vr, vs, vd] ∧ WGr G W vp vc vr vs vd
theorem WGr_le {G G' : PH} (hl : G.le G') {W : Wld} {vp vc vr vs vd : Value} (h : WGr G W vp vc vr vs vd) : WGr G' W vp vc vr vs vd :=
 ⟨Sr_mono hl (fun _ _ _ h => prcRep_le hl h) h.pr, IntsU_le hl h.ce, IntsU_le hl h.ro, Sr_mono hl (fun _ _ _ h => intsRep_le hl h) h.sg, Sr_mono hl (fun _ _ _ h => h) h.sd⟩
theorem WG_le {G G' : PH} (hl : G.le G') {W : Wld} {v : Value} (h : WG G W v) : WG G' W v := let ⟨a, b, c, d, e, h1, h2⟩ := h; ⟨a, b, c, d, e, h1, WGr_le hl h2⟩
section
variable {C : Ctx} {k : List It} {E : Env} {ι : Ids} {L : List Ent} {G : PH}
theorem SatW.frz {a : Act} {w : World} (h : SatW C ι L G w) {κ : Nat} {A : HP} {L' : List Ent} (hL : getH κ L = some A) (hL' : delH κ L = some L') (hS0 : ∀ b, ¬ C.S0 b) :
  ∃ S G', A.holds w S ∧ (∀ b, S b → G' b = w.heap[b]?) ∧ PH.ext C.w0.heap.size G G' ∧ SatW C ι L' G' w := by
 obtain ⟨Ss, ho, hS⟩ := h.own
 obtain ⟨S, Ss', hA, hm, ho', hT⟩ := owns_del ho hL hL'
 have hlt := A.lt w S hA
 classical
 refine ⟨S, fun b => if S b then w.heap[b]? else G b, hA, fun b hb => by simp [hb], ⟨fun b o hb => ?_, fun b o hb hn => ?_⟩, ⟨h.os, h.tape, h.output, h.size, h.keep, fun b o hb => ?_, Ss', ho', fun T hT' b hb => ⟨?_, (hS T (hT T hT').1 b hb).2⟩⟩⟩
 ·have : ¬ S b := fun hs => by rw [(hS S hm b hs).1] at hb; cases hb
  simp [this, hb]
 ·by_cases hs : S b
  ·rcases (hS S hm b hs).2 with h1 | h1
   ·exact absurd h1 (hS0 b)
   ·exact h1
  ·simp only [hs, if_false] at hb
   rw [hn] at hb; cases hb
 ·by_cases hs : S b
  ·simpa [hs] using hb
  ·simp only [hs, if_false] at hb
   exact h.emb b o hb
 ·have : ¬ S b := fun hs => (hT T hT').2 b hb hs
  simp [this, (hS T (hT T hT').1 b hb).1]
end
theorem blk_frz {ι : Ids} {w : World} {key ty : Nat} {cs : List Cel} {T S : Nat → Prop} {G' : PH} (h : Ent.holds ι w (.blk key ty cs) T) (hT : ∀ x, T x → S x) (hG : ∀ b, S b → G' b = w.heap[b]?) : ∃ b vs, lookI key ι = some b ∧ denL ι cs = some vs ∧ gcells G' ⟨b, 0, none⟩ vs := by
 obtain ⟨b, vs, h1, h2, h3, h4⟩ := h
 refine ⟨b, vs, h1, h2, ?_⟩
 have hb : G' b = some (.cells vs.toArray ty (0, 0)) := by rw [hG b (hT b ((h4 b).2 rfl)), h3]
 refine gcells_row (cur := vs.toArray) (e := ty) (fr := (0, 0)) hb vs 0 ?_
 simp
theorem row_frz {w : World} {base e sz n c : Nat} {A : Option Addr} {xs : List Value} {T S : Nat → Prop} {G' : PH} (h : (rowO base e sz A n c xs).holds w T) (hT : ∀ x, T x → S x) (hG : ∀ b, S b → G' b = w.heap[b]?) : n ≤ c ∧ c ≤ maxLen ∧ xs.length = n * sz ∧ (n = 0 ∨ ∃ a, A = some a ∧ gcells G' a xs) := by
 obtain ⟨h1, h2, h3, h4⟩ := h
 refine ⟨h3, h2, h1, ?_⟩
 rcases h4 with ⟨_, h4, _⟩ | ⟨g, off, cur, rfl, _, h5, _, h6, h7⟩
 ·exact .inl (by omega)
 ·exact .inr ⟨_, J, gcells_row (cur := cur) (e := e) (fr := (0, 0)) (by rw [hG g (hT g ((h7 g).2 J)), h5]) xs off h6⟩
theorem gcells_pre {G : PH} {ad : Addr} {xs ys : List Value} (h : gcells G ad (xs ++ ys)) : gcells G ad xs := (gcells_append h).1
theorem Cs_intU (l : List Int) : Cs 1 intU l (intC l) := by
 induction l with
 | nil => rfl
 | cons n l ih => exact ⟨[.int .i64 n], intC l, rfl, rfl, rfl, ih⟩
theorem Cs_sayU (l : List (Int × Int)) : Cs 2 sayU l (saidC l) := by
 induction l with
 | nil => rfl
 | cons x l ih => exact ⟨[.int .i64 x.1, .int .i64 x.2], saidC l, rfl, rfl, rfl, ih⟩
theorem intsU_blk {G : PH} {b n c : Nat} {l : List Int} {sp : List Value} (h : gcells G ⟨b, 0, none⟩ (intC l ++ sp)) (hn : n = l.length) (hb : n ≤ 1000000000) (hnc : n ≤ c) (hcm : c ≤ maxLen) : IntsU G l (.slice (some ⟨b, 0, none⟩) n c) :=
 Sx_Sr ⟨some ⟨b, 0, none⟩, c, rfl, hb, hnc, hcm, by rw [intC_length, hn]; omega, .inr ⟨_, rfl, gcells_pre h⟩⟩ hn (Cs_intU l)
theorem denL_intC {ι : Ids} {l : List Int} {sp vs : List Value} {cs : List Cel} (h : denL ι cs = some vs) (hc : cs = l.map vi ++ vL sp) : vs = intC l ++ sp := by
 subst hc
 induction l generalizing vs with
 | nil => simp [denL_vL] at h; simpa [intC] using h.symm
 | cons n l ih =>
  obtain ⟨v, r, rfl, h1, h2⟩ := denL_cons h
  simp only [vi, denC, Option.some.injEq] at h1
  subst h1
  rw [ih h2]; rfl
theorem frz_procs {ι : Ids} {w : World} {S : Nat → Prop} {G' : PH} {kg : Nat → Nat} {spg : Nat → List Value} {sp : List Value} (hG : ∀ b, S b → G' b = w.heap[b]?) (hk : ∀ i, 3 ≤ kg i ∧ kg i ≤ maxLen) : ∀ {ps : List Prc} {ts : List Value} {i : Nat} {vs : List Value} {Ss : List (Nat → Prop)} {ad : Addr},
  owns ι w (regEs spg i ps) Ss → (∀ T ∈ Ss, ∀ x, T x → S x) → denL ι (procCs kg sp i ps ts) = some vs → Tds G' ps ts → gcells G' ad vs → Rw G' 5 (prcRep G') ps ad := by
 intro ps
 induction ps with
 | nil => intros; trivial
 | cons p ps ih =>
  intro ts i vs Ss ad ho hT hd ht hg
  cases ts with
  | nil => exact absurd ht id
  | cons t ts =>
   cases Ss with
   | nil => simp [regEs, owns] at ho
   | cons T Ss =>
    obtain ⟨h1, _, h3⟩ := ho
    obtain ⟨b, us, hb, hus, hgb⟩ := blk_frz h1 (hT T (List.mem_cons_self ..)) hG
    have hus' := denL_intC (l := [p.r0, p.r1, p.r2]) (sp := spg i) hus rfl
    simp only [procCs] at hd
    obtain ⟨v1, r1, rfl, e1, d1⟩ := denL_cons hd
    obtain ⟨v2, r2, rfl, e2, d2⟩ := denL_cons d1
    obtain ⟨v3, r3, rfl, e3, d3⟩ := denL_cons d2
    obtain ⟨v4, r4, rfl, e4, d4⟩ := denL_cons d3
    obtain ⟨v5, r5, rfl, e5, d5⟩ := denL_cons d4
    simp only [denC, hb, vi, Option.some.injEq] at e1 e2 e3 e4 e5
    subst e1 e2 e3 e4 e5 hus'
    have hg2 : gcells G' ad ([.slice (some ⟨b, 0, none⟩) 3 (kg i), t, .int .i64 p.mode, .int .i64 p.on, .int .i64 p.room] ++ r5) := hg
    obtain ⟨q1, q2⟩ := gcells_append hg2
    exact ⟨⟨_, q1, _, _, rfl, intsU_blk hgb rfl (by simp) (hk i).1 (hk i).2, ht.1⟩, ih h3 (fun T hT' => hT T (List.mem_cons_of_mem _ hT')) d5 ht.2 q2⟩
theorem worldV_frz {cs ts : List Value} {W : Wld} {w : World} {S : Nat → Prop} {G G' : PH} (h : (worldV cs W ts).holds w S) (hG : ∀ b, S b → G' b = w.heap[b]?) (hle : G.le G') (ht : Tds G W.procs ts) (hn : W.procs.length ≤ 3) (hl : W.said.length ≤ 1000000000 ∧ W.q0.length ≤ 1000000000 ∧ W.q1.length ≤ 1000000000) : WG G' W (.agg cs.toArray) := by
 obtain ⟨ι, L, Ss, ⟨bp, bc, br, bs, bg, m, x, hbg, hm, hx, rfl, rfl, hcs⟩, ho, hSS⟩ := h
 obtain ⟨⟨k1, k2⟩, ⟨k3, k4⟩, ⟨k5, k6⟩, ⟨k7, k8⟩, k9⟩ := hm
 rw [WX.ok_eq hx] at ho hcs
 have hTS : ∀ T ∈ Ss, ∀ x, T x → S x := fun T hT x hx => (hSS x).2 ⟨T, hT, hx⟩
 match Ss, ho, hTS with
 | T1 :: T2 :: T3 :: T4 :: T5 :: T6 :: T7 :: Tr, ⟨h1, _, h2, _, h3, _, h4, _, h5, _, h6, _, h7, _, h8⟩, hTS =>
  obtain ⟨b1, vs1, e1, d1, g1⟩ := blk_frz h1 (hTS T1 (by simp)) hG
  obtain ⟨b2, vs2, e2, d2, g2⟩ := blk_frz h2 (hTS T2 (by simp)) hG
  obtain ⟨b3, vs3, e3, d3, g3⟩ := blk_frz h3 (hTS T3 (by simp)) hG
  obtain ⟨b4, vs4, e4, d4, g4⟩ := blk_frz h4 (hTS T4 (by simp)) hG
  obtain ⟨n5, c5, l5, g5⟩ := row_frz h5 (hTS T5 (by simp)) hG
  obtain ⟨n6, c6, l6, g6⟩ := row_frz h6 (hTS T6 (by simp)) hG
  obtain ⟨n7, c7, l7, g7⟩ := row_frz h7 (hTS T7 (by simp)) hG
  simp only [wIds, lookI, if_true, Option.some.injEq] at e1 e2 e3 e4
  simp at e1 e2 e3 e4
  subst e1 e2 e3 e4
  have d2' := denL_intC (l := [W.c0, W.c1, W.c2]) (sp := m.spc) d2 rfl
  have d3' := denL_intC (l := [W.m0, W.m1]) (sp := m.spr) d3 rfl
  subst d2' d3'
  have hcs' : cs = [.slice (some ⟨bp, 0, none⟩) W.procs.length m.kp, .slice (some ⟨bc, 0, none⟩) 3 m.kc, .slice (some ⟨br, 0, none⟩) 2 m.kr, .slice (some ⟨bs, 0, none⟩) 2 m.ks, .slice m.asd W.said.length m.ksd] := by
   have : denL (wIds bp bc br bs bg) (wCels W m (WX.of W)) = some [.slice (some ⟨bp, 0, none⟩) W.procs.length m.kp, .slice (some ⟨bc, 0, none⟩) 3 m.kc, .slice (some ⟨br, 0, none⟩) 2 m.kr, .slice (some ⟨bs, 0, none⟩) 2 m.ks, .slice m.asd W.said.length m.ksd] := rfl
   rw [hcs] at this
   exact Option.some.inj this
  subst hcs'
  refine ⟨_, _, _, _, _, J, ?_, intsU_blk g2 J (by simp) k3 k4, intsU_blk g3 J (by simp) k5 k6, ?_, ?_⟩
  ·refine ⟨_, _, J, by omega, k1, k2, .inr ⟨_, J, ?_⟩⟩
   exact frz_procs hG k9 h8 (fun T hT => hTS T (by simp [hT])) d1 (Tds_le hle ht) g1
  ·obtain ⟨u1, r1, rfl, f1, d5⟩ := denL_cons d4
   obtain ⟨u2, r2, rfl, f2, d6⟩ := denL_cons d5
   simp only [denC, Option.some.injEq] at f1 f2
   subst f1 f2
   have a1 : IntsU G' W.q0 (.slice m.aq0 W.q0.length m.kq0) := Sx_Sr ⟨_, _, rfl, hl.2.1, n6, c6, l6, g6⟩ rfl (Cs_intU _)
   have a2 : IntsU G' W.q1 (.slice m.aq1 W.q1.length m.kq1) := Sx_Sr ⟨_, _, rfl, hl.2.2, n7, c7, l7, g7⟩ rfl (Cs_intU _)
   refine ⟨_, _, J, by simp, k7, k8, .inr ⟨_, J, ⟨[_], (show gcells G' _ [_] from ⟨g4.1, trivial⟩), _, J, a1⟩, ⟨[_], (show gcells G' _ [_] from ⟨g4.2.1, trivial⟩), _, J, a2⟩, trivial⟩⟩
  ·exact Sx_Sr ⟨_, _, J, hl.1, n5, c5, l5, g5⟩ J (Cs_sayU _)
section
variable {C : Ctx} {k : List It} {E : Env} {ι : Ids} {L : List Ent} {G : PH}
theorem S_frzV (κ : Nat) {cs ts : List Value} {W : Wld} {L' : List Ent} (hL : getH κ L = some (worldV cs W ts)) (hL' : delH κ L = some L') (hS0 : ∀ b, ¬ C.S0 b) (ht : Tds G W.procs ts) (hn : W.procs.length ≤ 3) (hl : W.said.length ≤ 1000000000 ∧ W.q0.length ≤ 1000000000 ∧ W.q1.length ≤ 1000000000)
  (hk : ∀ G', PH.ext C.w0.heap.size G G' → WG G' W (.agg cs.toArray) → X C k E ι L' G') : X C k E ι L G := by
 intro a w h1 h2 h3 h4
 obtain ⟨S, G', hA, hG, hext, hsat⟩ := h4.frz (a := a) hL hL' hS0
 exact hk G' hext (worldV_frz hA hG hext.le ht hn hl) a w (h1.mono hext.le) h2 h3 hsat
end
def celNo (k : Nat) : Cel → Prop
 | .v _ => True
 | .p j _ => j ≠ k
 | .s j _ _ _ => j ≠ k
def entNo (k : Nat) : Ent → Prop
 | .blk j _ cs => j ≠ k ∧ ∀ c ∈ cs, celNo k c
 | .hp _ _ => True
theorem denC_no {k b : Nat} {ι : Ids} {c : Cel} (h : celNo k c) : denC ((k, b) :: ι) c = denC ι c := by
 cases c with
 | v x => rfl
 | p j o => simp only [denC, lookI]; rw [if_neg h]
 | s j o n m => simp only [denC, lookI]; rw [if_neg h]
theorem denL_no {k b : Nat} {ι : Ids} : ∀ {cs : List Cel}, (∀ c ∈ cs, celNo k c) → denL ((k, b) :: ι) cs = denL ι cs
 | [], _ => rfl
 | c :: cs, h => by
  simp only [denL, denC_no (h c (List.mem_cons_self ..)), denL_no (fun c hc => h c (List.mem_cons_of_mem _ hc))]
theorem owns_no {k b : Nat} {ι : Ids} {w : World} : ∀ {L : List Ent} {Ss : List (Nat → Prop)}, (∀ e ∈ L, entNo k e) → (owns ((k, b) :: ι) w L Ss ↔ owns ι w L Ss)
 | [], [], _ => Iff.rfl
 | [], _ :: _, _ => Iff.rfl
 | _ :: _, [], _ => Iff.rfl
 | e :: L, S :: Ss, h => by
  have he : Ent.holds ((k, b) :: ι) w e S ↔ Ent.holds ι w e S := by
   have := h e (List.mem_cons_self ..)
   cases e with
   | blk j ty cs => simp only [Ent.holds, lookI, denL_no this.2, if_neg this.1]
   | hp j A => exact Iff.rfl
  simp only [owns, he, owns_no (fun e he => h e (List.mem_cons_of_mem _ he))]
theorem vL_no {k : Nat} {l : List Value} : ∀ c ∈ vL l, celNo k c := by
 induction l with
 | nil => intro c hc; cases hc
 | cons v l ih => intro c hc; rcases List.mem_cons.1 hc with rfl | hc; trivial; exact ih c hc
theorem procCs_no {kg : Nat → Nat} {sp : List Value} : ∀ {ps : List Prc} {ts : List Value} {i : Nat}, ∀ c ∈ procCs kg sp i ps ts, celNo 1007 c
 | [], ts, i, c, hc => vL_no c (by cases ts <;> exact hc)
 | p :: ps, [], i, c, hc => vL_no c hc
 | p :: ps, t :: ts, i, c, hc => by
  simp only [procCs, List.mem_cons] at hc
  rcases hc with rfl | rfl | rfl | rfl | rfl | hc
  ·show 1010 + i ≠ 1007; omega
  ·trivial
  ·trivial
  ·trivial
  ·trivial
  ·exact procCs_no c hc
theorem regEs_no {spg : Nat → List Value} : ∀ {ps : List Prc} {i : Nat}, ∀ e ∈ regEs spg i ps, entNo 1007 e
 | [], _, e, he => by cases he
 | p :: ps, i, e, he => by
  rcases List.mem_cons.1 he with rfl | he
  ·refine ⟨by show 1010 + i ≠ 1007; omega, ?_⟩
   intro c hc
   simp only [List.mem_cons] at hc
   rcases hc with rfl | rfl | rfl | hc
   ·trivial
   ·trivial
   ·trivial
   ·exact vL_no c hc
  ·exact regEs_no e he
theorem wEnts_no {W : Wld} {ts : List Value} {m : WM} {x : WX} : ∀ e ∈ wEnts W ts m x, entNo 1007 e := by
 intro e he
 simp only [wEnts, List.mem_cons] at he
 rcases he with rfl | rfl | rfl | rfl | rfl | rfl | rfl | he
 ·exact ⟨by decide, procCs_no⟩
 ·refine ⟨by decide, ?_⟩
  intro c hc
  simp only [List.mem_cons] at hc
  rcases hc with rfl | rfl | rfl | hc
  ·trivial
  ·trivial
  ·trivial
  ·exact vL_no c hc
 ·refine ⟨by decide, ?_⟩
  intro c hc
  simp only [List.mem_cons] at hc
  rcases hc with rfl | rfl | hc
  ·trivial
  ·trivial
  ·exact vL_no c hc
 ·refine ⟨by decide, ?_⟩
  intro c hc
  simp only [List.mem_cons] at hc
  rcases hc with rfl | rfl | hc
  ·trivial
  ·trivial
  ·exact vL_no c hc
 ·trivial
 ·trivial
 ·trivial
 ·exact regEs_no e he
theorem wCels_no {W : Wld} {m : WM} {x : WX} : ∀ c ∈ wCels W m x, celNo 1007 c := by
 intro c hc
 simp only [wCels, List.mem_cons, List.not_mem_nil, or_false] at hc
 rcases hc with rfl | rfl | rfl | rfl | rfl
 ·show 1000 ≠ 1007; decide
 ·show 1001 ≠ 1007; decide
 ·show 1002 ≠ 1007; decide
 ·show 1003 ≠ 1007; decide
 ·trivial
section
variable {C : Ctx} {k : List It} {E : Env} {ι : Ids} {L : List Ent} {G : PH}
theorem S_V2P (key κ κ' : Nat) {b : Nat} {cs ts : List Value} {cels : List Cel} {W : Wld} {L1 L2 : List Ent} (hj : lookI key ι = some b) (hB : lookB key L = some (35, cels)) (hd : denL ι cels = some cs) (hL1 : delB key L = some L1) (hL : getH κ L1 = some (worldV cs W ts)) (hL2 : delH κ L1 = some L2)
  (hk : X C k E ι (.hp κ' (worldP b W ts) :: L2) G) : X C k E ι L G := by
 intro a w g1 g2 g3 g4
 obtain ⟨Ss, ho, hS⟩ := g4.own
 obtain ⟨S, Ss', b', hb', hh, hSb, hm, ho', hT⟩ := owns_delB hd ho hB hL1
 rw [hj] at hb'; cases hb'
 obtain ⟨U, Ss2, ⟨ι0, L0, Ss0, ⟨bp, bc, br, bs, bg, m, x, hbg, hmk, hx, rfl, rfl, hcs⟩, hown, hU⟩, hm2, ho2, hT2⟩ := owns_del ho' hL hL2
 refine hk a w g1 g2 g3 ⟨g4.os, g4.tape, g4.output, g4.size, g4.keep, g4.emb, (fun x => S x ∨ U x) :: Ss2, ⟨⟨_, _, S :: Ss0, ⟨bp, bc, br, bs, bg, m, x, hbg, hmk, hx, J, J⟩, ⟨⟨b, cs, by simp [lookI], by rw [denL_no wCels_no]; exact hcs, hh, hSb⟩, fun T hT' y hy hy' => ?_, (owns_no wEnts_no).2 hown⟩, fun y => ?_⟩, ?_, ho2⟩, ?_⟩
 ·exact (hT U hm2).2 y ((hU y).2 ⟨T, hT', hy'⟩) hy
 ·constructor
  ·rintro (h | h)
   ·exact ⟨S, List.mem_cons_self .., h⟩
   ·obtain ⟨T, hT', hy⟩ := (hU y).1 h
    exact ⟨T, List.mem_cons_of_mem _ hT', hy⟩
  ·rintro ⟨T, hT', hy⟩
   rcases List.mem_cons.1 hT' with rfl | hT'
   ·exact .inl hy
   ·exact .inr ((hU y).2 ⟨T, hT', hy⟩)
 ·rintro T hT' y (hy | hy) hy'
  ·exact (hT T (hT2 T hT').1).2 y hy' hy
  ·exact (hT2 T hT').2 y hy' hy
 ·intro T hT' y hy
  rcases List.mem_cons.1 hT' with rfl | hT'
  ·rcases hy with hy | hy
   ·exact hS S hm y hy
   ·exact hS U (hT U hm2).1 y hy
  ·exact hS T (hT T (hT2 T hT').1).1 y hy
theorem S_P2V (κ key κ' : Nat) {b : Nat} {ts : List Value} {W : Wld} {L1 : List Ent} (hL : getH κ L = some (worldP b W ts)) (hL1 : delH κ L = some L1) (hf : lookI key ι = none)
  (hk : ∀ cs, X C k E ((key, b) :: ι) (.blk key 35 (vL cs) :: .hp κ' (worldV cs W ts) :: L1) G) : X C k E ι L G := by
 intro a w g1 g2 g3 g4
 obtain ⟨Ss, ho, hS⟩ := g4.own
 obtain ⟨S, Ss', ⟨ι0, L0, Ss0, ⟨bp, bc, br, bs, bg, m, x, hbg, hmk, hx, rfl, rfl⟩, hown, hU⟩, hm, ho', hT⟩ := owns_del ho hL hL1
 cases Ss0 with
 | nil => exact absurd hown id
 | cons B Bs =>
  obtain ⟨⟨b', cs, hb', hd, hh, hB⟩, hdis, hown⟩ := hown
  simp only [lookI, if_true, Option.some.injEq] at hb'
  subst hb'
  rw [denL_no wCels_no] at hd
  rw [owns_no wEnts_no] at hown
  refine hk cs a w g1 g2 (g3.ids hf) ⟨g4.os, g4.tape, g4.output, g4.size, g4.keep, g4.emb, B :: (fun x => ∃ T ∈ Bs, T x) :: Ss', ⟨⟨b, cs, by simp [lookI], denL_vL _ _, hh, hB⟩, ?_, ⟨_, _, Bs, ⟨bp, bc, br, bs, bg, m, x, hbg, hmk, hx, rfl, rfl, hd⟩, hown, fun y => Iff.rfl⟩, ?_, owns_ids ho' hf⟩, ?_⟩
  ·intro T hT' y hy hy'
   rcases List.mem_cons.1 hT' with rfl | hT'
   ·obtain ⟨T, hT2, hy2⟩ := hy'
    exact hdis T hT2 y hy hy2
   ·exact (hT T hT').2 y hy' ((hU y).2 ⟨B, List.mem_cons_self .., hy⟩)
  ·rintro T hT' y ⟨T2, hT2, hy2⟩ hy'
   exact (hT T hT').2 y hy' ((hU y).2 ⟨T2, List.mem_cons_of_mem _ hT2, hy2⟩)
  ·intro T hT' y hy
   rcases List.mem_cons.1 hT' with rfl | hT'
   ·exact hS S hm y ((hU y).2 ⟨_, List.mem_cons_self .., hy⟩)
   rcases List.mem_cons.1 hT' with rfl | hT'
   ·obtain ⟨T2, hT2, hy2⟩ := hy
    exact hS S hm y ((hU y).2 ⟨T2, List.mem_cons_of_mem _ hT2, hy2⟩)
   ·exact hS T (hT T hT').1 y hy
end
end
section
attribute [local irreducible] X Pure Mod
def proc0 (l : List Stm) : Prc := ⟨0, 0, 0, l, 0, 0, -1⟩
def open0 (p : List (List Stm)) : Wld := ⟨p.map proc0, 0, 0, 0, 0, 0, [], [], []⟩
def wZero : Value := .agg #[.slice none 0 0, .slice none 0 0, .slice none 0 0, .slice none 0 0, .slice none 0 0]
def OPost (p : List (List Stm)) (W : Wld) (v : Value) (G' : PH) (A' : HP) : Prop := (progOk p = true ∧ ∃ cs ts, v = .agg cs.toArray ∧ A' = worldV cs W ts ∧ Tds G' W.procs ts) ∨ (progOk p = false ∧ v = wZero ∧ A' = emptyHP)
def procX : List (Nat × Value) → List Value
  | [] => []
  | (b, t) :: q => [.slice (some ⟨b, 0, none⟩) 3 3, t, .int .i64 0, .int .i64 0, .int .i64 (-1)] ++ procX q
theorem procX_snoc (q : List (Nat × Value)) (b : Nat) (t : Value) : procX (q ++ [(b, t)]) = procX q ++ [.slice (some ⟨b, 0, none⟩) 3 3, t, .int .i64 0, .int .i64 0, .int .i64 (-1)] := by
  induction q with
  | nil => simp [procX]
  | cons x q ih => obtain ⟨b', t'⟩ := x; simp [procX, ih]
def regsHP (q : List (Nat × Value)) : HP := starHP (q.reverse.map fun x => blkHP x.1 3 [.int .i64 0, .int .i64 0, .int .i64 0])
theorem regsHP_snoc (q : List (Nat × Value)) (b : Nat) (t : Value) : regsHP (q ++ [(b, t)]) = pairHP (blkHP b 3 [.int .i64 0, .int .i64 0, .int .i64 0]) (regsHP q) := by simp [regsHP, starHP]
def Qds (G : PH) : List (List Stm) → List (Nat × Value) → Prop
  | [], [] => True
  | l :: p, x :: q => Sts G l x.2 ∧ Qds G p q
  | _, _ => False
theorem Qds_le {G G' : PH} (hl : G.le G') : ∀ {p : List (List Stm)} {q : List (Nat × Value)}, Qds G p q → Qds G' p q
  | [], [], _ => trivial
  | _ :: _, _ :: _, h => ⟨Sts_le hl h.1, Qds_le hl h.2⟩
  | [], _ :: _, h => h
  | _ :: _, [], h => h
theorem Qds_snoc {G : PH} {l : List Stm} {x : Nat × Value} (hx : Sts G l x.2) : ∀ {p : List (List Stm)} {q : List (Nat × Value)}, Qds G p q → Qds G (p ++ [l]) (q ++ [x])
  | [], [], _ => ⟨hx, trivial⟩
  | _ :: p, _ :: q, h => ⟨h.1, Qds_snoc hx h.2⟩
  | [], _ :: _, h => absurd h id
  | _ :: _, [], h => absurd h id
theorem Qds_Tds {G : PH} : ∀ {p : List (List Stm)} {q : List (Nat × Value)}, Qds G p q → Tds G (p.map proc0) (q.map (·.2))
  | [], [], _ => trivial
  | _ :: p, _ :: q, h => ⟨h.1, Qds_Tds h.2⟩
  | [], _ :: _, h => absurd h id
  | _ :: _, [], h => absurd h id
theorem prg_at {G : PH} {p : List (List Stm)} {A : Option Addr} {n c : Nat} (h : Prg G p (.slice A n c)) {i : Nat} (hi : i < p.length) : ∃ ad v, A = some ad ∧ gcell G (ad.add (i * 1)) = some v ∧ Sts G p[i] v := by
  obtain ⟨ad, cs, rfl, h1, v, rfl, h2⟩ := Sr_at h hi
  exact ⟨ad, v, J, h1.1, h2⟩
def Off0 (A : Option Addr) : Prop := A = none ∨ ∃ g, A = some ⟨g, 0, none⟩
structure OS where
  i : Nat
  A : Option Addr
  c : Nat
  q : List (Nat × Value)
  G : PH
theorem mok0 {kp n : Nat} (h : n ≤ kp ∧ kp ≤ maxLen) : mOk kp 3 2 2 (fun _ => 3) n := ⟨h, by decide, by decide, by decide, fun _ => show 3 ≤ 3 ∧ 3 ≤ maxLen from by decide⟩
theorem c_l3Open (p : List (List Stm)) (pv : Value) (G : PH) (hp : PrgS G p pv) : Mod Tryz.prog 45 [pv] G emptyHP (OPost p (open0 p)) := by
  obtain ⟨hpp, hsh, hpl⟩ := id hp
  obtain ⟨A, c, rfl, hl1, _⟩ := id hpp
  refine Mod.intro Tryz.func45 Tryz.ntmps45 J J fun w S => ?_;refine Va J J ?_;refine AZ ZT_ok J J J J fun b2 => ?_;refine Va J J ?_;refine S_call Tryz.call25 (c_ProgOk p _ G hpp) J J J ?_;rintro v G5 ⟨rfl, rfl⟩ _
  refine Va J J ?_
  refine S_cond J (fun h => ?_) (fun h => ?_) <;> refine Va J J ?_
  · have hpo : progOk p = false := by simpa using h
    exact S_retm 1 (Res.c1 Tk Tryz.results45 J J) J XR (.inr ⟨hpo, J, J⟩)
  have hpo : progOk p = true := by simpa using h
  have hp13 : 1 ≤ p.length ∧ p.length ≤ 3 := by simp only [progOk, Bool.and_eq_true, decide_eq_true_eq] at hpo; exact ⟨hpo.1.2, hpo.2⟩
  refine S_cut (α := Nat × Nat × Nat × Nat × Option Addr) (fun _ => True) (fun y => [(2, b2), (3, y.1), (9, y.2.1), (10, y.2.2.1), (11, y.2.2.2.1)]) (fun y => [(0, .val (.slice A p.length c)), (2, .ptr 2 0), (3, .ptr 3 0)])
    (fun y => [.blk 2 35 (vL [.slice none 0 0, .slice none 0 0, .slice none 0 0, .slice none 0 0, .slice none 0 0]), .blk 3 35 [.v (.slice none 0 0), .s 9 0 3 3, .s 10 0 2 2, .s 11 0 2 2, .v (.slice y.2.2.2.2 0 0)], .blk 9 3 (vL [.int .i64 0, .int .i64 0, .int .i64 0]), .blk 10 3 (vL [.int .i64 0, .int .i64 0]), .blk 11 31 (vL [.slice none 0 0, .slice none 0 0]), .hp 12 (rowO w.heap.size 71 2 y.2.2.2.2 0 0 []), .hp 1 emptyHP]) (fun _ => G5) ?_ ?_
  ·
    refine Ds J J J ?_;refine Da J J ?_
    repeat' (first
      | exact trivial
      | (refine D_list J ?_)
      | refine And.intro ?_ ?_
      | (refine N_turn Tk _ J J J J fun back => ?_
         first
           | refine S_make Tk ZT_ok J J J J J J (by decide) (by decide) J J J fun bm => ?_
           | refine S_emptyO Tk 12 J J J J fun A12 => ?_
           | refine AZ ZT_ok J J J J fun ba => ?_
         refine back _ _ _ _ (by kernel_rfl) ?_
         clear back
         refine Da J J ?_)
      | fail)
    all_goals (refine N_store Tk 6 rfl rfl rfl rfl rfl rfl rfl rfl (by kernel_rfl) ?_)
    all_goals refine D_adv Tk (by decide) rfl rfl ?_
    all_goals (refine DD ?_)
    all_goals refine S_adv Tk rfl 1000 rfl ?_
    all_goals (refine S_pick [2, 3, 9, 10, 11, 12, 1] rfl ?_)
    all_goals exact S_meet (_, _, _, _, _) trivial rfl ⟨⟨_, rfl, rfl⟩, ⟨_, rfl, rfl⟩, ⟨_, rfl, rfl⟩, trivial⟩ (.blk rfl rfl (.blk rfl rfl (.blk rfl rfl (.blk rfl rfl (.blk rfl rfl (.hp (.hp .nil)))))))
  rintro ⟨b3, b9, b10, b11, A12⟩ _
  simp only
  refine S_nilO (base := w.heap.size) (e := 38) (size := 5) 20 ?_;refine S_newE 21 ?_;refine Va J J ?_;refine S_loop (α := OS) (fun y => y.i ≤ p.length ∧ y.q.length = y.i ∧ PH.ext w.heap.size G5 y.G ∧ Qds y.G (p.take y.i) y.q ∧ Off0 y.A ∧ ∀ x ∈ y.q, ∃ A n c, x.2 = .slice A n c) (fun y => p.length - y.i) [(2, b2), (3, b3), (9, b9), (10, b10), (11, b11)]
    (fun y => [(4, .val (.int .i64 (y.i : Nat))), (0, .val (.slice A p.length c)), (2, .ptr 2 0), (3, .ptr 3 0)])
    (fun y => [.hp 21 (regsHP y.q), .hp 20 (rowO w.heap.size 38 5 y.A y.q.length y.c (procX y.q)), .blk 2 35 (vL [.slice none 0 0, .slice none 0 0, .slice none 0 0, .slice none 0 0, .slice none 0 0]), .blk 3 35 [.v (.slice y.A y.q.length y.c), .s 9 0 3 3, .s 10 0 2 2, .s 11 0 2 2, .v (.slice A12 0 0)], .blk 9 3 (vL [.int .i64 0, .int .i64 0, .int .i64 0]), .blk 10 3 (vL [.int .i64 0, .int .i64 0]), .blk 11 31 (vL [.slice none 0 0, .slice none 0 0]), .hp 12 (rowO w.heap.size 71 2 A12 0 0 []), .hp 1 emptyHP]) (fun y => y.G) ⟨0, none, 0, [], G5⟩ ⟨Nat.zero_le _, rfl, PH.ext.refl _ _, trivial, .inl rfl, by simp⟩ rfl ?_ ?_ ?_
  · exact ⟨⟨_, J, J⟩, ⟨_, J, J⟩, ⟨_, J, J⟩, ⟨_, J, J⟩, trivial⟩
  · exact .hp (.hp (.blk J J (.blk J J (.blk J J (.blk J J (.blk J J (.hp (.hp .nil))))))))
  rintro ⟨i, A5, c5, q, G1⟩ ⟨hi, hq, hext, hqd, hoff, hqs⟩
  simp only at hi hq hext hqd hoff hqs ⊢
  refine Va J J ?_
  refine S_condp J (fun h5 => ?_) (fun h5 => ?_) <;> refine Va J J ?_
  · have hil : i < p.length := by omega
    obtain ⟨ad, lv, rfl, hcell, hlv⟩ := prg_at (Prg_le hext.le hpp) hil
    obtain ⟨Al, cl, xsl, rfl, hxl, hxg, hcs⟩ := sts_cells hlv
    have hll := (hsh _ (List.getElem_mem hil)).1
    refine S_cut (α := Nat × Option Addr × Nat × Option Addr × Nat) (fun y => Off0 y.2.2.2.1) (fun y => [(2, b2), (3, b3), (9, b9), (10, b10), (11, b11), (22, y.1)]) (fun y => [(4, .val (.int .i64 (i : Nat))), (0, .val (.slice (some ad) p.length c)), (2, .ptr 2 0), (3, .ptr 3 0)])
      (fun y => [.hp 21 (regsHP q), .hp 20 (rowO w.heap.size 38 5 y.2.2.2.1 (q.length + 1) y.2.2.2.2 (procX q ++ [.slice (some ⟨y.1, 0, none⟩) 3 3, .slice y.2.1 (0 + p[i].length) y.2.2.1, .int .i64 0, .int .i64 0, .int .i64 (-1)])), .hp 23 (rowO w.heap.size 94 6 y.2.1 (0 + p[i].length) y.2.2.1 ([] ++ xsl)), .blk 22 3 (vL [.int .i64 0, .int .i64 0, .int .i64 0]), .blk 2 35 (vL [.slice none 0 0, .slice none 0 0, .slice none 0 0, .slice none 0 0, .slice none 0 0]), .blk 3 35 [.v (.slice y.2.2.2.1 (q.length + 1) y.2.2.2.2), .s 9 0 3 3, .s 10 0 2 2, .s 11 0 2 2, .v (.slice A12 0 0)], .blk 9 3 (vL [.int .i64 0, .int .i64 0, .int .i64 0]), .blk 10 3 (vL [.int .i64 0, .int .i64 0]), .blk 11 31 (vL [.slice none 0 0, .slice none 0 0]), .hp 12 (rowO w.heap.size 71 2 A12 0 0 []), .hp 1 emptyHP]) (fun _ => G1) ?_ ?_
    ·
      refine Ds J J J ?_;refine Da J J ?_
      repeat' (first
        | exact trivial
        | (refine D_list J ?_)
        | refine And.intro ?_ ?_
        | (refine N_turn Tk _ J J J J fun back => ?_
           first
             | refine S_make Tk ZT_ok J J J J J J (by decide) (by decide) J J J fun bm => ?_
             | refine S_emptyO Tk 23 J J J J fun A12 => ?_
             | refine S_appO Tk 23 J J J J J J J J J J J (fun _ _ => J) (src_G hxl hxg) (Cs_one Stm.rep_one hcs) (by simp only; omega) (by simp only [maxLen]; omega) (Nat.le_refl _) fun A4 c4 => ?_
             | refine S_slice Tk ZT_ok J J J J (by decide) (by decide) J J J J fun b2 => ?_
             | refine S_app1z Tk 20 30 J J J J J J J J J J J J J J (by intro u hu; simp at hu; rcases hu with rfl | rfl | rfl | rfl | rfl <;> rfl) rfl (fun _ _ => rfl) (by omega) (Nat.le_refl _) fun A6 c6 h6 => ?_
             | refine S_index Tk J J J J J J (by omega) (by omega) ?_
             | refine S_load Tk J J J J J (by simpa using hcell) ?_
             | fail
           refine back _ _ _ _ (by kernel_rfl) ?_
           clear back
           refine Da J J ?_)
        | fail)
      all_goals (refine N_store Tk 13 rfl rfl rfl rfl rfl rfl rfl rfl (by kernel_rfl) ?_)
      all_goals refine D_adv Tk (by decide) rfl rfl ?_
      all_goals (refine DD ?_)
      all_goals refine S_adv Tk rfl 1000 rfl ?_
      all_goals (refine S_pick [21, 20, 23, 22, 2, 3, 9, 10, 11, 12, 1] rfl ?_)
      all_goals exact S_meet (_, _, _, _, _) (by rename_i h6; rcases h6 with h6 | h6; exact h6 ▸ hoff; exact .inr h6) J ⟨⟨_, J, J⟩, ⟨_, J, J⟩, ⟨_, J, J⟩, ⟨_, J, J⟩, trivial⟩ (.hp (.hp (.hp (.blk J J (.blk J J (.blk J J (.blk J J (.blk J J (.blk J J (.hp (.hp .nil)))))))))))
    rintro ⟨b22, A23, c23, A6, c6⟩ hoff6
    simp only at hoff6 ⊢
    refine S_freezeR 23 J J (Nat.le_refl _) fun G2 hext2 hnc hcm hcl => ?_
    have hv : Sts G2 p[i] (.slice A23 (0 + p[i].length) c23) := frz (Cs_mono (Stm.reps_le hext2.le _) (by simpa using hcs)) (by omega) (by omega) hnc hcm hcl
    refine S_Bhp 22 24 J J J J ?_;refine S_pair 24 21 25 J J J J ?_;refine Va J J ?_;refine S_add J J J J (by omega) ?_;refine Va J J ?_;refine S_again ⟨i + 1, A6, c6, q ++ [(b22, .slice A23 (0 + p[i].length) c23)], G2⟩ ⟨by simp only; omega, by simp; omega, hext.trans hext2, ?_, hoff6, ?_⟩ (by simp only; omega) rfl ⟨⟨_, rfl, by simp [denO]⟩, ⟨_, rfl, rfl⟩, ⟨_, rfl, rfl⟩, ⟨_, rfl, rfl⟩, trivial⟩ ?_
    · simp only
      rw [List.take_succ_eq_append_getElem hil]
      exact Qds_snoc hv (Qds_le hext2.le hqd)
    · intro x hx
      rcases List.mem_append.1 hx with hx | hx
      · exact hqs x hx
      · rw [List.mem_singleton.1 hx]; exact ⟨_, _, _, J⟩
    · simp only [regsHP_snoc, procX_snoc, List.length_append, List.length_singleton]
      exact .hp (.hp (.blk J J (.blk J J (.blk J J (.blk J J (.blk J J (.hp (.hp .nil))))))))
  · have hin : i = p.length := by omega
    subst hin
    rw [List.take_length] at hqd
    refine S_capO 20 J fun hnc5 hcm5 _ => ?_;refine S_someO 20 J (by omega) fun gp offp eA => ?_;obtain rfl : offp = 0 := by
      rcases hoff with h | ⟨g, h⟩
      · rw [h] at eA; cases eA
      · rw [h] at eA; cases eA; rfl
    subst eA
    refine S_rowB 20 20 J J J fun sp => ?_;refine S_nilO (base := 0) (e := 3) (size := 1) 30 ?_;refine S_nilO (base := 0) (e := 3) (size := 1) 31 ?_;refine S_base0 12 J J ?_
    rcases (by omega : p.length = 1 ∨ p.length = 2 ∨ p.length = 3) with h1 | h1 | h1
    · obtain ⟨l0, rfl⟩ := len1 h1
      obtain ⟨⟨g0, t0⟩, rfl⟩ := len1 (hq.trans h1)
      refine S_unpair 21 500 600 J J ?_;refine S_hpB 500 40 J J J ?_;exact RK [20, 9, 10, 11, 12, 30, 31, 40] (Res.c1 Tk Tryz.results45 rfl rfl) (.inl ⟨hpo, _, [t0], rfl, rfl, Qds_Tds hqd⟩) ⟨gp, b9, b10, b11, [g0], ⟨c5, sp, A12, 0, none, 0, none, 0, 3, [], 2, [], 2, [], fun _ => 3, fun _ => []⟩, ⟨0, [], 0, [], 0, []⟩, rfl, (mok0 ⟨by simpa [open0] using hnc5, hcm5⟩), ⟨⟨rfl, rfl⟩, ⟨rfl, rfl⟩, rfl, rfl⟩, rfl, rfl, rfl⟩ rfl (Bs 5 rfl rfl rfl rfl (.blk rfl rfl (.blk rfl rfl (.blk rfl rfl (.hp (.hp (.hp (.blk rfl rfl .nil)))))))) hext
    · obtain ⟨l0, l1, rfl⟩ := len2 h1
      obtain ⟨⟨g0, t0⟩, ⟨g1, t1⟩, rfl⟩ := len2 (hq.trans h1)
      refine S_unpair 21 501 601 J J ?_;refine S_hpB 501 41 J J J ?_;refine S_unpair 601 500 600 J J ?_;refine S_hpB 500 40 J J J ?_;exact RK [20, 9, 10, 11, 12, 30, 31, 40, 41] (Res.c1 Tk Tryz.results45 rfl rfl) (.inl ⟨hpo, _, [t0, t1], rfl, rfl, Qds_Tds hqd⟩) ⟨gp, b9, b10, b11, [g0, g1], ⟨c5, sp, A12, 0, none, 0, none, 0, 3, [], 2, [], 2, [], fun _ => 3, fun _ => []⟩, ⟨0, [], 0, [], 0, []⟩, rfl, (mok0 ⟨by simpa [open0] using hnc5, hcm5⟩), ⟨⟨rfl, rfl⟩, ⟨rfl, rfl⟩, rfl, rfl⟩, rfl, rfl, rfl⟩ rfl (Bs 10 rfl rfl rfl rfl (.blk rfl rfl (.blk rfl rfl (.blk rfl rfl (.hp (.hp (.hp (.blk rfl rfl (.blk rfl rfl .nil))))))))) hext
    · obtain ⟨l0, l1, l2, rfl⟩ := len3 h1
      obtain ⟨⟨g0, t0⟩, ⟨g1, t1⟩, ⟨g2, t2⟩, rfl⟩ := len3 (hq.trans h1)
      refine S_unpair 21 502 602 J J ?_;refine S_hpB 502 42 J J J ?_;refine S_unpair 602 501 601 J J ?_;refine S_hpB 501 41 J J J ?_;refine S_unpair 601 500 600 J J ?_;refine S_hpB 500 40 J J J ?_;exact RK [20, 9, 10, 11, 12, 30, 31, 40, 41, 42] (Res.c1 Tk Tryz.results45 rfl rfl) (.inl ⟨hpo, _, [t0, t1, t2], rfl, rfl, Qds_Tds hqd⟩) ⟨gp, b9, b10, b11, [g0, g1, g2], ⟨c5, sp, A12, 0, none, 0, none, 0, 3, [], 2, [], 2, [], fun _ => 3, fun _ => []⟩, ⟨0, [], 0, [], 0, []⟩, rfl, (mok0 ⟨by simpa [open0] using hnc5, hcm5⟩), ⟨⟨rfl, rfl⟩, ⟨rfl, rfl⟩, rfl, rfl⟩, rfl, rfl, rfl⟩ rfl (Bs 15 rfl rfl rfl rfl (.blk rfl rfl (.blk rfl rfl (.blk rfl rfl (.hp (.hp (.hp (.blk rfl rfl (.blk rfl rfl (.blk rfl rfl .nil)))))))))) hext
end
end Go.Proofs.YtbecgghgcglafaaGreatDoor
