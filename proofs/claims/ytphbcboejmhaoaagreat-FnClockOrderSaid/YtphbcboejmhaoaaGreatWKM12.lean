/- Walks of the program's functions, one after the other (part 12); without conditions of their own. -/
import Derived.Test.YtphbcboejmhaoaaGreatWM2
import Derived.Test.YtphbcboejmhaoaaGreatWM3
import Derived.Test.YtphbcboejmhaoaaGreatWM4
import Derived.Test.YtphbcboejmhaoaaGreatWM6
import Derived.Test.YtphbcboejmhaoaaGreatWM9
import Derived.Test.YtphbcboejmhaoaaGreatWM10
import Derived.Test.YtphbcboejmhaoaaGreatWM11
import Derived.ChangeShapes
set_option linter.unusedVariables false
set_option linter.unusedSimpArgs false
set_option maxRecDepth 100000
set_option maxHeartbeats 4000000
open Go.RowKit
namespace Go.Proofs.YtphbcboejmhaoaaGreat
section
attribute [local irreducible] X Pure Mod
theorem c_opened (p : List (List Stm)) (pv : Value) (G : PH) (hpp : Prg G p pv) (hp13 : 1 ≤ p.length ∧ p.length ≤ 3) : Mod Tryz.prog 56 [pv] G emptyHP fun v G' A' => ∃ cs ts, v = .agg cs.toArray ∧ A' = worldV cs (open0 p) ts ∧ Tds G' (open0 p).procs ts := by
  obtain ⟨A, c, rfl, hl1, _⟩ := id hpp
  refine Mod.intro Tryz.func56 Tryz.ntmps56 J J fun w S => ?_;refine Va J J ?_;refine AZ ZT_ok J J J J fun b2 => ?_;refine Va J J ?_;refine S_cut (α := Nat × Nat × Nat × Nat) (fun _ => True) (fun y => [(2, b2), (3, y.1), (6, y.2.1), (7, y.2.2.1), (8, y.2.2.2)]) (fun y => [(0, .val (.slice A p.length c)), (2, .ptr 2 0), (3, .ptr 3 0)])
    (fun y => [.blk 2 56 (vL [.slice none 0 0, .slice none 0 0, .slice none 0 0, .slice none 0 0, .slice none 0 0]), .blk 3 56 [.v (.slice none 0 0), .s 6 0 3 3, .s 7 0 2 2, .s 8 0 2 2, .v (.slice none 0 0)], .blk 6 3 (vL [.int .i64 0, .int .i64 0, .int .i64 0]), .blk 7 3 (vL [.int .i64 0, .int .i64 0]), .blk 8 24 (vL [.slice none 0 0, .slice none 0 0]), .hp 1 emptyHP]) (fun _ => G) ?_ ?_
  · refine Ds J J J ?_
    refine Da J J ?_
    repeat' (first
      | exact trivial
      | (refine D_list J ?_)
      | refine And.intro ?_ ?_
      | (refine N_turn Tk _ J J J J fun back => ?_
         first
           | refine S_make Tk ZT_ok J J J J J J (by decide) (by decide) J J J fun bm => ?_
           | refine AZ ZT_ok J J J J fun ba => ?_
           | fail
         refine back _ _ _ _ (by kernel_rfl) ?_
         clear back
         refine Da J J ?_)
      | fail)
    all_goals (refine N_store Tk 5 rfl rfl rfl rfl rfl rfl rfl rfl (by kernel_rfl) ?_)
    all_goals refine D_adv Tk (by decide) rfl rfl ?_
    all_goals (refine DD ?_)
    all_goals refine S_adv Tk rfl 1000 rfl ?_
    all_goals (refine S_pick [2, 3, 6, 7, 8, 1] rfl ?_)
    all_goals exact S_meet (_, _, _, _) trivial rfl ⟨⟨_, rfl, rfl⟩, ⟨_, rfl, rfl⟩, ⟨_, rfl, rfl⟩, trivial⟩ (.blk rfl rfl (.blk rfl rfl (.blk rfl rfl (.blk rfl rfl (.blk rfl rfl (.hp .nil))))))
  rintro ⟨b3, b9, b10, b11⟩ _
  simp only
  refine S_nilO (base := w.heap.size) (e := 101) (size := 5) 20 ?_;refine S_newE 21 ?_;refine Va J J ?_;refine S_loop (α := OS) (fun y => y.i ≤ p.length ∧ y.q.length = y.i ∧ PH.ext w.heap.size G y.G ∧ Qds y.G (p.take y.i) y.q ∧ Off0 y.A ∧ ∀ x ∈ y.q, ∃ A n c, x.2 = .slice A n c) (fun y => p.length - y.i) [(2, b2), (3, b3), (6, b9), (7, b10), (8, b11)]
    (fun y => [(12, .val (.int .i64 (y.i : Nat))), (10, .val (.slice A p.length c)), (11, .val (.int .i64 (p.length : Nat))), (2, .ptr 2 0), (3, .ptr 3 0)])
    (fun y => [.hp 21 (regsHP y.q), .hp 20 (rowO w.heap.size 101 5 y.A y.q.length y.c (procX y.q)), .blk 2 56 (vL [.slice none 0 0, .slice none 0 0, .slice none 0 0, .slice none 0 0, .slice none 0 0]), .blk 3 56 [.v (.slice y.A y.q.length y.c), .s 6 0 3 3, .s 7 0 2 2, .s 8 0 2 2, .v (.slice none 0 0)], .blk 6 3 (vL [.int .i64 0, .int .i64 0, .int .i64 0]), .blk 7 3 (vL [.int .i64 0, .int .i64 0]), .blk 8 24 (vL [.slice none 0 0, .slice none 0 0]), .hp 1 emptyHP]) (fun y => y.G) ⟨0, none, 0, [], G⟩ ⟨Nat.zero_le _, rfl, PH.ext.refl _ _, trivial, .inl rfl, by simp⟩ rfl ?_ ?_ ?_
  · exact ⟨⟨_, J, J⟩, ⟨_, J, J⟩, ⟨_, J, J⟩, ⟨_, J, J⟩, ⟨_, J, J⟩, trivial⟩
  · exact .hp (.hp (.blk J J (.blk J J (.blk J J (.blk J J (.blk J J (.hp .nil)))))))
  rintro ⟨i, A5, c5, q, G1⟩ ⟨hi, hq, hext, hqd, hoff, hqs⟩
  simp only at hi hq hext hqd hoff hqs ⊢
  refine Va J J ?_
  refine S_condp J (fun h5 => ?_) (fun h5 => ?_) <;> refine Va J J ?_
  · have hil : i < p.length := by omega
    obtain ⟨ad, lv, rfl, hcell, hlv⟩ := prg_at (Prg_le hext.le hpp) hil
    obtain ⟨Al, cl, rfl, _⟩ := id hlv
    refine S_index Tk J J J J J J (by omega) (by omega) ?_;refine Va J J ?_;refine S_load Tk J J J J J (by simpa using hcell) ?_;refine Va J J ?_;refine S_cut (α := Nat × Option Addr × Nat × PH × Option Addr × Nat) (fun y => Sts y.2.2.2.1 p[i] (.slice y.2.1 p[i].length y.2.2.1) ∧ PH.ext w.heap.size G1 y.2.2.2.1 ∧ Off0 y.2.2.2.2.1) (fun y => [(2, b2), (3, b3), (6, b9), (7, b10), (8, b11), (18, y.1)]) (fun y => [(12, .val (.int .i64 (i : Nat))), (10, .val (.slice (some ad) p.length c)), (11, .val (.int .i64 (p.length : Nat))), (2, .ptr 2 0), (3, .ptr 3 0)])
      (fun y => [.hp 21 (regsHP q), .hp 20 (rowO w.heap.size 101 5 y.2.2.2.2.1 (q.length + 1) y.2.2.2.2.2 (procX q ++ [.slice (some ⟨y.1, 0, none⟩) 3 3, .slice y.2.1 p[i].length y.2.2.1, .int .i64 0, .int .i64 0, .int .i64 (-1)])), .blk 18 3 (vL [.int .i64 0, .int .i64 0, .int .i64 0]), .blk 2 56 (vL [.slice none 0 0, .slice none 0 0, .slice none 0 0, .slice none 0 0, .slice none 0 0]), .blk 3 56 [.v (.slice y.2.2.2.2.1 (q.length + 1) y.2.2.2.2.2), .s 6 0 3 3, .s 7 0 2 2, .s 8 0 2 2, .v (.slice none 0 0)], .blk 6 3 (vL [.int .i64 0, .int .i64 0, .int .i64 0]), .blk 7 3 (vL [.int .i64 0, .int .i64 0]), .blk 8 24 (vL [.slice none 0 0, .slice none 0 0]), .hp 1 emptyHP]) (fun y => y.2.2.2.1) ?_ ?_
    · refine Ds J J J ?_
      refine Da J J ?_
      repeat' (first
        | exact trivial
        | (refine D_list J ?_)
        | refine And.intro ?_ ?_
        | (refine N_call 4 Tryz.call76 (c_copyStmts _ _ _ hlv) J J J J J J J J J J ?_
           rintro v4 G4 hv4 hext4
           obtain ⟨A4, c4, rfl, _⟩ := id hv4
           refine Da J J ?_)
        | (refine N_turn Tk _ J J J J fun back => ?_
           first
             | refine S_make Tk ZT_ok J J J J J J (by decide) (by decide) J J J fun bm => ?_
             | refine S_slice Tk ZT_ok J J J J (by decide) (by decide) J J J J fun b22 => ?_
             | refine S_app1z Tk 20 22 J J J J J J J J J J J J J J (by intro u hu; simp at hu; rcases hu with rfl | rfl | rfl | rfl | rfl <;> rfl) rfl (fun _ _ => rfl) (by omega) (Nat.le_refl _) fun A6 c6 h6 => ?_
             | fail
           refine back _ _ _ _ (by kernel_rfl) ?_
           clear back
           refine Da J J ?_)
        | fail)
      all_goals (refine N_store Tk 9 rfl rfl rfl rfl rfl rfl rfl rfl (by kernel_rfl) ?_)
      all_goals refine D_adv Tk (by decide) rfl rfl ?_
      all_goals (refine DD ?_)
      all_goals refine S_adv Tk rfl 1000 rfl ?_
      all_goals (refine S_pick [21, 20, 18, 2, 3, 6, 7, 8, 1] rfl ?_)
      all_goals exact S_meet (_, _, _, _, _, _) ⟨hv4, hext4, (by rcases h6 with h6 | h6; exact h6 ▸ hoff; exact .inr h6)⟩ J ⟨⟨_, J, J⟩, ⟨_, J, J⟩, ⟨_, J, J⟩, ⟨_, J, J⟩, ⟨_, J, J⟩, trivial⟩ (.hp (.hp (.blk J J (.blk J J (.blk J J (.blk J J (.blk J J (.blk J J (.hp .nil)))))))))
    rintro ⟨b18, A20, c20, G2, A6, c6⟩ ⟨hv, hext2, hoff6⟩
    simp only at hv hext2 hoff6 ⊢
    refine S_Bhp 18 24 J J J J ?_;refine S_pair 24 21 25 J J J J ?_;refine Va J J ?_;refine S_add J J J J (by omega) ?_;refine Va J J ?_;refine S_again ⟨i + 1, A6, c6, q ++ [(b18, .slice A20 p[i].length c20)], G2⟩ ⟨by simp only; omega, by simp; omega, hext.trans hext2, ?_, hoff6, ?_⟩ (by simp only; omega) rfl ⟨⟨_, rfl, by simp [denO]⟩, ⟨_, rfl, rfl⟩, ⟨_, rfl, rfl⟩, ⟨_, rfl, rfl⟩, ⟨_, rfl, rfl⟩, trivial⟩ ?_
    · simp only
      rw [List.take_succ_eq_append_getElem hil]
      exact Qds_snoc hv (Qds_le hext2.le hqd)
    · intro x hx
      rcases List.mem_append.1 hx with hx | hx
      · exact hqs x hx
      · rw [List.mem_singleton.1 hx]; exact ⟨_, _, _, J⟩
    · simp only [regsHP_snoc, procX_snoc, List.length_append, List.length_singleton]
      exact .hp (.hp (.blk J J (.blk J J (.blk J J (.blk J J (.blk J J (.hp .nil)))))))
  · have hin : i = p.length := by omega
    subst hin
    rw [List.take_length] at hqd
    refine S_capO 20 J fun hnc5 hcm5 _ => ?_;refine S_someO 20 J (by omega) fun gp offp eA => ?_;obtain rfl : offp = 0 := by
      rcases hoff with h | ⟨g, h⟩
      · rw [h] at eA; cases eA
      · rw [h] at eA; cases eA; rfl
    subst eA
    refine S_rowB 20 20 J J J fun sp => ?_;refine S_nilO (base := 0) (e := 3) (size := 1) 30 ?_;refine S_nilO (base := 0) (e := 3) (size := 1) 31 ?_;refine S_nilO (base := 0) (e := 123) (size := 2) 32 ?_
    rcases (by omega : p.length = 1 ∨ p.length = 2 ∨ p.length = 3) with h1 | h1 | h1
    · obtain ⟨l0, rfl⟩ := len1 h1
      obtain ⟨⟨g0, t0⟩, rfl⟩ := len1 (hq.trans h1)
      refine S_unpair 21 500 600 J J ?_;refine S_hpB 500 40 J J J ?_;exact RK [20, 6, 7, 8, 32, 30, 31, 40] (Res.c1 Tk Tryz.results56 rfl rfl) ⟨_, [t0], rfl, rfl, Qds_Tds hqd⟩ ⟨gp, b9, b10, b11, [g0], ⟨c5, sp, none, 0, none, 0, none, 0, 3, [], 2, [], 2, [], fun _ => 3, fun _ => []⟩, ⟨0, [], 0, [], 0, []⟩, rfl, (mok0 ⟨by simpa [open0] using hnc5, hcm5⟩), ⟨⟨rfl, rfl⟩, ⟨rfl, rfl⟩, rfl, rfl⟩, rfl, rfl, rfl⟩ rfl (Bs 5 rfl rfl rfl rfl (.blk rfl rfl (.blk rfl rfl (.blk rfl rfl (.hp (.hp (.hp (.blk rfl rfl .nil)))))))) hext
    · obtain ⟨l0, l1, rfl⟩ := len2 h1
      obtain ⟨⟨g0, t0⟩, ⟨g1, t1⟩, rfl⟩ := len2 (hq.trans h1)
      refine S_unpair 21 501 601 J J ?_;refine S_hpB 501 41 J J J ?_;refine S_unpair 601 500 600 J J ?_;refine S_hpB 500 40 J J J ?_;exact RK [20, 6, 7, 8, 32, 30, 31, 40, 41] (Res.c1 Tk Tryz.results56 rfl rfl) ⟨_, [t0, t1], rfl, rfl, Qds_Tds hqd⟩ ⟨gp, b9, b10, b11, [g0, g1], ⟨c5, sp, none, 0, none, 0, none, 0, 3, [], 2, [], 2, [], fun _ => 3, fun _ => []⟩, ⟨0, [], 0, [], 0, []⟩, rfl, (mok0 ⟨by simpa [open0] using hnc5, hcm5⟩), ⟨⟨rfl, rfl⟩, ⟨rfl, rfl⟩, rfl, rfl⟩, rfl, rfl, rfl⟩ rfl (Bs 10 rfl rfl rfl rfl (.blk rfl rfl (.blk rfl rfl (.blk rfl rfl (.hp (.hp (.hp (.blk rfl rfl (.blk rfl rfl .nil))))))))) hext
    · obtain ⟨l0, l1, l2, rfl⟩ := len3 h1
      obtain ⟨⟨g0, t0⟩, ⟨g1, t1⟩, ⟨g2, t2⟩, rfl⟩ := len3 (hq.trans h1)
      refine S_unpair 21 502 602 J J ?_;refine S_hpB 502 42 J J J ?_;refine S_unpair 602 501 601 J J ?_;refine S_hpB 501 41 J J J ?_;refine S_unpair 601 500 600 J J ?_;refine S_hpB 500 40 J J J ?_;exact RK [20, 6, 7, 8, 32, 30, 31, 40, 41, 42] (Res.c1 Tk Tryz.results56 rfl rfl) ⟨_, [t0, t1, t2], rfl, rfl, Qds_Tds hqd⟩ ⟨gp, b9, b10, b11, [g0, g1, g2], ⟨c5, sp, none, 0, none, 0, none, 0, 3, [], 2, [], 2, [], fun _ => 3, fun _ => []⟩, ⟨0, [], 0, [], 0, []⟩, rfl, (mok0 ⟨by simpa [open0] using hnc5, hcm5⟩), ⟨⟨rfl, rfl⟩, ⟨rfl, rfl⟩, rfl, rfl⟩, rfl, rfl, rfl⟩ rfl (Bs 15 rfl rfl rfl rfl (.blk rfl rfl (.blk rfl rfl (.blk rfl rfl (.hp (.hp (.hp (.blk rfl rfl (.blk rfl rfl (.blk rfl rfl .nil)))))))))) hext
end
section
attribute [local irreducible] X Pure Mod
def encM (x : List Value) (vs : List Value) : Prop := ∃ a b s c A n k, x = [.int .i64 a, .int .i64 b, .bool s, .int .i64 c, .slice A n k] ∧ vs = [.agg x.toArray]
def okM (pre : List (List Value)) : Prop := pre.length ≤ 200
def QM (ms : List Mk) (G' : PH) (pre : List (List Value)) : Prop := Cs 5 (mkRep G') ms pre.flatten ∧ pre.length = ms.length
theorem ck_gcells {C : Ck} {G : PH} {b n k : Nat} (hk : k < 3) (hn : n ≤ 3) : gcells (G.add b (.cells (ckC C).toArray 92 (0, 0))) ⟨b, 3 * k, none⟩ (intC (clkL n (C.pr k))) := by
  have key : ∀ pre rest, ckC C = pre ++ (intC (clkL n (C.pr k)) ++ rest) → pre.length = 3 * k → gcells (G.add b (.cells (ckC C).toArray 92 (0, 0))) ⟨b, 3 * k, none⟩ (intC (clkL n (C.pr k))) := by
    intro pre rest h1 h2
    rw [h1, ← h2]
    exact (gcells_append gcells_add).1
  refine key ((ckC C).take (3 * k)) ((ckC C).drop (3 * k + n)) ?_ ?_
  · rcases (by omega : k = 0 ∨ k = 1 ∨ k = 2) with rfl | rfl | rfl <;> rcases (by omega : n = 0 ∨ n = 1 ∨ n = 2 ∨ n = 3) with rfl | rfl | rfl | rfl <;> rfl
  · rcases (by omega : k = 0 ∨ k = 1 ∨ k = 2) with rfl | rfl | rfl <;> rfl
theorem fst_i64 {G : PH} {W : Wld} {ts : List Value} {k : Nat} {p : Prc} (ht : Tds G W.procs ts) (hp : W.procs[k]? = some p) : I64 (fstA p) ∧ I64 (fstB p) := by
  obtain ⟨tv, _, hst⟩ := Tds_at ht hp
  by_cases hm : p.mode = 2
  · simp only [fstA, fstB, hm, if_true]; exact ⟨⟨by omega, by omega⟩, ⟨by omega, by omega⟩⟩
  · simp only [fstA, fstB, hm, if_false]
    cases hT : p.todo with
    | nil => exact ⟨(⟨by omega, by omega⟩ : I64 0), (⟨by omega, by omega⟩ : I64 0)⟩
    | cons s r =>
      rw [hT] at hst
      obtain ⟨A, c, rfl, _⟩ := id hst
      obtain ⟨ad, vx, vy, _, _, _, _, i1, i2, i3, i4⟩ := Sts_head hst
      exact ⟨i2, i3⟩
structure MI where
  i : Nat
  V : Wld
  B : Nat
  ts : List Value
  C : Ck
  pre : List (List Value)
  ms : List Mk
  G : PH
structure R8C where
  b : Nat
  A : Option Addr
  c : Nat
  G : PH
theorem c_marks1 (p : List (List Stm)) (q : List Int) (pv qv : Value) (b1 b2 : Nat) (G : PH) (hp : PrgS G p pv) (hq : Ints G q qv) (hpo : progOk p = true) (hq2 : q.length ≤ 200) (h1 : gcell G ⟨b1, 0, none⟩ = some pv) (h2 : gcell G ⟨b2, 0, none⟩ = some qv) :
    IterQ Tryz.prog 55 #[.pointer (some ⟨b1, 0, none⟩), .pointer (some ⟨b2, 0, none⟩)] G encM okM (QM (marksF p.length q 0 Ck.zero (open0 p))) := by
  refine IterQ_of fun l A Ax hY => ?_;obtain ⟨Ap, cp, rfl, _⟩ := id hp.1
  obtain ⟨Aq, cq, rfl, _⟩ := id hq
  have hp13 := (prog_parts hpo).2
  have hI0 := Inv_open hpo hp.2.1
  have hpl : (open0 p).procs.length = p.length := by simp [open0]
  refine Mod.intro Tryz.func55 Tryz.ntmps55 J J fun w S => ?_;refine Va J J ?_;refine S_load Tk J J J J J h1 ?_;refine Va J J ?_;refine S_callN 40 Tryz.call56 (c_opened p _ _ hp.1 hp13) J J J ?_;rintro v1 G1 A1 ⟨cs, ts, rfl, rfl, htd⟩ hext1
  refine S_newHP 40 J J ?_;refine S_csV 40 J ?_;rintro bp bc br bs kp asd ksd kc kr ks rfl
  refine Va J J ?_;refine AZ ZT_ok J J J J fun b4 => ?_;refine Va J J ?_;refine AZ ZT_ok J J J J fun b5 => ?_;refine Va J J ?_;refine S_load Tk J J J J J (gcell_le hext1.le h2) ?_;refine Va J J ?_;refine S_V2P 4 40 2 J J J J J J ?_;refine S_reE 4 (.val (.pointer (some ⟨b4, 0, none⟩))) J J ?_;refine S_Bhp 5 50 J J J J ?_;refine S_reE 5 (.val (.pointer (some ⟨b5, 0, none⟩))) J J ?_;refine S_pick [50, 2, 1] J ?_
  refine S_loop (α := MI) (fun y => y.i ≤ q.length ∧ PH.ext w.heap.size G y.G ∧ (Inv y.V y.B ∧ y.B ≤ y.i) ∧ Tds y.G y.V.procs y.ts ∧ y.V.procs.length = p.length ∧ (y.C.ok (y.i : Nat) ∧ y.pre.length = y.ms.length ∧ y.ms.length ≤ y.i) ∧ Cs 5 (mkRep y.G) y.ms y.pre.flatten ∧ marksF p.length q 0 Ck.zero (open0 p) = y.ms ++ marksF p.length (q.drop y.i) y.i y.C y.V) (fun y => q.length - y.i) []
    (fun y => [(15, .val (.int .i64 (y.i : Nat))), (13, .val (.slice Aq q.length cq)), (14, .val (.int .i64 (q.length : Nat))), (5, .val (.pointer (some ⟨b5, 0, none⟩))), (4, .val (.pointer (some ⟨b4, 0, none⟩))), (1, .val (.pointer (some ⟨b1, 0, none⟩))), (0, .val (.func (.yield l) #[] #[]))])
    (fun y => [.hp 50 (blkHP b5 92 (ckC y.C)), .hp 2 (worldP b4 y.V y.ts), .hp 1 (A y.pre)]) (fun y => y.G) ⟨0, open0 p, 0, ts, Ck.zero, [], [], G1⟩ ⟨Nat.zero_le _, hext1, ⟨hI0, Nat.le_refl _⟩, htd, hpl, ⟨Ck.ok.zero, rfl, Nat.le_refl _⟩, rfl, rfl⟩ rfl ?_ ?_ ?_
  · exact ⟨⟨_, J, J⟩, ⟨_, J, J⟩, ⟨_, J, J⟩, ⟨_, J, J⟩, ⟨_, J, J⟩, ⟨_, J, J⟩, ⟨_, J, J⟩, trivial⟩
  · exact .hp (.hp (.hp .nil))
  rintro ⟨i, V, B1, ts1, C1, pre1, ms1, G3⟩ ⟨hi, hext, ⟨hI, hB1⟩, ht1, hlen, ⟨hC, hpre, hmsl⟩, hcs1, heq⟩
  simp only at hi hext hI hB1 ht1 hlen hC hpre hmsl hcs1 heq ⊢
  have hn1 := hI.n1
  have hn3 := hI.n3
  refine Va J J ?_
  refine S_condp J (fun h5 => ?_) (fun h5 => ?_) <;> refine Va J J ?_
  · have hil : i < q.length := by omega
    rw [drop_at' hil] at heq
    obtain ⟨ad, cs5, e, hcs, rfl, hi5⟩ := Sr_at (Ints_le hext.le hq) hil
    cases e
    generalize hwe : q[i] = who at hcs hi5 heq
    have hcell : gcell G3 (ad.add (i * 1)) = some (.int .i64 who) := hcs.1
    refine S_index Tk J J J J J J (by omega) (by omega) ?_;refine Va J J ?_;refine S_load Tk J J J J J (by simpa using hcell) ?_;refine Va J J ?_;refine S_callM 2 Tryz.call57 (c_code V who b4 ts1 _ hn1 hn3 ht1 hI.head) J J J J (fun _ => J) ?_;rintro v2 G4 A4 ⟨rfl, rfl, rfl⟩ _
    refine Va J J ?_
    refine S_condp J (fun h7 => ?_) (fun h7 => ?_) <;> refine Va J J ?_
    · rw [marksF_cons_no h7] at heq
      refine S_add J J J J (by omega) ?_;refine Va J J ?_;exact S_again ⟨i + 1, V, B1, ts1, C1, pre1, ms1, G4⟩ ⟨by simp only; omega, hext, ⟨hI, by simp only; omega⟩, ht1, hlen, ⟨hC.mono (by simp only; omega), hpre, by simp only; omega⟩, hcs1, heq⟩ (by simp only; omega) rfl ⟨⟨_, rfl, by simp [denO]⟩, ⟨_, rfl, rfl⟩, ⟨_, rfl, rfl⟩, ⟨_, rfl, rfl⟩, ⟨_, rfl, rfl⟩, ⟨_, rfl, rfl⟩, ⟨_, rfl, rfl⟩, trivial⟩ (.hp (.hp (.hp .nil)))
    · replace h7 := Classical.not_not.1 h7
      obtain ⟨k, hk, hkl⟩ := code0_who h7
      subst hk
      rw [marksF_cons_go rfl h7, ← List.append_assoc] at heq
      have hp0 : V.procs[k]? = some V.procs[k] := List.getElem?_eq_getElem hkl
      have hk1 : fstK V k = fstP V.procs[k] := by simp [fstK, hp0]
      have hk2 : fstAW V k = fstA V.procs[k] := by simp [fstAW, hp0]
      have hk3 : fstBW V k = fstB V.procs[k] := by simp [fstBW, hp0]
      obtain ⟨hia, hib⟩ := fst_i64 ht1 hp0
      obtain ⟨C2, hC2⟩ : ∃ C2, C2 = C1.ahead V k := ⟨_, rfl⟩
      have hC2o : C2.ok ((i + 1 : Nat) : Int) := by rw [hC2]; exact ahead_ok' hC V k
      have hC2b : ∀ j, 0 ≤ C2.pr k j ∧ C2.pr k j ≤ 1000000 := fun j => by have := hC2o.p k j; omega
      rw [← hC2, markP_eq hp0] at heq
      refine S_callM 2 Tryz.call58 (c_firstAB V k b4 ts1 _ hn1 hn3 ht1 hkl) J J J J (fun _ => J) ?_;rintro v3 G5 A5 ⟨rfl, rfl, hkab⟩ _
      rw [hk1, hk2, hk3] at hkab
      generalize fstP V.procs[k] = kk at hkab heq
      generalize fstA V.procs[k] = aa at hkab heq hia
      generalize fstB V.procs[k] = bb at hkab heq hib
      obtain ⟨nn, Ax', nx, cx, Ay, ny, cy, rfl⟩ := hkab
      refine AZ ZT_ok J J J J fun b8 => ?_;refine Va J J ?_;refine S_pair 50 2 51 J J J J ?_;refine S_callM 51 Tryz.call59 (c_ahead C1 C2 V k B1 b5 b4 ts1 _ hI (by omega) ht1 hkl h7 (hC.mono (by omega)) hC2) J J J J (fun _ => J) ?_;rintro v6 G6 A6 ⟨rfl, rfl⟩ _
      refine S_unpair 51 50 2 J J ?_;refine Va J J ?_;refine S_callM 2 Tryz.call60 (c_step V k b4 ts1 _ (hI.rdy (by omega)) ht1 hkl (hI.go h7)) J J J J (fun _ => J) ?_;rintro v7 G7 A7 ⟨ts7, rfl, ht7⟩ hext7
      refine Va J J ?_
      have hb1g : gcell G7 ⟨b1, 0, none⟩ = some (.slice Ap p.length cp) := gcell_le (hext.trans hext7).le h1
      refine S_cut (α := R8C) (fun y => Ints y.G (clkL p.length (C2.pr k)) (.slice y.A p.length y.c) ∧ PH.ext w.heap.size G7 y.G) (fun y => [(8, b8), (9, y.b)])
        (fun y => [(6, .val (.int .i64 (i : Nat))), (8, .ptr 8 0), (9, .ptr 9 0), (15, .val (.int .i64 (i : Nat))), (13, .val (.slice (some ad) q.length cq)), (14, .val (.int .i64 (q.length : Nat))), (5, .val (.pointer (some ⟨b5, 0, none⟩))), (4, .val (.pointer (some ⟨b4, 0, none⟩))), (1, .val (.pointer (some ⟨b1, 0, none⟩))), (0, .val (.func (.yield l) #[] #[]))])
        (fun y => [.blk 8 65 (vL [.int .i64 kk, .int .i64 aa, .int .i64 bb, .int .i64 nn, .slice Ax' nx cx, .slice Ay ny cy]), .blk 9 32 (vL [.int .i64 (k : Nat), .int .i64 (i : Nat), .bool false, .int .i64 0, .slice y.A p.length y.c]), .hp 50 (blkHP b5 92 (ckC C2)), .hp 2 (worldP b4 (V.step k) ts7), .hp 1 (A pre1)]) (fun y => y.G) ?_ ?_
      · rcases (by omega : k = 0 ∨ k = 1 ∨ k = 2) with rfl | rfl | rfl
        · refine S_hpB 50 105 J J J ?_
          refine S_reE 5 (.ptr 105 0) J J ?_;refine Ds J J J ?_;refine Da J J ?_
          repeat' (first
            | exact trivial
            | (refine Ns 11 J J J J J J J J J ?_)
            | refine D_list J ?_
            | refine And.intro ?_ ?_
            | (refine N_turn Tk _ J J J J fun back => ?_
               first
                 | refine S_load Tk J J J J J hb1g ?_
                 | refine AZ ZT_ok J J J J fun b9 => ?_
                 | refine S_valV J J J (V_sliceArr Tk (m := p.length) J J J J J (by omega)) ?_
                 | (refine S_lendB 105 J J (denL_vL _ _) J fun hGb hb0 => ?_
                    refine S_call Tryz.call61 (c_CloneInt _ p.length (intC (clkL p.length (C2.pr 0))) _ ⟨_, 3, J, by omega, by omega, by simp [maxLen], by rw [intC_length, clkL_len, Nat.mul_one], .inr ⟨_, J, ck_gcells (by omega) (by omega)⟩⟩ (intC_one _)) J J J ?_;rintro v' G8 hv8 hext8
                    obtain ⟨A8, c8, e8, _⟩ := id hv8
                    cases e8
                    refine S_backB 105 (vL (ckC C2)) (hext8.le _ _ (PH.add_self _ _ _)) J (denL_vL _ _) hb0 ?_)
               refine back _ _ _ _ (by kernel_rfl) ?_
               clear back
               refine Da J J ?_)
            | fail)
          all_goals (refine DD ?_)
          all_goals refine S_adv Tk rfl 1000 rfl ?_
          all_goals (refine S_Bhp 105 50 rfl rfl (denL_vL _ _) rfl ?_)
          all_goals (refine S_pick [8, 9, 50, 2, 1] rfl ?_)
          all_goals (refine S_reE 5 (.val (.pointer (some ⟨b5, 0, none⟩))) rfl rfl ?_)
          all_goals exact S_meet ⟨_, _, _, _⟩ ⟨Sx_Ints (Sx_le newp_add_le hv8) (clkL_len _ _).symm (clk_i64 hC2b), (PH.ext.del hGb hext8)⟩ rfl ⟨⟨_, rfl, rfl⟩, ⟨_, rfl, rfl⟩, ⟨_, rfl, rfl⟩, ⟨_, rfl, rfl⟩, ⟨_, rfl, rfl⟩, ⟨_, rfl, rfl⟩, ⟨_, rfl, rfl⟩, ⟨_, rfl, rfl⟩, ⟨_, rfl, rfl⟩, ⟨_, rfl, rfl⟩, trivial⟩ (.blk rfl rfl (.blk rfl rfl (.hp (.hp (.hp .nil)))))
        · refine S_hpB 50 105 J J J ?_
          refine S_reE 5 (.ptr 105 0) J J ?_;refine Ds J J J ?_;refine Da J J ?_
          repeat' (first
            | exact trivial
            | (refine Ns 11 J J J J J J J J J ?_)
            | refine D_list J ?_
            | refine And.intro ?_ ?_
            | (refine N_turn Tk _ J J J J fun back => ?_
               first
                 | refine S_load Tk J J J J J hb1g ?_
                 | refine AZ ZT_ok J J J J fun b9 => ?_
                 | refine S_valV J J J (V_sliceArr Tk (m := p.length) J J J J J (by omega)) ?_
                 | (refine S_lendB 105 J J (denL_vL _ _) J fun hGb hb0 => ?_
                    refine S_call Tryz.call61 (c_CloneInt _ p.length (intC (clkL p.length (C2.pr 1))) _ ⟨_, 3, J, by omega, by omega, by simp [maxLen], by rw [intC_length, clkL_len, Nat.mul_one], .inr ⟨_, J, ck_gcells (by omega) (by omega)⟩⟩ (intC_one _)) J J J ?_;rintro v' G8 hv8 hext8
                    obtain ⟨A8, c8, e8, _⟩ := id hv8
                    cases e8
                    refine S_backB 105 (vL (ckC C2)) (hext8.le _ _ (PH.add_self _ _ _)) J (denL_vL _ _) hb0 ?_)
               refine back _ _ _ _ (by kernel_rfl) ?_
               clear back
               refine Da J J ?_)
            | fail)
          all_goals (refine DD ?_)
          all_goals refine S_adv Tk rfl 1000 rfl ?_
          all_goals (refine S_Bhp 105 50 rfl rfl (denL_vL _ _) rfl ?_)
          all_goals (refine S_pick [8, 9, 50, 2, 1] rfl ?_)
          all_goals (refine S_reE 5 (.val (.pointer (some ⟨b5, 0, none⟩))) rfl rfl ?_)
          all_goals exact S_meet ⟨_, _, _, _⟩ ⟨Sx_Ints (Sx_le newp_add_le hv8) (clkL_len _ _).symm (clk_i64 hC2b), (PH.ext.del hGb hext8)⟩ rfl ⟨⟨_, rfl, rfl⟩, ⟨_, rfl, rfl⟩, ⟨_, rfl, rfl⟩, ⟨_, rfl, rfl⟩, ⟨_, rfl, rfl⟩, ⟨_, rfl, rfl⟩, ⟨_, rfl, rfl⟩, ⟨_, rfl, rfl⟩, ⟨_, rfl, rfl⟩, ⟨_, rfl, rfl⟩, trivial⟩ (.blk rfl rfl (.blk rfl rfl (.hp (.hp (.hp .nil)))))
        · refine S_hpB 50 105 J J J ?_
          refine S_reE 5 (.ptr 105 0) J J ?_;refine Ds J J J ?_;refine Da J J ?_
          repeat' (first
            | exact trivial
            | (refine Ns 11 J J J J J J J J J ?_)
            | refine D_list J ?_
            | refine And.intro ?_ ?_
            | (refine N_turn Tk _ J J J J fun back => ?_
               first
                 | refine S_load Tk J J J J J hb1g ?_
                 | refine AZ ZT_ok J J J J fun b9 => ?_
                 | refine S_valV J J J (V_sliceArr Tk (m := p.length) J J J J J (by omega)) ?_
                 | (refine S_lendB 105 J J (denL_vL _ _) J fun hGb hb0 => ?_
                    refine S_call Tryz.call61 (c_CloneInt _ p.length (intC (clkL p.length (C2.pr 2))) _ ⟨_, 3, J, by omega, by omega, by simp [maxLen], by rw [intC_length, clkL_len, Nat.mul_one], .inr ⟨_, J, ck_gcells (by omega) (by omega)⟩⟩ (intC_one _)) J J J ?_;rintro v' G8 hv8 hext8
                    obtain ⟨A8, c8, e8, _⟩ := id hv8
                    cases e8
                    refine S_backB 105 (vL (ckC C2)) (hext8.le _ _ (PH.add_self _ _ _)) J (denL_vL _ _) hb0 ?_)
               refine back _ _ _ _ (by kernel_rfl) ?_
               clear back
               refine Da J J ?_)
            | fail)
          all_goals (refine DD ?_)
          all_goals refine S_adv Tk rfl 1000 rfl ?_
          all_goals (refine S_Bhp 105 50 rfl rfl (denL_vL _ _) rfl ?_)
          all_goals (refine S_pick [8, 9, 50, 2, 1] rfl ?_)
          all_goals (refine S_reE 5 (.val (.pointer (some ⟨b5, 0, none⟩))) rfl rfl ?_)
          all_goals exact S_meet ⟨_, _, _, _⟩ ⟨Sx_Ints (Sx_le newp_add_le hv8) (clkL_len _ _).symm (clk_i64 hC2b), (PH.ext.del hGb hext8)⟩ rfl ⟨⟨_, rfl, rfl⟩, ⟨_, rfl, rfl⟩, ⟨_, rfl, rfl⟩, ⟨_, rfl, rfl⟩, ⟨_, rfl, rfl⟩, ⟨_, rfl, rfl⟩, ⟨_, rfl, rfl⟩, ⟨_, rfl, rfl⟩, ⟨_, rfl, rfl⟩, ⟨_, rfl, rfl⟩, trivial⟩ (.blk rfl rfl (.blk rfl rfl (.hp (.hp (.hp .nil)))))
      rintro ⟨b9, A9, c9, G9⟩ ⟨hcl9, hext9⟩
      simp only at hcl9 hext9 ⊢
      refine Va J J ?_
      have hxx := (hext.trans hext7).trans hext9
      have hcs9 := Cs_mono (fun _ _ _ h => mkRep_le (hext7.trans hext9).le h) hcs1
      have ht9 := Tds_le hext9.le ht7
      have hI9 := hI.step hkl h7
      have hlen9 : (V.step k).procs.length = p.length := by rw [Wld.step_len]; exact hlen
      refine S_condp J (fun h3 => ?_) (fun h3 => ?_) <;> refine Va J J ?_
      · rw [if_pos h3] at heq
        refine S_yield 1 l J J (YieldM.le (hY pre1 [.int .i64 (k : Nat), .int .i64 (i : Nat), .bool false, .int .i64 bb, .slice A9 p.length c9] _ (by unfold okM; simp only [List.length_append, List.length_singleton]; omega) ⟨_, _, _, _, _, _, _, rfl, rfl⟩) hxx.le) rfl rfl rfl rfl (fun _ => rfl) ?_ ?_ <;> refine Va J J ?_
        · refine RF J J ?_
          refine Va J J ?_;refine S_add J J J J (by omega) ?_;refine Va J J ?_;refine S_pick [50, 2, 1] J ?_;exact S_again ⟨i + 1, V.step k, B1 + 1, ts7, C2, pre1 ++ [[.int .i64 (k : Nat), .int .i64 (i : Nat), .bool false, .int .i64 bb, .slice A9 p.length c9]], ms1 ++ [⟨k, i, false, bb, clkL p.length (C2.pr k)⟩], G9⟩ ⟨by simp only; omega, hxx, ⟨hI9, by simp only; omega⟩, ht9, hlen9, ⟨hC2o, by simp only [List.length_append, List.length_singleton, hpre], by simp only [List.length_append, List.length_singleton]; omega⟩, by simp only [List.flatten_append, List.flatten_cons, List.flatten_nil, List.append_nil]; exact Cs_append hcs9 ⟨A9, c9, by rw [clkL_len], by rw [clkL_len]; exact hcl9, hib, by simp only; omega, by simp only; omega⟩ rfl, heq⟩ (by simp only; omega) rfl ⟨⟨_, rfl, by simp [denO]⟩, ⟨_, rfl, rfl⟩, ⟨_, rfl, rfl⟩, ⟨_, rfl, rfl⟩, ⟨_, rfl, rfl⟩, ⟨_, rfl, rfl⟩, ⟨_, rfl, rfl⟩, trivial⟩ (.hp (.hp (.hp .nil)))
        · refine RT J J ?_
          refine Va J J ?_;exact S_retm 1 (Res.t0 Tryz.results55) J hxx (.inr ⟨_, J⟩)
      rw [if_neg h3] at heq
      refine S_condp J (fun h4 => ?_) (fun h4 => ?_) <;> refine Va J J ?_
      · rw [if_pos h4] at heq
        refine Ds J J J ?_;refine Da J J ?_;refine Ns 3 J J J J J J J J J ?_;refine Da J J ?_;refine Ns 5 J J J J J J J J J ?_;refine DD ?_;refine Va J J ?_
        refine S_yield 1 l J J (YieldM.le (hY pre1 [.int .i64 (k : Nat), .int .i64 (i : Nat), .bool true, .int .i64 aa, .slice A9 p.length c9] _ (by unfold okM; simp only [List.length_append, List.length_singleton]; omega) ⟨_, _, _, _, _, _, _, rfl, rfl⟩) hxx.le) rfl rfl rfl rfl (fun _ => rfl) ?_ ?_ <;> refine Va J J ?_
        · refine RF J J ?_
          refine Va J J ?_;refine S_add J J J J (by omega) ?_;refine Va J J ?_;refine S_pick [50, 2, 1] J ?_;exact S_again ⟨i + 1, V.step k, B1 + 1, ts7, C2, pre1 ++ [[.int .i64 (k : Nat), .int .i64 (i : Nat), .bool true, .int .i64 aa, .slice A9 p.length c9]], ms1 ++ [⟨k, i, true, aa, clkL p.length (C2.pr k)⟩], G9⟩ ⟨by simp only; omega, hxx, ⟨hI9, by simp only; omega⟩, ht9, hlen9, ⟨hC2o, by simp only [List.length_append, List.length_singleton, hpre], by simp only [List.length_append, List.length_singleton]; omega⟩, by simp only [List.flatten_append, List.flatten_cons, List.flatten_nil, List.append_nil]; exact Cs_append hcs9 ⟨A9, c9, by rw [clkL_len], by rw [clkL_len]; exact hcl9, hia, by simp only; omega, by simp only; omega⟩ rfl, heq⟩ (by simp only; omega) rfl ⟨⟨_, rfl, by simp [denO]⟩, ⟨_, rfl, rfl⟩, ⟨_, rfl, rfl⟩, ⟨_, rfl, rfl⟩, ⟨_, rfl, rfl⟩, ⟨_, rfl, rfl⟩, ⟨_, rfl, rfl⟩, trivial⟩ (.hp (.hp (.hp .nil)))
        · refine RT J J ?_
          refine Va J J ?_;exact S_retm 1 (Res.t0 Tryz.results55) J hxx (.inr ⟨_, J⟩)
      · rw [if_neg h4, List.append_nil] at heq
        refine S_add J J J J (by omega) ?_;refine Va J J ?_;refine S_pick [50, 2, 1] J ?_;exact S_again ⟨i + 1, V.step k, B1 + 1, ts7, C2, pre1, ms1, G9⟩ ⟨by simp only; omega, hxx, ⟨hI9, by simp only; omega⟩, ht9, hlen9, ⟨hC2o, hpre, by simp only; omega⟩, hcs9, heq⟩ (by simp only; omega) rfl ⟨⟨_, rfl, by simp [denO]⟩, ⟨_, rfl, rfl⟩, ⟨_, rfl, rfl⟩, ⟨_, rfl, rfl⟩, ⟨_, rfl, rfl⟩, ⟨_, rfl, rfl⟩, ⟨_, rfl, rfl⟩, trivial⟩ (.hp (.hp (.hp .nil)))
  · have hin : i = q.length := by omega
    subst hin
    rw [List.drop_length, marksF, List.append_nil] at heq
    exact S_endm 1 (Res.t0 Tryz.results55) J hext (.inl ⟨pre1, J, by rw [heq]; exact hcs1, by rw [heq]; exact hpre⟩)
end
section
attribute [local irreducible] X Pure Mod
theorem any_at {α : Type} {L : List α} {p : α → Bool} {k : Nat} (hk : k < L.length) (h : p L[k] = true) : L.any p = true := List.any_eq_true.2 ⟨_, List.getElem_mem hk, h⟩
theorem any_not {α : Type} {L : List α} {p : α → Bool} (h : ∀ j (hj : j < L.length), p L[j] = false) : L.any p = false := by
 rw [List.any_eq_false]
 intro s hs
 obtain ⟨j, hj, rfl⟩ := List.getElem_of_mem hs
 simp [h j hj]
theorem c_IndexStm (L : List Stm) (p : Stm → Bool) (fid : Nat) (cap : Array Value) (v : Value) (G : PH) (hv : Sts G L v) (hcf : ∀ args w, (callFunc fid args).run Tryz.prog w = .ok (.enter fid args) w)
  (hp : ∀ k (hk : k < L.length) cs, Stm.rep G L[k] cs → Pure Tryz.prog fid (.agg cs.toArray :: cap.toList) G fun v G' => v = .bool (p L[k]) ∧ G' = G) :
  Pure Tryz.prog 95 [v, .func (.func fid) #[] cap] G fun v G' => (∃ r : Int, v = .int .i64 r ∧ (0 ≤ r ↔ L.any p = true)) ∧ G' = G := by
 obtain ⟨A, c, rfl, hn, hc1, hc2, hr⟩ := id hv
 refine Pure.intro Tryz.func95 Tryz.ntmps95 J J fun w => ?_; refine Va J J ?_;refine S_loop (α := Nat) (fun k => k ≤ L.length ∧ ∀ j (hj : j < L.length), j < k → p L[j] = false) (fun k => L.length - k) []
  (fun k => [(8, .val (.int .i64 k)), (7, .val (.int .i64 L.length)), (0, .val (.slice A L.length c)), (1, .val (.func (.func fid) #[] cap))]) (fun _ => []) (fun _ => G) 0 ⟨Nat.zero_le _, fun j _ h => by omega⟩ rfl
  ⟨⟨_, rfl, rfl⟩, ⟨_, rfl, rfl⟩, ⟨_, rfl, rfl⟩, ⟨_, rfl, rfl⟩, trivial⟩ .nil ?_
 rintro k ⟨hk, hall⟩
 refine Va J J ?_
 refine S_condp J (fun h => ?_) (fun h => ?_) <;> refine Va J J ?_
 ·have hkl : k < L.length := by omega
  obtain ⟨ad, cs, rfl, hcs, hrep⟩ := Sr_at hv hkl
  have hlen := Stm.rep_len hrep
  refine S_index Tk J J J J J J (by omega) (by omega) ?_;refine Va J J ?_;refine S_loadA Tk J J J J hlen (by simpa using hcs) ?_;refine Va J J ?_;refine S_callV (vs := [.agg cs.toArray]) J hcf (hp k hkl cs hrep) J J J ?_;rintro v1 G1 ⟨rfl, rfl⟩ _
  refine Va J J ?_
  refine S_cond J (fun h => ?_) (fun h => ?_) <;> refine Va J J ?_
  ·refine S_retP Tryz.results95 J J XR ⟨⟨_, J, ?_⟩, J⟩
   rw [any_at hkl h]; simp
  ·refine S_add J J J J (by omega) ?_
   refine Va J J ?_;refine S_again (k + 1) ⟨by omega, fun j hj hjk => ?_⟩ (by omega) J ⟨⟨_, J, J⟩, ⟨_, J, J⟩, ⟨_, J, J⟩, ⟨_, J, J⟩, trivial⟩ .nil
   rcases Nat.lt_or_ge j k with h' | h'
   ·exact hall j hj h'
   ·obtain rfl : j = k := by omega
    exact h
 ·refine S_retP Tryz.results95 J J XR ⟨⟨_, J, ?_⟩, J⟩
  rw [any_not fun j hj => hall j hj (by omega)]; simp
theorem c_ContainsStm (L : List Stm) (p : Stm → Bool) (fid : Nat) (cap : Array Value) (v : Value) (G : PH) (hv : Sts G L v) (hcf : ∀ args w, (callFunc fid args).run Tryz.prog w = .ok (.enter fid args) w)
  (hp : ∀ k (hk : k < L.length) cs, Stm.rep G L[k] cs → Pure Tryz.prog fid (.agg cs.toArray :: cap.toList) G fun v G' => v = .bool (p L[k]) ∧ G' = G) :
  Pure Tryz.prog 92 [v, .func (.func fid) #[] cap] G fun v G' => v = .bool (L.any p) ∧ G' = G := by
 obtain ⟨A, c, rfl, hn, hc1, hc2, hr⟩ := id hv
 refine Pure.intro Tryz.func92 Tryz.ntmps92 J J fun w => ?_; refine Va J J ?_;refine S_call Tryz.call95 (c_IndexStm L p fid cap _ _ hv hcf hp) J J J ?_;rintro v1 G1 ⟨⟨r, rfl, hrr⟩, rfl⟩ _
 refine Va J J ?_;refine S_retP Tryz.results92 J J XR ⟨?_, J⟩
 congr 1
 exact (Bool.eq_iff_iff.2 (by rw [← hrr]; simp))
theorem c_IndexSts (L : List (List Stm)) (p : (List Stm) → Bool) (fid : Nat) (cap : Array Value) (v : Value) (G : PH) (hv : Prg G L v) (hcf : ∀ args w, (callFunc fid args).run Tryz.prog w = .ok (.enter fid args) w)
  (hp : ∀ k (hk : k < L.length) u, Sts G L[k] u → Pure Tryz.prog fid (u :: cap.toList) G fun v G' => v = .bool (p L[k]) ∧ G' = G) :
  Pure Tryz.prog 83 [v, .func (.func fid) #[] cap] G fun v G' => (∃ r : Int, v = .int .i64 r ∧ (0 ≤ r ↔ L.any p = true)) ∧ G' = G := by
 obtain ⟨A, c, rfl, hn, hc1, hc2, hr⟩ := id hv
 refine Pure.intro Tryz.func83 Tryz.ntmps83 J J fun w => ?_; refine Va J J ?_;refine S_loop (α := Nat) (fun k => k ≤ L.length ∧ ∀ j (hj : j < L.length), j < k → p L[j] = false) (fun k => L.length - k) []
  (fun k => [(8, .val (.int .i64 k)), (7, .val (.int .i64 L.length)), (0, .val (.slice A L.length c)), (1, .val (.func (.func fid) #[] cap))]) (fun _ => []) (fun _ => G) 0 ⟨Nat.zero_le _, fun j _ h => by omega⟩ rfl
  ⟨⟨_, rfl, rfl⟩, ⟨_, rfl, rfl⟩, ⟨_, rfl, rfl⟩, ⟨_, rfl, rfl⟩, trivial⟩ .nil ?_
 rintro k ⟨hk, hall⟩
 refine Va J J ?_
 refine S_condp J (fun h => ?_) (fun h => ?_) <;> refine Va J J ?_
 ·have hkl : k < L.length := by omega
  obtain ⟨ad, cs, rfl, hcs, u, rfl, hu⟩ := Sr_at hv hkl
  obtain ⟨A1, c1, rfl, _⟩ := id hu
  refine S_index Tk J J J J J J (by omega) (by omega) ?_;refine Va J J ?_;refine S_load Tk J J J J J (by simpa using hcs.1) ?_;refine Va J J ?_;refine S_callV (vs := [.slice A1 L[k].length c1]) J hcf (hp k hkl _ hu) J J J ?_;rintro v1 G1 ⟨rfl, rfl⟩ _
  refine Va J J ?_
  refine S_cond J (fun h => ?_) (fun h => ?_) <;> refine Va J J ?_
  ·refine S_retP Tryz.results83 J J XR ⟨⟨_, J, ?_⟩, J⟩
   rw [any_at hkl h]; simp
  ·refine S_add J J J J (by omega) ?_
   refine Va J J ?_;refine S_again (k + 1) ⟨by omega, fun j hj hjk => ?_⟩ (by omega) J ⟨⟨_, J, J⟩, ⟨_, J, J⟩, ⟨_, J, J⟩, ⟨_, J, J⟩, trivial⟩ .nil
   rcases Nat.lt_or_ge j k with h' | h'
   ·exact hall j hj h'
   ·obtain rfl : j = k := by omega
    exact h
 ·refine S_retP Tryz.results83 J J XR ⟨⟨_, J, ?_⟩, J⟩
  rw [any_not fun j hj => hall j hj (by omega)]; simp
theorem c_ContainsSts (L : List (List Stm)) (p : (List Stm) → Bool) (fid : Nat) (cap : Array Value) (v : Value) (G : PH) (hv : Prg G L v) (hcf : ∀ args w, (callFunc fid args).run Tryz.prog w = .ok (.enter fid args) w)
  (hp : ∀ k (hk : k < L.length) u, Sts G L[k] u → Pure Tryz.prog fid (u :: cap.toList) G fun v G' => v = .bool (p L[k]) ∧ G' = G) :
  Pure Tryz.prog 68 [v, .func (.func fid) #[] cap] G fun v G' => v = .bool (L.any p) ∧ G' = G := by
 obtain ⟨A, c, rfl, hn, hc1, hc2, hr⟩ := id hv
 refine Pure.intro Tryz.func68 Tryz.ntmps68 J J fun w => ?_; refine Va J J ?_;refine S_call Tryz.call83 (c_IndexSts L p fid cap _ _ hv hcf hp) J J J ?_;rintro v1 G1 ⟨⟨r, rfl, hrr⟩, rfl⟩ _
 refine Va J J ?_;refine S_retP Tryz.results68 J J XR ⟨?_, J⟩
 congr 1
 exact (Bool.eq_iff_iff.2 (by rw [← hrr]; simp))
end
section
attribute [local irreducible] X Pure Mod
def fm (k : Int) : Option (Int × Int × Bool × Bool) :=
 if k = 1 then some (3, 0, false, false) else if k = 2 then some (3, 3, false, false) else if k = 3 then some (3, 3, false, false) else if k = 4 then some (3, 3, false, false) else if k = 5 then some (3, 0, false, false)
 else if k = 6 then some (3, 0, true, true) else if k = 7 then some (3, 0, true, false) else if k = 8 then some (2, 0, true, false) else if k = 9 then some (2, 0, false, false) else if k = 10 then some (2, 0, false, false) else if k = 11 then some (0, 0, false, false) else none
theorem fm_of {f : Int → Option Value} (h : formsP f) (k : Int) : (∃ s a b body els, f k = some (formV s a b body els) ∧ fm k = some (a, b, body, els)) ∨ (f k = none ∧ fm k = none) := by
 obtain ⟨⟨s1, h1⟩, ⟨s2, h2⟩, ⟨s3, h3⟩, ⟨s4, h4⟩, ⟨s5, h5⟩, ⟨s6, h6⟩, ⟨s7, h7⟩, ⟨s8, h8⟩, ⟨s9, h9⟩, ⟨s10, h10⟩, ⟨s11, h11⟩, hn⟩ := h
 by_cases hk : 1 ≤ k ∧ k ≤ 11
 ·left
  have hc : k = 1 ∨ k = 2 ∨ k = 3 ∨ k = 4 ∨ k = 5 ∨ k = 6 ∨ k = 7 ∨ k = 8 ∨ k = 9 ∨ k = 10 ∨ k = 11 := by omega
  rcases hc with rfl | rfl | rfl | rfl | rfl | rfl | rfl | rfl | rfl | rfl | rfl <;> exact ⟨_, _, _, _, _, by assumption, J⟩
 ·right
  refine ⟨hn k hk, ?_⟩
  unfold fm
  repeat rw [if_neg (by omega)]
def iOk (k a b n : Int) (x y : List Stm) (deep room : Int) : Bool :=
 match fm k with
 | none => false
 | some (fa, fb, body, els) =>
  if deep < 1 then false else if fitsB a fa = false then false else if fitsB b fb = false then false else if numberOkB k n = false then false
  else if body = false ∧ 0 < x.length then false else if els = false ∧ 0 < y.length then false
  else if k = 8 then (if room = -1 then listOk x (deep - 1) a && listOk y (deep - 1) a else false)
  else if k = 9 ∧ room = -1 then false
  else listOk x (deep - 1) room && listOk y (deep - 1) room
theorem iOk_eq (k a b n : Int) (x y : List Stm) (deep room : Int) (hr : -1 ≤ room) : iOk k a b n x y deep room = stmtOk (.mk k a b n x y) deep room := by
 have hnil : ∀ d r, listOk [] d r = true := fun _ _ => rfl
 have hynil : ∀ d r, y = [] → listOk y d r = true := by rintro d r rfl; rfl
 by_cases hk : 1 ≤ k ∧ k ≤ 11
 ·have hc : k = 1 ∨ k = 2 ∨ k = 3 ∨ k = 4 ∨ k = 5 ∨ k = 6 ∨ k = 7 ∨ k = 8 ∨ k = 9 ∨ k = 10 ∨ k = 11 := by omega
  by_cases hd : deep < 1
  ·rcases hc with rfl | rfl | rfl | rfl | rfl | rfl | rfl | rfl | rfl | rfl | rfl <;> simp [iOk, fm, stmtOk, hd]
  ·cases x with
   | nil =>
    cases y with
    | nil => rcases hc with rfl | rfl | rfl | rfl | rfl | rfl | rfl | rfl | rfl | rfl | rfl <;> simp [iOk, fm, stmtOk, leafOk, listOk, fitsB, numberOkB, opOk, numOk, hd] <;> rw [Bool.eq_iff_iff] <;> simp <;> (first | omega | grind)
    | cons t y => rcases hc with rfl | rfl | rfl | rfl | rfl | rfl | rfl | rfl | rfl | rfl | rfl <;> simp [iOk, fm, stmtOk, leafOk, fitsB, numberOkB, opOk, numOk, hd] <;> rw [Bool.eq_iff_iff] <;> simp <;> (first | omega | grind)
   | cons t x => rcases hc with rfl | rfl | rfl | rfl | rfl | rfl | rfl | rfl | rfl | rfl | rfl <;> simp [iOk, fm, stmtOk, leafOk, fitsB, numberOkB, opOk, numOk, hd] <;> rw [Bool.eq_iff_iff] <;> simp <;> (first | omega | grind)
 ·have : fm k = none := by unfold fm; repeat rw [if_neg (by omega)]
  obtain ⟨h1, h2, h3, h4, h5, h6, h7, h8, h9, h10, h11⟩ : k ≠ 1 ∧ k ≠ 2 ∧ k ≠ 3 ∧ k ≠ 4 ∧ k ≠ 5 ∧ k ≠ 6 ∧ k ≠ 7 ∧ k ≠ 8 ∧ k ≠ 9 ∧ k ≠ 10 ∧ k ≠ 11 := by omega
  simp [iOk, this, stmtOk, leafOk, h1, h2, h3, h4, h5, h6, h7, h8, h9, h10, h11]
def IL (L : List Stm) : Prop := ∀ (deep room : Int) (v : Value) (G : PH), I64 deep → -1 ≤ room → I64 room → Sts G L v → Pure Tryz.prog 84 [v, .int .i64 deep, .int .i64 room] G fun v G' => v = .bool (listOk L deep room) ∧ G' = G
theorem zform : ∀ w, (zeroValue 153).run Tryz.prog w = .ok (.agg #[.string ByteArray.empty, .int .i64 0, .int .i64 0, .bool false, .bool false]) w := by
 intro w
 have h : (Tryz.prog.info? 153).bind (·.zero) = some (.agg #[.string ByteArray.empty, .int .i64 0, .int .i64 0, .bool false, .bool false]) := by kernel_rfl
 cases hi : Tryz.prog.info? 153 with
 | none => rw [hi] at h; cases h
 | some i =>
  rw [hi] at h
  simp only [Option.bind_some] at h
  simp [zeroValue, typeInfo, hi, h]
theorem c_stmtOk_of (k a b n : Int) (x y : List Stm) (hX : IL x) (hY : IL y) (deep room : Int) (hd : I64 deep) (hr : -1 ≤ room) (hr' : I64 room) (cs : List Value) (G : PH) (hs : Stm.rep G (.mk k a b n x y) cs) :
  Pure Tryz.prog 94 [.agg cs.toArray, .int .i64 deep, .int .i64 room] G fun v G' => v = .bool (iOk k a b n x y deep room) := by
 obtain ⟨vx, vy, rfl, hk, ha, hb, hn, h1, h2⟩ := Stm.rep_iff.1 hs
 obtain ⟨Ax, cx, rfl, _⟩ := id h1
 have hd' : -9223372036854775808 ≤ deep ∧ deep ≤ 9223372036854775807 := hd
 obtain ⟨Ay, cy, rfl, _⟩ := id h2
 refine Pure.intro Tryz.func94 Tryz.ntmps94 J J fun w => ?_; refine Va J J ?_;refine S_box J J J J J fun b3 => ?_;refine Va J J ?_;refine Ds J J J ?_;refine Da J J ?_;refine D_or 0 7 J J (N_call 0 Tryz.call96 (c_forms _) J J J J J J J J J J ?_) (N_new 7 J J J J J J J J J J J (AZ ZT_ok J J J J) fun b => ?_)
 ·rintro v G1 ⟨bm, es, clock, rfl, hbm, hkeys, hforms⟩ hext
  rcases fm_of hforms k with ⟨s, fa, fb, body, els, hf, hfm⟩ | ⟨hf, hfm⟩
  ·refine D_val 3 J J J J J J J J J (V_lookupS u_forms u_int hbm hkeys hf J J) ?_
   unfold formV
   refine Da J J ?_;refine D_sole 7 J J (N_new 7 J J J J J J J J J J J (AZ ZT_ok J J J J) fun b => ?_)
   refine Da J J ?_;refine Ns 8 J J J J J J J J J ?_;refine Da J J ?_;refine DD ?_;refine Va J J ?_
   repeat' (first
    | (refine S_condp J (fun h => ?_) (fun h => ?_) <;> refine Va J J ?_) | (refine S_cond J (fun h => ?_) (fun h => ?_) <;> refine Va J J ?_) | (refine S_box J J J J J fun b => ?_; refine Va J J ?_) | (refine AZ ZT_ok J J J J fun b => ?_; refine Va J J ?_) | (refine S_guardp J J (fun h => ?_) (fun h => ?_) <;> refine Va J J ?_) | (refine S_guard J J (fun h => ?_) (fun h => ?_) <;> refine Va J J ?_)
    | (refine S_subI J J J J (by first | omega | (simp_all; omega)) ?_; refine Va J J ?_)
    | (refine S_call Tryz.call97 (c_fits _ _ _) J J J ?_; rintro v G' ⟨rfl, rfl⟩ _; refine Va J J ?_)
    | (refine S_call Tryz.call98 (c_numberOk _ _ _ _ _ _ _) J J J ?_; rintro v G' ⟨rfl, rfl⟩ _; refine Va J J ?_)
    | (refine S_call Tryz.call84 (hX _ _ _ _ (by unfold I64; first | omega | (simp_all; omega)) (by first | exact hr | (simp_all [fitsB]; omega)) (by first | exact hr' | exact ha) (Sts_le hext.le h1)) rfl rfl rfl ?_; rintro v G' ⟨rfl, rfl⟩ _; refine Va J J ?_)
    | (refine S_call Tryz.call84 (hY _ _ _ _ (by unfold I64; first | omega | (simp_all; omega)) (by first | exact hr | (simp_all [fitsB]; omega)) (by first | exact hr' | exact ha) (Sts_le hext.le h2)) rfl rfl rfl ?_; rintro v G' ⟨rfl, rfl⟩ _; refine Va J J ?_)
    | refine S_retP Tryz.results94 J J hext ?_)
   all_goals (try clear hX hY hforms hkeys hs)
   all_goals (refine congrArg Value.bool ?_)
   all_goals (unfold iOk; rw [hfm]; dsimp only)
   all_goals (clear hext; cases body <;> cases els <;> simp_all [listOk] <;> omega)
  ·refine D_val 3 J J J J J J J J J (V_lookupN ZT_ok (z := ⟨32, [.string ByteArray.empty, .int .i64 0, .int .i64 0, .bool false, .bool false], []⟩) u_forms u_int hbm hkeys hf J J zform) ?_
   refine Da J J ?_;refine D_sole 7 J J (N_new 7 J J J J J J J J J J J (AZ ZT_ok J J J J) fun b => ?_)
   refine Da J J ?_;refine Ns 8 J J J J J J J J J ?_;refine Da J J ?_;refine DD ?_;refine Va J J ?_;refine GT J J J ?_;refine Va J J ?_;refine S_retP Tryz.results94 J J hext ?_;refine congrArg Value.bool ?_
   unfold iOk
   rw [hfm]
 ·refine Da J J ?_
  refine D_sole 0 J J (N_call 0 Tryz.call96 (c_forms _) J J J J J J J J J J ?_)
  rintro v G1 ⟨bm, es, clock, rfl, hbm, hkeys, hforms⟩ hext
  rcases fm_of hforms k with ⟨s, fa, fb, body, els, hf, hfm⟩ | ⟨hf, hfm⟩
  ·refine D_val 3 J J J J J J J J J (V_lookupS u_forms u_int hbm hkeys hf J J) ?_
   unfold formV
   refine Da J J ?_;refine Ns 8 J J J J J J J J J ?_;refine Da J J ?_;refine DD ?_;refine Va J J ?_
   repeat' (first
    | (refine S_condp J (fun h => ?_) (fun h => ?_) <;> refine Va J J ?_) | (refine S_cond J (fun h => ?_) (fun h => ?_) <;> refine Va J J ?_) | (refine S_box J J J J J fun b => ?_; refine Va J J ?_) | (refine AZ ZT_ok J J J J fun b => ?_; refine Va J J ?_) | (refine S_guardp J J (fun h => ?_) (fun h => ?_) <;> refine Va J J ?_) | (refine S_guard J J (fun h => ?_) (fun h => ?_) <;> refine Va J J ?_)
    | (refine S_subI J J J J (by first | omega | (simp_all; omega)) ?_; refine Va J J ?_)
    | (refine S_call Tryz.call97 (c_fits _ _ _) J J J ?_; rintro v G' ⟨rfl, rfl⟩ _; refine Va J J ?_)
    | (refine S_call Tryz.call98 (c_numberOk _ _ _ _ _ _ _) J J J ?_; rintro v G' ⟨rfl, rfl⟩ _; refine Va J J ?_)
    | (refine S_call Tryz.call84 (hX _ _ _ _ (by unfold I64; first | omega | (simp_all; omega)) (by first | exact hr | (simp_all [fitsB]; omega)) (by first | exact hr' | exact ha) (Sts_le hext.le h1)) rfl rfl rfl ?_; rintro v G' ⟨rfl, rfl⟩ _; refine Va J J ?_)
    | (refine S_call Tryz.call84 (hY _ _ _ _ (by unfold I64; first | omega | (simp_all; omega)) (by first | exact hr | (simp_all [fitsB]; omega)) (by first | exact hr' | exact ha) (Sts_le hext.le h2)) rfl rfl rfl ?_; rintro v G' ⟨rfl, rfl⟩ _; refine Va J J ?_)
    | refine S_retP Tryz.results94 J J hext ?_)
   all_goals (try clear hX hY hforms hkeys hs)
   all_goals (refine congrArg Value.bool ?_)
   all_goals (unfold iOk; rw [hfm]; dsimp only)
   all_goals (clear hext; cases body <;> cases els <;> simp_all [listOk] <;> omega)
  ·refine D_val 3 J J J J J J J J J (V_lookupN ZT_ok (z := ⟨32, [.string ByteArray.empty, .int .i64 0, .int .i64 0, .bool false, .bool false], []⟩) u_forms u_int hbm hkeys hf J J zform) ?_
   refine Da J J ?_;refine Ns 8 J J J J J J J J J ?_;refine Da J J ?_;refine DD ?_;refine Va J J ?_;refine GT J J J ?_;refine Va J J ?_;refine S_retP Tryz.results94 J J hext ?_;refine congrArg Value.bool ?_
   unfold iOk
   rw [hfm]
end
section
attribute [local irreducible] X Pure Mod
theorem c_listOkC (cs : List Value) (hlen : cs.length = 6) (deep room : Int) (r : Bool) (b4 b5 : Nat) (G : PH) (h4 : gcell G ⟨b4, 0, none⟩ = some (.int .i64 deep)) (h5 : gcell G ⟨b5, 0, none⟩ = some (.int .i64 room))
  (hst : Pure Tryz.prog 94 [.agg cs.toArray, .int .i64 deep, .int .i64 room] G fun v G' => v = .bool r ∧ G' = G) :
  Pure Tryz.prog 93 [.agg cs.toArray, .pointer (some ⟨b4, 0, none⟩), .pointer (some ⟨b5, 0, none⟩)] G fun v G' => v = .bool (!r) ∧ G' = G := by
 obtain ⟨x1, x2, x3, x4, x5, x6, rfl⟩ : ∃ x1 x2 x3 x4 x5 x6, cs = [x1, x2, x3, x4, x5, x6] := by
  match cs, hlen with
  | [x1, x2, x3, x4, x5, x6], _ => exact ⟨_, _, _, _, _, _, rfl⟩
 refine Pure.intro Tryz.func93 Tryz.ntmps93 J J fun w => ?_; refine Va J J ?_;refine S_box J J J J J fun b3 => ?_;refine Va J J ?_;refine S_load Tk J J J J J h4 ?_;refine Va J J ?_;refine S_load Tk J J J J J h5 ?_;refine Va J J ?_;refine S_call Tryz.call94 hst J J J ?_;rintro v G' ⟨rfl, rfl⟩ _
 refine Va J J ?_;exact S_retP Tryz.results93 J J XR ⟨J, J⟩
theorem notany_all {α : Type} (L : List α) (p : α → Bool) : (!L.any fun s => !p s) = L.all p := by
 induction L with
 | nil => rfl
 | cons s L ih => simp only [List.any_cons, List.all_cons, Bool.not_or, Bool.not_not, ih]
theorem IL_of (L : List Stm) (h : ∀ k (hk : k < L.length), IL L[k].body ∧ IL L[k].els) : IL L := by
 intro deep room v G hd hr hr' hv
 obtain ⟨A, c, rfl, _⟩ := id hv
 refine Pure.drop (Post := fun v _ => v = .bool (listOk L deep room)) ?_ (fun v G' h => h)
 refine Pure.intro Tryz.func84 Tryz.ntmps84 J J fun w => ?_; refine Va J J ?_;refine S_box J J J J J fun b4 => ?_;refine Va J J ?_;refine S_box J J J J J fun b5 => ?_;refine Va J J ?_;refine S_valV J J J (V_makeFunc J) ?_;refine Va J J ?_;refine S_freezeB 4 J J J J (fun _ h => h) fun hext1 => ?_;refine S_freezeB 5 J J J J (fun _ h => h) fun hext2 => ?_
 have hle := hext1.le.trans hext2.le
 refine S_call Tryz.call92 (c_ContainsStm L (fun s => !stmtOk s deep room) _ _ _ _ (Sts_le hle hv) Tryz.call93 ?_) J J J ?_
 ·intro k hk cs hs
  refine c_listOkC cs (Stm.rep_len hs) deep room _ b4 b5 _ (gcell_le hext2.le ?_) ?_ ?_
  ·simp [gcell, PH.add_self]
  ·simp [gcell, PH.add_self]
  ·obtain ⟨hb, he⟩ := h k hk
   rcases hk' : L[k] with ⟨q1, q2, q3, q4, x, y⟩
   rw [hk'] at hb he hs
   exact (c_stmtOk_of q1 q2 q3 q4 x y hb he deep room hd hr hr' cs _ hs).drop fun v G' e => by rw [e, iOk_eq _ _ _ _ _ _ _ _ hr]
 ·rintro v1 G1 ⟨rfl, rfl⟩ _
  refine Va J J ?_;refine S_retP Tryz.results84 J J (hext1.trans hext2) ?_
  rw [listOk_all, notany_all]
mutual
theorem IL_stm : ∀ (s : Stm), IL s.body ∧ IL s.els
 | .mk k a b n x y => ⟨IL_all x, IL_all y⟩
theorem IL_at : ∀ (L : List Stm) (k : Nat) (hk : k < L.length), IL L[k].body ∧ IL L[k].els
 | [], k, hk => absurd hk (by simp)
 | s :: L, 0, _ => IL_stm s
 | s :: L, k + 1, hk => IL_at L k (by simpa using hk)
theorem IL_all : ∀ (L : List Stm), IL L
 | L => IL_of L (IL_at L)
end
end
section
attribute [local irreducible] X Pure Mod
mutual
def flatS : Stm → Int → List (Stm × Int)
 | .mk k a b n x y, room => flatL x (if k = 8 then a else room) ++ flatL y (if k = 8 then a else room)
def flatL : List Stm → Int → List (Stm × Int)
 | [], _ => []
 | s :: r, room => (s, room) :: (flatS s room ++ flatL r room)
end
theorem flatL_append (L M : List Stm) (room : Int) : flatL (L ++ M) room = flatL L room ++ flatL M room := by
 induction L with
 | nil => simp [flatL]
 | cons s L ih => simp [flatL, ih]
theorem flat_take {L : List Stm} {i : Nat} (hi : i < L.length) (room : Int) : flatL (L.take (i + 1)) room = flatL (L.take i) room ++ (L[i], room) :: flatS L[i] room := by
 rw [List.take_succ_eq_append_getElem hi, flatL_append]; simp [flatL]
theorem flat_pre (L : List Stm) (i : Nat) (room : Int) : flatL (L.take i) room <+: flatL L room := ⟨flatL (L.drop i) room, by rw [← flatL_append, List.take_append_drop]⟩
def encP (G : PH) (x : Stm × Int) (vs : List Value) : Prop := ∃ cs, Stm.rep G x.1 cs ∧ vs = [Value.agg (cs ++ [Value.int .i64 x.2]).toArray]
def walkF (by_ bw : Nat) : Value := .func (.func 73) #[] #[.pointer (some ⟨by_, 0, none⟩), .pointer (some ⟨bw, 0, none⟩)]
def WalkC (L : List Stm) : Prop := ∀ (l by_ bw : Nat) (A Ax : List (Stm × Int) → HP) (xs pre : List (Stm × Int)) (room : Int) (v : Value) (G0 G : PH), G0.le G → Sts G0 L v → gcell G ⟨by_, 0, none⟩ = some (.func (.yield l) #[] #[]) → gcell G ⟨bw, 0, none⟩ = some (walkF by_ bw) →
 (∀ pre x vs, (pre ++ [x]) <+: xs → encP G0 x vs → YieldM Tryz.prog l vs G0 (A pre) (A (pre ++ [x])) (Ax (pre ++ [x]))) → (pre ++ flatL L room) <+: xs →
 Mod Tryz.prog 73 [v, .int .i64 room, .pointer (some ⟨by_, 0, none⟩), .pointer (some ⟨bw, 0, none⟩)] G (A pre) fun r G' A' => G' = G ∧ ((r = .bool true ∧ A' = A (pre ++ flatL L room)) ∨ (r = .bool false ∧ ∃ q, A' = Ax q))
theorem c_walk_of (L : List Stm) (hbs : ∀ k (hk : k < L.length), WalkC L[k].body) (hes : ∀ k (hk : k < L.length), WalkC L[k].els) : WalkC L := by
 intro l by_ bw A Ax xs pre room v G0 G hle hv hy hw hY hpre
 obtain ⟨Al, c, rfl, hn, hc1, hc2, hr⟩ := id hv
 refine Mod.intro Tryz.func73 Tryz.ntmps73 J J fun w S => ?_;refine Va J J ?_;refine S_loop (α := Nat) (fun i => i ≤ L.length) (fun i => L.length - i) []
  (fun i => [(12, .val (.int .i64 (i : Nat))), (11, .val (.int .i64 (L.length : Nat))), (10, .val (.slice Al L.length c)), (1, .val (.int .i64 room)), (2, .val (.pointer (some ⟨by_, 0, none⟩))), (3, .val (.pointer (some ⟨bw, 0, none⟩)))])
  (fun i => [.hp 1 (A (pre ++ flatL (L.take i) room))]) (fun _ => G) 0 (Nat.zero_le _) rfl ⟨⟨_, rfl, rfl⟩, ⟨_, rfl, rfl⟩, ⟨_, rfl, rfl⟩, ⟨_, rfl, rfl⟩, ⟨_, rfl, rfl⟩, ⟨_, rfl, rfl⟩, trivial⟩ (by simp only [List.take_zero, flatL, List.append_nil]; exact .hp .nil) ?_
 intro i hi
 refine Va J J ?_
 refine S_condp J (fun h5 => ?_) (fun h5 => ?_) <;> refine Va J J ?_
 ·have hil : i < L.length := by omega
  obtain ⟨ad, cs, rfl, hcs, hrep⟩ := Sr_at hv hil
  have hb := hbs i hil
  have he := hes i hil
  have htk := flat_take hil room
  have hp1 : (pre ++ flatL (L.take (i + 1)) room) <+: xs := ((List.prefix_append_right_inj pre).2 (flat_pre L (i + 1) room)).trans hpre
  rcases hs : L[i] with ⟨k, a, b, n, x, y⟩
  rw [hs] at hrep hb he htk
  rw [htk] at hp1
  obtain ⟨vx, vy, rfl, i1, i2, i3, i4, hx, hyy⟩ := Stm.rep_iff.1 hrep
  simp only [Stm.body, Stm.els] at hb he hx hyy
  have HP0 : (pre ++ flatL (L.take i) room ++ [(Stm.mk k a b n x y, room)]) <+: xs := List.IsPrefix.trans ⟨flatS (Stm.mk k a b n x y) room, by simp⟩ hp1
  have HP1 : ∀ {rr : Int}, (if k = 8 then a else room) = rr → (pre ++ flatL (L.take i) room ++ [(Stm.mk k a b n x y, room)] ++ flatL x rr) <+: xs := fun {rr} e => List.IsPrefix.trans ⟨flatL y rr, by subst e; simp [flatS]⟩ hp1
  have HP2 : ∀ {rr : Int}, (if k = 8 then a else room) = rr → (pre ++ flatL (L.take i) room ++ [(Stm.mk k a b n x y, room)] ++ flatL x rr ++ flatL y rr) <+: xs := fun {rr} e => List.IsPrefix.trans ⟨[], by subst e; simp [flatS]⟩ hp1
  have HPE : ∀ {rr : Int}, (if k = 8 then a else room) = rr → pre ++ flatL (L.take (i + 1)) room = (pre ++ flatL (L.take i) room ++ [(Stm.mk k a b n x y, room)] ++ flatL x rr ++ flatL y rr) := fun {rr} e => by subst e; rw [htk]; simp [flatS]
  obtain ⟨Ax', cx', rfl, _⟩ := id hx
  obtain ⟨Ay', cy', rfl, _⟩ := id hyy
  refine S_index Tk J J J J J J (by omega) (by omega) ?_;refine Va J J ?_;refine S_loadA Tk J J J J J (by simpa using gcells_le hle hcs) ?_;refine Va J J ?_;refine AZ ZT_ok J J J J fun b8 => ?_;refine Va J J ?_;refine S_load Tk J J J J J hy ?_;refine Va J J ?_
  refine S_yield 1 l rfl rfl ((hY _ (Stm.mk k a b n x y, room) _ HP0 ⟨_, hrep, rfl⟩).le hle) rfl rfl rfl rfl (fun _ => rfl) ?_ ?_ <;> refine Va J J ?_
  ·refine RF J J ?_
   refine Va J J ?_
   refine S_condp J (fun h8 => ?_) (fun h8 => ?_) <;> refine Va J J ?_
   ·refine S_load Tk J J J J J hw ?_
    refine Va J J ?_;refine S_callMV 1 (vs := [.slice Ax' x.length cx', .int .i64 a]) (cap := #[.pointer (some ⟨by_, 0, none⟩), .pointer (some ⟨bw, 0, none⟩)]) J Tryz.call73 (hb l by_ bw A Ax xs (pre ++ flatL (L.take i) room ++ [(Stm.mk k a b n x y, room)]) a _ G0 G hle hx hy hw hY (HP1 (if_pos h8))) J J J J (fun _ => J) ?_
    rintro v2 G2 A2 ⟨rfl, ⟨rfl, rfl⟩ | ⟨rfl, q, rfl⟩⟩ _ <;> refine Va J J ?_
    ·refine GF J J J ?_
     refine Va J J ?_;refine S_load Tk J J J J J hw ?_;refine Va J J ?_;refine S_callMV 1 (vs := [.slice Ay' y.length cy', .int .i64 a]) (cap := #[.pointer (some ⟨by_, 0, none⟩), .pointer (some ⟨bw, 0, none⟩)]) J Tryz.call73 (he l by_ bw A Ax xs (pre ++ flatL (L.take i) room ++ [(Stm.mk k a b n x y, room)] ++ flatL x a) a _ G0 _ hle hyy hy hw hY (HP2 (if_pos h8))) J J J J (fun _ => J) ?_
     rintro v3 G3 A3 ⟨rfl, ⟨rfl, rfl⟩ | ⟨rfl, q, rfl⟩⟩ _ <;> refine Va J J ?_
     ·refine RF J J ?_
      refine Va J J ?_;refine S_add J J J J (by omega) ?_;refine Va J J ?_;refine S_again (i + 1) (by omega) (by omega) J ⟨⟨_, J, by simp [denO]⟩, ⟨_, J, J⟩, ⟨_, J, J⟩, ⟨_, J, J⟩, ⟨_, J, J⟩, ⟨_, J, J⟩, trivial⟩ ?_
      rw [HPE (if_pos h8)]
      exact .drop (.hp .nil)
     ·refine RT J J ?_
      refine Va J J ?_;exact S_retm 1 (Res.t1 Tryz.results73 J J) J XR ⟨J, .inr ⟨J, _, J⟩⟩
    ·refine GT J J J ?_
     refine Va J J ?_;exact S_retm 1 (Res.t1 Tryz.results73 J J) J XR ⟨J, .inr ⟨J, _, J⟩⟩
   ·refine S_load Tk J J J J J hw ?_
    refine Va J J ?_;refine S_callMV 1 (vs := [.slice Ax' x.length cx', .int .i64 room]) (cap := #[.pointer (some ⟨by_, 0, none⟩), .pointer (some ⟨bw, 0, none⟩)]) J Tryz.call73 (hb l by_ bw A Ax xs (pre ++ flatL (L.take i) room ++ [(Stm.mk k a b n x y, room)]) room _ G0 G hle hx hy hw hY (HP1 (if_neg h8))) J J J J (fun _ => J) ?_
    rintro v2 G2 A2 ⟨rfl, ⟨rfl, rfl⟩ | ⟨rfl, q, rfl⟩⟩ _ <;> refine Va J J ?_
    ·refine GF J J J ?_
     refine Va J J ?_;refine S_load Tk J J J J J hw ?_;refine Va J J ?_;refine S_callMV 1 (vs := [.slice Ay' y.length cy', .int .i64 room]) (cap := #[.pointer (some ⟨by_, 0, none⟩), .pointer (some ⟨bw, 0, none⟩)]) J Tryz.call73 (he l by_ bw A Ax xs (pre ++ flatL (L.take i) room ++ [(Stm.mk k a b n x y, room)] ++ flatL x room) room _ G0 _ hle hyy hy hw hY (HP2 (if_neg h8))) J J J J (fun _ => J) ?_
     rintro v3 G3 A3 ⟨rfl, ⟨rfl, rfl⟩ | ⟨rfl, q, rfl⟩⟩ _ <;> refine Va J J ?_
     ·refine RF J J ?_
      refine Va J J ?_;refine S_add J J J J (by omega) ?_;refine Va J J ?_;refine S_again (i + 1) (by omega) (by omega) J ⟨⟨_, J, by simp [denO]⟩, ⟨_, J, J⟩, ⟨_, J, J⟩, ⟨_, J, J⟩, ⟨_, J, J⟩, ⟨_, J, J⟩, trivial⟩ ?_
      rw [HPE (if_neg h8)]
      exact .drop (.hp .nil)
     ·refine RT J J ?_
      refine Va J J ?_;exact S_retm 1 (Res.t1 Tryz.results73 J J) J XR ⟨J, .inr ⟨J, _, J⟩⟩
    ·refine GT J J J ?_
     refine Va J J ?_;exact S_retm 1 (Res.t1 Tryz.results73 J J) J XR ⟨J, .inr ⟨J, _, J⟩⟩
  ·refine RT J J ?_
   refine Va J J ?_;exact S_retm 1 (Res.t1 Tryz.results73 J J) J XR ⟨J, .inr ⟨J, _, J⟩⟩
 ·have hin : i = L.length := by omega
  subst hin
  rw [List.take_length]
  exact S_retm 1 (Res.t1 Tryz.results73 J J) J XR ⟨J, .inl ⟨J, J⟩⟩
mutual
theorem c_walkS : ∀ (s : Stm), WalkC s.body ∧ WalkC s.els
 | .mk k a b n x y => ⟨c_walk x, c_walk y⟩
theorem c_walkA : ∀ (L : List Stm), ∀ k (hk : k < L.length), WalkC L[k].body ∧ WalkC L[k].els
 | [], k, hk => absurd hk (by simp)
 | s :: L, 0, _ => c_walkS s
 | s :: L, k + 1, hk => c_walkA L k (by simpa using hk)
theorem c_walk : ∀ (L : List Stm), WalkC L
 | L => c_walk_of L (fun k hk => (c_walkA L k hk).1) (fun k hk => (c_walkA L k hk).2)
end
end
section
attribute [local irreducible] X Pure Mod
theorem c_all1 (L : List Stm) (room : Int) (v : Value) (b1 b2 : Nat) (G : PH) (hv : Sts G L v) (h1 : gcell G ⟨b1, 0, none⟩ = some v) (h2 : gcell G ⟨b2, 0, none⟩ = some (.int .i64 room)) :
  IterR Tryz.prog 72 #[.pointer (some ⟨b1, 0, none⟩), .pointer (some ⟨b2, 0, none⟩)] G (encP G) (flatL L room) := by
 refine IterR_of fun l A Ax hY => ?_;obtain ⟨Al, c, rfl, _⟩ := id hv
 refine Mod.intro Tryz.func72 Tryz.ntmps72 J J fun w S => ?_;refine Va J J ?_;refine S_boxB J J J J J fun b3 hb3 => ?_;refine Va J J ?_;refine S_allocB ZT_ok J J J J fun b4 hb4 => ?_;refine Va J J ?_;refine S_valV J J J (V_makeFunc J) ?_;refine Va J J ?_;refine S_keepB 3 J J J J hb3 fun hext1 => ?_;refine S_keepB 4 J J J J hb4 fun hext2 => ?_
 have hle := hext1.le.trans hext2.le
 refine S_load Tk J J J J J (gcell_le hle h1) ?_;refine Va J J ?_;refine S_load Tk J J J J J (gcell_le hle h2) ?_;refine Va J J ?_;refine S_callMV 1 (vs := [.slice Al L.length c, .int .i64 room]) (cap := #[.pointer (some ⟨b3, 0, none⟩), .pointer (some ⟨b4, 0, none⟩)]) J Tryz.call73 (c_walk L l b3 b4 A Ax (flatL L room) [] room _ G _ hle hv (gcell_le hext2.le (by simp [gcell, PH.add_self])) (by simp [gcell, PH.add_self, walkF]) hY (List.prefix_refl _)) J J J J (fun _ => J) ?_
 rintro v2 G2 A2 ⟨rfl, h⟩ hext3
 refine Va J J ?_;refine S_endm 1 (Res.t0 Tryz.results72) J ((hext1.trans hext2).trans hext3) ?_
 rcases h with ⟨_, rfl⟩ | ⟨_, q, rfl⟩
 ·exact .inl (by simp)
 ·exact .inr ⟨q, J⟩
theorem c_all (L : List Stm) (room : Int) (v : Value) (G : PH) (hv : Sts G L v) : Pure Tryz.prog 41 [v, .int .i64 room] G fun v' G' => ∃ b2 b3, v' = .func (.func 72) #[] #[.pointer (some ⟨b2, 0, none⟩), .pointer (some ⟨b3, 0, none⟩)] ∧ gcell G' ⟨b2, 0, none⟩ = some v ∧ gcell G' ⟨b3, 0, none⟩ = some (.int .i64 room) := by
 obtain ⟨Al, c, rfl, _⟩ := id hv
 refine Pure.intro Tryz.func41 Tryz.ntmps41 J J fun w => ?_; refine Va J J ?_;refine S_box J J J J J fun b2 => ?_;refine Va J J ?_;refine S_box J J J J J fun b3 => ?_;refine Va J J ?_;refine S_valV J J J (V_makeFunc J) ?_;refine Va J J ?_;refine S_freezeB 2 J J J J (fun _ h => h) fun hext1 => ?_;refine S_freezeB 3 J J J J (fun _ h => h) fun hext2 => ?_;refine S_retp (Res.t1 Tryz.results41 J J) (hext1.trans hext2) ⟨b2, b3, J, gcell_le hext2.le (by simp [gcell, PH.add_self]), by simp [gcell, PH.add_self]⟩
theorem flat_len : ∀ (n : Nat) (L : List Stm) (room : Int), dpL L ≤ n → ((flatL L room).length : Int) = many L (n : Nat)
 | n, [], room, _ => by simp [flatL, many]
 | 0, s :: L, room, h => by
  have := dpS_eq s
  simp only [dpL] at h
  omega
 | n + 1, s :: L, room, h => by
  simp only [dpL] at h
  have a3 := flat_len (n + 1) L room (by omega)
  obtain ⟨k, a, b, m, x, y⟩ := s
  simp only [dpS] at h
  have a1 := flat_len n x (if k = 8 then a else room) (by omega)
  have a2 := flat_len n y (if k = 8 then a else room) (by omega)
  simp only [flatL, flatS, List.length_cons, List.length_append, many, manyS, if_pos (show (0 : Int) < ((n + 1 : Nat) : Int) by omega), show (((n + 1 : Nat) : Int) - 1) = (n : Nat) by omega]
  omega
theorem c_iStmtsOk (L : List Stm) (v : Value) (G : PH) (hv : Sts G L v) (hs : Sh L) : Pure Tryz.prog 70 [v] G fun v G' => v = .bool (stmtsOk L) ∧ G' = G := by
 obtain ⟨Al, c, rfl, _⟩ := id hv
 refine Pure.introM Tryz.func70 Tryz.ntmps70 J J fun w hw => ?_;refine Va J J ?_;refine S_call Tryz.call84 (IL_all L 3 (-1) _ _ (by unfold I64; omega) (by omega) (by unfold I64; omega) hv) rfl rfl rfl ?_;rintro v1 G1 ⟨rfl, rfl⟩ _
 refine Va J J ?_
 cases hl : listOk L 3 (-1)
 ·refine RT J J ?_
  refine Va J J ?_;exact S_retK hw Tryz.results70 J J (by simp [stmtsOk, hl])
 refine RF J J ?_;refine Va J J ?_;refine AZ ZT_ok J J J J fun b3 => ?_;refine Va J J ?_;refine S_call Tryz.call41 (c_all L (-1) _ _ hv) J J J ?_;rintro v2 G2 ⟨b5, b6, rfl, h5, h6⟩ hext2
 refine Va J J ?_
 have hd : dpL L ≤ 3 := dpL_ok 3 L 3 (-1) hl (by omega)
 have hf := flat_len 3 L (-1) hd
 have hm := many_bnd 3 L hs
 have hB := MB3
 rw [show ((3 : Nat) : Int) = 3 from rfl] at hf hm
 refine S_range (fun pre => [.blk 3 3 (vL [.int .i64 (pre.length : Nat)])]) (fun pre => [.hp 3 deadHP]) rfl rfl rfl Tryz.call72 (c_all1 L (-1) _ b5 b6 G2 (Sts_le hext2.le hv) h5 h6) (fun x vs h => by obtain ⟨cs, _, rfl⟩ := h; rfl) rfl (.blk rfl rfl .nil) ?_ ?_ ?_
 ·intro l pre x vs W S I hpre henc hW hI
  obtain ⟨cs, _, rfl⟩ := henc
  have hlen : pre.length + 1 ≤ (flatL L (-1)).length := by have := hpre.length_le; simpa using this
  refine Va J J ?_;refine hI _ _ _ fun W2 S2 hW2 => ?_;refine Va J J ?_;refine S_add J J J J (by omega) ?_;refine Va J J ?_;refine S_roundEnd ?_
  simp only [List.length_append, List.length_singleton]
  exact .blk J J .nil
 ·intro D hD hDs
  refine Va J J ?_;refine S_retK hw Tryz.results70 J J ?_
  have e : w64 ((flatL L (-1)).length : Int) = (flatL L (-1)).length := w64_eq ⟨by omega, by omega⟩
  simp [stmtsOk, hl, ← hf, e]
 ·intro D pre hD hDs
  exact S_dead 3 J
theorem c_iProgOkC (L : List Stm) (v : Value) (G : PH) (hv : Sts G L v) (hs : Sh L) : Pure Tryz.prog 69 [v] G fun v G' => v = .bool (!stmtsOk L) ∧ G' = G := by
 obtain ⟨Al, c, rfl, _⟩ := id hv
 refine Pure.intro Tryz.func69 Tryz.ntmps69 J J fun w => ?_; refine Va J J ?_;refine S_call Tryz.call70 (c_iStmtsOk L _ _ hv hs) J J J ?_;rintro v1 G1 ⟨rfl, rfl⟩ _
 refine Va J J ?_;exact S_retp (Res.t1 Tryz.results69 J J) XR ⟨J, J⟩
theorem c_iProgOk (p : List (List Stm)) (v : Value) (G : PH) (hp : PrgS G p v) : Pure Tryz.prog 38 [v] G fun v G' => v = .bool (progOk p) ∧ G' = G := by
 obtain ⟨hpp, hsh, hpl⟩ := id hp
 obtain ⟨A, c, rfl, hl1, _⟩ := id hpp
 refine Pure.intro Tryz.func38 Tryz.ntmps38 J J fun w => ?_; refine Va J J ?_
 by_cases h1 : 1 ≤ p.length ∧ p.length ≤ 3
 ·refine GT J J (by simp; omega) ?_
  refine Va J J ?_;refine S_call Tryz.call68 (c_ContainsSts p (fun l => !stmtsOk l) 69 #[] _ _ hpp Tryz.call69 fun k hk v hv => c_iProgOkC _ _ _ hv (hsh _ (List.getElem_mem hk))) J J J ?_;rintro v1 G1 ⟨rfl, rfl⟩ _
  refine Va J J ?_;refine S_retp (Res.t1 Tryz.results38 J J) XR ⟨?_, J⟩
  rw [notany_all]
  simp [progOk, h1]
 ·refine GF J J (by simp; omega) ?_
  refine Va J J ?_;refine S_retp (Res.t1 Tryz.results38 J J) XR ⟨?_, J⟩
  have : progOk p = false := by
   cases hq : progOk p with
   | false => rfl
   | true => exact absurd (prog_parts hq).2 h1
  rw [this]
theorem c_playable (p : List (List Stm)) (q : List Int) (pv qv : Value) (G : PH) (hp : PrgS G p pv) (hq : Ints G q qv) : Pure Tryz.prog 29 [pv, qv] G fun v G' => v = .bool (progOk p && decide (q.length ≤ 200)) ∧ G' = G := by
 obtain ⟨Ap, cp, rfl, _⟩ := id hp.1
 obtain ⟨Aq, cq, rfl, _⟩ := id hq
 refine Pure.intro Tryz.func29 Tryz.ntmps29 J J fun w => ?_; refine Va J J ?_;refine S_call Tryz.call38 (c_iProgOk p _ _ hp) J J J ?_;rintro v1 G1 ⟨rfl, rfl⟩ _
 refine Va J J ?_;exact S_retp (Res.t1 Tryz.results29 J J) XR ⟨by rw [show decide ((q.length : Int) ≤ 200) = decide (q.length ≤ 200) from decide_eq_decide.2 (by omega)], J⟩
end
section
attribute [local irreducible] X Pure Mod
theorem ck_at {G : PH} {l : List Int} {k c : Nat} {A : Option Addr} (h : Ints G l (.slice A l.length c)) (hk : k < l.length) : ∃ ad, A = some ad ∧ gcell G (ad.add (k * 1)) = some (.int .i64 (l[k]?.getD 0)) := by
 obtain ⟨ad, cs, rfl, hcs, rfl, hi⟩ := Sr_at h hk
 refine ⟨ad, J, ?_⟩
 rw [List.getElem?_eq_getElem hk, Option.getD_some]
 exact hcs.1
theorem ahead_if {a b : Mk} (h1 : a.who < a.clock.length) (h2 : a.who < b.clock.length) : a.ahead b = if a.who = b.who then decide (a.clock[a.who]?.getD 0 < b.clock[a.who]?.getD 0) else decide (a.clock[a.who]?.getD 0 ≤ b.clock[a.who]?.getD 0) := by
 unfold Mk.ahead
 rw [if_pos ⟨h1, h2⟩]
 simp
theorem c_iMarkAhead (a b : Mk) (va vb : List Value) (G : PH) (ha : mkRep G a va) (hb : mkRep G b vb) : Pure Tryz.prog 15 [.agg va.toArray, .agg vb.toArray] G fun v G' => v = .bool (a.ahead b) ∧ G' = G := by
 obtain ⟨Aa, ca, rfl, hA, _, hwa, _⟩ := ha
 obtain ⟨Ab, cb, rfl, hB, _, hwb, _⟩ := hb
 have hla : a.clock.length ≤ 1000000000 := by obtain ⟨_, _, _, h, _⟩ := hA; exact h
 have hlb : b.clock.length ≤ 1000000000 := by obtain ⟨_, _, _, h, _⟩ := hB; exact h
 refine Pure.intro Tryz.func15 Tryz.ntmps15 J J fun w => ?_;refine Va J J ?_;refine S_box J J J J J fun b2 => ?_;refine Va J J ?_;refine S_box J J J J J fun b3 => ?_;refine Va J J ?_
 by_cases h : a.who < a.clock.length ∧ a.who < b.clock.length
 ·obtain ⟨h1, h2⟩ := h
  refine RF J (by simp; omega) ?_;refine Va J J ?_;obtain ⟨ada, rfl, hca⟩ := ck_at hA h1
  obtain ⟨adb, rfl, hcb⟩ := ck_at hB h2
  refine S_condp J (fun he => ?_) (fun he => ?_) <;> refine Va J J ?_
  ·refine D_startK [4] (by exact MO) J J J (by kernel_rfl) ?_
   refine Da J J ?_;refine D_val 4 J J J J J J J J J (V_index Tk J J J J (by omega) (by omega)) ?_;refine Da J J ?_;refine D_val 5 J J J J J J J J J (V_load Tk J J J (by simpa using hca)) ?_;refine Da J J ?_;refine D_val 10 J J J J J J J J J (V_index Tk J J J J (by omega) (by omega)) ?_;refine Da J J ?_;refine D_val 11 J J J J J J J J J (V_load Tk J J J (by simpa using hcb)) ?_;refine Da J J ?_;refine D_sole 13 J J (N_assign Tk 13 J J J J J J J J J (by kernel_rfl) ?_)
   refine DD ?_;refine Va J J ?_;exact S_retp (Res.t1 Tryz.results15 J J) XR ⟨by rw [ahead_if h1 h2, if_pos (by omega)], J⟩
  ·refine D_startK [4] (by exact MO) J J J (by kernel_rfl) ?_
   refine Da J J ?_;refine D_val 4 J J J J J J J J J (V_index Tk J J J J (by omega) (by omega)) ?_;refine Da J J ?_;refine D_val 5 J J J J J J J J J (V_load Tk J J J (by simpa using hca)) ?_;refine Da J J ?_;refine D_val 10 J J J J J J J J J (V_index Tk J J J J (by omega) (by omega)) ?_;refine Da J J ?_;refine D_val 11 J J J J J J J J J (V_load Tk J J J (by simpa using hcb)) ?_;refine Da J J ?_;refine D_sole 13 J J (N_assign Tk 13 J J J J J J J J J (by kernel_rfl) ?_)
   refine DD ?_;refine Va J J ?_;exact S_retp (Res.t1 Tryz.results15 J J) XR ⟨by rw [ahead_if h1 h2, if_neg (by omega)], J⟩
 ·refine RT J (by simp; omega) ?_
  refine Va J J ?_;exact S_retp (Res.t1 Tryz.results15 J J) XR ⟨by simp [Mk.ahead, h], J⟩
end
section
section
variable {C : Ctx} {ks : List Nat} {all : Array Oper} {k : List It} {E : Env} {ι : Ids} {L : List Ent} {G : PH} {R : List Nat} {pend : List Pd}
end
end
section
attribute [local irreducible] X Pure Mod
theorem mk_at {G : PH} {ms : List Mk} {k c : Nat} {A : Option Addr} (h : Mks G ms (.slice A ms.length c)) (hk : k < ms.length) : ∃ ad cs, A = some ad ∧ gcells G (ad.add (k * 5)) cs ∧ mkRep G ms[k] cs := Sr_at h hk
end
section
def exHP {α : Type} (F : α → HP) : HP where
 holds w S := ∃ a, (F a).holds w S
 loc w w' S h hs := by
  obtain ⟨a, h⟩ := h
  exact ⟨a, (F a).loc w w' S h hs⟩
 lt w S h := by
  obtain ⟨a, h⟩ := h
  exact (F a).lt w S h
section
variable {C : Ctx} {k : List It} {E : Env} {ι : Ids} {L : List Ent} {G : PH}
theorem S_exOpen {α : Type} (κ : Nat) {F : α → HP} {L' : α → List Ent} (hL : getH κ L = some (exHP F)) (hL' : ∀ a, setH κ (F a) L = some (L' a)) (hk : ∀ a, X C k E ι (L' a) G) : X C k E ι L G := by
 intro act w h1 h2 h3 h4
 obtain ⟨S, ⟨a, hA⟩, hSG, hturn⟩ := h4.turn hL
 exact hk a act w h1 h2 h3 (hturn _ _ G w S (hL' a) hA h4.emb XR (fun b hb => ⟨hSG b hb, .inl hb⟩) J J J (Nat.le_refl _) fun _ _ _ => J)
theorem S_exClose {α : Type} (κ : Nat) (F : α → HP) (a : α) {A : HP} {L' : List Ent} (hL : getH κ L = some A) (hF : A = F a) (hL' : setH κ (exHP F) L = some L') (hk : X C k E ι L' G) : X C k E ι L G := by
 intro act w h1 h2 h3 h4
 obtain ⟨S, hA, hSG, hturn⟩ := h4.turn hL
 rw [hF] at hA
 exact hk act w h1 h2 h3 (hturn _ _ G w S hL' ⟨a, hA⟩ h4.emb XR (fun b hb => ⟨hSG b hb, .inl hb⟩) J J J (Nat.le_refl _) fun _ _ _ => J)
end
end
section
attribute [local irreducible] X Pure Mod
theorem gcells_gc {G H : PH} (h : ∀ a, gcell H a = gcell G a) : ∀ {cs : List Value} {a : Addr}, gcells G a cs → gcells H a cs
 | [], _, _ => trivial
 | _ :: _, a, hc => ⟨by rw [h]; exact hc.1, gcells_gc h hc.2⟩
theorem Sr_gc {α : Type} {G H : PH} {sz : Nat} {rep rep' : α → List Value → Prop} (h : ∀ a, gcell H a = gcell G a) (hr : ∀ x cs, rep x cs → rep' x cs) {l : List α} {v : Value} (hv : Sr G sz rep l v) : Sr H sz rep' l v := by
 have hw : ∀ {l : List α} {ad : Addr}, Rw G sz rep l ad → Rw H sz rep' l ad := by
  intro l
  induction l with
  | nil => intro _ _; trivial
  | cons x l ih =>
   intro ad hx
   obtain ⟨⟨cs, h1, h2⟩, h3⟩ := hx
   exact ⟨⟨cs, gcells_gc h h1, hr x cs h2⟩, ih h3⟩
 obtain ⟨A, c, h1, h2, h3, h4, h5⟩ := hv
 refine ⟨A, c, h1, h2, h3, h4, ?_⟩
 rcases h5 with h5 | ⟨ad, h5, h6⟩
 ·exact .inl h5
 ·exact .inr ⟨ad, h5, hw h6⟩
theorem Mks_gc {G H : PH} (h : ∀ a, gcell H a = gcell G a) {ms : List Mk} {v : Value} (hv : Mks G ms v) : Mks H ms v :=
 Sr_gc h (fun m cs hm => by
  obtain ⟨A, c, e, h1, h2⟩ := hm
  exact ⟨A, c, e, Sr_gc h (fun _ _ h => h) h1, h2⟩) hv
def sbF (b base : Nat) (pre : List (List Value)) (y : Option Addr × Nat) : HP := pairHP (blkHP b 29 [.slice y.1 pre.length y.2]) (rowO base 32 5 y.1 pre.length y.2 pre.flatten)
theorem sbF_snoc (b base : Nat) (pre : List (List Value)) (x : List Value) (A : Option Addr) (c : Nat) : pairHP (blkHP b 29 [.slice A (pre.length + 1) c]) (rowO base 32 5 A (pre.length + 1) c (pre.flatten ++ x)) = sbF b base (pre ++ [x]) (A, c) := by
 simp [sbF]
theorem ext_add {B : Nat} {G : PH} {D : Nat} {o : Obj} (h : G D = none) (hB : B ≤ D) : PH.ext B G (G.add D o) := ⟨le_add h, fun b o' h1 h2 => by
 unfold PH.add at h1
 split at h1
 ·rename_i e; omega
 ·rw [h2] at h1; cases h1⟩
theorem c_AppendSeq (gf : Nat) (cap : Array Value) (ms : List Mk) (G : PH) (hcf : ∀ args w, (callFunc gf args).run Tryz.prog w = .ok (.enter gf args) w) (hml : ms.length ≤ 200) (hI : IterQ Tryz.prog gf cap G encM okM (QM ms)) : Pure Tryz.prog 54 [.slice none 0 0, .func (.func gf) #[] cap] G fun v G' => Mks G' ms v := by
 refine Pure.introG Tryz.func54 Tryz.ntmps54 J J fun w hw => ?_;refine Va J J ?_;refine S_box J J J J J fun b2 => ?_;refine Va J J ?_;refine S_nilO (base := w.heap.size) (e := 32) (size := 5) 20 ?_;refine S_Bhp 2 21 J J J J ?_;refine S_reE 2 (.val (.pointer (some ⟨b2, 0, none⟩))) J J ?_;refine S_pair 21 20 30 J J J J ?_;refine S_exClose 30 (sbF b2 w.heap.size []) (none, 0) J J J ?_;refine S_rangeQ (fun pre => [.hp 30 (exHP (sbF b2 w.heap.size pre))]) (fun pre => [.hp 30 deadHP]) rfl rfl rfl hcf hI (fun x vs h => by obtain ⟨_, _, _, _, _, _, _, _, rfl⟩ := h; rfl) rfl (.hp .nil) ?_ ?_ ?_
 ·intro l pre x vs W S I hpre henc hW hI
  obtain ⟨a, b, s, c, A, n, k, rfl, rfl⟩ := henc
  have hpl : pre.length + 1 ≤ 200 := by unfold okM at hpre; simpa using hpre
  refine Va J J ?_;refine AZ ZT_ok J J J J fun b5 => ?_;refine Va J J ?_;refine hI _ _ _ fun W2 S2 hW2 => ?_;refine S_exOpen 30 J (fun _ => J) ?_;rintro ⟨A1, c1⟩
  unfold sbF
  refine S_unpair 30 21 20 J J ?_;refine S_hpB 21 102 J J J ?_;refine S_reE 2 (.ptr 102 0) J J ?_;refine Va J J ?_;refine S_slice Tk ZT_ok J J J J (by decide) (by decide) J J J J fun b10 => ?_;refine Va J J ?_
  refine S_app1 Tk 20 10 J J J J J J J J J J J J J J (by intro u hu; simp at hu; rcases hu with rfl | rfl | rfl | rfl | rfl <;> rfl) rfl (fun _ _ => rfl) (by omega) hW2 fun A6 c6 => ?_
  refine Va J J ?_;refine S_Bhp 102 21 J J J J ?_;refine S_pair 21 20 30 J J J J ?_;refine S_exClose 30 (sbF b2 w.heap.size (pre ++ [_])) (A6, c6) J (sbF_snoc _ _ _ _ _ _) J ?_;refine S_pick [30] J ?_;exact S_roundEnd (.hp .nil)
 ·intro D G' pre hQ hext hD hDs
  obtain ⟨hcs, hpl⟩ := hQ
  refine S_exOpen 30 J (fun _ => J) ?_;rintro ⟨A1, c1⟩
  unfold sbF
  refine S_unpair 30 21 20 J J ?_;refine S_hpB 21 103 J J J ?_;refine S_reE 2 (.ptr 103 0) J J ?_;refine Va J J ?_;refine S_freezeR 20 J J (Nat.le_refl _) fun Gf hextf hncf hcmf hclf => ?_
  have hle : G'.le Gf := (le_add hD).trans hextf.le
  have hv : Mks Gf ms (.slice A1 pre.length c1) := frz (Cs_mono (fun _ _ _ h => mkRep_le hle h) hcs) hpl (by omega) hncf hcmf hclf
  exact S_retG hw ((hext.trans (ext_add hD hDs)).trans hextf) Tryz.results54 J J fun H hH => Mks_gc hH hv
 ·intro D G' pre hext hD hDs
  exact S_dead 30 J
theorem c_Collect (gf : Nat) (cap : Array Value) (ms : List Mk) (G : PH) (hcf : ∀ args w, (callFunc gf args).run Tryz.prog w = .ok (.enter gf args) w) (hml : ms.length ≤ 200) (hI : IterQ Tryz.prog gf cap G encM okM (QM ms)) : Pure Tryz.prog 30 [.func (.func gf) #[] cap] G fun v G' => Mks G' ms v := by
 refine Pure.intro Tryz.func30 Tryz.ntmps30 J J fun w => ?_; refine Va J J ?_;refine S_call Tryz.call54 (c_AppendSeq gf cap ms _ hcf hml hI) J J J ?_;rintro v1 G1 hv hext
 obtain ⟨Am, cm, rfl, _⟩ := id hv
 refine Va J J ?_;exact S_retp (Res.t1 Tryz.results30 J J) hext hv
theorem c_marks (pv qv : Value) (G : PH) (hp : ∃ A n c, pv = .slice A n c) (hq : ∃ A n c, qv = .slice A n c) : Pure Tryz.prog 31 [pv, qv] G fun v' G' => ∃ b2 b3, v' = .func (.func 55) #[] #[.pointer (some ⟨b2, 0, none⟩), .pointer (some ⟨b3, 0, none⟩)] ∧ gcell G' ⟨b2, 0, none⟩ = some pv ∧ gcell G' ⟨b3, 0, none⟩ = some qv := by
 obtain ⟨A, n, c, rfl⟩ := hp
 obtain ⟨A', n', c', rfl⟩ := hq
 refine Pure.intro Tryz.func31 Tryz.ntmps31 J J fun w => ?_; refine Va J J ?_;refine S_box J J J J J fun b2 => ?_;refine Va J J ?_;refine S_box J J J J J fun b3 => ?_;refine Va J J ?_;refine S_valV J J J (V_makeFunc J) ?_;refine Va J J ?_;refine S_freezeB 2 J J J J (fun _ h => h) fun hext1 => ?_;refine S_freezeB 3 J J J J (fun _ h => h) fun hext2 => ?_;refine S_retp (Res.t1 Tryz.results31 J J) (hext1.trans hext2) ⟨b2, b3, J, gcell_le hext2.le (by simp [gcell, PH.add_self]), by simp [gcell, PH.add_self]⟩
theorem c_iMarksOf (p : List (List Stm)) (q : List Int) (pv qv : Value) (G : PH) (hp : PrgS G p pv) (hq : Ints G q qv) : Pure Tryz.prog 12 [pv, qv] G fun v G' => Mks G' (marksL p q) v := by
 obtain ⟨Ap, cp, rfl, _⟩ := id hp.1
 obtain ⟨Aq, cq, rfl, _⟩ := id hq
 refine Pure.intro Tryz.func12 Tryz.ntmps12 J J fun w => ?_; refine Va J J ?_;refine S_call Tryz.call29 (c_playable p q _ _ _ hp hq) J J J ?_;rintro v G5 ⟨rfl, rfl⟩ _
 refine Va J J ?_
 cases hpl0 : (progOk p && decide (q.length ≤ 200))
 ·refine RT J J ?_
  refine Va J J ?_
  have hnone : marksL p q = [] := by
   unfold marksL
   rw [if_neg]
   rintro ⟨h1, h2⟩
   simp [h1, h2] at hpl0
  exact S_retp (Res.t1 Tryz.results12 J J) XR (by rw [hnone]; exact Sr_nil J)
 refine RF J J ?_;refine Va J J ?_
 simp only [Bool.and_eq_true, decide_eq_true_eq] at hpl0
 obtain ⟨hpo, hq2⟩ := hpl0
 have hml := marksL_len p q
 have hmq : marksL p q = marksF p.length q 0 Ck.zero (open0 p) := by unfold marksL; rw [if_pos ⟨hpo, hq2⟩]
 rw [hmq] at hml ⊢
 refine S_call Tryz.call31 (c_marks _ _ _ ⟨_, _, _, J⟩ ⟨_, _, _, J⟩) J J J ?_;rintro v2 G2 ⟨b5, b6, rfl, h5, h6⟩ hext2
 refine Va J J ?_;refine S_call Tryz.call30 (c_Collect _ _ _ _ Tryz.call55 hml (c_marks1 p q _ _ b5 b6 G2 (PrgS_le hext2.le hp) (Ints_le hext2.le hq) hpo hq2 h5 h6)) J J J ?_;rintro v3 G3 hv hext3
 obtain ⟨Am, cm, rfl, _⟩ := id hv
 refine Va J J ?_;exact S_retp (Res.t1 Tryz.results12 J J) (hext2.trans hext3) hv
end
section
attribute [local irreducible] X Pure Mod
end
section
def GB (w : World) (a0 : Option Addr) : PH := fun b => match a0 with
 | some x => if b = x.block then w.heap[b]? else none
 | none => none
theorem GB_emb (w : World) (a0 : Option Addr) : Emb (GB w a0) w := by
 intro b o h
 unfold GB at h
 split at h
 ·split at h
  ·exact h
  ·cases h
 ·cases h
theorem gcell_GB {w : World} {x a : Addr} {v : Value} (hb : a.block = x.block) (h : w.cell? a = some v) : gcell (GB w (some x)) a = some v := by
 unfold gcell
 simp only [GB, hb, if_true]
 unfold World.cell? at h
 rw [hb] at h
 cases ho : w.heap[x.block]? with
 | none => simp [ho] at h
 | some o => cases o <;> simp_all
theorem gcells_of {G : PH} {a : Addr} : ∀ {cs : List Value}, (∀ j v, cs[j]? = some v → gcell G (a.add j) = some v) → gcells G a cs := by
 intro cs
 induction cs generalizing a with
 | nil => intro _; trivial
 | cons v cs ih =>
  intro h
  refine ⟨by have := h 0 v J; rwa [add_zero'] at this, ih fun j u hj => ?_⟩
  rw [add_add', Nat.add_comm 1 j]
  exact h (j + 1) u (by simpa using hj)
theorem block_add' (x : Addr) (i : Nat) : (x.add i).block = x.block := by unfold Addr.add; split <;> rfl
theorem Cs_byte : ∀ (l : List Int), (∀ n ∈ l, 0 ≤ n ∧ n ≤ 255) → Cs 1 byteRep l (l.map fun n => .int .u8 n)
 | [], _ => rfl
 | n :: l, h => ⟨[.int .u8 n], _, rfl, rfl, ⟨rfl, h n (List.mem_cons_self ..)⟩, Cs_byte l fun m hm => h m (List.mem_cons_of_mem _ hm)⟩
theorem byts_of {w : World} {a : Option Addr} {len cap : Nat} {zs : List Int} (h : (a = none ∧ len = 0 ∧ cap = 0 ∧ zs = []) ∨ ∃ x, a = some x ∧ len ≤ cap ∧ cap ≤ maxLen ∧ zs.length = cap ∧ (∀ i, i < zs.length → w.cell? (x.add i) = some (.int .u8 (zs.getD i 0))) ∧ ∀ n ∈ zs, (Lit.int .u8 n).wf = true)
  (hlen : len ≤ 1048576) : ∃ l, Byts (GB w a) l (.slice a len cap) ∧ l.length = len := by
 rcases h with ⟨rfl, rfl, rfl, rfl⟩ | ⟨x, rfl, h1, h2, h3, h4, h5⟩
 ·exact ⟨[], Sr_nil J, J⟩
 ·have hl : (zs.take len).length = len := by simp; omega
  refine ⟨zs.take len, Sx_Sr ⟨some x, cap, J, by omega, h1, h2, ?_, ?_⟩ hl.symm (Cs_byte _ ?_), hl⟩
  ·simp; omega
  ·refine .inr ⟨x, rfl, gcells_of fun j v hj => ?_⟩
   simp only [List.getElem?_map, Option.map_eq_some_iff] at hj
   obtain ⟨n, hn, rfl⟩ := hj
   have hj2 : zs[j]? = some n := by
    rw [List.getElem?_take] at hn
    split at hn
    ·exact hn
    ·cases hn
   have hjl : j < zs.length := (List.getElem?_eq_some_iff.1 hj2).1
   refine gcell_GB (block_add' x j) ?_
   rw [h4 j hjl]
   simp [List.getD_eq_getElem?_getD, hj2]
  ·intro n hn
   have := h5 n (List.mem_of_mem_take hn)
   have e1 : IntKind.u8.min = 0 := rfl
   have e2 : IntKind.u8.max = 255 := rfl
   simp only [Lit.wf, Bool.and_eq_true, decide_eq_true_eq, e1, e2] at this
   omega
theorem law1 {P : Program} {f : FuncId} {a : Option Addr} {len cap : Nat} {zs : List Int} {w : World} (h : (a = none ∧ len = 0 ∧ cap = 0 ∧ zs = []) ∨ ∃ x, a = some x ∧ len ≤ cap ∧ cap ≤ maxLen ∧ zs.length = cap ∧ (∀ i, i < zs.length → w.cell? (x.add i) = some (.int .u8 (zs.getD i 0))) ∧ ∀ n ∈ zs, (Lit.int .u8 n).wf = true)
  (hc : (len ≤ 1048576 → ∃ l, Byts (GB w a) l (.slice a len cap) ∧ l.length = len) → Pure P f [.slice a len cap] (GB w a) fun v G' => v = .bool true) :
  Calls P f #[.slice a len cap] w fun e w' => e = .returned (.bool true) ∧ Below w.heap.size w w' :=
 (hc (byts_of h) w (GB_emb w a)).mono fun e w' ⟨v, G', h1, h2, h3, h4, h5⟩ => ⟨by rw [h1, h2], h5⟩
end
end Go.Proofs.YtphbcboejmhaoaaGreat
