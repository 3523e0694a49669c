/- Walks of the program's functions, one after the other (part 4); without conditions of their own. -/
import Derived.Test.YtcbdilccmjpnbaaGreatWM2
import Derived.Test.YtcbdilccmjpnbaaGreatWM3
set_option linter.unusedVariables false
set_option linter.unusedSimpArgs false
set_option maxRecDepth 100000
set_option maxHeartbeats 4000000
open Go.RowKit
namespace Go.Proofs.YtcbdilccmjpnbaaGreat
section
attribute [local irreducible] X Pure Mod
def proc0 (l : List Stm) : Prc := ⟨0, 0, 0, l, 0, 0, -1⟩
def open0 (p : List (List Stm)) : Wld := ⟨p.map proc0, 0, 0, 0, 0, 0, [], [], []⟩
def wZero : Value := .agg #[.slice none 0 0, .slice none 0 0, .slice none 0 0, .slice none 0 0, .slice none 0 0]
def OPost (p : List (List Stm)) (W : Wld) (v : Value) (G' : PH) (A' : HP) : Prop := (progOk p = true ∧ ∃ cs ts, v = .agg cs.toArray ∧ A' = worldV cs W ts ∧ Tds G' W.procs ts) ∨ (progOk p = false ∧ v = wZero ∧ A' = emptyHP)
def procX : List (Nat × Value) → List Value
  | [] => []
  | (b, t) :: q => [.slice (some ⟨b, 0, none⟩) 3 3, t, .int .i64 0, .int .i64 0, .int .i64 (-1)] ++ procX q
theorem procX_snoc (q : List (Nat × Value)) (b : Nat) (t : Value) : procX (q ++ [(b, t)]) = procX q ++ [.slice (some ⟨b, 0, none⟩) 3 3, t, .int .i64 0, .int .i64 0, .int .i64 (-1)] := by
  induction q with
  | nil => simp [procX]
  | cons x q ih => obtain ⟨b', t'⟩ := x; simp [procX, ih]
def regsHP (q : List (Nat × Value)) : HP := starHP (q.reverse.map fun x => blkHP x.1 3 [.int .i64 0, .int .i64 0, .int .i64 0])
theorem regsHP_snoc (q : List (Nat × Value)) (b : Nat) (t : Value) : regsHP (q ++ [(b, t)]) = pairHP (blkHP b 3 [.int .i64 0, .int .i64 0, .int .i64 0]) (regsHP q) := by simp [regsHP, starHP]
def Qds (G : PH) : List (List Stm) → List (Nat × Value) → Prop
  | [], [] => True
  | l :: p, x :: q => Sts G l x.2 ∧ Qds G p q
  | _, _ => False
theorem Qds_le {G G' : PH} (hl : G.le G') : ∀ {p : List (List Stm)} {q : List (Nat × Value)}, Qds G p q → Qds G' p q
  | [], [], _ => trivial
  | _ :: _, _ :: _, h => ⟨Sts_le hl h.1, Qds_le hl h.2⟩
  | [], _ :: _, h => h
  | _ :: _, [], h => h
theorem Qds_snoc {G : PH} {l : List Stm} {x : Nat × Value} (hx : Sts G l x.2) : ∀ {p : List (List Stm)} {q : List (Nat × Value)}, Qds G p q → Qds G (p ++ [l]) (q ++ [x])
  | [], [], _ => ⟨hx, trivial⟩
  | _ :: p, _ :: q, h => ⟨h.1, Qds_snoc hx h.2⟩
  | [], _ :: _, h => absurd h id
  | _ :: _, [], h => absurd h id
theorem Qds_Tds {G : PH} : ∀ {p : List (List Stm)} {q : List (Nat × Value)}, Qds G p q → Tds G (p.map proc0) (q.map (·.2))
  | [], [], _ => trivial
  | _ :: p, _ :: q, h => ⟨h.1, Qds_Tds h.2⟩
  | [], _ :: _, h => absurd h id
  | _ :: _, [], h => absurd h id
theorem prg_at {G : PH} {p : List (List Stm)} {A : Option Addr} {n c : Nat} (h : Prg G p (.slice A n c)) {i : Nat} (hi : i < p.length) : ∃ ad v, A = some ad ∧ gcell G (ad.add (i * 1)) = some v ∧ Sts G p[i] v := by
  obtain ⟨ad, cs, rfl, h1, v, rfl, h2⟩ := Sr_at h hi
  exact ⟨ad, v, J, h1.1, h2⟩
def Off0 (A : Option Addr) : Prop := A = none ∨ ∃ g, A = some ⟨g, 0, none⟩
structure OS where
  i : Nat
  A : Option Addr
  c : Nat
  q : List (Nat × Value)
  G : PH
theorem mok0 {kp n : Nat} (h : n ≤ kp ∧ kp ≤ maxLen) : mOk kp 3 2 2 (fun _ => 3) n := ⟨h, by decide, by decide, by decide, fun _ => show 3 ≤ 3 ∧ 3 ≤ maxLen from by decide⟩
theorem c_l3Open (p : List (List Stm)) (pv : Value) (G : PH) (hp : PrgS G p pv) : Mod Tryz.prog 18 [pv] G emptyHP (OPost p (open0 p)) := by
  obtain ⟨hpp, hsh, hpl⟩ := id hp
  obtain ⟨A, c, rfl, hl1, _⟩ := id hpp
  refine Mod.intro Tryz.func18 Tryz.ntmps18 J J fun w S => ?_;refine Va J J ?_;refine AZ ZT_ok J J J J fun b2 => ?_;refine Va J J ?_;refine S_call Tryz.call17 (c_ProgOk p _ G hpp) J J J ?_;rintro v G5 ⟨rfl, rfl⟩ _
  refine Va J J ?_
  refine S_cond J (fun h => ?_) (fun h => ?_) <;> refine Va J J ?_
  · have hpo : progOk p = false := by simpa using h
    exact S_retm 1 (Res.c1 Tk Tryz.results18 J J) J XR (.inr ⟨hpo, J, J⟩)
  have hpo : progOk p = true := by simpa using h
  have hp13 : 1 ≤ p.length ∧ p.length ≤ 3 := by simp only [progOk, Bool.and_eq_true, decide_eq_true_eq] at hpo; exact ⟨hpo.1.2, hpo.2⟩
  refine S_cut (α := Nat × Nat × Nat × Nat × Option Addr) (fun _ => True) (fun y => [(2, b2), (3, y.1), (9, y.2.1), (10, y.2.2.1), (11, y.2.2.2.1)]) (fun y => [(0, .val (.slice A p.length c)), (2, .ptr 2 0), (3, .ptr 3 0)])
    (fun y => [.blk 2 29 (vL [.slice none 0 0, .slice none 0 0, .slice none 0 0, .slice none 0 0, .slice none 0 0]), .blk 3 29 [.v (.slice none 0 0), .s 9 0 3 3, .s 10 0 2 2, .s 11 0 2 2, .v (.slice y.2.2.2.2 0 0)], .blk 9 3 (vL [.int .i64 0, .int .i64 0, .int .i64 0]), .blk 10 3 (vL [.int .i64 0, .int .i64 0]), .blk 11 23 (vL [.slice none 0 0, .slice none 0 0]), .hp 12 (rowO w.heap.size 88 2 y.2.2.2.2 0 0 []), .hp 1 emptyHP]) (fun _ => G5) ?_ ?_
  ·
    refine Ds J J J ?_;refine Da J J ?_
    repeat' (first
      | exact trivial
      | (refine D_list J ?_)
      | refine And.intro ?_ ?_
      | (refine N_turn Tk _ J J J J fun back => ?_
         first
           | refine S_make Tk ZT_ok J J J J J J (by decide) (by decide) J J J fun bm => ?_
           | refine S_emptyO Tk 12 J J J J fun A12 => ?_
           | refine AZ ZT_ok J J J J fun ba => ?_
         refine back _ _ _ _ (by kernel_rfl) ?_
         clear back
         refine Da J J ?_)
      | fail)
    all_goals (refine N_store Tk 6 rfl rfl rfl rfl rfl rfl rfl rfl (by kernel_rfl) ?_)
    all_goals refine D_adv Tk (by decide) rfl rfl ?_
    all_goals (refine DD ?_)
    all_goals refine S_adv Tk rfl 1000 rfl ?_
    all_goals (refine S_pick [2, 3, 9, 10, 11, 12, 1] rfl ?_)
    all_goals exact S_meet (_, _, _, _, _) trivial rfl ⟨⟨_, rfl, rfl⟩, ⟨_, rfl, rfl⟩, ⟨_, rfl, rfl⟩, trivial⟩ (.blk rfl rfl (.blk rfl rfl (.blk rfl rfl (.blk rfl rfl (.blk rfl rfl (.hp (.hp .nil)))))))
  rintro ⟨b3, b9, b10, b11, A12⟩ _
  simp only
  refine S_nilO (base := w.heap.size) (e := 73) (size := 5) 20 ?_;refine S_newE 21 ?_;refine Va J J ?_;refine S_loop (α := OS) (fun y => y.i ≤ p.length ∧ y.q.length = y.i ∧ PH.ext w.heap.size G5 y.G ∧ Qds y.G (p.take y.i) y.q ∧ Off0 y.A ∧ ∀ x ∈ y.q, ∃ A n c, x.2 = .slice A n c) (fun y => p.length - y.i) [(2, b2), (3, b3), (9, b9), (10, b10), (11, b11)]
    (fun y => [(4, .val (.int .i64 (y.i : Nat))), (0, .val (.slice A p.length c)), (2, .ptr 2 0), (3, .ptr 3 0)])
    (fun y => [.hp 21 (regsHP y.q), .hp 20 (rowO w.heap.size 73 5 y.A y.q.length y.c (procX y.q)), .blk 2 29 (vL [.slice none 0 0, .slice none 0 0, .slice none 0 0, .slice none 0 0, .slice none 0 0]), .blk 3 29 [.v (.slice y.A y.q.length y.c), .s 9 0 3 3, .s 10 0 2 2, .s 11 0 2 2, .v (.slice A12 0 0)], .blk 9 3 (vL [.int .i64 0, .int .i64 0, .int .i64 0]), .blk 10 3 (vL [.int .i64 0, .int .i64 0]), .blk 11 23 (vL [.slice none 0 0, .slice none 0 0]), .hp 12 (rowO w.heap.size 88 2 A12 0 0 []), .hp 1 emptyHP]) (fun y => y.G) ⟨0, none, 0, [], G5⟩ ⟨Nat.zero_le _, rfl, PH.ext.refl _ _, trivial, .inl rfl, by simp⟩ rfl ?_ ?_ ?_
  · exact ⟨⟨_, J, J⟩, ⟨_, J, J⟩, ⟨_, J, J⟩, ⟨_, J, J⟩, trivial⟩
  · exact .hp (.hp (.blk J J (.blk J J (.blk J J (.blk J J (.blk J J (.hp (.hp .nil))))))))
  rintro ⟨i, A5, c5, q, G1⟩ ⟨hi, hq, hext, hqd, hoff, hqs⟩
  simp only at hi hq hext hqd hoff hqs ⊢
  refine Va J J ?_
  refine S_condp J (fun h5 => ?_) (fun h5 => ?_) <;> refine Va J J ?_
  · have hil : i < p.length := by omega
    obtain ⟨ad, lv, rfl, hcell, hlv⟩ := prg_at (Prg_le hext.le hpp) hil
    obtain ⟨Al, cl, xsl, rfl, hxl, hxg, hcs⟩ := sts_cells hlv
    have hll := (hsh _ (List.getElem_mem hil)).1
    refine S_cut (α := Nat × Option Addr × Nat × Option Addr × Nat) (fun y => Off0 y.2.2.2.1) (fun y => [(2, b2), (3, b3), (9, b9), (10, b10), (11, b11), (22, y.1)]) (fun y => [(4, .val (.int .i64 (i : Nat))), (0, .val (.slice (some ad) p.length c)), (2, .ptr 2 0), (3, .ptr 3 0)])
      (fun y => [.hp 21 (regsHP q), .hp 20 (rowO w.heap.size 73 5 y.2.2.2.1 (q.length + 1) y.2.2.2.2 (procX q ++ [.slice (some ⟨y.1, 0, none⟩) 3 3, .slice y.2.1 (0 + p[i].length) y.2.2.1, .int .i64 0, .int .i64 0, .int .i64 (-1)])), .hp 23 (rowO w.heap.size 76 6 y.2.1 (0 + p[i].length) y.2.2.1 ([] ++ xsl)), .blk 22 3 (vL [.int .i64 0, .int .i64 0, .int .i64 0]), .blk 2 29 (vL [.slice none 0 0, .slice none 0 0, .slice none 0 0, .slice none 0 0, .slice none 0 0]), .blk 3 29 [.v (.slice y.2.2.2.1 (q.length + 1) y.2.2.2.2), .s 9 0 3 3, .s 10 0 2 2, .s 11 0 2 2, .v (.slice A12 0 0)], .blk 9 3 (vL [.int .i64 0, .int .i64 0, .int .i64 0]), .blk 10 3 (vL [.int .i64 0, .int .i64 0]), .blk 11 23 (vL [.slice none 0 0, .slice none 0 0]), .hp 12 (rowO w.heap.size 88 2 A12 0 0 []), .hp 1 emptyHP]) (fun _ => G1) ?_ ?_
    ·
      refine Ds J J J ?_;refine Da J J ?_
      repeat' (first
        | exact trivial
        | (refine D_list J ?_)
        | refine And.intro ?_ ?_
        | (refine N_turn Tk _ J J J J fun back => ?_
           first
             | refine S_make Tk ZT_ok J J J J J J (by decide) (by decide) J J J fun bm => ?_
             | refine S_emptyO Tk 23 J J J J fun A12 => ?_
             | refine S_appO Tk 23 J J J J J J J J J J J (fun _ _ => J) (src_G hxl hxg) (Cs_one Stm.rep_one hcs) (by simp only; omega) (by simp only [maxLen]; omega) (Nat.le_refl _) fun A4 c4 => ?_
             | refine S_slice Tk ZT_ok J J J J (by decide) (by decide) J J J J fun b2 => ?_
             | refine S_app1z Tk 20 30 J J J J J J J J J J J J J J (by intro u hu; simp at hu; rcases hu with rfl | rfl | rfl | rfl | rfl <;> rfl) rfl (fun _ _ => rfl) (by omega) (Nat.le_refl _) fun A6 c6 h6 => ?_
             | refine S_index Tk J J J J J J (by omega) (by omega) ?_
             | refine S_load Tk J J J J J (by simpa using hcell) ?_
             | fail
           refine back _ _ _ _ (by kernel_rfl) ?_
           clear back
           refine Da J J ?_)
        | fail)
      all_goals (refine N_store Tk 13 rfl rfl rfl rfl rfl rfl rfl rfl (by kernel_rfl) ?_)
      all_goals refine D_adv Tk (by decide) rfl rfl ?_
      all_goals (refine DD ?_)
      all_goals refine S_adv Tk rfl 1000 rfl ?_
      all_goals (refine S_pick [21, 20, 23, 22, 2, 3, 9, 10, 11, 12, 1] rfl ?_)
      all_goals exact S_meet (_, _, _, _, _) (by rename_i h6; rcases h6 with h6 | h6; exact h6 ▸ hoff; exact .inr h6) J ⟨⟨_, J, J⟩, ⟨_, J, J⟩, ⟨_, J, J⟩, ⟨_, J, J⟩, trivial⟩ (.hp (.hp (.hp (.blk J J (.blk J J (.blk J J (.blk J J (.blk J J (.blk J J (.hp (.hp .nil)))))))))))
    rintro ⟨b22, A23, c23, A6, c6⟩ hoff6
    simp only at hoff6 ⊢
    refine S_freezeR 23 J J (Nat.le_refl _) fun G2 hext2 hnc hcm hcl => ?_
    have hv : Sts G2 p[i] (.slice A23 (0 + p[i].length) c23) := frz (Cs_mono (Stm.reps_le hext2.le _) (by simpa using hcs)) (by omega) (by omega) hnc hcm hcl
    refine S_Bhp 22 24 J J J J ?_;refine S_pair 24 21 25 J J J J ?_;refine Va J J ?_;refine S_add J J J J (by omega) ?_;refine Va J J ?_;refine S_again ⟨i + 1, A6, c6, q ++ [(b22, .slice A23 (0 + p[i].length) c23)], G2⟩ ⟨by simp only; omega, by simp; omega, hext.trans hext2, ?_, hoff6, ?_⟩ (by simp only; omega) rfl ⟨⟨_, rfl, by simp [denO]⟩, ⟨_, rfl, rfl⟩, ⟨_, rfl, rfl⟩, ⟨_, rfl, rfl⟩, trivial⟩ ?_
    · simp only
      rw [List.take_succ_eq_append_getElem hil]
      exact Qds_snoc hv (Qds_le hext2.le hqd)
    · intro x hx
      rcases List.mem_append.1 hx with hx | hx
      · exact hqs x hx
      · rw [List.mem_singleton.1 hx]; exact ⟨_, _, _, J⟩
    · simp only [regsHP_snoc, procX_snoc, List.length_append, List.length_singleton]
      exact .hp (.hp (.blk J J (.blk J J (.blk J J (.blk J J (.blk J J (.hp (.hp .nil))))))))
  · have hin : i = p.length := by omega
    subst hin
    rw [List.take_length] at hqd
    refine S_capO 20 J fun hnc5 hcm5 _ => ?_;refine S_someO 20 J (by omega) fun gp offp eA => ?_;obtain rfl : offp = 0 := by
      rcases hoff with h | ⟨g, h⟩
      · rw [h] at eA; cases eA
      · rw [h] at eA; cases eA; rfl
    subst eA
    refine S_rowB 20 20 J J J fun sp => ?_;refine S_nilO (base := 0) (e := 3) (size := 1) 30 ?_;refine S_nilO (base := 0) (e := 3) (size := 1) 31 ?_;refine S_base0 12 J J ?_
    rcases (by omega : p.length = 1 ∨ p.length = 2 ∨ p.length = 3) with h1 | h1 | h1
    · obtain ⟨l0, rfl⟩ := len1 h1
      obtain ⟨⟨g0, t0⟩, rfl⟩ := len1 (hq.trans h1)
      refine S_unpair 21 500 600 J J ?_;refine S_hpB 500 40 J J J ?_;exact RK [20, 9, 10, 11, 12, 30, 31, 40] (Res.c1 Tk Tryz.results18 rfl rfl) (.inl ⟨hpo, _, [t0], rfl, rfl, Qds_Tds hqd⟩) ⟨gp, b9, b10, b11, [g0], ⟨c5, sp, A12, 0, none, 0, none, 0, 3, [], 2, [], 2, [], fun _ => 3, fun _ => []⟩, ⟨0, [], 0, [], 0, []⟩, rfl, (mok0 ⟨by simpa [open0] using hnc5, hcm5⟩), ⟨⟨rfl, rfl⟩, ⟨rfl, rfl⟩, rfl, rfl⟩, rfl, rfl, rfl⟩ rfl (Bs 5 rfl rfl rfl rfl (.blk rfl rfl (.blk rfl rfl (.blk rfl rfl (.hp (.hp (.hp (.blk rfl rfl .nil)))))))) hext
    · obtain ⟨l0, l1, rfl⟩ := len2 h1
      obtain ⟨⟨g0, t0⟩, ⟨g1, t1⟩, rfl⟩ := len2 (hq.trans h1)
      refine S_unpair 21 501 601 J J ?_;refine S_hpB 501 41 J J J ?_;refine S_unpair 601 500 600 J J ?_;refine S_hpB 500 40 J J J ?_;exact RK [20, 9, 10, 11, 12, 30, 31, 40, 41] (Res.c1 Tk Tryz.results18 rfl rfl) (.inl ⟨hpo, _, [t0, t1], rfl, rfl, Qds_Tds hqd⟩) ⟨gp, b9, b10, b11, [g0, g1], ⟨c5, sp, A12, 0, none, 0, none, 0, 3, [], 2, [], 2, [], fun _ => 3, fun _ => []⟩, ⟨0, [], 0, [], 0, []⟩, rfl, (mok0 ⟨by simpa [open0] using hnc5, hcm5⟩), ⟨⟨rfl, rfl⟩, ⟨rfl, rfl⟩, rfl, rfl⟩, rfl, rfl, rfl⟩ rfl (Bs 10 rfl rfl rfl rfl (.blk rfl rfl (.blk rfl rfl (.blk rfl rfl (.hp (.hp (.hp (.blk rfl rfl (.blk rfl rfl .nil))))))))) hext
    · obtain ⟨l0, l1, l2, rfl⟩ := len3 h1
      obtain ⟨⟨g0, t0⟩, ⟨g1, t1⟩, ⟨g2, t2⟩, rfl⟩ := len3 (hq.trans h1)
      refine S_unpair 21 502 602 J J ?_;refine S_hpB 502 42 J J J ?_;refine S_unpair 602 501 601 J J ?_;refine S_hpB 501 41 J J J ?_;refine S_unpair 601 500 600 J J ?_;refine S_hpB 500 40 J J J ?_;exact RK [20, 9, 10, 11, 12, 30, 31, 40, 41, 42] (Res.c1 Tk Tryz.results18 rfl rfl) (.inl ⟨hpo, _, [t0, t1, t2], rfl, rfl, Qds_Tds hqd⟩) ⟨gp, b9, b10, b11, [g0, g1, g2], ⟨c5, sp, A12, 0, none, 0, none, 0, 3, [], 2, [], 2, [], fun _ => 3, fun _ => []⟩, ⟨0, [], 0, [], 0, []⟩, rfl, (mok0 ⟨by simpa [open0] using hnc5, hcm5⟩), ⟨⟨rfl, rfl⟩, ⟨rfl, rfl⟩, rfl, rfl⟩, rfl, rfl, rfl⟩ rfl (Bs 15 rfl rfl rfl rfl (.blk rfl rfl (.blk rfl rfl (.blk rfl rfl (.hp (.hp (.hp (.blk rfl rfl (.blk rfl rfl (.blk rfl rfl .nil)))))))))) hext
end
section
attribute [local irreducible] X Pure Mod
theorem Cs_intU_eq : ∀ {l : List Int} {xs : List Value}, Cs 1 intU l xs → xs = intC l
  | [], xs, h => h
  | n :: l, xs, h => by
    obtain ⟨cs, ys, rfl, _, rfl, h4⟩ := h
    rw [Cs_intU_eq h4]; rfl
theorem Cs_sayU_eq : ∀ {l : List (Int × Int)} {xs : List Value}, Cs 2 sayU l xs → xs = saidC l
  | [], xs, h => h
  | n :: l, xs, h => by
    obtain ⟨cs, ys, rfl, _, rfl, h4⟩ := h
    rw [Cs_sayU_eq h4]; rfl
theorem intsU_cells {G : PH} {l : List Int} {v : Value} (h : IntsU G l v) : ∃ A c, v = .slice A l.length c ∧ (intC l).length = l.length * 1 ∧ (l.length = 0 ∨ ∃ a, A = some a ∧ gcells G a (intC l)) := by
  obtain ⟨xs, hx, hc⟩ := Sr_Sx (rep := intU) (sz := 1) (fun n cs h => by rw [show cs = [.int .i64 n] from h]; rfl) h
  obtain rfl := Cs_intU_eq hc
  obtain ⟨A, c, rfl, _, _, _, hl, hr⟩ := hx
  exact ⟨A, c, J, hl, hr⟩
theorem saysU_cells {G : PH} {l : List (Int × Int)} {v : Value} (h : SaysU G l v) : ∃ A c, v = .slice A l.length c ∧ (saidC l).length = l.length * 2 ∧ (l.length = 0 ∨ ∃ a, A = some a ∧ gcells G a (saidC l)) := by
  obtain ⟨xs, hx, hc⟩ := Sr_Sx (rep := sayU) (sz := 2) (fun n cs h => by rw [show cs = [.int .i64 n.1, .int .i64 n.2] from h]; rfl) h
  obtain rfl := Cs_sayU_eq hc
  obtain ⟨A, c, rfl, _, _, _, hl, hr⟩ := hx
  exact ⟨A, c, J, hl, hr⟩
theorem intC1 (l : List Int) : ∀ u ∈ intC l, u.oneCell' = true := intC_one l
theorem off_app {A A' : Option Addr} (h : ∃ g, A = some ⟨g, 0, none⟩) (h' : A' = A ∨ ∃ g, A' = some ⟨g, 0, none⟩) : Off0 A' := by
  rcases h' with rfl | h'
  · exact .inr h
  · exact .inr h'
theorem off_app' {A A' : Option Addr} (h : Off0 A) (h' : A' = A ∨ ∃ g, A' = some ⟨g, 0, none⟩) : Off0 A' := by
  rcases h' with rfl | h'
  · exact h
  · exact .inr h'
structure QE where
  A : Option Addr
  c : Nat
  t : Value
  p : Prc
def procZ : List QE → List Value
  | [] => []
  | x :: q => [.slice x.A (0 + 3) x.c, x.t, .int .i64 x.p.mode, .int .i64 x.p.on, .int .i64 x.p.room] ++ procZ q
theorem procZ_snoc (q : List QE) (x : QE) : procZ (q ++ [x]) = procZ q ++ [.slice x.A (0 + 3) x.c, x.t, .int .i64 x.p.mode, .int .i64 x.p.on, .int .i64 x.p.room] := by
  induction q with
  | nil => simp [procZ]
  | cons y q ih => simp [procZ, ih]
def regsZ (base : Nat) (q : List QE) : HP := starHP (q.reverse.map fun x => rowO base 3 1 x.A (0 + 3) x.c ([] ++ intC [x.p.r0, x.p.r1, x.p.r2]))
theorem regsZ_snoc (base : Nat) (q : List QE) (x : QE) : regsZ base (q ++ [x]) = pairHP (rowO base 3 1 x.A (0 + 3) x.c ([] ++ intC [x.p.r0, x.p.r1, x.p.r2])) (regsZ base q) := by simp [regsZ, starHP]
def QOk (G : PH) (ps : List Prc) (q : List QE) : Prop := q.map (·.p) = ps ∧ ∀ x ∈ q, Sts G x.p.todo x.t ∧ Off0 x.A
theorem QOk_le {G G' : PH} (hl : G.le G') {ps : List Prc} {q : List QE} (h : QOk G ps q) : QOk G' ps q := ⟨h.1, fun x hx => ⟨Sts_le hl (h.2 x hx).1, (h.2 x hx).2⟩⟩
structure OC where
  i : Nat
  A : Option Addr
  c : Nat
  q : List QE
  G : PH
theorem off0_eq {A : Option Addr} (h : Off0 A) {g off : Nat} (e : A = some ⟨g, off, none⟩) : off = 0 := by
  rcases h with h | ⟨g', h⟩
  · rw [h] at e; cases e
  · rw [h] at e; cases e; rfl
def kg3 (a b c : Nat) : Nat → Nat
  | 0 => a
  | 1 => b
  | _ => c
def sp3 (a b c : List Value) : Nat → List Value
  | 0 => a
  | 1 => b
  | _ => c
theorem kg3_ok {a b c : Nat} (ha : 3 ≤ a ∧ a ≤ maxLen) (hb : 3 ≤ b ∧ b ≤ maxLen) (hc : 3 ≤ c ∧ c ≤ maxLen) : ∀ i, 3 ≤ kg3 a b c i ∧ kg3 a b c i ≤ maxLen
  | 0 => ha
  | 1 => hb
  | _ + 2 => hc
abbrev NPost (W : Wld) (v : Value) (G' : PH) (A' : HP) : Prop := ∃ cs ts, v = .agg cs.toArray ∧ A' = worldV cs W ts ∧ Tds G' W.procs ts
theorem c_l3Copy (W : Wld) (v : Value) (G : PH) (hW : WG G W v) (hn : 1 ≤ W.procs.length ∧ W.procs.length ≤ 3) (hl : W.said.length ≤ 1000000 ∧ W.q0.length ≤ 1000000 ∧ W.q1.length ≤ 1000000) (hT : ∀ p ∈ W.procs, p.todo.length ≤ 1000000) : Mod Tryz.prog 47 [v] G emptyHP (NPost W) := by
  obtain ⟨vp, vc, vr, vs, vd, rfl, hpr, hce, hro, hsg, hsd⟩ := hW
  obtain ⟨Ac, cc, rfl, xc1, xc2⟩ := intsU_cells hce
  obtain ⟨Ar, cr, rfl, xr1, xr2⟩ := intsU_cells hro
  obtain ⟨Ad, cd, rfl, xd1, xd2⟩ := saysU_cells hsd
  obtain ⟨Ap, cp, rfl, _⟩ := id hpr
  obtain ⟨As, cs', rfl, _⟩ := id hsg
  obtain ⟨ads, z0, eA, hz0, v0, rfl, hv0⟩ := Sr_at hsg (k := 0) (by simp)
  subst eA
  obtain ⟨ads', z1, eA, hz1, v1, rfl, hv1⟩ := Sr_at hsg (k := 1) (by simp)
  cases eA
  obtain ⟨A0, c0, rfl, x01, x02⟩ := intsU_cells hv0
  obtain ⟨A1, c1, rfl, x11, x12⟩ := intsU_cells hv1
  simp only [List.getElem_cons_zero, List.getElem_cons_succ] at hz0 hz1 x01 x02 x11 x12
  refine Mod.intro Tryz.func47 Tryz.ntmps47 J J fun w S => ?_;refine Va J J ?_;refine S_box J J J J J fun b1 => ?_;refine Va J J ?_;refine AZ ZT_ok J J J J fun b2 => ?_;refine Va J J ?_;refine S_cut (α := Nat × (Option Addr × Nat) × (Option Addr × Nat) × Option Addr × Nat) (fun y => Off0 y.2.1.1 ∧ Off0 y.2.2.1.1) (fun y => [(1, b1), (2, b2), (3, y.1)]) (fun y => [(1, .ptr 1 0), (2, .ptr 2 0), (3, .ptr 3 0)])
    (fun y => [.blk 1 29 (vL [.slice Ap W.procs.length cp, .slice Ac [W.c0, W.c1, W.c2].length cc, .slice Ar [W.m0, W.m1].length cr, .slice (some ads) [W.q0, W.q1].length cs', .slice Ad W.said.length cd]), .blk 2 29 (vL [.slice none 0 0, .slice none 0 0, .slice none 0 0, .slice none 0 0, .slice none 0 0]),
      .blk 3 29 [.v (.slice none 0 0), .v (.slice y.2.1.1 (0 + [W.c0, W.c1, W.c2].length) y.2.1.2), .v (.slice y.2.2.1.1 (0 + [W.m0, W.m1].length) y.2.2.1.2), .v (.slice none 0 0), .v (.slice y.2.2.2.1 (0 + W.said.length) y.2.2.2.2)],
      .hp 7 (rowO w.heap.size 3 1 y.2.1.1 (0 + [W.c0, W.c1, W.c2].length) y.2.1.2 ([] ++ intC [W.c0, W.c1, W.c2])), .hp 11 (rowO w.heap.size 3 1 y.2.2.1.1 (0 + [W.m0, W.m1].length) y.2.2.1.2 ([] ++ intC [W.m0, W.m1])), .hp 15 (rowO w.heap.size 88 2 y.2.2.2.1 (0 + W.said.length) y.2.2.2.2 ([] ++ saidC W.said)), .hp 1 emptyHP]) (fun _ => G) ?_ ?_
  ·
    refine Ds J J J ?_;refine Da J J ?_
    repeat' (first
      | exact trivial
      | (refine D_list J ?_)
      | refine And.intro ?_ ?_
      | (refine N_turn Tk 0 J J J J fun back => ?_
         refine S_emptyOz Tk 7 J J J J fun A7 h7 => ?_;refine back _ _ _ _ (by kernel_rfl) ?_
         clear back
         refine Da J J ?_)
      | (refine N_turn Tk 4 J J J J fun back => ?_
         refine S_emptyOz Tk 11 J J J J fun A11 h11 => ?_;refine back _ _ _ _ (by kernel_rfl) ?_
         clear back
         refine Da J J ?_)
      | (refine N_turn Tk 8 J J J J fun back => ?_
         refine S_emptyO Tk 15 J J J J fun A15 => ?_;refine back _ _ _ _ (by kernel_rfl) ?_
         clear back
         refine Da J J ?_)
      | (refine N_turn Tk 13 J J J J fun back => ?_
         refine AZ ZT_ok J J J J fun b3 => ?_;refine back _ _ _ _ (by kernel_rfl) ?_
         clear back
         refine Da J J ?_)
      | (refine N_turn Tk 3 J J J J fun back => ?_
         refine S_appOz Tk 7 J J J J J J J J J J J (fun _ _ => J) (src_G xc1 xc2) (intC1 _) (by simp) (by simp [maxLen]) (Nat.le_refl _) fun A7' c7 h7' => ?_;refine back _ _ _ _ (by kernel_rfl) ?_
         clear back
         refine Da J J ?_)
      | (refine N_turn Tk 7 J J J J fun back => ?_
         refine S_appOz Tk 11 J J J J J J J J J J J (fun _ _ => J) (src_G xr1 xr2) (intC1 _) (by simp) (by simp [maxLen]) (Nat.le_refl _) fun A11' c11 h11' => ?_;refine back _ _ _ _ (by kernel_rfl) ?_
         clear back
         refine Da J J ?_)
      | (refine N_turn Tk 11 J J J J fun back => ?_
         refine S_appO Tk 15 J J J J J J J J J J J (fun _ _ => J) (src_G xd1 xd2) (saidC_one _) (by simp only; omega) (by simp only [maxLen]; omega) (Nat.le_refl _) fun A15' c15 => ?_;refine back _ _ _ _ (by kernel_rfl) ?_
         clear back
         refine Da J J ?_)
      | fail)
    all_goals (refine N_store Tk 14 rfl rfl rfl rfl rfl rfl rfl rfl (by kernel_rfl) ?_)
    all_goals refine D_adv Tk (by decide) rfl rfl ?_
    all_goals (refine DD ?_)
    all_goals refine S_adv Tk rfl 1000 rfl ?_
    all_goals (refine S_pick [1, 2, 3, 7, 11, 15, 1] rfl ?_)
    all_goals exact S_meet (_, (_, _), (_, _), _, _) ⟨off_app h7 h7', off_app h11 h11'⟩ rfl ⟨⟨_, rfl, rfl⟩, ⟨_, rfl, rfl⟩, ⟨_, rfl, rfl⟩, trivial⟩ (.blk rfl rfl (.blk rfl rfl (.blk rfl rfl (.hp (.hp (.hp (.hp .nil)))))))
  rintro ⟨b3, ⟨A7, c7⟩, ⟨A11, c11⟩, A15, c15⟩ ⟨o7, o11⟩
  simp only at o7 o11 ⊢
  refine S_nilO (base := w.heap.size) (e := 23) (size := 1) 40 ?_;refine Va J J ?_;refine S_unroll 2 ?_;refine Va J J ?_
  have o0 : Off0 none := .inl rfl
  refine RT J J ?_;refine Va J J ?_;refine S_cut (α := (Option Addr × Nat) × Option Addr × Nat) (fun y => Off0 y.2.1) (fun y => [(1, b1), (2, b2), (3, b3)]) (fun y => [(4, .val (.int .i64 0)), (1, .ptr 1 0), (2, .ptr 2 0), (3, .ptr 3 0)])
    (fun y => [.blk 1 29 (vL [.slice Ap W.procs.length cp, .slice Ac [W.c0, W.c1, W.c2].length cc, .slice Ar [W.m0, W.m1].length cr, .slice (some ads) [W.q0, W.q1].length cs', .slice Ad W.said.length cd]), .blk 2 29 (vL [.slice none 0 0, .slice none 0 0, .slice none 0 0, .slice none 0 0, .slice none 0 0]),
      .blk 3 29 [.v (.slice none 0 0), .v (.slice A7 (0 + [W.c0, W.c1, W.c2].length) c7), .v (.slice A11 (0 + [W.m0, W.m1].length) c11), .v (.slice y.2.1 (0 + 1) y.2.2), .v (.slice A15 (0 + W.said.length) c15)],
      .hp 7 (rowO w.heap.size 3 1 A7 (0 + [W.c0, W.c1, W.c2].length) c7 ([] ++ intC [W.c0, W.c1, W.c2])), .hp 11 (rowO w.heap.size 3 1 A11 (0 + [W.m0, W.m1].length) c11 ([] ++ intC [W.m0, W.m1])), .hp 15 (rowO w.heap.size 88 2 A15 (0 + W.said.length) c15 ([] ++ saidC W.said)),
      .hp 40 (rowO w.heap.size 23 1 y.2.1 (0 + 1) y.2.2 ([] ++ [.slice y.1.1 (0 + W.q0.length) y.1.2])), .hp 41 (rowO w.heap.size 3 1 y.1.1 (0 + W.q0.length) y.1.2 ([] ++ intC W.q0))] ++ [.hp 1 emptyHP]) (fun _ => G) ?_ ?_
  · refine Ds J J J ?_
    refine Da J J ?_
    repeat' (first
      | exact trivial
      | (refine D_list J ?_)
      | refine And.intro ?_ ?_
      | (refine N_turn Tk 2 J J J J fun back => ?_
         refine S_emptyO Tk 41 J J J J fun A29 => ?_;refine back _ _ _ _ (by kernel_rfl) ?_
         clear back
         refine Da J J ?_)
      | (refine N_turn Tk 6 J J J J fun back => ?_
         refine S_index Tk J J J J J J (by simp) (by simp) ?_;refine back _ _ _ _ (by kernel_rfl) ?_
         clear back
         refine Da J J ?_)
      | (refine N_turn Tk 7 J J J J fun back => ?_
         refine S_load Tk J J J J J (by simpa using hz0.1) ?_;refine back _ _ _ _ (by kernel_rfl) ?_
         clear back
         refine Da J J ?_)
      | (refine N_turn Tk 8 J J J J fun back => ?_
         refine S_appO Tk 41 J J J J J J J J J J J (fun _ _ => J) (src_G x01 x02) (intC1 _) (by simp only; omega) (by simp only [maxLen]; omega) (Nat.le_refl _) fun A29' c29 => ?_;refine back _ _ _ _ (by kernel_rfl) ?_
         clear back
         refine Da J J ?_)
      | (refine N_turn Tk 9 J J J J fun back => ?_
         refine S_slice Tk ZT_ok J J J J (by decide) (by decide) J J J J fun b36 => ?_;refine back _ _ _ _ (by kernel_rfl) ?_
         clear back
         refine Da J J ?_)
      | (refine N_turn Tk 10 J J J J fun back => ?_
         refine S_app1z Tk 40 36 J J J J J J J J J J J J J J (by intro u hu; simp at hu; rcases hu with rfl; rfl) rfl (fun _ _ => rfl) (by omega) (Nat.le_refl _) fun A40 c40 h40 => ?_;refine back _ _ _ _ (by kernel_rfl) ?_
         clear back
         refine Da J J ?_)
      | fail)
    all_goals (refine N_store Tk 12 rfl rfl rfl rfl rfl rfl rfl rfl (by kernel_rfl) ?_)
    all_goals refine D_adv Tk (by decide) rfl rfl ?_
    all_goals (refine DD ?_)
    all_goals refine S_adv Tk rfl 1000 rfl ?_
    all_goals (refine S_pick [1, 2, 3, 7, 11, 15, 40, 41, 1] rfl ?_)
    all_goals exact S_meet ((_, _), _, _) (by rename_i h40; exact off_app' (by assumption) h40) J ⟨⟨_, J, J⟩, ⟨_, J, J⟩, ⟨_, J, J⟩, ⟨_, J, J⟩, trivial⟩ (.blk J J (.blk J J (.blk J J (.hp (.hp (.hp (.hp (.hp (.hp .nil)))))))))
  rintro ⟨⟨A41, c41⟩, A42, c42⟩ o42
  simp only at o42 ⊢
  refine Va J J ?_;refine S_add J J J J (by omega) ?_;refine Va J J ?_;refine S_next ?_;refine Va J J ?_;refine RT J J ?_;refine Va J J ?_;refine S_cut (α := (Option Addr × Nat) × Option Addr × Nat) (fun y => Off0 y.2.1) (fun y => [(1, b1), (2, b2), (3, b3)]) (fun y => [(4, .val (.int .i64 1)), (1, .ptr 1 0), (2, .ptr 2 0), (3, .ptr 3 0)])
    (fun y => [.blk 1 29 (vL [.slice Ap W.procs.length cp, .slice Ac [W.c0, W.c1, W.c2].length cc, .slice Ar [W.m0, W.m1].length cr, .slice (some ads) [W.q0, W.q1].length cs', .slice Ad W.said.length cd]), .blk 2 29 (vL [.slice none 0 0, .slice none 0 0, .slice none 0 0, .slice none 0 0, .slice none 0 0]),
      .blk 3 29 [.v (.slice none 0 0), .v (.slice A7 (0 + [W.c0, W.c1, W.c2].length) c7), .v (.slice A11 (0 + [W.m0, W.m1].length) c11), .v (.slice y.2.1 ((0 + 1) + 1) y.2.2), .v (.slice A15 (0 + W.said.length) c15)],
      .hp 7 (rowO w.heap.size 3 1 A7 (0 + [W.c0, W.c1, W.c2].length) c7 ([] ++ intC [W.c0, W.c1, W.c2])), .hp 11 (rowO w.heap.size 3 1 A11 (0 + [W.m0, W.m1].length) c11 ([] ++ intC [W.m0, W.m1])), .hp 15 (rowO w.heap.size 88 2 A15 (0 + W.said.length) c15 ([] ++ saidC W.said)),
      .hp 40 (rowO w.heap.size 23 1 y.2.1 ((0 + 1) + 1) y.2.2 (([] ++ [.slice A41 (0 + W.q0.length) c41]) ++ [.slice y.1.1 (0 + W.q1.length) y.1.2])), .hp 43 (rowO w.heap.size 3 1 y.1.1 (0 + W.q1.length) y.1.2 ([] ++ intC W.q1))] ++ [.hp 41 (rowO w.heap.size 3 1 A41 (0 + W.q0.length) c41 ([] ++ intC W.q0)), .hp 1 emptyHP]) (fun _ => G) ?_ ?_
  · refine Ds J J J ?_
    refine Da J J ?_
    repeat' (first
      | exact trivial
      | (refine D_list J ?_)
      | refine And.intro ?_ ?_
      | (refine N_turn Tk 2 J J J J fun back => ?_
         refine S_emptyO Tk 43 J J J J fun A29 => ?_;refine back _ _ _ _ (by kernel_rfl) ?_
         clear back
         refine Da J J ?_)
      | (refine N_turn Tk 6 J J J J fun back => ?_
         refine S_index Tk J J J J J J (by simp) (by simp) ?_;refine back _ _ _ _ (by kernel_rfl) ?_
         clear back
         refine Da J J ?_)
      | (refine N_turn Tk 7 J J J J fun back => ?_
         refine S_load Tk J J J J J (by simpa using hz1.1) ?_;refine back _ _ _ _ (by kernel_rfl) ?_
         clear back
         refine Da J J ?_)
      | (refine N_turn Tk 8 J J J J fun back => ?_
         refine S_appO Tk 43 J J J J J J J J J J J (fun _ _ => J) (src_G x11 x12) (intC1 _) (by simp only; omega) (by simp only [maxLen]; omega) (Nat.le_refl _) fun A29' c29 => ?_;refine back _ _ _ _ (by kernel_rfl) ?_
         clear back
         refine Da J J ?_)
      | (refine N_turn Tk 9 J J J J fun back => ?_
         refine S_slice Tk ZT_ok J J J J (by decide) (by decide) J J J J fun b36 => ?_;refine back _ _ _ _ (by kernel_rfl) ?_
         clear back
         refine Da J J ?_)
      | (refine N_turn Tk 10 J J J J fun back => ?_
         refine S_app1z Tk 40 36 J J J J J J J J J J J J J J (by intro u hu; simp at hu; rcases hu with rfl; rfl) rfl (fun _ _ => rfl) (by omega) (Nat.le_refl _) fun A40 c40 h40 => ?_;refine back _ _ _ _ (by kernel_rfl) ?_
         clear back
         refine Da J J ?_)
      | fail)
    all_goals (refine N_store Tk 12 rfl rfl rfl rfl rfl rfl rfl rfl (by kernel_rfl) ?_)
    all_goals refine D_adv Tk (by decide) rfl rfl ?_
    all_goals (refine DD ?_)
    all_goals refine S_adv Tk rfl 1000 rfl ?_
    all_goals (refine S_pick [1, 2, 3, 7, 11, 15, 40, 43, 41, 1] rfl ?_)
    all_goals exact S_meet ((_, _), _, _) (by rename_i h40; exact off_app' (by assumption) h40) J ⟨⟨_, J, J⟩, ⟨_, J, J⟩, ⟨_, J, J⟩, ⟨_, J, J⟩, trivial⟩ (.blk J J (.blk J J (.blk J J (.hp (.hp (.hp (.hp (.hp (.hp (.hp .nil))))))))))
  rintro ⟨⟨A43, c43⟩, A44, c44⟩ o44
  simp only at o44 ⊢
  refine Va J J ?_;refine S_add J J J J (by omega) ?_;refine Va J J ?_;refine S_next ?_;refine Va J J ?_;refine RF J J ?_;refine Va J J ?_;refine S_nilO (base := w.heap.size) (e := 73) (size := 5) 50 ?_;refine S_newE 51 ?_;refine S_loop (α := OC) (fun y => y.i ≤ W.procs.length ∧ y.q.length = y.i ∧ PH.ext w.heap.size G y.G ∧ QOk y.G (W.procs.take y.i) y.q ∧ Off0 y.A) (fun y => W.procs.length - y.i) [(1, b1), (2, b2), (3, b3)]
    (fun y => [(5, .val (.int .i64 (y.i : Nat))), (1, .ptr 1 0), (2, .ptr 2 0), (3, .ptr 3 0)])
    (fun y => [.hp 51 (regsZ w.heap.size y.q), .hp 50 (rowO w.heap.size 73 5 y.A y.q.length y.c (procZ y.q)),
      .blk 1 29 (vL [.slice Ap W.procs.length cp, .slice Ac [W.c0, W.c1, W.c2].length cc, .slice Ar [W.m0, W.m1].length cr, .slice (some ads) [W.q0, W.q1].length cs', .slice Ad W.said.length cd]), .blk 2 29 (vL [.slice none 0 0, .slice none 0 0, .slice none 0 0, .slice none 0 0, .slice none 0 0]),
      .blk 3 29 [.v (.slice y.A y.q.length y.c), .v (.slice A7 (0 + [W.c0, W.c1, W.c2].length) c7), .v (.slice A11 (0 + [W.m0, W.m1].length) c11), .v (.slice A44 (0 + 1 + 1) c44), .v (.slice A15 (0 + W.said.length) c15)],
      .hp 7 (rowO w.heap.size 3 1 A7 (0 + [W.c0, W.c1, W.c2].length) c7 ([] ++ intC [W.c0, W.c1, W.c2])), .hp 11 (rowO w.heap.size 3 1 A11 (0 + [W.m0, W.m1].length) c11 ([] ++ intC [W.m0, W.m1])), .hp 15 (rowO w.heap.size 88 2 A15 (0 + W.said.length) c15 ([] ++ saidC W.said)),
      .hp 40 (rowO w.heap.size 23 1 A44 (0 + 1 + 1) c44 ([] ++ [.slice A41 (0 + W.q0.length) c41] ++ [.slice A43 (0 + W.q1.length) c43])), .hp 43 (rowO w.heap.size 3 1 A43 (0 + W.q1.length) c43 ([] ++ intC W.q1)), .hp 41 (rowO w.heap.size 3 1 A41 (0 + W.q0.length) c41 ([] ++ intC W.q0)), .hp 1 emptyHP]) (fun y => y.G) ⟨0, none, 0, [], G⟩ ⟨Nat.zero_le _, rfl, PH.ext.refl _ _, ⟨rfl, by simp⟩, .inl rfl⟩ rfl ?_ ?_ ?_
  · exact ⟨⟨_, J, J⟩, ⟨_, J, J⟩, ⟨_, J, J⟩, ⟨_, J, J⟩, trivial⟩
  · exact .hp (.hp (.blk J J (.blk J J (.blk J J (.hp (.hp (.hp (.hp (.hp (.hp (.hp .nil)))))))))))
  rintro ⟨i, A5, c5, q, G1⟩ ⟨hi, hq, hext, hqd, hoff⟩
  simp only at hi hq hext hqd hoff ⊢
  refine Va J J ?_
  refine S_condp J (fun h5 => ?_) (fun h5 => ?_) <;> refine Va J J ?_
  · have hil : i < W.procs.length := by omega
    obtain ⟨ad, cs, rfl, hcs, vr1, vt1, rfl, hr1, ht1⟩ := Sr_at (Sr_mono hext.le (fun _ _ _ h => prcRep_le hext.le h) hpr) hil
    obtain ⟨Br, dr, rfl, y1, y2⟩ := intsU_cells hr1
    obtain ⟨Bt, dt, xt, rfl, hxl, hxg, hct⟩ := sts_cells ht1
    have htl := hT _ (List.getElem_mem hil)
    refine S_index Tk J J J J J J (by omega) (by omega) ?_;refine Va J J ?_;refine S_loadA Tk J J J J J (by simpa using hcs) ?_;refine Va J J ?_;refine AZ ZT_ok J J J J fun b6 => ?_;refine Va J J ?_;refine S_emptyOz Tk 52 J J J J fun A52 h52 => ?_;refine Va J J ?_;refine S_appOz Tk 52 J J J J J J J J J J J (fun _ _ => J) (src_G y1 y2) (intC1 _) (by simp) (by simp [maxLen]) (Nat.le_refl _) fun A53 c53 h53 => ?_
    refine Va J J ?_;refine S_emptyO Tk 56 J J J J fun A56 => ?_;refine Va J J ?_;refine S_appO Tk 56 J J J J J J J J J J J (fun _ _ => J) (src_G hxl hxg) (Cs_one Stm.rep_one hct) (by simp only; omega) (by simp only [maxLen]; omega) (Nat.le_refl _) fun A57 c57 => ?_;refine Va J J ?_;refine S_slice Tk ZT_ok J J J J (by decide) (by decide) J J J J fun b64 => ?_;refine Va J J ?_
    refine S_app1z Tk 50 64 J J J J J J J J J J J J J J (by intro u hu; simp at hu; rcases hu with rfl | rfl | rfl | rfl | rfl <;> rfl) rfl (fun _ _ => rfl) (by omega) (Nat.le_refl _) fun A6 c6 h6 => ?_
    refine Va J J ?_;refine S_add J J J J (by omega) ?_;refine Va J J ?_;refine S_freezeR 56 J J (Nat.le_refl _) fun G2 hext2 hnc hcm hcl => ?_
    have hv : Sts G2 W.procs[i].todo (.slice A57 (0 + W.procs[i].todo.length) c57) := frz (Cs_mono (Stm.reps_le hext2.le _) (by simpa using hct)) (by omega) (by omega) hnc hcm hcl
    refine S_pair 52 51 58 J J J J ?_;refine S_pick [58, 50, 1, 2, 3, 7, 11, 15, 40, 43, 41, 1] J ?_;refine S_again ⟨i + 1, A6, c6, q ++ [⟨A53, c53, .slice A57 (0 + W.procs[i].todo.length) c57, W.procs[i]⟩], G2⟩ ⟨by simp only; omega, by simp; omega, hext.trans hext2, ⟨?_, ?_⟩, off_app' hoff h6⟩ (by simp only; omega) rfl ⟨⟨_, rfl, by simp [denO]⟩, ⟨_, rfl, rfl⟩, ⟨_, rfl, rfl⟩, ⟨_, rfl, rfl⟩, trivial⟩ ?_
    · simp only
      rw [List.take_succ_eq_append_getElem hil, List.map_append, hqd.1]; rfl
    · intro x hx
      rcases List.mem_append.1 hx with hx | hx
      · exact (QOk_le hext2.le hqd).2 x hx
      · rw [List.mem_singleton.1 hx]; exact ⟨hv, off_app h52 h53⟩
    · simp only [regsZ_snoc, procZ_snoc, List.length_append, List.length_singleton]
      exact .hp (.hp (.blk J J (.blk J J (.blk J J (.hp (.hp (.hp (.hp (.hp (.hp (.hp .nil)))))))))))
  · have hin : i = W.procs.length := by omega
    subst hin
    rw [List.take_length] at hqd
    refine S_capO 50 J fun hnP hmP _ => ?_;refine S_someO 50 J (by (try simp at hnP); (try simp only); omega) fun gP oP eA => ?_;obtain rfl : oP = 0 := off0_eq (hoff) eA
    subst eA
    refine S_rowB 50 74 J J J fun spP => ?_;refine S_capO 7 J fun hnC hmC _ => ?_;refine S_someO 7 J (by (try simp at hnC); (try simp only); omega) fun gC oC eA => ?_;obtain rfl : oC = 0 := off0_eq (o7) eA
    subst eA
    refine S_rowB 7 71 J J J fun spC => ?_;refine S_capO 11 J fun hnR hmR _ => ?_;refine S_someO 11 J (by (try simp at hnR); (try simp only); omega) fun gR oR eA => ?_;obtain rfl : oR = 0 := off0_eq (o11) eA
    subst eA
    refine S_rowB 11 72 J J J fun spR => ?_;refine S_capO 40 J fun hnS hmS _ => ?_;refine S_someO 40 J (by (try simp at hnS); (try simp only); omega) fun gS oS eA => ?_;obtain rfl : oS = 0 := off0_eq (o44) eA
    subst eA
    refine S_rowB 40 73 J J J fun spS => ?_;refine S_base0 15 J J ?_;refine S_base0 41 J J ?_;refine S_base0 43 J J ?_;obtain ⟨hqd1, hqd2⟩ := hqd
    obtain ⟨ps, w1, w2, w3, w4, w5, w6, w7, w8⟩ := W
    simp only at hq hqd1 hn hnP
    subst hqd1
    rcases (by rw [List.length_map] at hn; omega : q.length = 1 ∨ q.length = 2 ∨ q.length = 3) with h1 | h1 | h1
    · obtain ⟨⟨Aa, ca, ta, pa⟩, rfl⟩ := len1 h1
      refine S_unpair 51 500 600 J J ?_;refine S_capO 500 J fun hna hma _ => ?_;refine S_someO 500 J (by (try simp at hna); (try simp only); omega) fun ga oa eA => ?_;obtain rfl : oa = 0 := off0_eq ((hqd2 ⟨Aa, ca, ta, pa⟩ (by simp)).2) eA
      subst eA
      refine S_rowB 500 60 J J J fun spa => ?_
      simp only at hna hma
      exact RK [74, 71, 72, 73, 15, 41, 43, 60] (Res.c1 Tk Tryz.results47 J J) ⟨_, [ta], J, J, ⟨(hqd2 _ (List.mem_cons_self ..)).1, trivial⟩⟩ ⟨gP, gC, gR, gS, [ga], ⟨c5, spP, A15, c15, A41, c41, A43, c43, c7, spC, c11, spR, c44, spS, kg3 ca 3 3, sp3 spa [] []⟩, ⟨0 + w8.length, [] ++ saidC w8, 0 + w6.length, [] ++ intC w6, 0 + w7.length, [] ++ intC w7⟩, J, ⟨⟨by simpa using hnP, hmP⟩, ⟨by simpa using hnC, hmC⟩, ⟨by simpa using hnR, hmR⟩, ⟨by simpa using hnS, hmS⟩, kg3_ok ⟨by simpa using hna, hma⟩ ⟨by decide, by decide⟩ ⟨by decide, by decide⟩⟩, ⟨⟨by simp, by simp⟩, ⟨by simp, by simp⟩, by simp, by simp⟩, J, J, J⟩ J (Wsub 5 J J J J J J J J J J J J J J J J (Bs 3 J J J J .nil)) hext
    · obtain ⟨⟨Aa, ca, ta, pa⟩, ⟨Ab, cb, tb, pb⟩, rfl⟩ := len2 h1
      refine S_unpair 51 501 601 J J ?_;refine S_capO 501 J fun hnb hmb _ => ?_;refine S_someO 501 J (by (try simp at hnb); (try simp only); omega) fun gb ob eA => ?_;obtain rfl : ob = 0 := off0_eq ((hqd2 ⟨Ab, cb, tb, pb⟩ (by simp)).2) eA
      subst eA
      refine S_rowB 501 61 J J J fun spb => ?_
      simp only at hnb hmb
      refine S_unpair 601 500 600 J J ?_;refine S_capO 500 J fun hna hma _ => ?_;refine S_someO 500 J (by (try simp at hna); (try simp only); omega) fun ga oa eA => ?_;obtain rfl : oa = 0 := off0_eq ((hqd2 ⟨Aa, ca, ta, pa⟩ (by simp)).2) eA
      subst eA
      refine S_rowB 500 60 J J J fun spa => ?_
      simp only at hna hma
      exact RK [74, 71, 72, 73, 15, 41, 43, 60, 61] (Res.c1 Tk Tryz.results47 J J) ⟨_, [ta, tb], J, J, ⟨(hqd2 _ (List.mem_cons_self ..)).1, ⟨(hqd2 _ (List.mem_cons_of_mem _ (List.mem_cons_self ..))).1, trivial⟩⟩⟩ ⟨gP, gC, gR, gS, [ga, gb], ⟨c5, spP, A15, c15, A41, c41, A43, c43, c7, spC, c11, spR, c44, spS, kg3 ca cb 3, sp3 spa spb []⟩, ⟨0 + w8.length, [] ++ saidC w8, 0 + w6.length, [] ++ intC w6, 0 + w7.length, [] ++ intC w7⟩, J, ⟨⟨by simpa using hnP, hmP⟩, ⟨by simpa using hnC, hmC⟩, ⟨by simpa using hnR, hmR⟩, ⟨by simpa using hnS, hmS⟩, kg3_ok ⟨by simpa using hna, hma⟩ ⟨by simpa using hnb, hmb⟩ ⟨by decide, by decide⟩⟩, ⟨⟨by simp, by simp⟩, ⟨by simp, by simp⟩, by simp, by simp⟩, J, J, J⟩ J (Wsub 10 J J J J J J J J J J J J J J J J (Bs 3 J J J J (Bs 3 J J J J .nil))) hext
    · obtain ⟨⟨Aa, ca, ta, pa⟩, ⟨Ab, cb, tb, pb⟩, ⟨Ad, cd, td, pd⟩, rfl⟩ := len3 h1
      refine S_unpair 51 502 602 J J ?_;refine S_capO 502 J fun hnd hmd _ => ?_;refine S_someO 502 J (by (try simp at hnd); (try simp only); omega) fun gd od eA => ?_;obtain rfl : od = 0 := off0_eq ((hqd2 ⟨Ad, cd, td, pd⟩ (by simp)).2) eA
      subst eA
      refine S_rowB 502 62 J J J fun spd => ?_
      simp only at hnd hmd
      refine S_unpair 602 501 601 J J ?_;refine S_capO 501 J fun hnb hmb _ => ?_;refine S_someO 501 J (by (try simp at hnb); (try simp only); omega) fun gb ob eA => ?_;obtain rfl : ob = 0 := off0_eq ((hqd2 ⟨Ab, cb, tb, pb⟩ (by simp)).2) eA
      subst eA
      refine S_rowB 501 61 J J J fun spb => ?_
      simp only at hnb hmb
      refine S_unpair 601 500 600 J J ?_;refine S_capO 500 J fun hna hma _ => ?_;refine S_someO 500 J (by (try simp at hna); (try simp only); omega) fun ga oa eA => ?_;obtain rfl : oa = 0 := off0_eq ((hqd2 ⟨Aa, ca, ta, pa⟩ (by simp)).2) eA
      subst eA
      refine S_rowB 500 60 J J J fun spa => ?_
      simp only at hna hma
      exact RK [74, 71, 72, 73, 15, 41, 43, 60, 61, 62] (Res.c1 Tk Tryz.results47 J J) ⟨_, [ta, tb, td], J, J, ⟨(hqd2 _ (List.mem_cons_self ..)).1, ⟨(hqd2 _ (List.mem_cons_of_mem _ (List.mem_cons_self ..))).1, ⟨(hqd2 _ (List.mem_cons_of_mem _ (List.mem_cons_of_mem _ (List.mem_cons_self ..)))).1, trivial⟩⟩⟩⟩ ⟨gP, gC, gR, gS, [ga, gb, gd], ⟨c5, spP, A15, c15, A41, c41, A43, c43, c7, spC, c11, spR, c44, spS, kg3 ca cb cd, sp3 spa spb spd⟩, ⟨0 + w8.length, [] ++ saidC w8, 0 + w6.length, [] ++ intC w6, 0 + w7.length, [] ++ intC w7⟩, J, ⟨⟨by simpa using hnP, hmP⟩, ⟨by simpa using hnC, hmC⟩, ⟨by simpa using hnR, hmR⟩, ⟨by simpa using hnS, hmS⟩, kg3_ok ⟨by simpa using hna, hma⟩ ⟨by simpa using hnb, hmb⟩ ⟨by simpa using hnd, hmd⟩⟩, ⟨⟨by simp, by simp⟩, ⟨by simp, by simp⟩, by simp, by simp⟩, J, J, J⟩ J (Wsub 15 J J J J J J J J J J J J J J J J (Bs 3 J J J J (Bs 3 J J J J (Bs 3 J J J J .nil)))) hext
end
section
attribute [local irreducible] X Pure Mod
theorem shape {G : PH} {ps : List Prc} {ts : List Value} (h1 : 1 ≤ ps.length) (h3 : ps.length ≤ 3) (ht : Tds G ps ts) :
  (∃ p0 A0 c0, ps = [p0] ∧ ts = [.slice A0 p0.todo.length c0] ∧ Sts G p0.todo (.slice A0 p0.todo.length c0)) ∨
  (∃ p0 A0 c0 p1 A1 c1, ps = [p0, p1] ∧ ts = [.slice A0 p0.todo.length c0, .slice A1 p1.todo.length c1] ∧ Sts G p0.todo (.slice A0 p0.todo.length c0) ∧ Sts G p1.todo (.slice A1 p1.todo.length c1)) ∨
  (∃ p0 A0 c0 p1 A1 c1 p2 A2 c2, ps = [p0, p1, p2] ∧ ts = [.slice A0 p0.todo.length c0, .slice A1 p1.todo.length c1, .slice A2 p2.todo.length c2] ∧ Sts G p0.todo (.slice A0 p0.todo.length c0) ∧ Sts G p1.todo (.slice A1 p1.todo.length c1) ∧ Sts G p2.todo (.slice A2 p2.todo.length c2)) := by
 have one : ∀ {p : Prc} {v : Value}, Sts G p.todo v → ∃ A c, v = .slice A p.todo.length c := fun h => ⟨h.choose, h.choose_spec.choose, h.choose_spec.choose_spec.1⟩
 match ps, ts, ht, h1, h3 with
 | [p0], [v0], h, _, _ =>
  obtain ⟨A0, c0, rfl⟩ := one h.1
  exact .inl ⟨p0, A0, c0, J, J, h.1⟩
 | [p0, p1], [v0, v1], h, _, _ =>
  obtain ⟨A0, c0, rfl⟩ := one h.1
  obtain ⟨A1, c1, rfl⟩ := one h.2.1
  exact .inr (.inl ⟨p0, A0, c0, p1, A1, c1, J, J, h.1, h.2.1⟩)
 | [p0, p1, p2], [v0, v1, v2], h, _, _ =>
  obtain ⟨A0, c0, rfl⟩ := one h.1
  obtain ⟨A1, c1, rfl⟩ := one h.2.1
  obtain ⟨A2, c2, rfl⟩ := one h.2.2.1
  exact .inr (.inr ⟨p0, A0, c0, p1, A1, c1, p2, A2, c2, J, J, h.1, h.2.1, h.2.2.1⟩)
 | _ :: _ :: _ :: _ :: _, _, _, _, h3 => simp at h3
 | [], _, _, h1, _ => simp at h1
def codeP (W : Wld) (p : Prc) : Int :=
 if p.mode = 1 then 2
 else if p.mode = 2 then (if W.rm p.room = 0 then 0 else 2)
 else match p.todo with
  | [] => 1
  | s :: _ => if s.kind = 8 then (if W.rm s.a = 0 then 0 else 2) else 0
def codeOf (W : Wld) (who : Int) : Int :=
 if who < 0 ∨ (W.procs.length : Int) ≤ who then 3 else match W.procs[who.toNat]? with
  | some p => codeP W p
  | none => 3
def HeadOk (p : Prc) : Prop := (p.mode = 2 → p.room = 0 ∨ p.room = 1) ∧ ∀ s r, p.todo = s :: r → s.kind = 8 → s.a = 0 ∨ s.a = 1
theorem Sts_head {G : PH} {s : Stm} {r : List Stm} {A : Option Addr} {n c : Nat} (h : Sts G (s :: r) (.slice A n c)) :
  ∃ ad vx vy, A = some ad ∧ gcells G ad [.int .i64 s.kind, .int .i64 s.a, .int .i64 s.b, .int .i64 s.n, vx, vy] ∧ Sts G s.body vx ∧ Sts G s.els vy ∧ I64 s.kind ∧ I64 s.a ∧ I64 s.b ∧ I64 s.n := by
 obtain ⟨ad, cs, rfl, h1, h2⟩ := Sr_at h (k := 0) (by simp)
 rw [show (0 : Nat) * 6 = 0 from rfl, add_zero'] at h1
 obtain ⟨k, a, b, n, x, y⟩ := s
 obtain ⟨vx, vy, rfl, i1, i2, i3, i4, hx, hy⟩ := Stm.rep_iff.1 h2
 exact ⟨ad, vx, vy, J, h1, hx, hy, i1, i2, i3, i4⟩
theorem c_code (W : Wld) (who : Int) (b : Nat) (ts : List Value) (G : PH) (h1 : 1 ≤ W.procs.length) (h3 : W.procs.length ≤ 3) (ht : Tds G W.procs ts) (hh : ∀ p ∈ W.procs, HeadOk p) :
  Mod Tryz.prog 55 [.pointer (some ⟨b, 0, none⟩), .int .i64 who] G (worldP b W ts) fun v G' A' => v = .int .i64 (codeOf W who) ∧ G' = G ∧ A' = worldP b W ts := by
 refine Mod.intro Tryz.func55 Tryz.ntmps55 J J fun w S => ?_;obtain ⟨ps, x0, x1, x2, m0, m1, q0, q1, sd⟩ := W
 rcases shape h1 h3 ht with ⟨⟨a0, a1, a2, td0, mo0, on0, ro0⟩, A0, k0, rfl, rfl, s0⟩ | ⟨⟨a0, a1, a2, td0, mo0, on0, ro0⟩, A0, k0, ⟨b0, b1, b2, td1, mo1, on1, ro1⟩, A1, k1, rfl, rfl, s0, s1⟩ | ⟨⟨a0, a1, a2, td0, mo0, on0, ro0⟩, A0, k0, ⟨b0, b1, b2, td1, mo1, on1, ro1⟩, A1, k1, ⟨d0, d1, d2, td2, mo2, on2, ro2⟩, A2, k2, rfl, rfl, s0, s1, s2⟩
 ·by_cases hw : who < 0 ∨ 1 ≤ who
  ·refine OpP 1 0 J J J J fun bp bc br bs bg kp sp asd ksd aq0 kq0 aq1 kq1 kc spc kr spr ks sps kg spg hbg hmk => ?_; obtain ⟨g0, rfl⟩ := len1 hbg; clear hbg; refine NM J J ?_; dsimp only [wEnts, wCels, procCs, regEs, WX.of, vi]
   refine Va J J ?_
   refine RT J (by simp <;> omega) ?_
   refine Va J J ?_
   exact RK (1007 :: wKeys 1) (Res.t1 Tryz.results55 J J) ⟨by rw [codeOf, if_pos (by simp <;> omega)], rfl, rfl⟩ (Wpp [_] kg spg rfl ‹_› rfl rfl rfl rfl rfl rfl rfl rfl) rfl (.blk rfl rfl (Wsub 5 rfl rfl rfl rfl rfl rfl rfl rfl rfl rfl rfl rfl rfl rfl rfl rfl (Bs 3 rfl rfl rfl rfl .nil))) XR
  obtain rfl : who = 0 := by omega
  have hh0 := hh _ (List.mem_cons_self ..)
  refine OpP 1 0 J J J J fun bp bc br bs bg kp sp asd ksd aq0 kq0 aq1 kq1 kc spc kr spr ks sps kg spg hbg hmk => ?_; obtain ⟨g0, rfl⟩ := len1 hbg; clear hbg; refine NM J J ?_; dsimp only [wEnts, wCels, procCs, regEs, WX.of, vi]
  refine Va J J ?_;refine RF J J ?_;refine Va J J ?_;refine AZ ZT_ok J J J J fun b5 => ?_;refine Va J J ?_
  by_cases hm1 : mo0 = 1
  ·refine RT J (by simp [hm1]) ?_
   refine Va J J ?_;refine RT J (by simp [hm1]) ?_;refine Va J J ?_;exact RK (1007 :: wKeys 1) (Res.t1 Tryz.results55 J J) ⟨by simp [codeOf, codeP, hm1], J, J⟩ (Wpp [_] kg spg J ‹_› J J J J J J J J) J (.blk J J (Wsub 5 J J J J J J J J J J J J J J J J (Bs 3 J J J J .nil))) XR
  by_cases hm2 : mo0 = 2
  ·subst hm2
   have hro := hh0.1 rfl
   simp only at hro
   rcases hro with rfl | rfl <;>
   ·refine RF J J ?_
    refine Va J J ?_;refine Ds J J J ?_;refine Da J J ?_;refine D_setP 31 (b := true) J J ?_;refine Da J J ?_;refine DD ?_;refine Va J J ?_
    refine S_condp J (fun h => ?_) (fun h => ?_) <;> refine Va J J ?_
    ·exact RK (1007 :: wKeys 1) (Res.t1 Tryz.results55 J J) ⟨by simp [codeOf, codeP, Wld.rm, h], J, J⟩ (Wpp [_] kg spg J ‹_› J J J J J J J J) J (.blk J J (Wsub 5 J J J J J J J J J J J J J J J J (Bs 3 J J J J .nil))) XR
    ·refine RT J J ?_
     refine Va J J ?_;exact RK (1007 :: wKeys 1) (Res.t1 Tryz.results55 J J) ⟨by have h' := Classical.not_not.1 h; simp [codeOf, codeP, Wld.rm, h'], rfl, rfl⟩ (Wpp [_] kg spg rfl ‹_› rfl rfl rfl rfl rfl rfl rfl rfl) rfl (.blk rfl rfl (Wsub 5 rfl rfl rfl rfl rfl rfl rfl rfl rfl rfl rfl rfl rfl rfl rfl rfl (Bs 3 rfl rfl rfl rfl .nil))) XR
  refine RF J (by simp [hm1]) ?_;refine Va J J ?_;refine Ds J J J ?_;refine Da J J ?_;refine D_split 31 J (fun _ => J) (fun h => absurd h (by simp [hm2])) (fun h => ?_)
  refine Da J J ?_;refine DD ?_;refine Va J J ?_;refine RF J (by simp [hm2]) ?_;refine Va J J ?_
  rcases hTD : td0 with _ | ⟨s, r⟩
  ·subst hTD
   refine RT J J ?_;refine Va J J ?_;exact RK (1007 :: wKeys 1) (Res.t1 Tryz.results55 J J) ⟨by simp [codeOf, codeP, hm1, hm2], J, J⟩ (Wpp [_] kg spg J ‹_› J J J J J J J J) J (.blk J J (Wsub 5 J J J J J J J J J J J J J J J J (Bs 3 J J J J .nil))) XR
  subst hTD
  obtain ⟨ad, vx, vy, rfl, hcs, _⟩ := Sts_head s0
  refine RF J (by simp <;> omega) ?_
  refine Va J J ?_
  by_cases hk8 : s.kind = 8
  ·have hsa := hh0.2 s r rfl hk8
   obtain ⟨sk, sa, sb, sn, sx, sy⟩ := s
   simp only [Stm.kind, Stm.a] at hk8 hsa hcs
   subst hk8
   rcases hsa with rfl | rfl <;>
   ·refine Ds J J J ?_
    refine Da J J ?_
    refine D_val 2 J J J J J J J J J (V_index Tk J J J J (by omega) (by simp <;> omega)) ?_
    refine Da J J ?_;refine D_val 4 J J J J J J J J J (V_load Tk J J J (by simpa [add_add', add_zero'] using gcells_at hcs 0 _ J)) ?_;refine Da J J ?_;refine D_setP 58 (b := true) J J ?_;refine Da J J ?_
    refine D_val 13 J J J J J J J J J (V_index Tk J J J J (by omega) (by simp <;> omega)) ?_
    refine Da J J ?_;refine D_val 15 J J J J J J J J J (V_load Tk J J J (by simpa [add_add', add_zero'] using gcells_at hcs 1 _ J)) ?_;refine Da J J ?_;refine DD ?_;refine Va J J ?_
    refine S_condp J (fun h => ?_) (fun h => ?_) <;> refine Va J J ?_
    ·exact RK (1007 :: wKeys 1) (Res.t1 Tryz.results55 J J) ⟨by simp [codeOf, codeP, Wld.rm, hm1, hm2, Stm.kind, Stm.a, h], J, J⟩ (Wpp [_] kg spg J ‹_› J J J J J J J J) J (.blk J J (Wsub 5 J J J J J J J J J J J J J J J J (Bs 3 J J J J .nil))) XR
    ·exact RK (1007 :: wKeys 1) (Res.t1 Tryz.results55 J J) ⟨by have h' := Classical.not_not.1 h; simp [codeOf, codeP, Wld.rm, hm1, hm2, Stm.kind, Stm.a, h'], rfl, rfl⟩ (Wpp [_] kg spg rfl ‹_› rfl rfl rfl rfl rfl rfl rfl rfl) rfl (.blk rfl rfl (Wsub 5 rfl rfl rfl rfl rfl rfl rfl rfl rfl rfl rfl rfl rfl rfl rfl rfl (Bs 3 rfl rfl rfl rfl .nil))) XR
  refine Ds J J J ?_;refine Da J J ?_
  refine D_val 2 J J J J J J J J J (V_index Tk J J J J (by omega) (by simp <;> omega)) ?_
  refine Da J J ?_;refine D_val 4 J J J J J J J J J (V_load Tk J J J (by simpa [add_add', add_zero'] using gcells_at hcs 0 _ J)) ?_;refine Da J J ?_;refine D_split 58 J (fun _ => J) (fun h => absurd h (by simp [hk8])) (fun h => ?_)
  refine Da J J ?_;refine DD ?_;refine Va J J ?_;exact RK (1007 :: wKeys 1) (Res.t1 Tryz.results55 J J) ⟨by simp [codeOf, codeP, hm1, hm2, hk8], J, J⟩ (Wpp [_] kg spg J ‹_› J J J J J J J J) J (.blk J J (Wsub 5 J J J J J J J J J J J J J J J J (Bs 3 J J J J .nil))) XR
 ·have hh0 := hh _ (List.mem_cons_self ..)
  have hh1 := hh _ (List.mem_cons_of_mem _ (List.mem_cons_self ..))
  by_cases hw : who < 0 ∨ 2 ≤ who
  ·refine OpP 1 0 J J J J fun bp bc br bs bg kp sp asd ksd aq0 kq0 aq1 kq1 kc spc kr spr ks sps kg spg hbg hmk => ?_; obtain ⟨g0, g1, rfl⟩ := len2 hbg; clear hbg; refine NM J J ?_; dsimp only [wEnts, wCels, procCs, regEs, WX.of, vi]
   refine Va J J ?_
   refine RT J (by simp <;> omega) ?_
   refine Va J J ?_
   exact RK (1007 :: wKeys 2) (Res.t1 Tryz.results55 J J) ⟨by rw [codeOf, if_pos (by simp <;> omega)], rfl, rfl⟩ (Wpp [_, _] kg spg rfl ‹_› rfl rfl rfl rfl rfl rfl rfl rfl) rfl (.blk rfl rfl (Wsub 10 rfl rfl rfl rfl rfl rfl rfl rfl rfl rfl rfl rfl rfl rfl rfl rfl (Bs 3 rfl rfl rfl rfl (Bs 3 rfl rfl rfl rfl .nil)))) XR
  rcases (by omega : who = 0 ∨ who = 1) with rfl | rfl
  ·refine OpP 1 0 J J J J fun bp bc br bs bg kp sp asd ksd aq0 kq0 aq1 kq1 kc spc kr spr ks sps kg spg hbg hmk => ?_; obtain ⟨g0, g1, rfl⟩ := len2 hbg; clear hbg; refine NM J J ?_; dsimp only [wEnts, wCels, procCs, regEs, WX.of, vi]
   refine Va J J ?_;refine RF J J ?_;refine Va J J ?_;refine AZ ZT_ok J J J J fun b5 => ?_;refine Va J J ?_
   by_cases hm1 : mo0 = 1
   ·refine RT J (by simp [hm1]) ?_
    refine Va J J ?_;refine RT J (by simp [hm1]) ?_;refine Va J J ?_;exact RK (1007 :: wKeys 2) (Res.t1 Tryz.results55 J J) ⟨by simp [codeOf, codeP, hm1], J, J⟩ (Wpp [_, _] kg spg J ‹_› J J J J J J J J) J (.blk J J (Wsub 10 J J J J J J J J J J J J J J J J (Bs 3 J J J J (Bs 3 J J J J .nil)))) XR
   by_cases hm2 : mo0 = 2
   ·subst hm2
    have hro := hh0.1 rfl
    simp only at hro
    rcases hro with rfl | rfl <;>
    ·refine RF J J ?_
     refine Va J J ?_;refine Ds J J J ?_;refine Da J J ?_;refine D_setP 31 (b := true) J J ?_;refine Da J J ?_;refine DD ?_;refine Va J J ?_
     refine S_condp J (fun h => ?_) (fun h => ?_) <;> refine Va J J ?_
     ·exact RK (1007 :: wKeys 2) (Res.t1 Tryz.results55 J J) ⟨by simp [codeOf, codeP, Wld.rm, h], J, J⟩ (Wpp [_, _] kg spg J ‹_› J J J J J J J J) J (.blk J J (Wsub 10 J J J J J J J J J J J J J J J J (Bs 3 J J J J (Bs 3 J J J J .nil)))) XR
     ·refine RT J J ?_
      refine Va J J ?_;exact RK (1007 :: wKeys 2) (Res.t1 Tryz.results55 J J) ⟨by have h' := Classical.not_not.1 h; simp [codeOf, codeP, Wld.rm, h'], rfl, rfl⟩ (Wpp [_, _] kg spg rfl ‹_› rfl rfl rfl rfl rfl rfl rfl rfl) rfl (.blk rfl rfl (Wsub 10 rfl rfl rfl rfl rfl rfl rfl rfl rfl rfl rfl rfl rfl rfl rfl rfl (Bs 3 rfl rfl rfl rfl (Bs 3 rfl rfl rfl rfl .nil)))) XR
   refine RF J (by simp [hm1]) ?_;refine Va J J ?_;refine Ds J J J ?_;refine Da J J ?_;refine D_split 31 J (fun _ => J) (fun h => absurd h (by simp [hm2])) (fun h => ?_)
   refine Da J J ?_;refine DD ?_;refine Va J J ?_;refine RF J (by simp [hm2]) ?_;refine Va J J ?_
   rcases hTD : td0 with _ | ⟨s, r⟩
   ·subst hTD
    refine RT J J ?_;refine Va J J ?_;exact RK (1007 :: wKeys 2) (Res.t1 Tryz.results55 J J) ⟨by simp [codeOf, codeP, hm1, hm2], J, J⟩ (Wpp [_, _] kg spg J ‹_› J J J J J J J J) J (.blk J J (Wsub 10 J J J J J J J J J J J J J J J J (Bs 3 J J J J (Bs 3 J J J J .nil)))) XR
   subst hTD
   obtain ⟨ad, vx, vy, rfl, hcs, _⟩ := Sts_head s0
   refine RF J (by simp <;> omega) ?_
   refine Va J J ?_
   by_cases hk8 : s.kind = 8
   ·have hsa := hh0.2 s r rfl hk8
    obtain ⟨sk, sa, sb, sn, sx, sy⟩ := s
    simp only [Stm.kind, Stm.a] at hk8 hsa hcs
    subst hk8
    rcases hsa with rfl | rfl <;>
    ·refine Ds J J J ?_
     refine Da J J ?_
     refine D_val 2 J J J J J J J J J (V_index Tk J J J J (by omega) (by simp <;> omega)) ?_
     refine Da J J ?_;refine D_val 4 J J J J J J J J J (V_load Tk J J J (by simpa [add_add', add_zero'] using gcells_at hcs 0 _ J)) ?_;refine Da J J ?_;refine D_setP 58 (b := true) J J ?_;refine Da J J ?_
     refine D_val 13 J J J J J J J J J (V_index Tk J J J J (by omega) (by simp <;> omega)) ?_
     refine Da J J ?_;refine D_val 15 J J J J J J J J J (V_load Tk J J J (by simpa [add_add', add_zero'] using gcells_at hcs 1 _ J)) ?_;refine Da J J ?_;refine DD ?_;refine Va J J ?_
     refine S_condp J (fun h => ?_) (fun h => ?_) <;> refine Va J J ?_
     ·exact RK (1007 :: wKeys 2) (Res.t1 Tryz.results55 J J) ⟨by simp [codeOf, codeP, Wld.rm, hm1, hm2, Stm.kind, Stm.a, h], J, J⟩ (Wpp [_, _] kg spg J ‹_› J J J J J J J J) J (.blk J J (Wsub 10 J J J J J J J J J J J J J J J J (Bs 3 J J J J (Bs 3 J J J J .nil)))) XR
     ·exact RK (1007 :: wKeys 2) (Res.t1 Tryz.results55 J J) ⟨by have h' := Classical.not_not.1 h; simp [codeOf, codeP, Wld.rm, hm1, hm2, Stm.kind, Stm.a, h'], rfl, rfl⟩ (Wpp [_, _] kg spg rfl ‹_› rfl rfl rfl rfl rfl rfl rfl rfl) rfl (.blk rfl rfl (Wsub 10 rfl rfl rfl rfl rfl rfl rfl rfl rfl rfl rfl rfl rfl rfl rfl rfl (Bs 3 rfl rfl rfl rfl (Bs 3 rfl rfl rfl rfl .nil)))) XR
   refine Ds J J J ?_;refine Da J J ?_
   refine D_val 2 J J J J J J J J J (V_index Tk J J J J (by omega) (by simp <;> omega)) ?_
   refine Da J J ?_;refine D_val 4 J J J J J J J J J (V_load Tk J J J (by simpa [add_add', add_zero'] using gcells_at hcs 0 _ J)) ?_;refine Da J J ?_;refine D_split 58 J (fun _ => J) (fun h => absurd h (by simp [hk8])) (fun h => ?_)
   refine Da J J ?_;refine DD ?_;refine Va J J ?_;exact RK (1007 :: wKeys 2) (Res.t1 Tryz.results55 J J) ⟨by simp [codeOf, codeP, hm1, hm2, hk8], J, J⟩ (Wpp [_, _] kg spg J ‹_› J J J J J J J J) J (.blk J J (Wsub 10 J J J J J J J J J J J J J J J J (Bs 3 J J J J (Bs 3 J J J J .nil)))) XR
  ·refine OpP 1 0 J J J J fun bp bc br bs bg kp sp asd ksd aq0 kq0 aq1 kq1 kc spc kr spr ks sps kg spg hbg hmk => ?_; obtain ⟨g0, g1, rfl⟩ := len2 hbg; clear hbg; refine NM J J ?_; dsimp only [wEnts, wCels, procCs, regEs, WX.of, vi]
   refine Va J J ?_;refine RF J J ?_;refine Va J J ?_;refine AZ ZT_ok J J J J fun b5 => ?_;refine Va J J ?_
   by_cases hm1 : mo1 = 1
   ·refine RT J (by simp [hm1]) ?_
    refine Va J J ?_;refine RT J (by simp [hm1]) ?_;refine Va J J ?_;exact RK (1007 :: wKeys 2) (Res.t1 Tryz.results55 J J) ⟨by simp [codeOf, codeP, hm1], J, J⟩ (Wpp [_, _] kg spg J ‹_› J J J J J J J J) J (.blk J J (Wsub 10 J J J J J J J J J J J J J J J J (Bs 3 J J J J (Bs 3 J J J J .nil)))) XR
   by_cases hm2 : mo1 = 2
   ·subst hm2
    have hro := hh1.1 rfl
    simp only at hro
    rcases hro with rfl | rfl <;>
    ·refine RF J J ?_
     refine Va J J ?_;refine Ds J J J ?_;refine Da J J ?_;refine D_setP 31 (b := true) J J ?_;refine Da J J ?_;refine DD ?_;refine Va J J ?_
     refine S_condp J (fun h => ?_) (fun h => ?_) <;> refine Va J J ?_
     ·exact RK (1007 :: wKeys 2) (Res.t1 Tryz.results55 J J) ⟨by simp [codeOf, codeP, Wld.rm, h], J, J⟩ (Wpp [_, _] kg spg J ‹_› J J J J J J J J) J (.blk J J (Wsub 10 J J J J J J J J J J J J J J J J (Bs 3 J J J J (Bs 3 J J J J .nil)))) XR
     ·refine RT J J ?_
      refine Va J J ?_;exact RK (1007 :: wKeys 2) (Res.t1 Tryz.results55 J J) ⟨by have h' := Classical.not_not.1 h; simp [codeOf, codeP, Wld.rm, h'], rfl, rfl⟩ (Wpp [_, _] kg spg rfl ‹_› rfl rfl rfl rfl rfl rfl rfl rfl) rfl (.blk rfl rfl (Wsub 10 rfl rfl rfl rfl rfl rfl rfl rfl rfl rfl rfl rfl rfl rfl rfl rfl (Bs 3 rfl rfl rfl rfl (Bs 3 rfl rfl rfl rfl .nil)))) XR
   refine RF J (by simp [hm1]) ?_;refine Va J J ?_;refine Ds J J J ?_;refine Da J J ?_;refine D_split 31 J (fun _ => J) (fun h => absurd h (by simp [hm2])) (fun h => ?_)
   refine Da J J ?_;refine DD ?_;refine Va J J ?_;refine RF J (by simp [hm2]) ?_;refine Va J J ?_
   rcases hTD : td1 with _ | ⟨s, r⟩
   ·subst hTD
    refine RT J J ?_;refine Va J J ?_;exact RK (1007 :: wKeys 2) (Res.t1 Tryz.results55 J J) ⟨by simp [codeOf, codeP, hm1, hm2], J, J⟩ (Wpp [_, _] kg spg J ‹_› J J J J J J J J) J (.blk J J (Wsub 10 J J J J J J J J J J J J J J J J (Bs 3 J J J J (Bs 3 J J J J .nil)))) XR
   subst hTD
   obtain ⟨ad, vx, vy, rfl, hcs, _⟩ := Sts_head s1
   refine RF J (by simp <;> omega) ?_
   refine Va J J ?_
   by_cases hk8 : s.kind = 8
   ·have hsa := hh1.2 s r rfl hk8
    obtain ⟨sk, sa, sb, sn, sx, sy⟩ := s
    simp only [Stm.kind, Stm.a] at hk8 hsa hcs
    subst hk8
    rcases hsa with rfl | rfl <;>
    ·refine Ds J J J ?_
     refine Da J J ?_
     refine D_val 2 J J J J J J J J J (V_index Tk J J J J (by omega) (by simp <;> omega)) ?_
     refine Da J J ?_;refine D_val 4 J J J J J J J J J (V_load Tk J J J (by simpa [add_add', add_zero'] using gcells_at hcs 0 _ J)) ?_;refine Da J J ?_;refine D_setP 58 (b := true) J J ?_;refine Da J J ?_
     refine D_val 13 J J J J J J J J J (V_index Tk J J J J (by omega) (by simp <;> omega)) ?_
     refine Da J J ?_;refine D_val 15 J J J J J J J J J (V_load Tk J J J (by simpa [add_add', add_zero'] using gcells_at hcs 1 _ J)) ?_;refine Da J J ?_;refine DD ?_;refine Va J J ?_
     refine S_condp J (fun h => ?_) (fun h => ?_) <;> refine Va J J ?_
     ·exact RK (1007 :: wKeys 2) (Res.t1 Tryz.results55 J J) ⟨by simp [codeOf, codeP, Wld.rm, hm1, hm2, Stm.kind, Stm.a, h], J, J⟩ (Wpp [_, _] kg spg J ‹_› J J J J J J J J) J (.blk J J (Wsub 10 J J J J J J J J J J J J J J J J (Bs 3 J J J J (Bs 3 J J J J .nil)))) XR
     ·exact RK (1007 :: wKeys 2) (Res.t1 Tryz.results55 J J) ⟨by have h' := Classical.not_not.1 h; simp [codeOf, codeP, Wld.rm, hm1, hm2, Stm.kind, Stm.a, h'], rfl, rfl⟩ (Wpp [_, _] kg spg rfl ‹_› rfl rfl rfl rfl rfl rfl rfl rfl) rfl (.blk rfl rfl (Wsub 10 rfl rfl rfl rfl rfl rfl rfl rfl rfl rfl rfl rfl rfl rfl rfl rfl (Bs 3 rfl rfl rfl rfl (Bs 3 rfl rfl rfl rfl .nil)))) XR
   refine Ds J J J ?_;refine Da J J ?_
   refine D_val 2 J J J J J J J J J (V_index Tk J J J J (by omega) (by simp <;> omega)) ?_
   refine Da J J ?_;refine D_val 4 J J J J J J J J J (V_load Tk J J J (by simpa [add_add', add_zero'] using gcells_at hcs 0 _ J)) ?_;refine Da J J ?_;refine D_split 58 J (fun _ => J) (fun h => absurd h (by simp [hk8])) (fun h => ?_)
   refine Da J J ?_;refine DD ?_;refine Va J J ?_;exact RK (1007 :: wKeys 2) (Res.t1 Tryz.results55 J J) ⟨by simp [codeOf, codeP, hm1, hm2, hk8], J, J⟩ (Wpp [_, _] kg spg J ‹_› J J J J J J J J) J (.blk J J (Wsub 10 J J J J J J J J J J J J J J J J (Bs 3 J J J J (Bs 3 J J J J .nil)))) XR
 ·have hh0 := hh _ (List.mem_cons_self ..)
  have hh1 := hh _ (List.mem_cons_of_mem _ (List.mem_cons_self ..))
  have hh2 := hh _ (List.mem_cons_of_mem _ (List.mem_cons_of_mem _ (List.mem_cons_self ..)))
  by_cases hw : who < 0 ∨ 3 ≤ who
  ·refine OpP 1 0 J J J J fun bp bc br bs bg kp sp asd ksd aq0 kq0 aq1 kq1 kc spc kr spr ks sps kg spg hbg hmk => ?_; obtain ⟨g0, g1, g2, rfl⟩ := len3 hbg; clear hbg; refine NM J J ?_; dsimp only [wEnts, wCels, procCs, regEs, WX.of, vi]
   refine Va J J ?_
   refine RT J (by simp <;> omega) ?_
   refine Va J J ?_
   exact RK (1007 :: wKeys 3) (Res.t1 Tryz.results55 J J) ⟨by rw [codeOf, if_pos (by simp <;> omega)], rfl, rfl⟩ (Wpp [_, _, _] kg spg rfl ‹_› rfl rfl rfl rfl rfl rfl rfl rfl) rfl (.blk rfl rfl (Wsub 15 rfl rfl rfl rfl rfl rfl rfl rfl rfl rfl rfl rfl rfl rfl rfl rfl (Bs 3 rfl rfl rfl rfl (Bs 3 rfl rfl rfl rfl (Bs 3 rfl rfl rfl rfl .nil))))) XR
  rcases (by omega : who = 0 ∨ who = 1 ∨ who = 2) with rfl | rfl | rfl
  ·refine OpP 1 0 J J J J fun bp bc br bs bg kp sp asd ksd aq0 kq0 aq1 kq1 kc spc kr spr ks sps kg spg hbg hmk => ?_; obtain ⟨g0, g1, g2, rfl⟩ := len3 hbg; clear hbg; refine NM J J ?_; dsimp only [wEnts, wCels, procCs, regEs, WX.of, vi]
   refine Va J J ?_;refine RF J J ?_;refine Va J J ?_;refine AZ ZT_ok J J J J fun b5 => ?_;refine Va J J ?_
   by_cases hm1 : mo0 = 1
   ·refine RT J (by simp [hm1]) ?_
    refine Va J J ?_;refine RT J (by simp [hm1]) ?_;refine Va J J ?_;exact RK (1007 :: wKeys 3) (Res.t1 Tryz.results55 J J) ⟨by simp [codeOf, codeP, hm1], J, J⟩ (Wpp [_, _, _] kg spg J ‹_› J J J J J J J J) J (.blk J J (Wsub 15 J J J J J J J J J J J J J J J J (Bs 3 J J J J (Bs 3 J J J J (Bs 3 J J J J .nil))))) XR
   by_cases hm2 : mo0 = 2
   ·subst hm2
    have hro := hh0.1 rfl
    simp only at hro
    rcases hro with rfl | rfl <;>
    ·refine RF J J ?_
     refine Va J J ?_;refine Ds J J J ?_;refine Da J J ?_;refine D_setP 31 (b := true) J J ?_;refine Da J J ?_;refine DD ?_;refine Va J J ?_
     refine S_condp J (fun h => ?_) (fun h => ?_) <;> refine Va J J ?_
     ·exact RK (1007 :: wKeys 3) (Res.t1 Tryz.results55 J J) ⟨by simp [codeOf, codeP, Wld.rm, h], J, J⟩ (Wpp [_, _, _] kg spg J ‹_› J J J J J J J J) J (.blk J J (Wsub 15 J J J J J J J J J J J J J J J J (Bs 3 J J J J (Bs 3 J J J J (Bs 3 J J J J .nil))))) XR
     ·refine RT J J ?_
      refine Va J J ?_;exact RK (1007 :: wKeys 3) (Res.t1 Tryz.results55 J J) ⟨by have h' := Classical.not_not.1 h; simp [codeOf, codeP, Wld.rm, h'], rfl, rfl⟩ (Wpp [_, _, _] kg spg rfl ‹_› rfl rfl rfl rfl rfl rfl rfl rfl) rfl (.blk rfl rfl (Wsub 15 rfl rfl rfl rfl rfl rfl rfl rfl rfl rfl rfl rfl rfl rfl rfl rfl (Bs 3 rfl rfl rfl rfl (Bs 3 rfl rfl rfl rfl (Bs 3 rfl rfl rfl rfl .nil))))) XR
   refine RF J (by simp [hm1]) ?_;refine Va J J ?_;refine Ds J J J ?_;refine Da J J ?_;refine D_split 31 J (fun _ => J) (fun h => absurd h (by simp [hm2])) (fun h => ?_)
   refine Da J J ?_;refine DD ?_;refine Va J J ?_;refine RF J (by simp [hm2]) ?_;refine Va J J ?_
   rcases hTD : td0 with _ | ⟨s, r⟩
   ·subst hTD
    refine RT J J ?_;refine Va J J ?_;exact RK (1007 :: wKeys 3) (Res.t1 Tryz.results55 J J) ⟨by simp [codeOf, codeP, hm1, hm2], J, J⟩ (Wpp [_, _, _] kg spg J ‹_› J J J J J J J J) J (.blk J J (Wsub 15 J J J J J J J J J J J J J J J J (Bs 3 J J J J (Bs 3 J J J J (Bs 3 J J J J .nil))))) XR
   subst hTD
   obtain ⟨ad, vx, vy, rfl, hcs, _⟩ := Sts_head s0
   refine RF J (by simp <;> omega) ?_
   refine Va J J ?_
   by_cases hk8 : s.kind = 8
   ·have hsa := hh0.2 s r rfl hk8
    obtain ⟨sk, sa, sb, sn, sx, sy⟩ := s
    simp only [Stm.kind, Stm.a] at hk8 hsa hcs
    subst hk8
    rcases hsa with rfl | rfl <;>
    ·refine Ds J J J ?_
     refine Da J J ?_
     refine D_val 2 J J J J J J J J J (V_index Tk J J J J (by omega) (by simp <;> omega)) ?_
     refine Da J J ?_;refine D_val 4 J J J J J J J J J (V_load Tk J J J (by simpa [add_add', add_zero'] using gcells_at hcs 0 _ J)) ?_;refine Da J J ?_;refine D_setP 58 (b := true) J J ?_;refine Da J J ?_
     refine D_val 13 J J J J J J J J J (V_index Tk J J J J (by omega) (by simp <;> omega)) ?_
     refine Da J J ?_;refine D_val 15 J J J J J J J J J (V_load Tk J J J (by simpa [add_add', add_zero'] using gcells_at hcs 1 _ J)) ?_;refine Da J J ?_;refine DD ?_;refine Va J J ?_
     refine S_condp J (fun h => ?_) (fun h => ?_) <;> refine Va J J ?_
     ·exact RK (1007 :: wKeys 3) (Res.t1 Tryz.results55 J J) ⟨by simp [codeOf, codeP, Wld.rm, hm1, hm2, Stm.kind, Stm.a, h], J, J⟩ (Wpp [_, _, _] kg spg J ‹_› J J J J J J J J) J (.blk J J (Wsub 15 J J J J J J J J J J J J J J J J (Bs 3 J J J J (Bs 3 J J J J (Bs 3 J J J J .nil))))) XR
     ·exact RK (1007 :: wKeys 3) (Res.t1 Tryz.results55 J J) ⟨by have h' := Classical.not_not.1 h; simp [codeOf, codeP, Wld.rm, hm1, hm2, Stm.kind, Stm.a, h'], rfl, rfl⟩ (Wpp [_, _, _] kg spg rfl ‹_› rfl rfl rfl rfl rfl rfl rfl rfl) rfl (.blk rfl rfl (Wsub 15 rfl rfl rfl rfl rfl rfl rfl rfl rfl rfl rfl rfl rfl rfl rfl rfl (Bs 3 rfl rfl rfl rfl (Bs 3 rfl rfl rfl rfl (Bs 3 rfl rfl rfl rfl .nil))))) XR
   refine Ds J J J ?_;refine Da J J ?_
   refine D_val 2 J J J J J J J J J (V_index Tk J J J J (by omega) (by simp <;> omega)) ?_
   refine Da J J ?_;refine D_val 4 J J J J J J J J J (V_load Tk J J J (by simpa [add_add', add_zero'] using gcells_at hcs 0 _ J)) ?_;refine Da J J ?_;refine D_split 58 J (fun _ => J) (fun h => absurd h (by simp [hk8])) (fun h => ?_)
   refine Da J J ?_;refine DD ?_;refine Va J J ?_;exact RK (1007 :: wKeys 3) (Res.t1 Tryz.results55 J J) ⟨by simp [codeOf, codeP, hm1, hm2, hk8], J, J⟩ (Wpp [_, _, _] kg spg J ‹_› J J J J J J J J) J (.blk J J (Wsub 15 J J J J J J J J J J J J J J J J (Bs 3 J J J J (Bs 3 J J J J (Bs 3 J J J J .nil))))) XR
  ·refine OpP 1 0 J J J J fun bp bc br bs bg kp sp asd ksd aq0 kq0 aq1 kq1 kc spc kr spr ks sps kg spg hbg hmk => ?_; obtain ⟨g0, g1, g2, rfl⟩ := len3 hbg; clear hbg; refine NM J J ?_; dsimp only [wEnts, wCels, procCs, regEs, WX.of, vi]
   refine Va J J ?_;refine RF J J ?_;refine Va J J ?_;refine AZ ZT_ok J J J J fun b5 => ?_;refine Va J J ?_
   by_cases hm1 : mo1 = 1
   ·refine RT J (by simp [hm1]) ?_
    refine Va J J ?_;refine RT J (by simp [hm1]) ?_;refine Va J J ?_;exact RK (1007 :: wKeys 3) (Res.t1 Tryz.results55 J J) ⟨by simp [codeOf, codeP, hm1], J, J⟩ (Wpp [_, _, _] kg spg J ‹_› J J J J J J J J) J (.blk J J (Wsub 15 J J J J J J J J J J J J J J J J (Bs 3 J J J J (Bs 3 J J J J (Bs 3 J J J J .nil))))) XR
   by_cases hm2 : mo1 = 2
   ·subst hm2
    have hro := hh1.1 rfl
    simp only at hro
    rcases hro with rfl | rfl <;>
    ·refine RF J J ?_
     refine Va J J ?_;refine Ds J J J ?_;refine Da J J ?_;refine D_setP 31 (b := true) J J ?_;refine Da J J ?_;refine DD ?_;refine Va J J ?_
     refine S_condp J (fun h => ?_) (fun h => ?_) <;> refine Va J J ?_
     ·exact RK (1007 :: wKeys 3) (Res.t1 Tryz.results55 J J) ⟨by simp [codeOf, codeP, Wld.rm, h], J, J⟩ (Wpp [_, _, _] kg spg J ‹_› J J J J J J J J) J (.blk J J (Wsub 15 J J J J J J J J J J J J J J J J (Bs 3 J J J J (Bs 3 J J J J (Bs 3 J J J J .nil))))) XR
     ·refine RT J J ?_
      refine Va J J ?_;exact RK (1007 :: wKeys 3) (Res.t1 Tryz.results55 J J) ⟨by have h' := Classical.not_not.1 h; simp [codeOf, codeP, Wld.rm, h'], rfl, rfl⟩ (Wpp [_, _, _] kg spg rfl ‹_› rfl rfl rfl rfl rfl rfl rfl rfl) rfl (.blk rfl rfl (Wsub 15 rfl rfl rfl rfl rfl rfl rfl rfl rfl rfl rfl rfl rfl rfl rfl rfl (Bs 3 rfl rfl rfl rfl (Bs 3 rfl rfl rfl rfl (Bs 3 rfl rfl rfl rfl .nil))))) XR
   refine RF J (by simp [hm1]) ?_;refine Va J J ?_;refine Ds J J J ?_;refine Da J J ?_;refine D_split 31 J (fun _ => J) (fun h => absurd h (by simp [hm2])) (fun h => ?_)
   refine Da J J ?_;refine DD ?_;refine Va J J ?_;refine RF J (by simp [hm2]) ?_;refine Va J J ?_
   rcases hTD : td1 with _ | ⟨s, r⟩
   ·subst hTD
    refine RT J J ?_;refine Va J J ?_;exact RK (1007 :: wKeys 3) (Res.t1 Tryz.results55 J J) ⟨by simp [codeOf, codeP, hm1, hm2], J, J⟩ (Wpp [_, _, _] kg spg J ‹_› J J J J J J J J) J (.blk J J (Wsub 15 J J J J J J J J J J J J J J J J (Bs 3 J J J J (Bs 3 J J J J (Bs 3 J J J J .nil))))) XR
   subst hTD
   obtain ⟨ad, vx, vy, rfl, hcs, _⟩ := Sts_head s1
   refine RF J (by simp <;> omega) ?_
   refine Va J J ?_
   by_cases hk8 : s.kind = 8
   ·have hsa := hh1.2 s r rfl hk8
    obtain ⟨sk, sa, sb, sn, sx, sy⟩ := s
    simp only [Stm.kind, Stm.a] at hk8 hsa hcs
    subst hk8
    rcases hsa with rfl | rfl <;>
    ·refine Ds J J J ?_
     refine Da J J ?_
     refine D_val 2 J J J J J J J J J (V_index Tk J J J J (by omega) (by simp <;> omega)) ?_
     refine Da J J ?_;refine D_val 4 J J J J J J J J J (V_load Tk J J J (by simpa [add_add', add_zero'] using gcells_at hcs 0 _ J)) ?_;refine Da J J ?_;refine D_setP 58 (b := true) J J ?_;refine Da J J ?_
     refine D_val 13 J J J J J J J J J (V_index Tk J J J J (by omega) (by simp <;> omega)) ?_
     refine Da J J ?_;refine D_val 15 J J J J J J J J J (V_load Tk J J J (by simpa [add_add', add_zero'] using gcells_at hcs 1 _ J)) ?_;refine Da J J ?_;refine DD ?_;refine Va J J ?_
     refine S_condp J (fun h => ?_) (fun h => ?_) <;> refine Va J J ?_
     ·exact RK (1007 :: wKeys 3) (Res.t1 Tryz.results55 J J) ⟨by simp [codeOf, codeP, Wld.rm, hm1, hm2, Stm.kind, Stm.a, h], J, J⟩ (Wpp [_, _, _] kg spg J ‹_› J J J J J J J J) J (.blk J J (Wsub 15 J J J J J J J J J J J J J J J J (Bs 3 J J J J (Bs 3 J J J J (Bs 3 J J J J .nil))))) XR
     ·exact RK (1007 :: wKeys 3) (Res.t1 Tryz.results55 J J) ⟨by have h' := Classical.not_not.1 h; simp [codeOf, codeP, Wld.rm, hm1, hm2, Stm.kind, Stm.a, h'], rfl, rfl⟩ (Wpp [_, _, _] kg spg rfl ‹_› rfl rfl rfl rfl rfl rfl rfl rfl) rfl (.blk rfl rfl (Wsub 15 rfl rfl rfl rfl rfl rfl rfl rfl rfl rfl rfl rfl rfl rfl rfl rfl (Bs 3 rfl rfl rfl rfl (Bs 3 rfl rfl rfl rfl (Bs 3 rfl rfl rfl rfl .nil))))) XR
   refine Ds J J J ?_;refine Da J J ?_
   refine D_val 2 J J J J J J J J J (V_index Tk J J J J (by omega) (by simp <;> omega)) ?_
   refine Da J J ?_;refine D_val 4 J J J J J J J J J (V_load Tk J J J (by simpa [add_add', add_zero'] using gcells_at hcs 0 _ J)) ?_;refine Da J J ?_;refine D_split 58 J (fun _ => J) (fun h => absurd h (by simp [hk8])) (fun h => ?_)
   refine Da J J ?_;refine DD ?_;refine Va J J ?_;exact RK (1007 :: wKeys 3) (Res.t1 Tryz.results55 J J) ⟨by simp [codeOf, codeP, hm1, hm2, hk8], J, J⟩ (Wpp [_, _, _] kg spg J ‹_› J J J J J J J J) J (.blk J J (Wsub 15 J J J J J J J J J J J J J J J J (Bs 3 J J J J (Bs 3 J J J J (Bs 3 J J J J .nil))))) XR
  ·refine OpP 1 0 J J J J fun bp bc br bs bg kp sp asd ksd aq0 kq0 aq1 kq1 kc spc kr spr ks sps kg spg hbg hmk => ?_; obtain ⟨g0, g1, g2, rfl⟩ := len3 hbg; clear hbg; refine NM J J ?_; dsimp only [wEnts, wCels, procCs, regEs, WX.of, vi]
   refine Va J J ?_;refine RF J J ?_;refine Va J J ?_;refine AZ ZT_ok J J J J fun b5 => ?_;refine Va J J ?_
   by_cases hm1 : mo2 = 1
   ·refine RT J (by simp [hm1]) ?_
    refine Va J J ?_;refine RT J (by simp [hm1]) ?_;refine Va J J ?_;exact RK (1007 :: wKeys 3) (Res.t1 Tryz.results55 J J) ⟨by simp [codeOf, codeP, hm1], J, J⟩ (Wpp [_, _, _] kg spg J ‹_› J J J J J J J J) J (.blk J J (Wsub 15 J J J J J J J J J J J J J J J J (Bs 3 J J J J (Bs 3 J J J J (Bs 3 J J J J .nil))))) XR
   by_cases hm2 : mo2 = 2
   ·subst hm2
    have hro := hh2.1 rfl
    simp only at hro
    rcases hro with rfl | rfl <;>
    ·refine RF J J ?_
     refine Va J J ?_;refine Ds J J J ?_;refine Da J J ?_;refine D_setP 31 (b := true) J J ?_;refine Da J J ?_;refine DD ?_;refine Va J J ?_
     refine S_condp J (fun h => ?_) (fun h => ?_) <;> refine Va J J ?_
     ·exact RK (1007 :: wKeys 3) (Res.t1 Tryz.results55 J J) ⟨by simp [codeOf, codeP, Wld.rm, h], J, J⟩ (Wpp [_, _, _] kg spg J ‹_› J J J J J J J J) J (.blk J J (Wsub 15 J J J J J J J J J J J J J J J J (Bs 3 J J J J (Bs 3 J J J J (Bs 3 J J J J .nil))))) XR
     ·refine RT J J ?_
      refine Va J J ?_;exact RK (1007 :: wKeys 3) (Res.t1 Tryz.results55 J J) ⟨by have h' := Classical.not_not.1 h; simp [codeOf, codeP, Wld.rm, h'], rfl, rfl⟩ (Wpp [_, _, _] kg spg rfl ‹_› rfl rfl rfl rfl rfl rfl rfl rfl) rfl (.blk rfl rfl (Wsub 15 rfl rfl rfl rfl rfl rfl rfl rfl rfl rfl rfl rfl rfl rfl rfl rfl (Bs 3 rfl rfl rfl rfl (Bs 3 rfl rfl rfl rfl (Bs 3 rfl rfl rfl rfl .nil))))) XR
   refine RF J (by simp [hm1]) ?_;refine Va J J ?_;refine Ds J J J ?_;refine Da J J ?_;refine D_split 31 J (fun _ => J) (fun h => absurd h (by simp [hm2])) (fun h => ?_)
   refine Da J J ?_;refine DD ?_;refine Va J J ?_;refine RF J (by simp [hm2]) ?_;refine Va J J ?_
   rcases hTD : td2 with _ | ⟨s, r⟩
   ·subst hTD
    refine RT J J ?_;refine Va J J ?_;exact RK (1007 :: wKeys 3) (Res.t1 Tryz.results55 J J) ⟨by simp [codeOf, codeP, hm1, hm2], J, J⟩ (Wpp [_, _, _] kg spg J ‹_› J J J J J J J J) J (.blk J J (Wsub 15 J J J J J J J J J J J J J J J J (Bs 3 J J J J (Bs 3 J J J J (Bs 3 J J J J .nil))))) XR
   subst hTD
   obtain ⟨ad, vx, vy, rfl, hcs, _⟩ := Sts_head s2
   refine RF J (by simp <;> omega) ?_
   refine Va J J ?_
   by_cases hk8 : s.kind = 8
   ·have hsa := hh2.2 s r rfl hk8
    obtain ⟨sk, sa, sb, sn, sx, sy⟩ := s
    simp only [Stm.kind, Stm.a] at hk8 hsa hcs
    subst hk8
    rcases hsa with rfl | rfl <;>
    ·refine Ds J J J ?_
     refine Da J J ?_
     refine D_val 2 J J J J J J J J J (V_index Tk J J J J (by omega) (by simp <;> omega)) ?_
     refine Da J J ?_;refine D_val 4 J J J J J J J J J (V_load Tk J J J (by simpa [add_add', add_zero'] using gcells_at hcs 0 _ J)) ?_;refine Da J J ?_;refine D_setP 58 (b := true) J J ?_;refine Da J J ?_
     refine D_val 13 J J J J J J J J J (V_index Tk J J J J (by omega) (by simp <;> omega)) ?_
     refine Da J J ?_;refine D_val 15 J J J J J J J J J (V_load Tk J J J (by simpa [add_add', add_zero'] using gcells_at hcs 1 _ J)) ?_;refine Da J J ?_;refine DD ?_;refine Va J J ?_
     refine S_condp J (fun h => ?_) (fun h => ?_) <;> refine Va J J ?_
     ·exact RK (1007 :: wKeys 3) (Res.t1 Tryz.results55 J J) ⟨by simp [codeOf, codeP, Wld.rm, hm1, hm2, Stm.kind, Stm.a, h], J, J⟩ (Wpp [_, _, _] kg spg J ‹_› J J J J J J J J) J (.blk J J (Wsub 15 J J J J J J J J J J J J J J J J (Bs 3 J J J J (Bs 3 J J J J (Bs 3 J J J J .nil))))) XR
     ·exact RK (1007 :: wKeys 3) (Res.t1 Tryz.results55 J J) ⟨by have h' := Classical.not_not.1 h; simp [codeOf, codeP, Wld.rm, hm1, hm2, Stm.kind, Stm.a, h'], rfl, rfl⟩ (Wpp [_, _, _] kg spg rfl ‹_› rfl rfl rfl rfl rfl rfl rfl rfl) rfl (.blk rfl rfl (Wsub 15 rfl rfl rfl rfl rfl rfl rfl rfl rfl rfl rfl rfl rfl rfl rfl rfl (Bs 3 rfl rfl rfl rfl (Bs 3 rfl rfl rfl rfl (Bs 3 rfl rfl rfl rfl .nil))))) XR
   refine Ds J J J ?_;refine Da J J ?_
   refine D_val 2 J J J J J J J J J (V_index Tk J J J J (by omega) (by simp <;> omega)) ?_
   refine Da J J ?_;refine D_val 4 J J J J J J J J J (V_load Tk J J J (by simpa [add_add', add_zero'] using gcells_at hcs 0 _ J)) ?_;refine Da J J ?_;refine D_split 58 J (fun _ => J) (fun h => absurd h (by simp [hk8])) (fun h => ?_)
   refine Da J J ?_;refine DD ?_;refine Va J J ?_;exact RK (1007 :: wKeys 3) (Res.t1 Tryz.results55 J J) ⟨by simp [codeOf, codeP, hm1, hm2, hk8], J, J⟩ (Wpp [_, _, _] kg spg J ‹_› J J J J J J J J) J (.blk J J (Wsub 15 J J J J J J J J J J J J J J J J (Bs 3 J J J J (Bs 3 J J J J (Bs 3 J J J J .nil))))) XR
end
section
attribute [local irreducible] X Pure Mod
def outP (p : Prc) : Prc := { p with todo := cpL p.todo 4 }
def Wld.out (W : Wld) : Wld := { W with procs := W.procs.map outP }
structure Fin3 (W : Wld) : Prop where
 n1 : 1 ≤ W.procs.length
 n3 : W.procs.length ≤ 3
 sd : W.said.length ≤ 1000000
 q0 : W.q0.length ≤ 1000000
 q1 : W.q1.length ≤ 1000000
 td : ∀ p ∈ W.procs, p.todo.length ≤ 1000000
theorem c_l3Out (W : Wld) (v : Value) (G : PH) (hW : WG G W v) (hF : Fin3 W) : Mod Tryz.prog 21 [v] G emptyHP (NPost W.out) := by
 have hW0 := hW
 obtain ⟨vp, vc, vr, vs, vd, rfl, hpr, hce, hro, hsg, hsd⟩ := hW
 obtain ⟨Ap, cp, rfl, _⟩ := id hpr
 obtain ⟨ps, w1, w2, w3, w4, w5, w6, w7, w8⟩ := W
 have hn1 := hF.n1
 have hn3 := hF.n3
 simp only at hn1 hn3 hpr hsg hsd
 refine Mod.intro Tryz.func21 Tryz.ntmps21 J J fun w S => ?_;refine Va J J ?_;refine S_box J J J J J fun b1 => ?_;refine Va J J ?_;refine AZ ZT_ok J J J J fun b2 => ?_;refine Va J J ?_;refine RF J (by simp; intro h; simp [h] at hn1) ?_;refine Va J J ?_;refine S_callN 20 Tryz.call47 (c_l3Copy _ _ G hW0 ⟨hn1, hn3⟩ ⟨hF.sd, hF.q0, hF.q1⟩ hF.td) J J J ?_;rintro v1 G1 A1 ⟨cs, ts, rfl, rfl, htd⟩ hext1
 refine S_newHP 20 J J ?_;refine S_csV 20 J ?_;rintro bp bc br bs kp asd ksd kc kr ks rfl
 refine Va J J ?_;refine AZ ZT_ok J J J J fun b3 => ?_;refine Va J J ?_;refine S_V2P 3 20 21 J J J J J J ?_;refine S_reE 3 (.val (.pointer (some ⟨b3, 0, none⟩))) J J ?_
 rcases shape hn1 hn3 htd with ⟨p0, A0, c0, rfl, rfl, s0⟩ | ⟨p0, A0, c0, p1, A1, c1, rfl, rfl, s0, s1⟩ | ⟨p0, A0, c0, p1, A1, c1, p2, A2, c2, rfl, rfl, s0, s1, s2⟩
 ·refine OpP 21 3 J J J J fun bp bc br bs bg kp sp asd ksd aq0 kq0 aq1 kq1 kc spc kr spr ks sps kg spg hbg hmk => ?_; obtain ⟨g0, rfl⟩ := len1 hbg; clear hbg; refine NM J J ?_; dsimp only [wEnts, wCels, procCs, regEs, WX.of, vi]
  refine S_unroll 1 ?_;refine Va J J ?_;refine RT J J ?_;refine Va J J ?_;refine Ds J J J ?_;refine Da J J ?_;refine D_sole 9 J J (N_call 9 Tryz.call48 (Cp_all _ 4 _ _ s0 (by omega)) J J J J J J J J J J ?_)
  rintro v9 G9 hv0 hx0
  obtain ⟨A9, c9, rfl, _⟩ := id hv0
  refine Da J J ?_;refine Ns 12 J J J J J J J J J ?_;refine DD ?_;refine Va J J ?_;refine S_add J J J J (by omega) ?_;refine Va J J ?_;refine S_next ?_;refine Va J J ?_;refine RF J J ?_;refine Va J J ?_;exact RK (wKeys 1) (Res.c1 Tk Tryz.results21 J J) ⟨_, [_], J, J, hv0, trivial⟩ (Wvp [_] kg spg J ‹_› J J J J J J J J J) J (Wsub 5 J J J J J J J J J J J J J J J J (Bs 3 J J J J .nil)) (hext1.trans hx0)
 ·refine OpP 21 3 J J J J fun bp bc br bs bg kp sp asd ksd aq0 kq0 aq1 kq1 kc spc kr spr ks sps kg spg hbg hmk => ?_; obtain ⟨g0, g1, rfl⟩ := len2 hbg; clear hbg; refine NM J J ?_; dsimp only [wEnts, wCels, procCs, regEs, WX.of, vi]
  refine S_unroll 2 ?_;refine Va J J ?_;refine RT J J ?_;refine Va J J ?_;refine Ds J J J ?_;refine Da J J ?_;refine D_sole 9 J J (N_call 9 Tryz.call48 (Cp_all _ 4 _ _ s0 (by omega)) J J J J J J J J J J ?_)
  rintro v9 G9 hv0 hx0
  obtain ⟨A9, c9, rfl, _⟩ := id hv0
  refine Da J J ?_;refine Ns 12 J J J J J J J J J ?_;refine DD ?_;refine Va J J ?_;refine S_add J J J J (by omega) ?_;refine Va J J ?_;refine S_next ?_;refine Va J J ?_;refine RT J J ?_;refine Va J J ?_;refine Ds J J J ?_;refine Da J J ?_;refine D_sole 9 J J (N_call 9 Tryz.call48 (Cp_all _ 4 _ _ (Sts_le hx0.le s1) (by omega)) J J J J J J J J J J ?_)
  rintro v9 G10 hv1 hx1
  obtain ⟨A9, c9, rfl, _⟩ := id hv1
  refine Da J J ?_;refine Ns 12 J J J J J J J J J ?_;refine DD ?_;refine Va J J ?_;refine S_add J J J J (by omega) ?_;refine Va J J ?_;refine S_next ?_;refine Va J J ?_;refine RF J J ?_;refine Va J J ?_;exact RK (wKeys 2) (Res.c1 Tk Tryz.results21 J J) ⟨_, [_, _], J, J, Sts_le hx1.le hv0, hv1, trivial⟩ (Wvp [_, _] kg spg J ‹_› J J J J J J J J J) J (Wsub 10 J J J J J J J J J J J J J J J J (Bs 3 J J J J (Bs 3 J J J J .nil))) ((hext1.trans hx0).trans hx1)
 ·refine OpP 21 3 J J J J fun bp bc br bs bg kp sp asd ksd aq0 kq0 aq1 kq1 kc spc kr spr ks sps kg spg hbg hmk => ?_; obtain ⟨g0, g1, g2, rfl⟩ := len3 hbg; clear hbg; refine NM J J ?_; dsimp only [wEnts, wCels, procCs, regEs, WX.of, vi]
  refine S_unroll 3 ?_;refine Va J J ?_;refine RT J J ?_;refine Va J J ?_;refine Ds J J J ?_;refine Da J J ?_;refine D_sole 9 J J (N_call 9 Tryz.call48 (Cp_all _ 4 _ _ s0 (by omega)) J J J J J J J J J J ?_)
  rintro v9 G9 hv0 hx0
  obtain ⟨A9, c9, rfl, _⟩ := id hv0
  refine Da J J ?_;refine Ns 12 J J J J J J J J J ?_;refine DD ?_;refine Va J J ?_;refine S_add J J J J (by omega) ?_;refine Va J J ?_;refine S_next ?_;refine Va J J ?_;refine RT J J ?_;refine Va J J ?_;refine Ds J J J ?_;refine Da J J ?_;refine D_sole 9 J J (N_call 9 Tryz.call48 (Cp_all _ 4 _ _ (Sts_le hx0.le s1) (by omega)) J J J J J J J J J J ?_)
  rintro v9 G10 hv1 hx1
  obtain ⟨A9, c9, rfl, _⟩ := id hv1
  refine Da J J ?_;refine Ns 12 J J J J J J J J J ?_;refine DD ?_;refine Va J J ?_;refine S_add J J J J (by omega) ?_;refine Va J J ?_;refine S_next ?_;refine Va J J ?_;refine RT J J ?_;refine Va J J ?_;refine Ds J J J ?_;refine Da J J ?_;refine D_sole 9 J J (N_call 9 Tryz.call48 (Cp_all _ 4 _ _ (Sts_le (hx0.le.trans hx1.le) s2) (by omega)) J J J J J J J J J J ?_)
  rintro v9 G11 hv2 hx2
  obtain ⟨A9, c9, rfl, _⟩ := id hv2
  refine Da J J ?_;refine Ns 12 J J J J J J J J J ?_;refine DD ?_;refine Va J J ?_;refine S_add J J J J (by omega) ?_;refine Va J J ?_;refine S_next ?_;refine Va J J ?_;refine RF J J ?_;refine Va J J ?_;exact RK (wKeys 3) (Res.c1 Tk Tryz.results21 J J) ⟨_, [_, _, _], J, J, Sts_le (hx1.le.trans hx2.le) hv0, Sts_le hx2.le hv1, hv2, trivial⟩ (Wvp [_, _, _] kg spg J ‹_› J J J J J J J J J) J (Wsub 15 J J J J J J J J J J J J J J J J (Bs 3 J J J J (Bs 3 J J J J (Bs 3 J J J J .nil)))) (((hext1.trans hx0).trans hx1).trans hx2)
end
section
attribute [local irreducible] X Pure Mod
theorem c_CloneIntN (v : Value) (n : Nat) (xs : List Value) (G : PH) (h : Sx G 1 v n xs) (h1 : ∀ u ∈ xs, u.oneCell' = true) : Mod Tryz.prog 60 [v] G emptyHP fun v' G' A' => ∃ A c base, v' = .slice A n c ∧ G' = G ∧ A' = rowO base 3 1 A n c xs := by
 obtain ⟨A, c, rfl, hn, hnc, hcm, hlen, hrow⟩ := h
 refine Mod.intro Tryz.func60 Tryz.ntmps60 J J fun w S => ?_;refine Va J J ?_
 cases A with
 | none =>
  obtain rfl : n = 0 := by rcases hrow with h | ⟨a, h, _⟩; exact h; cases h
  obtain rfl : xs = [] := List.eq_nil_of_length_eq_zero (by simpa using hlen)
  refine S_valV J J J (V_eqNil Tk J J) ?_;refine Va J J ?_;refine RT J J ?_;refine Va J J ?_;refine S_nilO 5 (base := w.heap.size) (e := 3) (size := 1) ?_;exact S_retm 5 (Res.t1 Tryz.results60 J J) J XR ⟨none, 0, _, J, J, J⟩
 | some a =>
  refine S_valV J J J (V_eqNil Tk J J) ?_;refine Va J J ?_;refine RF J J ?_;refine Va J J ?_;refine S_emptyO Tk 5 J J J J fun A => ?_;refine Va J J ?_;refine S_appO Tk 5 J J J J J J J J J J J (fun _ _ => J) (src_G hlen (by
   rcases hrow with h | ⟨a', h, h2⟩
   ·exact .inl h
   ·exact .inr ⟨a', h, h2⟩)) h1 (by simp only; omega) (by simp only [maxLen]; omega) (Nat.le_refl _) fun A' c' => ?_
  refine Va J J ?_;refine S_retm 5 (Res.t1 Tryz.results60 J J) J XR ⟨A', c', w.heap.size, ?_, J, ?_⟩
  ·simp
  ·simp; rfl
theorem c_CloneStmN (v : Value) (n : Nat) (xs : List Value) (G : PH) (h : Sx G 6 v n xs) (h1 : ∀ u ∈ xs, u.oneCell' = true) : Mod Tryz.prog 132 [v] G emptyHP fun v' G' A' => ∃ A c base, v' = .slice A n c ∧ G' = G ∧ A' = rowO base 76 6 A n c xs := by
 obtain ⟨A, c, rfl, hn, hnc, hcm, hlen, hrow⟩ := h
 refine Mod.intro Tryz.func132 Tryz.ntmps132 J J fun w S => ?_;refine Va J J ?_
 cases A with
 | none =>
  obtain rfl : n = 0 := by rcases hrow with h | ⟨a, h, _⟩; exact h; cases h
  obtain rfl : xs = [] := List.eq_nil_of_length_eq_zero (by simpa using hlen)
  refine S_valV J J J (V_eqNil Tk J J) ?_;refine Va J J ?_;refine RT J J ?_;refine Va J J ?_;refine S_nilO 5 (base := w.heap.size) (e := 76) (size := 6) ?_;exact S_retm 5 (Res.t1 Tryz.results132 J J) J XR ⟨none, 0, _, J, J, J⟩
 | some a =>
  refine S_valV J J J (V_eqNil Tk J J) ?_;refine Va J J ?_;refine RF J J ?_;refine Va J J ?_;refine S_emptyO Tk 5 J J J J fun A => ?_;refine Va J J ?_;refine S_appO Tk 5 J J J J J J J J J J J (fun _ _ => J) (src_G hlen (by
   rcases hrow with h | ⟨a', h, h2⟩
   ·exact .inl h
   ·exact .inr ⟨a', h, h2⟩)) h1 (by simp only; omega) (by simp only [maxLen]; omega) (Nat.le_refl _) fun A' c' => ?_
  refine Va J J ?_;refine S_retm 5 (Res.t1 Tryz.results132 J J) J XR ⟨A', c', w.heap.size, ?_, J, ?_⟩
  ·simp
  ·simp; rfl
theorem c_Grow (n : Nat) (G : PH) (hn : n ≤ 3000000000) : Mod Tryz.prog 130 [.slice none 0 0, .int .i64 n] G emptyHP fun v G' A' => ∃ A c base, v = .slice A 0 c ∧ G' = G ∧ n ≤ c ∧ A' = rowO base 76 6 A 0 c [] := by
 refine Mod.intro Tryz.func130 Tryz.ntmps130 J J fun w S => ?_;refine Va J J ?_;refine RF J (by simp) ?_;refine Va J J ?_;refine S_valV J J J (V_cap Tk J J) ?_;refine Va J J ?_;refine S_subI J J J J (by omega) ?_;refine S_subI J J J J (by omega) ?_;refine Va J J ?_
 by_cases h0 : n = 0
 ·subst h0
  refine RF J J ?_;refine Va J J ?_;refine S_nilO 5 (base := w.heap.size) (e := 76) (size := 6) ?_;exact S_retm 5 (Res.t1 Tryz.results130 J J) J XR ⟨none, 0, w.heap.size, J, J, Nat.le_refl _, J⟩
 ·refine RT J (by simp; omega) ?_
  refine Va J J ?_;refine S_valV J J J (V_cap Tk J J) ?_;refine S_valV J J J (V_slice0 Tk J J J J) ?_;refine Va J J ?_
  refine S_growNil Tk 5 (n := n) J J J J J u_int J J J (by show some _ = some _; congr 3 <;> omega) (by omega) (by simp only [maxLen]; omega) (by simp only; omega) fun A c hc => ?_
  refine Va J J ?_;refine S_valV J J J (V_slice0 Tk J J J J) ?_;refine Va J J ?_;exact S_retm 5 (Res.t1 Tryz.results130 J J) J XR ⟨A, c, w.heap.size, J, J, hc, J⟩
theorem c_Concat (v v1 v2 : Value) (n1 n2 : Nat) (xs1 xs2 : List Value) (G : PH) (h : Sx G 1 v 2 [v1, v2]) (h1 : Sx G 6 v1 n1 xs1) (h2 : Sx G 6 v2 n2 xs2) (o1 : ∀ u ∈ xs1, u.oneCell' = true) (o2 : ∀ u ∈ xs2, u.oneCell' = true) (hsum : n1 + n2 ≤ 1000000000) :
  Pure Tryz.prog 129 [v] G fun v' G' => Sx (newp G G') 6 v' (n1 + n2) (xs1 ++ xs2) := by
 obtain ⟨A, c, rfl, hn, hnc, hcm, hlen, hrow⟩ := h
 obtain ⟨A1, c1, rfl, hn1, hnc1, hcm1, hlen1, hrow1⟩ := h1
 obtain ⟨A2, c2, rfl, hn2, hnc2, hcm2, hlen2, hrow2⟩ := h2
 obtain ⟨ad, rfl, hcells⟩ : ∃ ad, A = some ad ∧ gcells G ad [.slice A1 n1 c1, .slice A2 n2 c2] := by
  rcases hrow with h | h
  ·omega
  ·exact h
 refine Pure.intro Tryz.func129 Tryz.ntmps129 J J fun w => ?_; refine Va J J ?_;refine S_unroll 2 ?_;refine Va J J ?_;refine RT J J ?_;refine Va J J ?_;refine S_index Tk J J J J J J (by omega) (by omega) ?_;refine S_load Tk J J J J J (by simpa [add_zero'] using hcells.1) ?_;refine Va J J ?_;refine S_add J J J J (by omega) ?_;refine Va J J ?_;refine RF J (by simp) ?_;refine Va J J ?_;refine S_add J J J J (by omega) ?_
 refine Va J J ?_;refine S_next ?_;refine Va J J ?_;refine RT J J ?_;refine Va J J ?_;refine S_index Tk J J J J J J (by omega) (by omega) ?_;refine S_load Tk J J J J J (by simpa using hcells.2.1) ?_;refine Va J J ?_;refine S_add J J J J (by omega) ?_;refine Va J J ?_;refine RF J (by simp; omega) ?_;refine Va J J ?_;refine S_add J J J J (by omega) ?_;refine Va J J ?_;refine S_next ?_;refine Va J J ?_
 refine RF J J ?_;refine Va J J ?_;refine S_newE 7 ?_;refine S_callM 7 Tryz.call130 (c_Grow (n1 + n2) _ (by omega)) J J (by show some [Value.slice none 0 0, Value.int .i64 (0 + (n1 : Int) + n2)] = _; rw [show ((0 : Int) + n1 + n2) = ((n1 + n2 : Nat) : Int) by omega]) rfl (fun _ => rfl) ?_;rintro v' G' A' ⟨A, cg, base, rfl, rfl, hcg, rfl⟩ hext
 refine S_rebase 7 (fun _ h => h) J J ?_;refine Va J J ?_;refine S_unroll 2 ?_;refine Va J J ?_;refine RT J J ?_;refine Va J J ?_;refine S_index Tk J J J J J J (by omega) (by omega) ?_;refine S_load Tk J J J J J (by simpa [add_zero'] using hcells.1) ?_;refine Va J J ?_;refine S_appO Tk 7 J J J J J J J J J J J (fun _ _ => J) (src_G hlen1 hrow1) o1 (by simp only; omega) (by simp only [maxLen]; omega) (Nat.le_refl _) fun A1' c1' => ?_
 refine Va J J ?_;refine S_add J J J J (by omega) ?_;refine Va J J ?_;refine S_next ?_;refine Va J J ?_;refine RT J J ?_;refine Va J J ?_;refine S_index Tk J J J J J J (by omega) (by omega) ?_;refine S_load Tk J J J J J (by simpa using hcells.2.1) ?_;refine Va J J ?_;refine S_appO Tk 7 J J J J J J J J J J J (fun _ _ => J) (src_G hlen2 hrow2) o2 (by simp only; omega) (by simp only [maxLen]; omega) (Nat.le_refl _) fun A2' c2' => ?_
 refine Va J J ?_;refine S_add J J J J (by omega) ?_;refine Va J J ?_;refine S_next ?_;refine Va J J ?_;refine RF J J ?_;refine Va J J ?_;refine S_freezeR 7 J J (Nat.le_refl _) fun G' hext' hnc' hcm' hcl => ?_;refine S_retp (Res.t1 Tryz.results129 J J) hext' ⟨A2', c2', by simp, hsum, by simpa using hnc', hcm', by rw [List.length_append, hlen1, hlen2, Nat.add_mul], ?_⟩
 simpa using hcl
end
section
attribute [local irreducible] X Pure Mod
theorem c_copyStmts_of (L : List Stm) (hb : ∀ k (hk : k < L.length) v G, Sts G L[k].body v → Pure Tryz.prog 52 [v] G fun v' G' => Sts G' L[k].body v') (he : ∀ k (hk : k < L.length) v G, Sts G L[k].els v → Pure Tryz.prog 52 [v] G fun v' G' => Sts G' L[k].els v')
  (v : Value) (G : PH) (hL : Sts G L v) : Pure Tryz.prog 52 [v] G fun v' G' => Sts G' L v' := by
 obtain ⟨A, c, rfl, hn, hc1, hc2, hr⟩ := id hL
 refine Pure.intro Tryz.func52 Tryz.ntmps52 J J fun w => ?_;refine S_row0 (base := w.heap.size) (e := 76) (size := 6) 3 ?_;refine Va J J ?_;refine S_loop (α := Nat × PH × Value × List Value) (fun x => x.1 ≤ L.length ∧ PH.ext w.heap.size G x.2.1 ∧ Cs 6 (Stm.rep x.2.1) (L.take x.1) x.2.2.2) (fun x => L.length - x.1) []
  (fun x => [(8, .val (.int .i64 x.1)), (6, .val (.slice A L.length c)), (7, .val (.int .i64 L.length)), (3, .val x.2.2.1)]) (fun x => [.hp 3 (rowHP w.heap.size 76 6 x.2.2.1 x.1 x.2.2.2)]) (fun x => x.2.1) (0, G, .slice none 0 0, []) ⟨Nat.zero_le _, PH.ext.refl _ _, rfl⟩ rfl
  ⟨⟨_, rfl, rfl⟩, ⟨_, rfl, rfl⟩, ⟨_, rfl, rfl⟩, ⟨_, rfl, rfl⟩, trivial⟩ (.hp .nil) ?_
 rintro ⟨k, G1, out, xs⟩ ⟨hk, hext, hcs⟩
 simp only at hk hext hcs ⊢
 refine Va J J ?_
 refine S_condp J (fun h => ?_) (fun h => ?_) <;> refine Va J J ?_
 ·have hkl : k < L.length := by omega
  obtain ⟨ad, cs, rfl, hcs1, hrep⟩ := Sr_at (Sts_le hext.le hL) hkl
  have hbk := hb k hkl
  have hek := he k hkl
  rcases hs : L[k] with ⟨q1, q2, q3, q4, x, y⟩
  rw [hs] at hrep hbk hek
  obtain ⟨vx, vy, rfl, i1, i2, i3, i4, hx, hy⟩ := Stm.rep_iff.1 hrep
  obtain ⟨Ax, cx, rfl, _⟩ := id hx
  obtain ⟨Ay, cy, rfl, _⟩ := id hy
  refine S_index Tk J J J J J J (by omega) (by omega) ?_;refine Va J J ?_;refine S_loadA Tk J J J J J (by simpa using hcs1) ?_;refine Va J J ?_;refine AZ ZT_ok J J J J fun b => ?_;refine Va J J ?_;refine Ds J J J ?_;refine Da J J ?_;refine D_sole 2 J J (N_call 2 Tryz.call52 (hbk _ _ hx) J J J J J J J J J J ?_)
  rintro vb G2 hvb hext2
  obtain ⟨Ab, cb, rfl, _⟩ := id hvb
  refine Da J J ?_;refine D_sole 5 J J (N_call 5 Tryz.call52 (hek _ _ (Sts_le hext2.le hy)) J J J J J J J J J J ?_)
  rintro ve G3 hve hext3
  obtain ⟨Ae, ce, rfl, _⟩ := id hve
  refine Da J J ?_;refine Ns 7 J J J J J J J J J ?_;refine Da J J ?_;refine Ns 9 J J J J J J J J J ?_;refine DD ?_;refine Va J J ?_;refine S_slice Tk ZT_ok J J J J (by decide) (by decide) J J J J fun b2 => ?_;refine S_app Tk ZT_ok 3 22 J J J J J J J J J J J J J J J (fun _ => J) (by simp only; omega) (by unfold maxLen; omega) (Nat.le_refl _) fun g cap hcap => ?_;refine Va J J ?_;refine S_add J J J J (by omega) ?_
  refine Va J J ?_
  have hle : G1.le G3 := hext2.le.trans hext3.le
  refine S_again (k + 1, G3, _, _) ⟨by simp only; omega, (hext.trans hext2).trans hext3, ?_⟩ (by simp only; omega) rfl ⟨⟨_, rfl, rfl⟩, ⟨_, rfl, rfl⟩, ⟨_, rfl, rfl⟩, ⟨_, rfl, rfl⟩, trivial⟩ (.drop (.drop (.hp .nil)))
  simp only
  rw [List.take_succ_eq_append_getElem hkl]
  refine Cs_append (Cs_mono (fun s _ cs h => Stm.rep_le hle s cs h) hcs) ?_ J
  rw [hs]
  exact Stm.rep_iff.2 ⟨_, _, J, i1, i2, i3, i4, Sts_le hext3.le hvb, hve⟩
 ·refine S_freeze 3 J J (Nat.le_refl _) fun G' hext' hv => ?_
  have hkL : k = L.length := by omega
  refine S_retP Tryz.results52 J J (hext.trans hext') ?_
  rw [hkL, List.take_length] at hcs
  exact Sr_of (Cs_mono (fun s _ cs h => Stm.rep_le hext'.le s cs h) hcs) hkL hn (by decide) hv
mutual
theorem c_copyStm : ∀ (s : Stm), (∀ v G, Sts G s.body v → Pure Tryz.prog 52 [v] G fun v' G' => Sts G' s.body v') ∧ (∀ v G, Sts G s.els v → Pure Tryz.prog 52 [v] G fun v' G' => Sts G' s.els v')
 | .mk k a b n x y => ⟨fun v G h => c_copyStmts x v G h, fun v G h => c_copyStmts y v G h⟩
theorem c_copyAll : ∀ (L : List Stm), ∀ k (hk : k < L.length), (∀ v G, Sts G L[k].body v → Pure Tryz.prog 52 [v] G fun v' G' => Sts G' L[k].body v') ∧ (∀ v G, Sts G L[k].els v → Pure Tryz.prog 52 [v] G fun v' G' => Sts G' L[k].els v')
 | [], k, hk => absurd hk (by simp)
 | s :: L, 0, _ => c_copyStm s
 | s :: L, k + 1, hk => c_copyAll L k (by simpa using hk)
theorem c_copyStmts : ∀ (L : List Stm) (v : Value) (G : PH), Sts G L v → Pure Tryz.prog 52 [v] G fun v' G' => Sts G' L v'
 | L, v, G, h => c_copyStmts_of L (fun k hk v G h => (c_copyAll L k hk).1 v G h) (fun k hk v G h => (c_copyAll L k hk).2 v G h) v G h
end
end
section
attribute [local irreducible] X Pure Mod
end
section
def Sl0 (G : PH) (row : Addr → Prop) (n : Nat) (v : Value) : Prop :=
 ∃ A c, v = .slice A n c ∧ n ≤ c ∧ c ≤ maxLen ∧ (n = 0 ∨ ∃ ad, A = some ad ∧ row ad)
theorem Sl0_ok {G : PH} {row : Addr → Prop} {n : Nat} {v : Value} (h : Sl0 G row n v) (hn : n ≤ 1000000000) : Sl G row n v := by
 obtain ⟨A, c, h1, h2, h3, h4⟩ := h
 exact ⟨A, c, h1, hn, h2, h3, h4⟩
mutual
/-- the six cells of a statement that came in -/
def Stm.rep0 (G : PH) : Stm → List Value → Prop
 | .mk k a b n x y, cs => ∃ vx vy, cs = [.int .i64 k, .int .i64 a, .int .i64 b, .int .i64 n, vx, vy] ∧ I64 k ∧ I64 a ∧ I64 b ∧ I64 n ∧ Sl0 G (Stm.row0 G x) x.length vx ∧ Sl0 G (Stm.row0 G y) y.length vy
def Stm.row0 (G : PH) : List Stm → Addr → Prop
 | [], _ => True
 | s :: r, ad => (∃ cs, gcells G ad cs ∧ Stm.rep0 G s cs) ∧ Stm.row0 G r (ad.add 6)
end
def Sr0 {α : Type} (G : PH) (sz : Nat) (rep : α → List Value → Prop) (L : List α) (v : Value) : Prop := Sl0 G (Rw G sz rep L) L.length v
theorem Sr0_at {α : Type} {G : PH} {sz : Nat} {rep : α → List Value → Prop} {L : List α} {A : Option Addr} {n c : Nat} (h : Sr0 G sz rep L (.slice A n c)) {k : Nat} (hk : k < L.length) : ∃ ad cs, A = some ad ∧ gcells G (ad.add (k * sz)) cs ∧ rep L[k] cs := by
 obtain ⟨A', c', e, _, _, h5⟩ := h
 cases e
 rcases h5 with h5 | ⟨ad, rfl, h6⟩
 ·omega
 ·obtain ⟨cs, h7, h8⟩ := Rw_at h6 hk
  exact ⟨ad, cs, J, h7, h8⟩
theorem Stm.row0_eq {G : PH} : ∀ (L : List Stm) (ad : Addr), Stm.row0 G L ad ↔ Rw G 6 (Stm.rep0 G) L ad
 | [], _ => by simp [Stm.row0, Rw]
 | s :: L, ad => by simp only [Stm.row0, Rw, Stm.row0_eq L]
abbrev Sts0 (G : PH) (L : List Stm) (v : Value) : Prop := Sr0 G 6 (Stm.rep0 G) L v
theorem Stm.rep0_iff {G : PH} {k a b n : Int} {x y : List Stm} {cs : List Value} : Stm.rep0 G (.mk k a b n x y) cs ↔ ∃ vx vy, cs = [.int .i64 k, .int .i64 a, .int .i64 b, .int .i64 n, vx, vy] ∧ I64 k ∧ I64 a ∧ I64 b ∧ I64 n ∧ Sts0 G x vx ∧ Sts0 G y vy := by
 have e : ∀ L : List Stm, Stm.row0 G L = Rw G 6 (Stm.rep0 G) L := fun L => funext fun ad => propext (Stm.row0_eq L ad)
 simp only [Stm.rep0, Sr0, e]
def stsRep0 (G : PH) (L : List Stm) (cs : List Value) : Prop := ∃ v, cs = [v] ∧ Sts0 G L v
abbrev Prg0 (G : PH) (p : List (List Stm)) (v : Value) : Prop := Sr0 G 1 (stsRep0 G) p v
mutual
/-- how many statements lie within -/
def Stm.cnt : Stm → Nat
 | .mk _ _ _ _ x y => cntL x + cntL y
def cntL : List Stm → Nat
 | [] => 0
 | s :: r => 1 + Stm.cnt s + cntL r
end
theorem len_cnt : ∀ L : List Stm, L.length ≤ cntL L
 | [] => by simp [cntL]
 | s :: r => by have := len_cnt r; simp only [cntL, List.length_cons]; omega
theorem cnt_mk (k a b n : Int) (x y : List Stm) : (Stm.mk k a b n x y).cnt = cntL x + cntL y := by simp [Stm.cnt]
def cntP : List (List Stm) → Nat
 | [] => 0
 | l :: r => 1 + cntL l + cntP r
theorem len_cntP : ∀ p : List (List Stm), p.length ≤ cntP p
 | [] => by simp [cntP]
 | s :: r => by have := len_cntP r; simp only [cntP, List.length_cons]; omega
theorem cntP_mem : ∀ {p : List (List Stm)} {l : List Stm}, l ∈ p → cntL l ≤ cntP p
 | s :: r, l, h => by
  rcases List.mem_cons.1 h with rfl | h
  ·simp only [cntP]; omega
  ·have := cntP_mem h; simp only [cntP]; omega
mutual
theorem sh_cntS : ∀ (s : Stm), s.cnt ≤ 1048576 → Stm.short s
 | .mk _ _ _ _ x y, h => by
  have h' : cntL x + cntL y ≤ 1048576 := by simpa [Stm.cnt] using h
  have hx := len_cnt x
  have hy := len_cnt y
  have a1 := sh_cntL x (by omega)
  have a2 := sh_cntL y (by omega)
  simp only [Stm.short]
  exact ⟨⟨by omega, a1⟩, by omega, a2⟩
theorem sh_cntL : ∀ (L : List Stm), cntL L ≤ 1048576 → shL L
 | [], _ => trivial
 | s :: r, h => by
  simp only [cntL] at h
  exact ⟨sh_cntS s (by omega), sh_cntL r (by omega)⟩
end
theorem Sh_cnt {L : List Stm} (h : cntL L ≤ 1048576) : Sh L := ⟨by have := len_cnt L; omega, sh_cntL L h⟩
theorem sts0_conv {G : PH} {L : List Stm} {v : Value} (hc : L.length ≤ 1048576) (hR : ∀ s ∈ L, ∀ cs, Stm.rep0 G s cs → Stm.rep G s cs) (h : Sts0 G L v) : Sts G L v := by
 obtain ⟨A, c, h1, h2, h3, h4⟩ := h
 refine ⟨A, c, h1, by omega, h2, h3, ?_⟩
 rcases h4 with h4 | ⟨ad, h4, h5⟩
 ·exact .inl h4
 ·exact .inr ⟨ad, h4, Rw_mono (PH.le.refl _) hR h5⟩
mutual
theorem rep0_okS {G : PH} : ∀ (s : Stm) (cs : List Value), s.cnt ≤ 1048576 → Stm.rep0 G s cs → Stm.rep G s cs
 | .mk k a b n x y, cs, hc, h => by
  have h' : cntL x + cntL y ≤ 1048576 := by simpa [Stm.cnt] using hc
  have hx := len_cnt x
  have hy := len_cnt y
  obtain ⟨vx, vy, e, h1, h2, h3, h4, h5, h6⟩ := Stm.rep0_iff.1 h
  exact Stm.rep_iff.2 ⟨vx, vy, e, h1, h2, h3, h4, sts0_conv (by omega) (rep0_okR x (by omega)) h5, sts0_conv (by omega) (rep0_okR y (by omega)) h6⟩
theorem rep0_okR {G : PH} : ∀ (L : List Stm), cntL L ≤ 1048576 → ∀ s ∈ L, ∀ cs, Stm.rep0 G s cs → Stm.rep G s cs
 | [], _, s, hs, _, _ => by cases hs
 | t :: L, hc, s, hs, cs, h => by
  simp only [cntL] at hc
  rcases List.mem_cons.1 hs with e | hs'
  ·rw [e] at h ⊢; exact rep0_okS t cs (by omega) h
  ·exact rep0_okR L (by omega) s hs' cs h
end
theorem rep0_okL {G : PH} {L : List Stm} {v : Value} (hc : cntL L ≤ 1048576) (h : Sts0 G L v) : Sts G L v :=
 sts0_conv (by have := len_cnt L; omega) (rep0_okR L hc) h
theorem prg0_ok {G : PH} {p : List (List Stm)} {v : Value} (hc : cntP p ≤ 1048576) (h : Prg0 G p v) : Prg G p v := by
 have hl := len_cntP p
 obtain ⟨A, c, h1, h2, h3, h4⟩ := h
 refine ⟨A, c, h1, by omega, h2, h3, ?_⟩
 rcases h4 with h4 | ⟨ad, h4, h5⟩
 ·exact .inl h4
 ·refine .inr ⟨ad, h4, Rw_mono (PH.le.refl _) (fun l hl cs h => ?_) h5⟩
  obtain ⟨u, h6, h7⟩ := h
  have := cntP_mem hl
  exact ⟨u, h6, rep0_okL (by omega) h7⟩
def szR (c : Nat) (l : Int) : Int := if (c : Int) ≤ l then l - c else -1
theorem szR_add (c d : Nat) (l : Int) : szR (c + d) l = if szR c l < 0 then -1 else szR d (szR c l) := by
 unfold szR
 split <;> split <;> (try split) <;> omega
end
section
section
variable {C : Ctx} {k : List It} {E : Env} {ι : Ids} {L : List Ent} {G : PH} {all : Array Oper} {l : List Oper}
def over (o : Nat) (cs xs : List Value) : List Value := xs.take o ++ cs ++ xs.drop (o + cs.length)
theorem over_len {o : Nat} {cs xs : List Value} (h : o + cs.length ≤ xs.length) : (over o cs xs).length = xs.length := by
 unfold over; simp; omega
theorem over_mid {o off m : Nat} {cs cur xs : List Value} (hx : (cur.drop off).take m = xs) (hm : xs.length = m) (hfit : o + cs.length ≤ m) :
  ((over (off + o) cs cur).drop off).take m = over o cs xs := by
 have hc : off + m ≤ cur.length ∨ m = 0 := by
  have := congrArg List.length hx
  simp only [List.length_take, List.length_drop] at this
  omega
 rcases hc with hc | hm0
 ·apply List.ext_getElem?
  intro i
  subst hx
  unfold over
  simp only [List.getElem?_take, List.getElem?_drop, List.getElem?_append, List.length_take, List.length_drop, List.length_append]
  by_cases h1 : i < m
  ·rw [if_pos h1]
   by_cases h2 : i < o
   ·rw [if_pos (by omega), if_pos (by omega), if_pos (by omega), if_pos (by omega), if_pos (by omega), if_pos (by omega), if_pos (by omega)]
   ·by_cases h3 : i < o + cs.length
    ·rw [if_pos (by omega), if_neg (by omega), if_pos (by omega), if_neg (by omega)]
     congr 1; omega
    ·rw [if_neg (by omega), if_neg (by omega), if_pos (by omega)]
     congr 1; omega
  ·rw [if_neg h1]
   rw [if_neg (by omega)]
   rw [if_neg (by omega)]
 ·have : cs = [] := List.eq_nil_of_length_eq_zero (by omega)
  subst this
  have : xs = [] := List.eq_nil_of_length_eq_zero (by omega)
  subst this
  simp [over, hm0]
theorem S_storeOA {T : Tab} (hT : tabOk C.P T) (κ : Nat) {base e sz t m : Nat} {os : List Nat} {x y : Operand} {s : Sym} {gb off o n c ty : Nat} {cs : List Value} {xs : List Value} {L' : List Ent} {pos : String} {af : Array Edge} {g : Option (Nat × Bool)} {ad : Addr}
  (hL : getH κ L = some (rowO base e sz (some ⟨gb, off, none⟩) n c xs)) (hL' : setH κ (rowO base e sz (some ⟨gb, off, none⟩) n c (over o cs xs)) L = some L')
  (hx : ev E x = some (.val (.pointer (some ad)))) (had : ad = ⟨gb, off + o, none⟩) (hy : ev E y = some s) (hys : denO ι s = some (.agg cs.toArray)) (hone : ∀ u ∈ cs, u.oneCell' = true) (ht : lookT t T = some ⟨.agg, m, os⟩) (hl : cs.length = m) (hm1 : Nat.ble 1 m = true) (ho : o + m ≤ xs.length) (hg : guardOf all E g = .on)
  (hk : X C (.ops all l :: k) E ι L' G) : X C (.ops all (⟨none, .store t x y, ty, pos, af, g⟩ :: l) :: k) E ι L G := by
 intro a w h1 h2 h3 h4
 have hm2 := Nat.le_of_ble_eq_true hm1
 obtain ⟨S, hA, hSG, hturn⟩ := h4.turn hL
 obtain ⟨q1, q2, q3, q4⟩ := hA
 rcases q4 with ⟨q, _⟩ | ⟨g', off', cur, q, q0, q5, q6, q7, q8⟩
 ·cases q
 cases q
 have ex := ev_sound h3 hx
 have ey := ev_sound h3 hy
 subst had
 rw [hys] at ey
 simp only [denO, Option.some.injEq] at ex ey
 have hfit : off + o + cs.length ≤ cur.toList.length := by
  have h6 : xs.length ≤ cur.toList.length - off := by
   have := congrArg List.length q7
   simp only [List.length_take, List.length_drop] at this
   omega
  omega
 obtain ⟨w', hr, hh', hoth, e1, e2, e3, e4⟩ := run_storeCells_blk (P := C.P) (w := w) (b := gb) (o := off + o) (ty := e) (cs := cur.toList) (vs := cs) (by simpa using q5) hfit hone
 have hrun : (execOp a.eval ⟨none, .store t x y, ty, pos, af, g⟩).run C.P w = .ok .skip w' := by
  have hcells : (a.eval y).cells = cs.toArray := by
   rw [← ey]; rfl
  simp only [execOp, ← ex]
  simp [Instr.storeAt, Instr.sureAddr, storeVar, tyOk_size (hT _ _ ht), hcells, hl, hr]
 refine wpE_skipv (guardOf_on h3 hg) (by rintro c h; cases h) hrun ?_;refine hk _ _ h1 h2 h3 ?_;refine hturn _ _ G w' S hL' ?_ (fun b o' hb => ?_) XR (fun b hb => ⟨hSG b hb, .inl hb⟩) e1 e2 e3 (by rw [e4]; exact Nat.le_refl _) fun b _ hn => hoth b fun h => hn ((q8 b).2 h)
 ·refine ⟨by rw [over_len (by omega)]; exact q1, q2, q3, .inr ⟨gb, off, _, J, q0, hh', ?_, ?_, q8⟩⟩
  ·simp at hfit ⊢; omega
  ·rw [over_len (by omega)]
   simp only [List.toList_toArray]
   exact over_mid q7 J (by omega)
 ·rw [hoth b (by rintro rfl; have := hSG _ ((q8 _).2 rfl); rw [this] at hb; cases hb)]
  exact h4.emb b o' hb
end
end
section
attribute [local irreducible] X Pure Mod
theorem over_app {o m : Nat} {cs ds zs : List Value} (hd : ds.length = o) (hz : zs.length = cs.length) : over o cs (ds ++ repL (m + 1) zs) = ds ++ cs ++ repL m zs := by
 subst hd
 unfold over
 rw [List.take_left, repL, ← hz, ← List.append_assoc ds zs, ← List.length_append, List.drop_left]
theorem set_app {o m : Nat} {v z : Value} {ds : List Value} (hd : ds.length = o) : (ds ++ repL (m + 1) [z]).set o v = ds ++ [v] ++ repL m [z] := by
 subst hd
 rw [List.set_append_right _ _ (Nat.le_refl _), Nat.sub_self, repL]
 simp
def zStm : List Value := [.int .i64 0, .int .i64 0, .int .i64 0, .int .i64 0, .slice none 0 0, .slice none 0 0]
def ToS (s : Stm) : Prop := ∀ (cs : List Value) (G : PH), s.cnt ≤ 1048576 → Stm.rep G s cs → Pure Tryz.prog 49 [.agg cs.toArray] G fun v' G' => ∃ cs', v' = .agg cs'.toArray ∧ Stm.rep G' s cs'
def ToL (L : List Stm) : Prop := ∀ (v : Value) (G : PH), cntL L ≤ 1048576 → Sts G L v → Pure Tryz.prog 22 [v] G fun v' G' => Sts G' L v'
theorem c_toStmt (s : Stm) (hx : ToL s.body) (hy : ToL s.els) : ToS s := by
 intro cs G hc hrep
 obtain ⟨k, a, b, n, x, y⟩ := s
 obtain ⟨vx, vy, rfl, hk, ha, hb, hn, hvx, hvy⟩ := Stm.rep_iff.1 hrep
 simp only [Stm.body, Stm.els] at hx hy
 rw [cnt_mk] at hc
 have hcx := hx _ G (by omega) hvx
 obtain ⟨Ax, cx, rfl, _⟩ := id hvx
 obtain ⟨Ay, cy, rfl, _⟩ := id hvy
 refine Pure.intro Tryz.func49 Tryz.ntmps49 J J fun w => ?_; refine Va J J ?_;refine S_box J J J J J fun b1 => ?_;refine Va J J ?_;refine AZ ZT_ok J J J J fun b2 => ?_;refine Va J J ?_;refine AZ ZT_ok J J J J fun b3 => ?_;refine Va J J ?_;refine S_call Tryz.call22 hcx J J J ?_;rintro v1 G1 hv1 hext1
 obtain ⟨A1, c1, rfl, _⟩ := id hv1
 refine Va J J ?_;refine S_call Tryz.call22 (hy _ G1 (by omega) (Sts_le hext1.le hvy)) J J J ?_;rintro v2 G2 hv2 hext2
 obtain ⟨A2, c2, rfl, _⟩ := id hv2
 refine Va J J ?_;exact S_retp (Res.c1 Tk Tryz.results49 J J) (hext1.trans hext2) ⟨[_, _, _, _, _, _], J, Stm.rep_iff.2 ⟨_, _, J, hk, ha, hb, hn, Sts_le hext2.le hv1, hv2⟩⟩
theorem c_toStmtS (L : List Stm) (hs : ∀ k (hk : k < L.length), ToS L[k]) : ToL L := by
 intro v G hc hv
 have hln := len_cnt L
 obtain ⟨A, c, rfl, _⟩ := id hv
 refine Pure.intro Tryz.func22 Tryz.ntmps22 J J fun w => ?_; refine Va J J ?_;refine S_make Tk ZT_ok J J J J J J (by show 80 * L.length ≤ _; omega) (by omega) rfl rfl rfl fun bm => ?_;refine Va J J ?_;refine S_blkO 7 70 (base := w.heap.size) (n := L.length) (c := L.length) (o := 0) (sz := 6) (xs := repL L.length zStm) rfl rfl (denL_vL _ _) rfl (.inr (.inr ⟨rfl, fun _ h => h⟩)) (by rw [List.drop_zero]; exact List.take_of_length_le (by rw [repL_length]; exact Nat.le_refl _)) (repL_length _ _) (Nat.le_refl _) (by simp [maxLen]; omega) (by rw [repL_length]; simp) ?_
 refine S_loop (α := Nat × List Value × PH) (fun y => y.1 ≤ L.length ∧ PH.ext w.heap.size G y.2.2 ∧ Cs 6 (Stm.rep y.2.2) (L.take y.1) y.2.1) (fun y => L.length - y.1) []
  (fun y => [(4, .val (.int .i64 (y.1 : Nat))), (3, .val (.slice (some ⟨bm, 0, none⟩) L.length L.length)), (0, .val (.slice A L.length c))])
  (fun y => [.hp 70 (rowO w.heap.size 76 6 (some ⟨bm, 0, none⟩) L.length L.length (y.2.1 ++ repL (L.length - y.1) zStm))]) (fun y => y.2.2) (0, [], G) ⟨Nat.zero_le _, PH.ext.refl _ _, rfl⟩ rfl ⟨⟨_, rfl, rfl⟩, ⟨_, rfl, rfl⟩, ⟨_, rfl, rfl⟩, trivial⟩ (.hp .nil) ?_
 rintro ⟨k, ds, G1⟩ ⟨hk, hext, hcs⟩
 simp only at hk hext hcs ⊢
 refine Va J J ?_
 refine S_condp J (fun h5 => ?_) (fun h5 => ?_) <;> refine Va J J ?_
 ·have hkl : k < L.length := by omega
  obtain ⟨m, hm⟩ : ∃ m, L.length - k = m + 1 := ⟨L.length - k - 1, by omega⟩
  rw [hm]
  obtain ⟨ad, cs, rfl, hcell, hrep⟩ := Sr_at (Sts_le hext.le hv) hkl
  have hdl := Cs_length hcs
  rw [List.length_take, Nat.min_eq_left hk] at hdl
  have hck : L[k].cnt ≤ 1048576 := by
   have : ∀ (L : List Stm) (k : Nat) (hk : k < L.length), L[k].cnt ≤ cntL L := by
    intro L
    induction L with
    | nil => intro k hk; simp at hk
    | cons s r ih =>
     intro k hk
     cases k with
     | zero => simp only [cntL, List.getElem_cons_zero]; omega
     | succ k => have := ih k (by simpa using hk); simp only [cntL, List.getElem_cons_succ]; omega
   have := this L k hkl
   omega
  refine S_index Tk J J J J J J (by omega) (by omega) ?_;refine Va J J ?_;refine S_loadA Tk J J J J (Stm.rep_len hrep) hcell ?_;refine Va J J ?_;refine S_call Tryz.call49 (hs k hkl cs G1 hck hrep) J J J ?_;rintro v1 G2 ⟨cs1, rfl, hrep1⟩ hext2
  have hl1 := Stm.rep_len hrep1
  refine Va J J ?_;refine S_index Tk J J J J J J (by omega) (by omega) ?_;refine Va J J ?_;refine S_storeOA Tk 70 (o := k * 6) J J J (by simp [add_lit']) J J (Stm.rep_one _ _ hrep1) J hl1 J (by rw [List.length_append, hdl, repL_length]; show _ ≤ _ + (m + 1) * 6; omega) rfl ?_
  rw [over_app hdl (by rw [hl1]; rfl)]
  refine Va J J ?_;refine S_add J J J J (by omega) ?_;refine Va J J ?_;refine S_again (k + 1, ds ++ cs1, G2) ⟨by simp only; omega, hext.trans hext2, ?_⟩ (by simp only; omega) rfl ⟨⟨_, rfl, by simp [denO]⟩, ⟨_, rfl, rfl⟩, ⟨_, rfl, rfl⟩, trivial⟩ ?_
  ·simp only
   rw [List.take_succ_eq_append_getElem hkl]
   exact Cs_append (Cs_mono (fun s _ cs h => Stm.rep_le hext2.le s cs h) hcs) hrep1 hl1
  ·simp only [show L.length - (k + 1) = m by omega]
   exact .hp .nil
 ·have e0 : k = L.length := by omega
  subst e0
  rw [Nat.sub_self, repL, List.append_nil, List.take_length] at *
  refine S_freezeR 70 J J (Nat.le_refl _) fun Gf hextf hncf hcmf hclf => ?_;refine S_retp (Res.t1 Tryz.results22 J J) (hext.trans hextf) ?_;exact frz (Cs_mono (Stm.reps_le hextf.le _) hcs) J (by omega) hncf hcmf hclf
theorem ToL_of (L : List Stm) (h : ∀ k (hk : k < L.length), ToL L[k].body ∧ ToL L[k].els) : ToL L :=
 c_toStmtS L fun k hk => c_toStmt _ (h k hk).1 (h k hk).2
mutual
theorem ToL_stm : ∀ (s : Stm), ToL s.body ∧ ToL s.els
 | .mk k a b n x y => ⟨ToL_all x, ToL_all y⟩
theorem ToL_at : ∀ (L : List Stm) (k : Nat) (hk : k < L.length), ToL L[k].body ∧ ToL L[k].els
 | [], k, hk => absurd hk (by simp)
 | s :: L, 0, _ => ToL_stm s
 | s :: L, k + 1, hk => ToL_at L k (by simpa using hk)
theorem ToL_all : ∀ (L : List Stm), ToL L
 | L => ToL_of L (ToL_at L)
end
theorem c_toSS (p : List (List Stm)) (v : Value) (G : PH) (hv : Prg G p v) (hc : cntP p ≤ 1048576) : Pure Tryz.prog 6 [v] G fun v' G' => Prg G' p v' := by
 have hln := len_cntP p
 obtain ⟨A, c, rfl, _⟩ := id hv
 refine Pure.intro Tryz.func6 Tryz.ntmps6 J J fun w => ?_; refine Va J J ?_;refine S_make Tk ZT_ok J J J J J J (by show 24 * p.length ≤ _; omega) (by omega) rfl rfl rfl fun bm => ?_;refine Va J J ?_;refine S_blkO 7 70 (base := w.heap.size) (n := p.length) (c := p.length) (o := 0) (sz := 1) (xs := repL p.length [.slice none 0 0]) rfl rfl (denL_vL _ _) rfl (.inr (.inr ⟨rfl, fun _ h => h⟩)) (by rw [List.drop_zero]; exact List.take_of_length_le (by rw [repL_length]; exact Nat.le_refl _)) (repL_length _ _) (Nat.le_refl _) (by simp [maxLen]; omega) (by rw [repL_length]; simp) ?_
 refine S_loop (α := Nat × List Value × PH) (fun y => y.1 ≤ p.length ∧ PH.ext w.heap.size G y.2.2 ∧ Cs 1 (stsRep y.2.2) (p.take y.1) y.2.1) (fun y => p.length - y.1) []
  (fun y => [(4, .val (.int .i64 (y.1 : Nat))), (3, .val (.slice (some ⟨bm, 0, none⟩) p.length p.length)), (0, .val (.slice A p.length c))])
  (fun y => [.hp 70 (rowO w.heap.size 50 1 (some ⟨bm, 0, none⟩) p.length p.length (y.2.1 ++ repL (p.length - y.1) [.slice none 0 0]))]) (fun y => y.2.2) (0, [], G) ⟨Nat.zero_le _, PH.ext.refl _ _, rfl⟩ rfl ⟨⟨_, rfl, rfl⟩, ⟨_, rfl, rfl⟩, ⟨_, rfl, rfl⟩, trivial⟩ (.hp .nil) ?_
 rintro ⟨k, ds, G1⟩ ⟨hk, hext, hcs⟩
 simp only at hk hext hcs ⊢
 refine Va J J ?_
 refine S_condp J (fun h5 => ?_) (fun h5 => ?_) <;> refine Va J J ?_
 ·have hkl : k < p.length := by omega
  obtain ⟨m, hm⟩ : ∃ m, p.length - k = m + 1 := ⟨p.length - k - 1, by omega⟩
  rw [hm]
  obtain ⟨ad, cs, rfl, hcell, u, rfl, hu⟩ := Sr_at (Prg_le hext.le hv) hkl
  have hdl := Cs_length hcs
  rw [List.length_take, Nat.min_eq_left hk] at hdl
  have hck := cntP_mem (List.getElem_mem hkl)
  have hpk := List.take_succ_eq_append_getElem hkl
  have hto := ToL_all p[k] u G1 (by omega) hu
  generalize p[k] = q at hpk hto hu hck
  obtain ⟨A1, c1, rfl, _⟩ := id hu
  refine S_index Tk J J J J J J (by omega) (by omega) ?_;refine Va J J ?_;refine S_load Tk J J J J J (by simpa [add_zero'] using gcells_at hcell 0 _ J) ?_;refine Va J J ?_;refine S_call Tryz.call22 hto J J J ?_;rintro v1 G2 hv1 hext2
  obtain ⟨A2, c2, rfl, _⟩ := id hv1
  refine Va J J ?_;refine S_index Tk J J J J J J (by omega) (by omega) ?_;refine Va J J ?_;refine S_storeO Tk 70 (o := k) J J J (by simp [add_lit']) J J J J J (by rw [List.length_append, hdl, repL_length]; show _ < _ + (m + 1) * 1; omega) rfl ?_
  rw [set_app (by rw [hdl, Nat.mul_one])]
  refine Va J J ?_;refine S_add J J J J (by omega) ?_;refine Va J J ?_;refine S_again (k + 1, ds ++ [.slice A2 q.length c2], G2) ⟨by simp only; omega, hext.trans hext2, ?_⟩ (by simp only; omega) rfl ⟨⟨_, rfl, by simp [denO]⟩, ⟨_, rfl, rfl⟩, ⟨_, rfl, rfl⟩, trivial⟩ ?_
  ·simp only
   rw [hpk]
   exact Cs_append (Cs_mono (fun s _ cs h => stsRep_le hext2.le h) hcs) ⟨_, J, hv1⟩ J
  ·simp only [show p.length - (k + 1) = m by omega]
   exact .hp .nil
 ·have e0 : k = p.length := by omega
  subst e0
  rw [Nat.sub_self, repL, List.append_nil, List.take_length] at *
  refine S_freezeR 70 J J (Nat.le_refl _) fun Gf hextf hncf hcmf hclf => ?_;refine S_retp (Res.t1 Tryz.results6 J J) (hext.trans hextf) ?_;exact frz (Cs_mono (fun _ _ _ h => stsRep_le hextf.le h) hcs) J (by omega) hncf hcmf hclf
end
section
def YieldM (P : Program) (l : Nat) (vs : List Value) (G : PH) (A At Af : HP) : Prop :=
 ∀ W S, Emb G W → A.holds W S → (∀ b, S b → G b = none) → YieldAt (FW none) 0 P l vs.toArray W (YieldR W S At Af)
theorem YieldM.le {P : Program} {l : Nat} {vs : List Value} {G G' : PH} {A At Af : HP} (h : YieldM P l vs G A At Af) (hG : G.le G') : YieldM P l vs G' A At Af := fun W S hE hA hS =>
 h W S (fun b o hb => hE b o (hG b o hb)) hA fun b hb => by
  cases hq : G b with
  | none => rfl
  | some o => have := hG b o hq; rw [hS b hb] at this; cases this
section
variable {C : Ctx} {k : List It} {E : Env} {ι : Ids} {L : List Ent} {G : PH} {all : Array Oper} {l : List Oper}
theorem S_yield (κ y : Nat) {A At Af : HP} {L' : HP → List Ent} {d : Nat} {x : Operand} {xs : Array Operand} {ats : Array TypeId} {ty : Nat} {pos : String} {af : Array Edge} {g : Option (Nat × Bool)} {vs : List Value} (hr : C.r = none) (hx : ev E x = some (.val (.func (.yield y) #[] #[])))
  (hy : YieldM C.P y vs G A At Af) (hg : guardOf all E g = .on) (hN : Nat.ble (d + 1) C.n = true) (hxs : evs ι E xs.toList = some vs) (hL : getH κ L = some A) (hL' : ∀ A', setH κ A' L = some (L' A'))
  (ht : X C (.ops all l :: k) ((d, .val (.bool true)) :: E) ι (L' At) G) (hf : X C (.ops all l :: k) ((d, .val (.bool false)) :: E) ι (L' Af) G) : X C (.ops all (⟨some d, .call ⟨.value x, xs, ats⟩, ty, pos, af, g⟩ :: l) :: k) E ι L G := by
 intro a w h1 h2 h3 h4
 have hdn : d < a.tmps.size := by rw [h2]; exact Nat.le_of_ble_eq_true hN
 obtain ⟨S, hA, hSG, hturn⟩ := h4.turn hL
 obtain ⟨fn, tmps, assign, body, hrun, hround⟩ := hy w S h4.emb hA hSG
 have hfv := ev_sound h3 hx
 simp only [denO, Option.some.injEq] at hfv
 have hvs := evs_sound h3 hxs
 show wpListIn _ _ _ _ _ _ _ _
 unfold wpListIn
 rw [if_pos (guardOf_on h3 hg)]
 refine ⟨fun _ _ => trivial, ?_⟩
 rw [Oper.semAt_eq _ _ _ (by intro c h; cases h)]
 have hrun2 : (execOp a.eval ⟨some d, .call ⟨.value x, xs, ats⟩, ty, pos, af, g⟩).run C.P w = .ok (.round y fn tmps assign body) w := by
  have e1 : xs.map a.eval = vs.toArray := by
   rw [← hvs]; cases xs; simp
  simp only [execOp, resolve, ← hfv]
  simp [Deferred.ofValue, invoke, e1, callFunc, hrun]
  done
 rw [hrun2]
 simp only [Oper.uponIn]
 refine ⟨fun h => by simp [FW, Fence.wide] at h, ?_⟩
 refine RoundIn.mono (F := FW C.r) (by rw [hr]; exact hround) ?_
 have fin : ∀ (v : Value) (A' : HP) (w' : World) (S' : Nat → Prop), (∀ b, S' b → S b ∨ w.heap.size ≤ b) → Frm S w w' → A'.holds w' S' → SatW C ι (L' A') G w' := by
  intro v A' w' S' hS' hF hA'
  refine hturn A' _ G w' S' (hL' A') hA' (fun b o hb => ?_) XR (fun b hb => ⟨?_, hS' b hb⟩) hF.os hF.tape hF.output hF.size hF.keep
  ·have hlt : b < w.heap.size := (Array.getElem?_eq_some_iff.1 (h4.emb b o hb)).1
   rw [hF.keep b hlt (fun hs => by rw [hSG b hs] at hb; cases hb)]
   exact h4.emb b o hb
  ·cases hq : G b with
   | none => rfl
   | some o =>
    rcases hS' b hb with h | h
    ·rw [hSG b h] at hq; cases hq
    ·have hlt : b < w.heap.size := (Array.getElem?_eq_some_iff.1 (h4.emb b o hq)).1
     omega
 rintro e w' ⟨S', hS', hF, ⟨rfl, hA'⟩ | ⟨rfl, hA'⟩⟩
 ·exact ht (a.put (some d) (.bool true)) w' h1 (by simp [Act.put, h2]) (h3.put hdn J) (fin (.bool true) _ _ _ hS' hF hA')
 ·exact hf (a.put (some d) (.bool false)) w' h1 (by simp [Act.put, h2]) (h3.put hdn J) (fin (.bool false) _ _ _ hS' hF hA')
theorem S_newB {d t : Nat} {op : Op} {ty : Nat} {pos : String} {af : Array Edge} {g : Option (Nat × Bool)} (hg : guardOf all E g = .on) (hnd : ∀ c, op ≠ .defer c) (hN : Nat.ble (d + 1) C.n = true) (hd : lookI d ι = none) {cs : List Cel}
  (hr : ∀ a w, AgE ι E a → SatW C ι L G w → ∃ vs, denL ι cs = some vs ∧ (execOp a.eval ⟨some d, op, ty, pos, af, g⟩).run C.P w = .ok (.value (.pointer (some ⟨w.heap.size, 0, none⟩))) (w.alloc (.cells vs.toArray t)))
  (hx : ∀ b, C.w0.heap.size ≤ b → X C (.ops all l :: k) ((d, .ptr d 0) :: E) ((d, b) :: ι) (.blk d t cs :: L) G) : X C (.ops all (⟨some d, op, ty, pos, af, g⟩ :: l) :: k) E ι L G := by
 intro a w h1 h2 h3 h4
 obtain ⟨vs, hvs, hrun⟩ := hr a w h3 h4
 refine wpE_val (guardOf_on h3 hg) hnd hrun ?_
 have hdn : d < a.tmps.size := by rw [h2]; exact Nat.le_of_ble_eq_true hN
 exact hx w.heap.size h4.size _ _ h1 (by simp [Act.put, h2]) ((h3.ids hd).put hdn (by simp [denO, lookI])) (h4.alloc hd cs hvs)
theorem S_boxB {d t : Nat} {x : Operand} {ty : Nat} {pos : String} {af : Array Edge} {g : Option (Nat × Bool)} {s : Sym} {cs : List Cel} (hg : guardOf all E g = .on) (hN : Nat.ble (d + 1) C.n = true) (hd : lookI d ι = none)
  (hx : ev E x = some s) (hc : cellsS s = some cs) (hk : ∀ b, C.w0.heap.size ≤ b → X C (.ops all l :: k) ((d, .ptr d 0) :: E) ((d, b) :: ι) (.blk d t cs :: L) G) : X C (.ops all (⟨some d, .box t x, ty, pos, af, g⟩ :: l) :: k) E ι L G := by
 refine S_newB (t := t) (cs := cs) hg (by intro c h; cases h) hN hd ?_ hk
 intro a w hE hw
 have ex := ev_sound hE hx
 exact ⟨_, cellsS_eq hc ex, by simp [execOp, Instr.box, newVar, newRow]⟩
theorem S_allocB {Z : ZTab} (hZ : zOk C.P Z) {d t : Nat} {z : ZI} {ty : Nat} {pos : String} {af : Array Edge} {g : Option (Nat × Bool)} (hz : lookZ t Z = some z) (hg : guardOf all E g = .on) (hN : Nat.ble (d + 1) C.n = true) (hd : lookI d ι = none)
  (hk : ∀ b, C.w0.heap.size ≤ b → X C (.ops all l :: k) ((d, .ptr d 0) :: E) ((d, b) :: ι) (.blk d t (vL z.zs) :: L) G) : X C (.ops all (⟨some d, .alloc t, ty, pos, af, g⟩ :: l) :: k) E ι L G := by
 obtain ⟨inf, v, hi, hv, hb, hc, _⟩ := viewZ_eq (hZ _ _ hz)
 refine S_newB (t := t) (cs := vL z.zs) hg (by intro c h; cases h) hN hd ?_ hk
 intro a w hE hw
 exact ⟨z.zs, denL_vL ι z.zs, by simp [execOp, Instr.alloc, newVar, newRow, zeroValue, typeInfo, hi, hv, hc]⟩
end
theorem IterR_of {α : Type} {P : Program} {gf : Nat} {cap : Array Value} {G : PH} {enc : α → List Value → Prop} {xs : List α}
  (h : ∀ (l : Nat) (A Ax : List α → HP), (∀ pre x vs, (pre ++ [x]) <+: xs → enc x vs → YieldM P l vs G (A pre) (A (pre ++ [x])) (Ax (pre ++ [x]))) →
   Mod P gf (.func (.yield l) #[] #[] :: cap.toList) G (A []) fun v G' A' => A' = A xs ∨ ∃ pre, A' = Ax pre) : IterR P gf cap G enc xs := by
 intro l A Ax W0 S0 hE hA hS hY
 have := h l A Ax (fun pre x vs hpre henc W S hE hA hS => hY pre x vs W S hpre henc hE hA hS) W0 S0 hE hA hS
 rw [show (.func (.yield l) #[] #[] :: cap.toList).toArray = #[.func (.yield l) #[] #[]] ++ cap by cases cap; simp] at this
 refine this.mono ?_;rintro e w' ⟨v, G', A', S', rfl, hp, hA', hext, hemb, hS', e1, e2, e3, e4, hkeep⟩
 refine ⟨v, S', rfl, fun b hb => (hS' b hb).2, ⟨e1, e2, e3, e4, hkeep⟩, ?_⟩
 rcases hp with rfl | ⟨pre, rfl⟩
 ·exact .inl hA'
 ·exact .inr ⟨pre, hA'⟩
end
end Go.Proofs.YtcbdilccmjpnbaaGreat
