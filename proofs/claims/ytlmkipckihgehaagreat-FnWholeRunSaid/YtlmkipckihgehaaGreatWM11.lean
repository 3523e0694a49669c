/- Walks of the program's functions, one after the other (part 11); without conditions of their own. -/
import Derived.Test.YtlmkipckihgehaaGreatWM3
import Derived.Test.YtlmkipckihgehaaGreatWM8
import Derived.Test.YtlmkipckihgehaaGreatWM9
import Derived.Test.YtlmkipckihgehaaGreatWM10
import Derived.Test.YtlmkipckihgehaaGreatWM2
set_option linter.unusedVariables false
set_option linter.unusedSimpArgs false
set_option maxRecDepth 100000
set_option maxHeartbeats 4000000
open Go.RowKit
namespace Go.Proofs.YtlmkipckihgehaaGreat
section
attribute [local irreducible] X Pure Mod
theorem Cs_intU_eq : ∀ {l : List Int} {xs : List Value}, Cs 1 intU l xs → xs = intC l
  | [], xs, h => h
  | n :: l, xs, h => by
    obtain ⟨cs, ys, rfl, _, rfl, h4⟩ := h
    rw [Cs_intU_eq h4]; rfl
theorem Cs_sayU_eq : ∀ {l : List (Int × Int)} {xs : List Value}, Cs 2 sayU l xs → xs = saidC l
  | [], xs, h => h
  | n :: l, xs, h => by
    obtain ⟨cs, ys, rfl, _, rfl, h4⟩ := h
    rw [Cs_sayU_eq h4]; rfl
theorem intsU_cells {G : PH} {l : List Int} {v : Value} (h : IntsU G l v) : ∃ A c, v = .slice A l.length c ∧ (intC l).length = l.length * 1 ∧ (l.length = 0 ∨ ∃ a, A = some a ∧ gcells G a (intC l)) := by
  obtain ⟨xs, hx, hc⟩ := Sr_Sx (rep := intU) (sz := 1) (fun n cs h => by rw [show cs = [.int .i64 n] from h]; rfl) h
  obtain rfl := Cs_intU_eq hc
  obtain ⟨A, c, rfl, _, _, _, hl, hr⟩ := hx
  exact ⟨A, c, J, hl, hr⟩
theorem saysU_cells {G : PH} {l : List (Int × Int)} {v : Value} (h : SaysU G l v) : ∃ A c, v = .slice A l.length c ∧ (saidC l).length = l.length * 2 ∧ (l.length = 0 ∨ ∃ a, A = some a ∧ gcells G a (saidC l)) := by
  obtain ⟨xs, hx, hc⟩ := Sr_Sx (rep := sayU) (sz := 2) (fun n cs h => by rw [show cs = [.int .i64 n.1, .int .i64 n.2] from h]; rfl) h
  obtain rfl := Cs_sayU_eq hc
  obtain ⟨A, c, rfl, _, _, _, hl, hr⟩ := hx
  exact ⟨A, c, J, hl, hr⟩
theorem intC1 (l : List Int) : ∀ u ∈ intC l, u.oneCell' = true := intC_one l
theorem off_app {A A' : Option Addr} (h : ∃ g, A = some ⟨g, 0, none⟩) (h' : A' = A ∨ ∃ g, A' = some ⟨g, 0, none⟩) : Off0 A' := by
  rcases h' with rfl | h'
  · exact .inr h
  · exact .inr h'
theorem off_app' {A A' : Option Addr} (h : Off0 A) (h' : A' = A ∨ ∃ g, A' = some ⟨g, 0, none⟩) : Off0 A' := by
  rcases h' with rfl | h'
  · exact h
  · exact .inr h'
structure QE where
  A : Option Addr
  c : Nat
  t : Value
  p : Prc
def procZ : List QE → List Value
  | [] => []
  | x :: q => [.slice x.A (0 + 3) x.c, x.t, .int .i64 x.p.mode, .int .i64 x.p.on, .int .i64 x.p.room] ++ procZ q
theorem procZ_snoc (q : List QE) (x : QE) : procZ (q ++ [x]) = procZ q ++ [.slice x.A (0 + 3) x.c, x.t, .int .i64 x.p.mode, .int .i64 x.p.on, .int .i64 x.p.room] := by
  induction q with
  | nil => simp [procZ]
  | cons y q ih => simp [procZ, ih]
def regsZ (base : Nat) (q : List QE) : HP := starHP (q.reverse.map fun x => rowO base 3 1 x.A (0 + 3) x.c ([] ++ intC [x.p.r0, x.p.r1, x.p.r2]))
theorem regsZ_snoc (base : Nat) (q : List QE) (x : QE) : regsZ base (q ++ [x]) = pairHP (rowO base 3 1 x.A (0 + 3) x.c ([] ++ intC [x.p.r0, x.p.r1, x.p.r2])) (regsZ base q) := by simp [regsZ, starHP]
def QOk (G : PH) (ps : List Prc) (q : List QE) : Prop := q.map (·.p) = ps ∧ ∀ x ∈ q, Sts G x.p.todo x.t ∧ Off0 x.A
theorem QOk_le {G G' : PH} (hl : G.le G') {ps : List Prc} {q : List QE} (h : QOk G ps q) : QOk G' ps q := ⟨h.1, fun x hx => ⟨Sts_le hl (h.2 x hx).1, (h.2 x hx).2⟩⟩
structure OC where
  i : Nat
  A : Option Addr
  c : Nat
  q : List QE
  G : PH
theorem off0_eq {A : Option Addr} (h : Off0 A) {g off : Nat} (e : A = some ⟨g, off, none⟩) : off = 0 := by
  rcases h with h | ⟨g', h⟩
  · rw [h] at e; cases e
  · rw [h] at e; cases e; rfl
def kg3 (a b c : Nat) : Nat → Nat
  | 0 => a
  | 1 => b
  | _ => c
def sp3 (a b c : List Value) : Nat → List Value
  | 0 => a
  | 1 => b
  | _ => c
theorem kg3_ok {a b c : Nat} (ha : 3 ≤ a ∧ a ≤ maxLen) (hb : 3 ≤ b ∧ b ≤ maxLen) (hc : 3 ≤ c ∧ c ≤ maxLen) : ∀ i, 3 ≤ kg3 a b c i ∧ kg3 a b c i ≤ maxLen
  | 0 => ha
  | 1 => hb
  | _ + 2 => hc
abbrev NPost (W : Wld) (v : Value) (G' : PH) (A' : HP) : Prop := ∃ cs ts, v = .agg cs.toArray ∧ A' = worldV cs W ts ∧ Tds G' W.procs ts
theorem c_l3Copy (W : Wld) (v : Value) (G : PH) (hW : WG G W v) (hn : 1 ≤ W.procs.length ∧ W.procs.length ≤ 3) (hl : W.said.length ≤ 1000000 ∧ W.q0.length ≤ 1000000 ∧ W.q1.length ≤ 1000000) (hT : ∀ p ∈ W.procs, p.todo.length ≤ 1000000) : Mod Tryz.prog 78 [v] G emptyHP (NPost W) := by
  obtain ⟨vp, vc, vr, vs, vd, rfl, hpr, hce, hro, hsg, hsd⟩ := hW
  obtain ⟨Ac, cc, rfl, xc1, xc2⟩ := intsU_cells hce
  obtain ⟨Ar, cr, rfl, xr1, xr2⟩ := intsU_cells hro
  obtain ⟨Ad, cd, rfl, xd1, xd2⟩ := saysU_cells hsd
  obtain ⟨Ap, cp, rfl, _⟩ := id hpr
  obtain ⟨As, cs', rfl, _⟩ := id hsg
  obtain ⟨ads, z0, eA, hz0, v0, rfl, hv0⟩ := Sr_at hsg (k := 0) (by simp)
  subst eA
  obtain ⟨ads', z1, eA, hz1, v1, rfl, hv1⟩ := Sr_at hsg (k := 1) (by simp)
  cases eA
  obtain ⟨A0, c0, rfl, x01, x02⟩ := intsU_cells hv0
  obtain ⟨A1, c1, rfl, x11, x12⟩ := intsU_cells hv1
  simp only [List.getElem_cons_zero, List.getElem_cons_succ] at hz0 hz1 x01 x02 x11 x12
  refine Mod.intro Tryz.func78 Tryz.ntmps78 J J fun w S => ?_;refine Va J J ?_;refine S_box J J J J J fun b1 => ?_;refine Va J J ?_;refine AZ ZT_ok J J J J fun b2 => ?_;refine Va J J ?_;refine S_cut (α := Nat × (Option Addr × Nat) × (Option Addr × Nat) × Option Addr × Nat) (fun y => Off0 y.2.1.1 ∧ Off0 y.2.2.1.1) (fun y => [(1, b1), (2, b2), (3, y.1)]) (fun y => [(1, .ptr 1 0), (2, .ptr 2 0), (3, .ptr 3 0)])
    (fun y => [.blk 1 31 (vL [.slice Ap W.procs.length cp, .slice Ac [W.c0, W.c1, W.c2].length cc, .slice Ar [W.m0, W.m1].length cr, .slice (some ads) [W.q0, W.q1].length cs', .slice Ad W.said.length cd]), .blk 2 31 (vL [.slice none 0 0, .slice none 0 0, .slice none 0 0, .slice none 0 0, .slice none 0 0]),
      .blk 3 31 [.v (.slice none 0 0), .v (.slice y.2.1.1 (0 + [W.c0, W.c1, W.c2].length) y.2.1.2), .v (.slice y.2.2.1.1 (0 + [W.m0, W.m1].length) y.2.2.1.2), .v (.slice none 0 0), .v (.slice y.2.2.2.1 (0 + W.said.length) y.2.2.2.2)],
      .hp 7 (rowO w.heap.size 3 1 y.2.1.1 (0 + [W.c0, W.c1, W.c2].length) y.2.1.2 ([] ++ intC [W.c0, W.c1, W.c2])), .hp 11 (rowO w.heap.size 3 1 y.2.2.1.1 (0 + [W.m0, W.m1].length) y.2.2.1.2 ([] ++ intC [W.m0, W.m1])), .hp 15 (rowO w.heap.size 104 2 y.2.2.2.1 (0 + W.said.length) y.2.2.2.2 ([] ++ saidC W.said)), .hp 1 emptyHP]) (fun _ => G) ?_ ?_
  ·
    refine Ds J J J ?_;refine Da J J ?_
    repeat' (first
      | exact trivial
      | (refine D_list J ?_)
      | refine And.intro ?_ ?_
      | (refine N_turn Tk 0 J J J J fun back => ?_
         refine S_emptyOz Tk 7 J J J J fun A7 h7 => ?_;refine back _ _ _ _ (by kernel_rfl) ?_
         clear back
         refine Da J J ?_)
      | (refine N_turn Tk 4 J J J J fun back => ?_
         refine S_emptyOz Tk 11 J J J J fun A11 h11 => ?_;refine back _ _ _ _ (by kernel_rfl) ?_
         clear back
         refine Da J J ?_)
      | (refine N_turn Tk 8 J J J J fun back => ?_
         refine S_emptyO Tk 15 J J J J fun A15 => ?_;refine back _ _ _ _ (by kernel_rfl) ?_
         clear back
         refine Da J J ?_)
      | (refine N_turn Tk 13 J J J J fun back => ?_
         refine AZ ZT_ok J J J J fun b3 => ?_;refine back _ _ _ _ (by kernel_rfl) ?_
         clear back
         refine Da J J ?_)
      | (refine N_turn Tk 3 J J J J fun back => ?_
         refine S_appOz Tk 7 J J J J J J J J J J J (fun _ _ => J) (src_G xc1 xc2) (intC1 _) (by simp) (by simp [maxLen]) (Nat.le_refl _) fun A7' c7 h7' => ?_;refine back _ _ _ _ (by kernel_rfl) ?_
         clear back
         refine Da J J ?_)
      | (refine N_turn Tk 7 J J J J fun back => ?_
         refine S_appOz Tk 11 J J J J J J J J J J J (fun _ _ => J) (src_G xr1 xr2) (intC1 _) (by simp) (by simp [maxLen]) (Nat.le_refl _) fun A11' c11 h11' => ?_;refine back _ _ _ _ (by kernel_rfl) ?_
         clear back
         refine Da J J ?_)
      | (refine N_turn Tk 11 J J J J fun back => ?_
         refine S_appO Tk 15 J J J J J J J J J J J (fun _ _ => J) (src_G xd1 xd2) (saidC_one _) (by simp only; omega) (by simp only [maxLen]; omega) (Nat.le_refl _) fun A15' c15 => ?_;refine back _ _ _ _ (by kernel_rfl) ?_
         clear back
         refine Da J J ?_)
      | fail)
    all_goals (refine N_store Tk 14 rfl rfl rfl rfl rfl rfl rfl rfl (by kernel_rfl) ?_)
    all_goals refine D_adv Tk (by decide) rfl rfl ?_
    all_goals (refine DD ?_)
    all_goals refine S_adv Tk rfl 1000 rfl ?_
    all_goals (refine S_pick [1, 2, 3, 7, 11, 15, 1] rfl ?_)
    all_goals exact S_meet (_, (_, _), (_, _), _, _) ⟨off_app h7 h7', off_app h11 h11'⟩ rfl ⟨⟨_, rfl, rfl⟩, ⟨_, rfl, rfl⟩, ⟨_, rfl, rfl⟩, trivial⟩ (.blk rfl rfl (.blk rfl rfl (.blk rfl rfl (.hp (.hp (.hp (.hp .nil)))))))
  rintro ⟨b3, ⟨A7, c7⟩, ⟨A11, c11⟩, A15, c15⟩ ⟨o7, o11⟩
  simp only at o7 o11 ⊢
  refine S_nilO (base := w.heap.size) (e := 24) (size := 1) 40 ?_;refine Va J J ?_;refine S_unroll 2 ?_;refine Va J J ?_
  have o0 : Off0 none := .inl rfl
  refine RT J J ?_;refine Va J J ?_;refine S_cut (α := (Option Addr × Nat) × Option Addr × Nat) (fun y => Off0 y.2.1) (fun y => [(1, b1), (2, b2), (3, b3)]) (fun y => [(4, .val (.int .i64 0)), (1, .ptr 1 0), (2, .ptr 2 0), (3, .ptr 3 0)])
    (fun y => [.blk 1 31 (vL [.slice Ap W.procs.length cp, .slice Ac [W.c0, W.c1, W.c2].length cc, .slice Ar [W.m0, W.m1].length cr, .slice (some ads) [W.q0, W.q1].length cs', .slice Ad W.said.length cd]), .blk 2 31 (vL [.slice none 0 0, .slice none 0 0, .slice none 0 0, .slice none 0 0, .slice none 0 0]),
      .blk 3 31 [.v (.slice none 0 0), .v (.slice A7 (0 + [W.c0, W.c1, W.c2].length) c7), .v (.slice A11 (0 + [W.m0, W.m1].length) c11), .v (.slice y.2.1 (0 + 1) y.2.2), .v (.slice A15 (0 + W.said.length) c15)],
      .hp 7 (rowO w.heap.size 3 1 A7 (0 + [W.c0, W.c1, W.c2].length) c7 ([] ++ intC [W.c0, W.c1, W.c2])), .hp 11 (rowO w.heap.size 3 1 A11 (0 + [W.m0, W.m1].length) c11 ([] ++ intC [W.m0, W.m1])), .hp 15 (rowO w.heap.size 104 2 A15 (0 + W.said.length) c15 ([] ++ saidC W.said)),
      .hp 40 (rowO w.heap.size 24 1 y.2.1 (0 + 1) y.2.2 ([] ++ [.slice y.1.1 (0 + W.q0.length) y.1.2])), .hp 41 (rowO w.heap.size 3 1 y.1.1 (0 + W.q0.length) y.1.2 ([] ++ intC W.q0))] ++ [.hp 1 emptyHP]) (fun _ => G) ?_ ?_
  · refine Ds J J J ?_
    refine Da J J ?_
    repeat' (first
      | exact trivial
      | (refine D_list J ?_)
      | refine And.intro ?_ ?_
      | (refine N_turn Tk 2 J J J J fun back => ?_
         refine S_emptyO Tk 41 J J J J fun A29 => ?_;refine back _ _ _ _ (by kernel_rfl) ?_
         clear back
         refine Da J J ?_)
      | (refine N_turn Tk 6 J J J J fun back => ?_
         refine S_index Tk J J J J J J (by simp) (by simp) ?_;refine back _ _ _ _ (by kernel_rfl) ?_
         clear back
         refine Da J J ?_)
      | (refine N_turn Tk 7 J J J J fun back => ?_
         refine S_load Tk J J J J J (by simpa using hz0.1) ?_;refine back _ _ _ _ (by kernel_rfl) ?_
         clear back
         refine Da J J ?_)
      | (refine N_turn Tk 8 J J J J fun back => ?_
         refine S_appO Tk 41 J J J J J J J J J J J (fun _ _ => J) (src_G x01 x02) (intC1 _) (by simp only; omega) (by simp only [maxLen]; omega) (Nat.le_refl _) fun A29' c29 => ?_;refine back _ _ _ _ (by kernel_rfl) ?_
         clear back
         refine Da J J ?_)
      | (refine N_turn Tk 9 J J J J fun back => ?_
         refine S_slice Tk ZT_ok J J J J (by decide) (by decide) J J J J fun b36 => ?_;refine back _ _ _ _ (by kernel_rfl) ?_
         clear back
         refine Da J J ?_)
      | (refine N_turn Tk 10 J J J J fun back => ?_
         refine S_app1z Tk 40 36 J J J J J J J J J J J J J J (by intro u hu; simp at hu; rcases hu with rfl; rfl) rfl (fun _ _ => rfl) (by omega) (Nat.le_refl _) fun A40 c40 h40 => ?_;refine back _ _ _ _ (by kernel_rfl) ?_
         clear back
         refine Da J J ?_)
      | fail)
    all_goals (refine N_store Tk 12 rfl rfl rfl rfl rfl rfl rfl rfl (by kernel_rfl) ?_)
    all_goals refine D_adv Tk (by decide) rfl rfl ?_
    all_goals (refine DD ?_)
    all_goals refine S_adv Tk rfl 1000 rfl ?_
    all_goals (refine S_pick [1, 2, 3, 7, 11, 15, 40, 41, 1] rfl ?_)
    all_goals exact S_meet ((_, _), _, _) (by rename_i h40; exact off_app' (by assumption) h40) J ⟨⟨_, J, J⟩, ⟨_, J, J⟩, ⟨_, J, J⟩, ⟨_, J, J⟩, trivial⟩ (.blk J J (.blk J J (.blk J J (.hp (.hp (.hp (.hp (.hp (.hp .nil)))))))))
  rintro ⟨⟨A41, c41⟩, A42, c42⟩ o42
  simp only at o42 ⊢
  refine Va J J ?_;refine S_add J J J J (by omega) ?_;refine Va J J ?_;refine S_next ?_;refine Va J J ?_;refine RT J J ?_;refine Va J J ?_;refine S_cut (α := (Option Addr × Nat) × Option Addr × Nat) (fun y => Off0 y.2.1) (fun y => [(1, b1), (2, b2), (3, b3)]) (fun y => [(4, .val (.int .i64 1)), (1, .ptr 1 0), (2, .ptr 2 0), (3, .ptr 3 0)])
    (fun y => [.blk 1 31 (vL [.slice Ap W.procs.length cp, .slice Ac [W.c0, W.c1, W.c2].length cc, .slice Ar [W.m0, W.m1].length cr, .slice (some ads) [W.q0, W.q1].length cs', .slice Ad W.said.length cd]), .blk 2 31 (vL [.slice none 0 0, .slice none 0 0, .slice none 0 0, .slice none 0 0, .slice none 0 0]),
      .blk 3 31 [.v (.slice none 0 0), .v (.slice A7 (0 + [W.c0, W.c1, W.c2].length) c7), .v (.slice A11 (0 + [W.m0, W.m1].length) c11), .v (.slice y.2.1 ((0 + 1) + 1) y.2.2), .v (.slice A15 (0 + W.said.length) c15)],
      .hp 7 (rowO w.heap.size 3 1 A7 (0 + [W.c0, W.c1, W.c2].length) c7 ([] ++ intC [W.c0, W.c1, W.c2])), .hp 11 (rowO w.heap.size 3 1 A11 (0 + [W.m0, W.m1].length) c11 ([] ++ intC [W.m0, W.m1])), .hp 15 (rowO w.heap.size 104 2 A15 (0 + W.said.length) c15 ([] ++ saidC W.said)),
      .hp 40 (rowO w.heap.size 24 1 y.2.1 ((0 + 1) + 1) y.2.2 (([] ++ [.slice A41 (0 + W.q0.length) c41]) ++ [.slice y.1.1 (0 + W.q1.length) y.1.2])), .hp 43 (rowO w.heap.size 3 1 y.1.1 (0 + W.q1.length) y.1.2 ([] ++ intC W.q1))] ++ [.hp 41 (rowO w.heap.size 3 1 A41 (0 + W.q0.length) c41 ([] ++ intC W.q0)), .hp 1 emptyHP]) (fun _ => G) ?_ ?_
  · refine Ds J J J ?_
    refine Da J J ?_
    repeat' (first
      | exact trivial
      | (refine D_list J ?_)
      | refine And.intro ?_ ?_
      | (refine N_turn Tk 2 J J J J fun back => ?_
         refine S_emptyO Tk 43 J J J J fun A29 => ?_;refine back _ _ _ _ (by kernel_rfl) ?_
         clear back
         refine Da J J ?_)
      | (refine N_turn Tk 6 J J J J fun back => ?_
         refine S_index Tk J J J J J J (by simp) (by simp) ?_;refine back _ _ _ _ (by kernel_rfl) ?_
         clear back
         refine Da J J ?_)
      | (refine N_turn Tk 7 J J J J fun back => ?_
         refine S_load Tk J J J J J (by simpa using hz1.1) ?_;refine back _ _ _ _ (by kernel_rfl) ?_
         clear back
         refine Da J J ?_)
      | (refine N_turn Tk 8 J J J J fun back => ?_
         refine S_appO Tk 43 J J J J J J J J J J J (fun _ _ => J) (src_G x11 x12) (intC1 _) (by simp only; omega) (by simp only [maxLen]; omega) (Nat.le_refl _) fun A29' c29 => ?_;refine back _ _ _ _ (by kernel_rfl) ?_
         clear back
         refine Da J J ?_)
      | (refine N_turn Tk 9 J J J J fun back => ?_
         refine S_slice Tk ZT_ok J J J J (by decide) (by decide) J J J J fun b36 => ?_;refine back _ _ _ _ (by kernel_rfl) ?_
         clear back
         refine Da J J ?_)
      | (refine N_turn Tk 10 J J J J fun back => ?_
         refine S_app1z Tk 40 36 J J J J J J J J J J J J J J (by intro u hu; simp at hu; rcases hu with rfl; rfl) rfl (fun _ _ => rfl) (by omega) (Nat.le_refl _) fun A40 c40 h40 => ?_;refine back _ _ _ _ (by kernel_rfl) ?_
         clear back
         refine Da J J ?_)
      | fail)
    all_goals (refine N_store Tk 12 rfl rfl rfl rfl rfl rfl rfl rfl (by kernel_rfl) ?_)
    all_goals refine D_adv Tk (by decide) rfl rfl ?_
    all_goals (refine DD ?_)
    all_goals refine S_adv Tk rfl 1000 rfl ?_
    all_goals (refine S_pick [1, 2, 3, 7, 11, 15, 40, 43, 41, 1] rfl ?_)
    all_goals exact S_meet ((_, _), _, _) (by rename_i h40; exact off_app' (by assumption) h40) J ⟨⟨_, J, J⟩, ⟨_, J, J⟩, ⟨_, J, J⟩, ⟨_, J, J⟩, trivial⟩ (.blk J J (.blk J J (.blk J J (.hp (.hp (.hp (.hp (.hp (.hp (.hp .nil))))))))))
  rintro ⟨⟨A43, c43⟩, A44, c44⟩ o44
  simp only at o44 ⊢
  refine Va J J ?_;refine S_add J J J J (by omega) ?_;refine Va J J ?_;refine S_next ?_;refine Va J J ?_;refine RF J J ?_;refine Va J J ?_;refine S_nilO (base := w.heap.size) (e := 38) (size := 5) 50 ?_;refine S_newE 51 ?_;refine S_loop (α := OC) (fun y => y.i ≤ W.procs.length ∧ y.q.length = y.i ∧ PH.ext w.heap.size G y.G ∧ QOk y.G (W.procs.take y.i) y.q ∧ Off0 y.A) (fun y => W.procs.length - y.i) [(1, b1), (2, b2), (3, b3)]
    (fun y => [(5, .val (.int .i64 (y.i : Nat))), (1, .ptr 1 0), (2, .ptr 2 0), (3, .ptr 3 0)])
    (fun y => [.hp 51 (regsZ w.heap.size y.q), .hp 50 (rowO w.heap.size 38 5 y.A y.q.length y.c (procZ y.q)),
      .blk 1 31 (vL [.slice Ap W.procs.length cp, .slice Ac [W.c0, W.c1, W.c2].length cc, .slice Ar [W.m0, W.m1].length cr, .slice (some ads) [W.q0, W.q1].length cs', .slice Ad W.said.length cd]), .blk 2 31 (vL [.slice none 0 0, .slice none 0 0, .slice none 0 0, .slice none 0 0, .slice none 0 0]),
      .blk 3 31 [.v (.slice y.A y.q.length y.c), .v (.slice A7 (0 + [W.c0, W.c1, W.c2].length) c7), .v (.slice A11 (0 + [W.m0, W.m1].length) c11), .v (.slice A44 (0 + 1 + 1) c44), .v (.slice A15 (0 + W.said.length) c15)],
      .hp 7 (rowO w.heap.size 3 1 A7 (0 + [W.c0, W.c1, W.c2].length) c7 ([] ++ intC [W.c0, W.c1, W.c2])), .hp 11 (rowO w.heap.size 3 1 A11 (0 + [W.m0, W.m1].length) c11 ([] ++ intC [W.m0, W.m1])), .hp 15 (rowO w.heap.size 104 2 A15 (0 + W.said.length) c15 ([] ++ saidC W.said)),
      .hp 40 (rowO w.heap.size 24 1 A44 (0 + 1 + 1) c44 ([] ++ [.slice A41 (0 + W.q0.length) c41] ++ [.slice A43 (0 + W.q1.length) c43])), .hp 43 (rowO w.heap.size 3 1 A43 (0 + W.q1.length) c43 ([] ++ intC W.q1)), .hp 41 (rowO w.heap.size 3 1 A41 (0 + W.q0.length) c41 ([] ++ intC W.q0)), .hp 1 emptyHP]) (fun y => y.G) ⟨0, none, 0, [], G⟩ ⟨Nat.zero_le _, rfl, PH.ext.refl _ _, ⟨rfl, by simp⟩, .inl rfl⟩ rfl ?_ ?_ ?_
  · exact ⟨⟨_, J, J⟩, ⟨_, J, J⟩, ⟨_, J, J⟩, ⟨_, J, J⟩, trivial⟩
  · exact .hp (.hp (.blk J J (.blk J J (.blk J J (.hp (.hp (.hp (.hp (.hp (.hp (.hp .nil)))))))))))
  rintro ⟨i, A5, c5, q, G1⟩ ⟨hi, hq, hext, hqd, hoff⟩
  simp only at hi hq hext hqd hoff ⊢
  refine Va J J ?_
  refine S_condp J (fun h5 => ?_) (fun h5 => ?_) <;> refine Va J J ?_
  · have hil : i < W.procs.length := by omega
    obtain ⟨ad, cs, rfl, hcs, vr1, vt1, rfl, hr1, ht1⟩ := Sr_at (Sr_mono hext.le (fun _ _ _ h => prcRep_le hext.le h) hpr) hil
    obtain ⟨Br, dr, rfl, y1, y2⟩ := intsU_cells hr1
    obtain ⟨Bt, dt, xt, rfl, hxl, hxg, hct⟩ := sts_cells ht1
    have htl := hT _ (List.getElem_mem hil)
    refine S_index Tk J J J J J J (by omega) (by omega) ?_;refine Va J J ?_;refine S_loadA Tk J J J J J (by simpa using hcs) ?_;refine Va J J ?_;refine AZ ZT_ok J J J J fun b6 => ?_;refine Va J J ?_;refine S_emptyOz Tk 52 J J J J fun A52 h52 => ?_;refine Va J J ?_;refine S_appOz Tk 52 J J J J J J J J J J J (fun _ _ => J) (src_G y1 y2) (intC1 _) (by simp) (by simp [maxLen]) (Nat.le_refl _) fun A53 c53 h53 => ?_
    refine Va J J ?_;refine S_emptyO Tk 56 J J J J fun A56 => ?_;refine Va J J ?_;refine S_appO Tk 56 J J J J J J J J J J J (fun _ _ => J) (src_G hxl hxg) (Cs_one Stm.rep_one hct) (by simp only; omega) (by simp only [maxLen]; omega) (Nat.le_refl _) fun A57 c57 => ?_;refine Va J J ?_;refine S_slice Tk ZT_ok J J J J (by decide) (by decide) J J J J fun b64 => ?_;refine Va J J ?_
    refine S_app1z Tk 50 64 J J J J J J J J J J J J J J (by intro u hu; simp at hu; rcases hu with rfl | rfl | rfl | rfl | rfl <;> rfl) rfl (fun _ _ => rfl) (by omega) (Nat.le_refl _) fun A6 c6 h6 => ?_
    refine Va J J ?_;refine S_add J J J J (by omega) ?_;refine Va J J ?_;refine S_freezeR 56 J J (Nat.le_refl _) fun G2 hext2 hnc hcm hcl => ?_
    have hv : Sts G2 W.procs[i].todo (.slice A57 (0 + W.procs[i].todo.length) c57) := frz (Cs_mono (Stm.reps_le hext2.le _) (by simpa using hct)) (by omega) (by omega) hnc hcm hcl
    refine S_pair 52 51 58 J J J J ?_;refine S_pick [58, 50, 1, 2, 3, 7, 11, 15, 40, 43, 41, 1] J ?_;refine S_again ⟨i + 1, A6, c6, q ++ [⟨A53, c53, .slice A57 (0 + W.procs[i].todo.length) c57, W.procs[i]⟩], G2⟩ ⟨by simp only; omega, by simp; omega, hext.trans hext2, ⟨?_, ?_⟩, off_app' hoff h6⟩ (by simp only; omega) rfl ⟨⟨_, rfl, by simp [denO]⟩, ⟨_, rfl, rfl⟩, ⟨_, rfl, rfl⟩, ⟨_, rfl, rfl⟩, trivial⟩ ?_
    · simp only
      rw [List.take_succ_eq_append_getElem hil, List.map_append, hqd.1]; rfl
    · intro x hx
      rcases List.mem_append.1 hx with hx | hx
      · exact (QOk_le hext2.le hqd).2 x hx
      · rw [List.mem_singleton.1 hx]; exact ⟨hv, off_app h52 h53⟩
    · simp only [regsZ_snoc, procZ_snoc, List.length_append, List.length_singleton]
      exact .hp (.hp (.blk J J (.blk J J (.blk J J (.hp (.hp (.hp (.hp (.hp (.hp (.hp .nil)))))))))))
  · have hin : i = W.procs.length := by omega
    subst hin
    rw [List.take_length] at hqd
    refine S_capO 50 J fun hnP hmP _ => ?_;refine S_someO 50 J (by (try simp at hnP); (try simp only); omega) fun gP oP eA => ?_;obtain rfl : oP = 0 := off0_eq (hoff) eA
    subst eA
    refine S_rowB 50 74 J J J fun spP => ?_;refine S_capO 7 J fun hnC hmC _ => ?_;refine S_someO 7 J (by (try simp at hnC); (try simp only); omega) fun gC oC eA => ?_;obtain rfl : oC = 0 := off0_eq (o7) eA
    subst eA
    refine S_rowB 7 71 J J J fun spC => ?_;refine S_capO 11 J fun hnR hmR _ => ?_;refine S_someO 11 J (by (try simp at hnR); (try simp only); omega) fun gR oR eA => ?_;obtain rfl : oR = 0 := off0_eq (o11) eA
    subst eA
    refine S_rowB 11 72 J J J fun spR => ?_;refine S_capO 40 J fun hnS hmS _ => ?_;refine S_someO 40 J (by (try simp at hnS); (try simp only); omega) fun gS oS eA => ?_;obtain rfl : oS = 0 := off0_eq (o44) eA
    subst eA
    refine S_rowB 40 73 J J J fun spS => ?_;refine S_base0 15 J J ?_;refine S_base0 41 J J ?_;refine S_base0 43 J J ?_;obtain ⟨hqd1, hqd2⟩ := hqd
    obtain ⟨ps, w1, w2, w3, w4, w5, w6, w7, w8⟩ := W
    simp only at hq hqd1 hn hnP
    subst hqd1
    rcases (by rw [List.length_map] at hn; omega : q.length = 1 ∨ q.length = 2 ∨ q.length = 3) with h1 | h1 | h1
    · obtain ⟨⟨Aa, ca, ta, pa⟩, rfl⟩ := len1 h1
      refine S_unpair 51 500 600 J J ?_;refine S_capO 500 J fun hna hma _ => ?_;refine S_someO 500 J (by (try simp at hna); (try simp only); omega) fun ga oa eA => ?_;obtain rfl : oa = 0 := off0_eq ((hqd2 ⟨Aa, ca, ta, pa⟩ (by simp)).2) eA
      subst eA
      refine S_rowB 500 60 J J J fun spa => ?_
      simp only at hna hma
      exact RK [74, 71, 72, 73, 15, 41, 43, 60] (Res.c1 Tk Tryz.results78 J J) ⟨_, [ta], J, J, ⟨(hqd2 _ (List.mem_cons_self ..)).1, trivial⟩⟩ ⟨gP, gC, gR, gS, [ga], ⟨c5, spP, A15, c15, A41, c41, A43, c43, c7, spC, c11, spR, c44, spS, kg3 ca 3 3, sp3 spa [] []⟩, ⟨0 + w8.length, [] ++ saidC w8, 0 + w6.length, [] ++ intC w6, 0 + w7.length, [] ++ intC w7⟩, J, ⟨⟨by simpa using hnP, hmP⟩, ⟨by simpa using hnC, hmC⟩, ⟨by simpa using hnR, hmR⟩, ⟨by simpa using hnS, hmS⟩, kg3_ok ⟨by simpa using hna, hma⟩ ⟨by decide, by decide⟩ ⟨by decide, by decide⟩⟩, ⟨⟨by simp, by simp⟩, ⟨by simp, by simp⟩, by simp, by simp⟩, J, J, J⟩ J (Wsub 5 J J J J J J J J J J J J J J J J (Bs 3 J J J J .nil)) hext
    · obtain ⟨⟨Aa, ca, ta, pa⟩, ⟨Ab, cb, tb, pb⟩, rfl⟩ := len2 h1
      refine S_unpair 51 501 601 J J ?_;refine S_capO 501 J fun hnb hmb _ => ?_;refine S_someO 501 J (by (try simp at hnb); (try simp only); omega) fun gb ob eA => ?_;obtain rfl : ob = 0 := off0_eq ((hqd2 ⟨Ab, cb, tb, pb⟩ (by simp)).2) eA
      subst eA
      refine S_rowB 501 61 J J J fun spb => ?_
      simp only at hnb hmb
      refine S_unpair 601 500 600 J J ?_;refine S_capO 500 J fun hna hma _ => ?_;refine S_someO 500 J (by (try simp at hna); (try simp only); omega) fun ga oa eA => ?_;obtain rfl : oa = 0 := off0_eq ((hqd2 ⟨Aa, ca, ta, pa⟩ (by simp)).2) eA
      subst eA
      refine S_rowB 500 60 J J J fun spa => ?_
      simp only at hna hma
      exact RK [74, 71, 72, 73, 15, 41, 43, 60, 61] (Res.c1 Tk Tryz.results78 J J) ⟨_, [ta, tb], J, J, ⟨(hqd2 _ (List.mem_cons_self ..)).1, ⟨(hqd2 _ (List.mem_cons_of_mem _ (List.mem_cons_self ..))).1, trivial⟩⟩⟩ ⟨gP, gC, gR, gS, [ga, gb], ⟨c5, spP, A15, c15, A41, c41, A43, c43, c7, spC, c11, spR, c44, spS, kg3 ca cb 3, sp3 spa spb []⟩, ⟨0 + w8.length, [] ++ saidC w8, 0 + w6.length, [] ++ intC w6, 0 + w7.length, [] ++ intC w7⟩, J, ⟨⟨by simpa using hnP, hmP⟩, ⟨by simpa using hnC, hmC⟩, ⟨by simpa using hnR, hmR⟩, ⟨by simpa using hnS, hmS⟩, kg3_ok ⟨by simpa using hna, hma⟩ ⟨by simpa using hnb, hmb⟩ ⟨by decide, by decide⟩⟩, ⟨⟨by simp, by simp⟩, ⟨by simp, by simp⟩, by simp, by simp⟩, J, J, J⟩ J (Wsub 10 J J J J J J J J J J J J J J J J (Bs 3 J J J J (Bs 3 J J J J .nil))) hext
    · obtain ⟨⟨Aa, ca, ta, pa⟩, ⟨Ab, cb, tb, pb⟩, ⟨Ad, cd, td, pd⟩, rfl⟩ := len3 h1
      refine S_unpair 51 502 602 J J ?_;refine S_capO 502 J fun hnd hmd _ => ?_;refine S_someO 502 J (by (try simp at hnd); (try simp only); omega) fun gd od eA => ?_;obtain rfl : od = 0 := off0_eq ((hqd2 ⟨Ad, cd, td, pd⟩ (by simp)).2) eA
      subst eA
      refine S_rowB 502 62 J J J fun spd => ?_
      simp only at hnd hmd
      refine S_unpair 602 501 601 J J ?_;refine S_capO 501 J fun hnb hmb _ => ?_;refine S_someO 501 J (by (try simp at hnb); (try simp only); omega) fun gb ob eA => ?_;obtain rfl : ob = 0 := off0_eq ((hqd2 ⟨Ab, cb, tb, pb⟩ (by simp)).2) eA
      subst eA
      refine S_rowB 501 61 J J J fun spb => ?_
      simp only at hnb hmb
      refine S_unpair 601 500 600 J J ?_;refine S_capO 500 J fun hna hma _ => ?_;refine S_someO 500 J (by (try simp at hna); (try simp only); omega) fun ga oa eA => ?_;obtain rfl : oa = 0 := off0_eq ((hqd2 ⟨Aa, ca, ta, pa⟩ (by simp)).2) eA
      subst eA
      refine S_rowB 500 60 J J J fun spa => ?_
      simp only at hna hma
      exact RK [74, 71, 72, 73, 15, 41, 43, 60, 61, 62] (Res.c1 Tk Tryz.results78 J J) ⟨_, [ta, tb, td], J, J, ⟨(hqd2 _ (List.mem_cons_self ..)).1, ⟨(hqd2 _ (List.mem_cons_of_mem _ (List.mem_cons_self ..))).1, ⟨(hqd2 _ (List.mem_cons_of_mem _ (List.mem_cons_of_mem _ (List.mem_cons_self ..)))).1, trivial⟩⟩⟩⟩ ⟨gP, gC, gR, gS, [ga, gb, gd], ⟨c5, spP, A15, c15, A41, c41, A43, c43, c7, spC, c11, spR, c44, spS, kg3 ca cb cd, sp3 spa spb spd⟩, ⟨0 + w8.length, [] ++ saidC w8, 0 + w6.length, [] ++ intC w6, 0 + w7.length, [] ++ intC w7⟩, J, ⟨⟨by simpa using hnP, hmP⟩, ⟨by simpa using hnC, hmC⟩, ⟨by simpa using hnR, hmR⟩, ⟨by simpa using hnS, hmS⟩, kg3_ok ⟨by simpa using hna, hma⟩ ⟨by simpa using hnb, hmb⟩ ⟨by simpa using hnd, hmd⟩⟩, ⟨⟨by simp, by simp⟩, ⟨by simp, by simp⟩, by simp, by simp⟩, J, J, J⟩ J (Wsub 15 J J J J J J J J J J J J J J J J (Bs 3 J J J J (Bs 3 J J J J (Bs 3 J J J J .nil)))) hext
end
section
attribute [local irreducible] X Pure Mod
def outP (p : Prc) : Prc := { p with todo := cpL p.todo 4 }
def Wld.out (W : Wld) : Wld := { W with procs := W.procs.map outP }
structure Fin3 (W : Wld) : Prop where
 n1 : 1 ≤ W.procs.length
 n3 : W.procs.length ≤ 3
 sd : W.said.length ≤ 1000000
 q0 : W.q0.length ≤ 1000000
 q1 : W.q1.length ≤ 1000000
 td : ∀ p ∈ W.procs, p.todo.length ≤ 1000000
theorem c_l3Out (W : Wld) (v : Value) (G : PH) (hW : WG G W v) (hF : Fin3 W) : Mod Tryz.prog 44 [v] G emptyHP (NPost W.out) := by
 have hW0 := hW
 obtain ⟨vp, vc, vr, vs, vd, rfl, hpr, hce, hro, hsg, hsd⟩ := hW
 obtain ⟨Ap, cp, rfl, _⟩ := id hpr
 obtain ⟨ps, w1, w2, w3, w4, w5, w6, w7, w8⟩ := W
 have hn1 := hF.n1
 have hn3 := hF.n3
 simp only at hn1 hn3 hpr hsg hsd
 refine Mod.intro Tryz.func44 Tryz.ntmps44 J J fun w S => ?_;refine Va J J ?_;refine S_box J J J J J fun b1 => ?_;refine Va J J ?_;refine AZ ZT_ok J J J J fun b2 => ?_;refine Va J J ?_;refine RF J (by simp; intro h; simp [h] at hn1) ?_;refine Va J J ?_;refine S_callN 20 Tryz.call78 (c_l3Copy _ _ G hW0 ⟨hn1, hn3⟩ ⟨hF.sd, hF.q0, hF.q1⟩ hF.td) J J J ?_;rintro v1 G1 A1 ⟨cs, ts, rfl, rfl, htd⟩ hext1
 refine S_newHP 20 J J ?_;refine S_csV 20 J ?_;rintro bp bc br bs kp asd ksd kc kr ks rfl
 refine Va J J ?_;refine AZ ZT_ok J J J J fun b3 => ?_;refine Va J J ?_;refine S_V2P 3 20 21 J J J J J J ?_;refine S_reE 3 (.val (.pointer (some ⟨b3, 0, none⟩))) J J ?_
 rcases shape hn1 hn3 htd with ⟨p0, A0, c0, rfl, rfl, s0⟩ | ⟨p0, A0, c0, p1, A1, c1, rfl, rfl, s0, s1⟩ | ⟨p0, A0, c0, p1, A1, c1, p2, A2, c2, rfl, rfl, s0, s1, s2⟩
 ·refine OpP 21 3 J J J J fun bp bc br bs bg kp sp asd ksd aq0 kq0 aq1 kq1 kc spc kr spr ks sps kg spg hbg hmk => ?_; obtain ⟨g0, rfl⟩ := len1 hbg; clear hbg; refine NM J J ?_; dsimp only [wEnts, wCels, procCs, regEs, WX.of, vi]
  refine S_unroll 1 ?_;refine Va J J ?_;refine RT J J ?_;refine Va J J ?_;refine Ds J J J ?_;refine Da J J ?_;refine D_sole 9 J J (N_call 9 Tryz.call79 (Cp_all _ 4 _ _ s0 (by omega)) J J J J J J J J J J ?_)
  rintro v9 G9 hv0 hx0
  obtain ⟨A9, c9, rfl, _⟩ := id hv0
  refine Da J J ?_;refine Ns 12 J J J J J J J J J ?_;refine DD ?_;refine Va J J ?_;refine S_add J J J J (by omega) ?_;refine Va J J ?_;refine S_next ?_;refine Va J J ?_;refine RF J J ?_;refine Va J J ?_;exact RK (wKeys 1) (Res.c1 Tk Tryz.results44 J J) ⟨_, [_], J, J, hv0, trivial⟩ (Wvp [_] kg spg J ‹_› J J J J J J J J J) J (Wsub 5 J J J J J J J J J J J J J J J J (Bs 3 J J J J .nil)) (hext1.trans hx0)
 ·refine OpP 21 3 J J J J fun bp bc br bs bg kp sp asd ksd aq0 kq0 aq1 kq1 kc spc kr spr ks sps kg spg hbg hmk => ?_; obtain ⟨g0, g1, rfl⟩ := len2 hbg; clear hbg; refine NM J J ?_; dsimp only [wEnts, wCels, procCs, regEs, WX.of, vi]
  refine S_unroll 2 ?_;refine Va J J ?_;refine RT J J ?_;refine Va J J ?_;refine Ds J J J ?_;refine Da J J ?_;refine D_sole 9 J J (N_call 9 Tryz.call79 (Cp_all _ 4 _ _ s0 (by omega)) J J J J J J J J J J ?_)
  rintro v9 G9 hv0 hx0
  obtain ⟨A9, c9, rfl, _⟩ := id hv0
  refine Da J J ?_;refine Ns 12 J J J J J J J J J ?_;refine DD ?_;refine Va J J ?_;refine S_add J J J J (by omega) ?_;refine Va J J ?_;refine S_next ?_;refine Va J J ?_;refine RT J J ?_;refine Va J J ?_;refine Ds J J J ?_;refine Da J J ?_;refine D_sole 9 J J (N_call 9 Tryz.call79 (Cp_all _ 4 _ _ (Sts_le hx0.le s1) (by omega)) J J J J J J J J J J ?_)
  rintro v9 G10 hv1 hx1
  obtain ⟨A9, c9, rfl, _⟩ := id hv1
  refine Da J J ?_;refine Ns 12 J J J J J J J J J ?_;refine DD ?_;refine Va J J ?_;refine S_add J J J J (by omega) ?_;refine Va J J ?_;refine S_next ?_;refine Va J J ?_;refine RF J J ?_;refine Va J J ?_;exact RK (wKeys 2) (Res.c1 Tk Tryz.results44 J J) ⟨_, [_, _], J, J, Sts_le hx1.le hv0, hv1, trivial⟩ (Wvp [_, _] kg spg J ‹_› J J J J J J J J J) J (Wsub 10 J J J J J J J J J J J J J J J J (Bs 3 J J J J (Bs 3 J J J J .nil))) ((hext1.trans hx0).trans hx1)
 ·refine OpP 21 3 J J J J fun bp bc br bs bg kp sp asd ksd aq0 kq0 aq1 kq1 kc spc kr spr ks sps kg spg hbg hmk => ?_; obtain ⟨g0, g1, g2, rfl⟩ := len3 hbg; clear hbg; refine NM J J ?_; dsimp only [wEnts, wCels, procCs, regEs, WX.of, vi]
  refine S_unroll 3 ?_;refine Va J J ?_;refine RT J J ?_;refine Va J J ?_;refine Ds J J J ?_;refine Da J J ?_;refine D_sole 9 J J (N_call 9 Tryz.call79 (Cp_all _ 4 _ _ s0 (by omega)) J J J J J J J J J J ?_)
  rintro v9 G9 hv0 hx0
  obtain ⟨A9, c9, rfl, _⟩ := id hv0
  refine Da J J ?_;refine Ns 12 J J J J J J J J J ?_;refine DD ?_;refine Va J J ?_;refine S_add J J J J (by omega) ?_;refine Va J J ?_;refine S_next ?_;refine Va J J ?_;refine RT J J ?_;refine Va J J ?_;refine Ds J J J ?_;refine Da J J ?_;refine D_sole 9 J J (N_call 9 Tryz.call79 (Cp_all _ 4 _ _ (Sts_le hx0.le s1) (by omega)) J J J J J J J J J J ?_)
  rintro v9 G10 hv1 hx1
  obtain ⟨A9, c9, rfl, _⟩ := id hv1
  refine Da J J ?_;refine Ns 12 J J J J J J J J J ?_;refine DD ?_;refine Va J J ?_;refine S_add J J J J (by omega) ?_;refine Va J J ?_;refine S_next ?_;refine Va J J ?_;refine RT J J ?_;refine Va J J ?_;refine Ds J J J ?_;refine Da J J ?_;refine D_sole 9 J J (N_call 9 Tryz.call79 (Cp_all _ 4 _ _ (Sts_le (hx0.le.trans hx1.le) s2) (by omega)) J J J J J J J J J J ?_)
  rintro v9 G11 hv2 hx2
  obtain ⟨A9, c9, rfl, _⟩ := id hv2
  refine Da J J ?_;refine Ns 12 J J J J J J J J J ?_;refine DD ?_;refine Va J J ?_;refine S_add J J J J (by omega) ?_;refine Va J J ?_;refine S_next ?_;refine Va J J ?_;refine RF J J ?_;refine Va J J ?_;exact RK (wKeys 3) (Res.c1 Tk Tryz.results44 J J) ⟨_, [_, _, _], J, J, Sts_le (hx1.le.trans hx2.le) hv0, Sts_le hx2.le hv1, hv2, trivial⟩ (Wvp [_, _, _] kg spg J ‹_› J J J J J J J J J) J (Wsub 15 J J J J J J J J J J J J J J J J (Bs 3 J J J J (Bs 3 J J J J (Bs 3 J J J J .nil)))) (((hext1.trans hx0).trans hx1).trans hx2)
theorem c_l3OutZ (G : PH) : Mod Tryz.prog 44 [wZero] G emptyHP fun v G' A' => v = wZero ∧ A' = emptyHP ∧ G' = G := by
 refine Mod.intro Tryz.func44 Tryz.ntmps44 J J fun w S => ?_;refine Va J J ?_;refine S_box J J J J J fun b1 => ?_;refine Va J J ?_;refine AZ ZT_ok J J J J fun b2 => ?_;refine Va J J ?_;refine RT J J ?_;refine Va J J ?_;exact S_retm 1 (Res.c1 Tk Tryz.results44 J J) J XR ⟨J, J, J⟩
end
section
attribute [local irreducible] X Pure Mod
mutual
def dpS : Stm → Nat
 | .mk _ _ _ _ x y => 1 + max (dpL x) (dpL y)
def dpL : List Stm → Nat
 | [] => 0
 | s :: r => max (dpS s) (dpL r)
end
theorem dpS_eq (s : Stm) : dpS s = 1 + max (dpL s.body) (dpL s.els) := by cases s; simp [dpS, Stm.body, Stm.els]
theorem dpL_append (L M : List Stm) : dpL (L ++ M) = max (dpL L) (dpL M) := by
 induction L with
 | nil => simp [dpL]
 | cons s L ih => simp only [List.cons_append, dpL, ih]; omega
theorem cpL_id : ∀ (n : Nat) (L : List Stm), dpL L ≤ n → cpL L n = L
 | 0, [], _ => rfl
 | 0, s :: L, h => by simp only [dpL, dpS_eq] at h; omega
 | n + 1, L, h => by
  rw [cpL_succ]
  induction L with
  | nil => rfl
  | cons s L ih =>
   simp only [dpL] at h
   rw [List.map_cons, ih (by omega)]
   obtain ⟨k, a, b, m, x, y⟩ := s
   simp only [dpS] at h
   simp only [cpS, cpL_id n x (by omega), cpL_id n y (by omega)]
theorem stmtOk_deep {k a b n : Int} {x y : List Stm} {d r : Int} (h : stmtOk (.mk k a b n x y) d r = true) : 1 ≤ d ∧ (∃ r', listOk x (d - 1) r' = true) ∧ ∃ r', listOk y (d - 1) r' = true := by
 simp only [stmtOk] at h
 split at h
 ·cases h
 rename_i h0
 simp only [Bool.or_eq_true, Bool.and_eq_true, decide_eq_true_eq, not_or, not_and] at h0
 have hy : k ≠ 6 → y = [] := fun hk => List.eq_nil_of_length_eq_zero (by have := h0.1 hk; omega)
 refine ⟨by omega, ?_⟩
 split at h
 ·simp only [Bool.and_eq_true] at h
  exact ⟨⟨_, h.1.2⟩, ⟨_, h.2⟩⟩
 split at h
 ·simp only [Bool.and_eq_true] at h
  exact ⟨⟨_, h.2⟩, 0, by rw [hy (by omega)]; rfl⟩
 ·simp only [Bool.and_eq_true, decide_eq_true_eq] at h
  rename_i h6 h8
  exact ⟨⟨0, by rw [List.eq_nil_of_length_eq_zero h.1]; rfl⟩, 0, by rw [hy (by omega)]; rfl⟩
theorem dpL_ok : ∀ (n : Nat) (L : List Stm) (d r : Int), listOk L d r = true → d ≤ n → dpL L ≤ n
 | n, [], d, r, _, _ => by simp [dpL]
 | 0, s :: L, d, r, h, hd => by
  simp only [listOk, Bool.and_eq_true] at h
  obtain ⟨k, a, b, m, x, y⟩ := s
  have := (stmtOk_deep h.1).1
  omega
 | n + 1, s :: L, d, r, h, hd => by
  simp only [listOk, Bool.and_eq_true] at h
  obtain ⟨k, a, b, m, x, y⟩ := s
  obtain ⟨h1, ⟨r1, h2⟩, r2, h3⟩ := stmtOk_deep h.1
  have a1 := dpL_ok n x (d - 1) r1 h2 (by omega)
  have a2 := dpL_ok n y (d - 1) r2 h3 (by omega)
  have a3 := dpL_ok (n + 1) L d r h.2 hd
  simp only [dpL, dpS]
  omega
theorem mx_many : ∀ (n : Nat) (L : List Stm) (d r : Int), listOk L d r = true → d ≤ n → (mx L : Int) ≤ many L d
 | n, [], d, r, _, _ => by simp [mx, many]
 | 0, s :: L, d, r, h, hd => by
  simp only [listOk, Bool.and_eq_true] at h
  obtain ⟨k, a, b, m, x, y⟩ := s
  have := (stmtOk_deep h.1).1
  omega
 | n + 1, s :: L, d, r, h, hd => by
  simp only [listOk, Bool.and_eq_true] at h
  obtain ⟨k, a, b, m, x, y⟩ := s
  obtain ⟨h1, ⟨r1, h2⟩, r2, h3⟩ := stmtOk_deep h.1
  have a1 := mx_many n x (d - 1) r1 h2 (by omega)
  have a2 := mx_many n y (d - 1) r2 h3 (by omega)
  have a3 := mx_many (n + 1) L d r h.2 hd
  have a4 := len_mx L
  simp only [mx, mxS, many, manyS, if_pos (show 0 < d by omega)]
  omega
def MB : Nat → Nat
 | 0 => 0
 | d + 1 => 1000000 * (1 + 2 * MB d)
theorem many_bnd : ∀ (d : Nat) (L : List Stm), Sh L → 0 ≤ many L d ∧ many L d ≤ MB d
 | 0, L, _ => by rw [many_zero L (by omega)]; simp [MB]
 | d + 1, L, h => by
  obtain ⟨K, hK⟩ : ∃ K, K = 1 + 2 * MB d := ⟨_, rfl⟩
  have key : ∀ (L : List Stm), shL L → 0 ≤ many L ((d + 1 : Nat) : Int) ∧ many L ((d + 1 : Nat) : Int) ≤ (L.length * K : Nat) := by
   intro L
   induction L with
   | nil => intro _; simp [many]
   | cons s L ih =>
    intro hs
    obtain ⟨h1, h2⟩ := hs
    have a1 := ih h2
    obtain ⟨k, a, b, m, x, y⟩ := s
    rw [Stm.short_mk] at h1
    have b1 := many_bnd d x h1.1
    have b2 := many_bnd d y h1.2
    have e : (((d + 1 : Nat) : Int) - 1) = (d : Nat) := by omega
    simp only [many, manyS, e, if_pos (show (0 : Int) < ((d + 1 : Nat) : Int) by omega), List.length_cons, Nat.succ_mul]
    omega
  obtain ⟨k1, k2⟩ := key L h.2
  refine ⟨k1, Int.le_trans k2 ?_⟩
  have := Nat.mul_le_mul_right K h.1
  simp only [MB, ← hK]
  omega
theorem MB3 : MB 3 ≤ 9000000000000000000 := by decide
theorem mx_ok {L : List Stm} (h : stmtsOk L = true) (hs : Sh L) : mx L ≤ 14 := by
 simp only [stmtsOk, Bool.and_eq_true, decide_eq_true_eq] at h
 have b := many_bnd 3 L hs
 have m3 := MB3
 rw [show ((3 : Nat) : Int) = 3 from rfl] at b
 have e : w64 (many L 3) = many L 3 := w64_eq ⟨by omega, by omega⟩
 rw [e] at h
 have := mx_many 3 L 3 (-1) h.1 (by omega)
 omega
theorem prog_parts {p : List (List Stm)} (h : progOk p = true) : (∀ l ∈ p, stmtsOk l = true) ∧ 1 ≤ p.length ∧ p.length ≤ 3 := by
 simp only [progOk, Bool.and_eq_true, decide_eq_true_eq, List.all_eq_true] at h
 exact ⟨h.1.1, h.1.2, h.2⟩
theorem Inv_open {p : List (List Stm)} (h : progOk p = true) (hs : ∀ l ∈ p, Sh l) : Inv (open0 p) 0 := by
 obtain ⟨h1, h2, h3⟩ := prog_parts h
 refine ⟨by simpa [open0] using h2, by simpa [open0] using h3, ?_, by simp [open0], by simp [open0], by simp [open0], by simp [open0], by simp [open0], by simp [open0]⟩
 intro q hq
 simp only [open0, List.mem_map] at hq
 obtain ⟨l, hl, rfl⟩ := hq
 have a1 := h1 l hl
 have a2 := mx_ok a1 (hs l hl)
 simp only [stmtsOk, Bool.and_eq_true] at a1
 exact ⟨by have := TOk.app a1.1 TOk.nil; simpa [proc0] using this, by simp only [proc0]; omega, .inl rfl, fun hx => absurd rfl hx, .inl rfl⟩
def Shl (W : Wld) : Prop := ∀ q ∈ W.procs, dpL q.todo ≤ 3
theorem Shl_open {p : List (List Stm)} (h : progOk p = true) : Shl (open0 p) := by
 obtain ⟨h1, _, _⟩ := prog_parts h
 intro q hq
 simp only [open0, List.mem_map] at hq
 obtain ⟨l, hl, rfl⟩ := hq
 have a1 := h1 l hl
 simp only [stmtsOk, Bool.and_eq_true] at a1
 exact dpL_ok 3 l 3 (-1) a1.1 (by omega)
theorem Shl.out {W : Wld} (h : Shl W) : W.out = W := by
 obtain ⟨ps, w1, w2, w3, w4, w5, w6, w7, w8⟩ := W
 show Wld.mk _ _ _ _ _ _ _ _ _ = Wld.mk _ _ _ _ _ _ _ _ _
 congr 1
 have h' : ∀ q ∈ ps, outP q = q := fun q hq => by
  have := h q hq
  simp only [outP]
  rw [cpL_id 4 q.todo (by omega)]
 clear h
 show ps.map outP = ps
 induction ps with
 | nil => rfl
 | cons q ps ih => rw [List.map_cons, h' q (List.mem_cons_self ..), ih fun x hx => h' x (List.mem_cons_of_mem _ hx)]
theorem Shl_upd {W : Wld} {who : Nat} {f : Prc → Prc} (h : Shl W) (hf : ∀ p, W.procs[who]? = some p → dpL (f p).todo ≤ 3) : Shl (W.upd who f) := by
 intro q hq
 rcases mem_updL' _ _ hq with hq | ⟨x, hx, rfl⟩
 ·exact h q hq
 ·exact hf x hx
theorem Shl_of {W V : Wld} (h : Shl W) (e : V.procs = W.procs) : Shl V := by unfold Shl; rw [e]; exact h
theorem dp_tail (L : List Stm) : dpL L.tail ≤ dpL L := by
 cases L with
 | nil => simp [dpL]
 | cons s r => simp only [List.tail_cons, dpL]; omega
theorem set_todo (p : Prc) (k v : Int) : (p.set k v).todo = p.todo := by unfold Prc.set; split; rfl; split <;> rfl
theorem ite_shl {c : Prop} [Decidable c] {A B : Wld} (h1 : Shl A) (h2 : Shl B) : Shl (if c then A else B) := by
 by_cases h : c
 ·rw [if_pos h]; exact h1
 ·rw [if_neg h]; exact h2
theorem Shl.step {W : Wld} (h : Shl W) (who : Nat) : Shl (W.step who) := by
 unfold Wld.step
 split
 ·rename_i p hp
  have hpd := h p (List.mem_of_getElem? hp)
  split
  ·exact Shl_upd (Shl_of h (setRm_procs ..)) fun q hq => by rw [setRm_procs] at hq; rw [hp] at hq; cases hq; exact hpd
  ·split
   ·exact h
   ·rename_i s r hT
    have hP : Shl (W.upd who pop) := Shl_upd h fun q hq => by rw [hp] at hq; cases hq; have := dp_tail p.todo; simp only [pop]; omega
    have hPp : (W.upd who pop).procs[who]? = some (pop p) := by
     show (updL _ _ _)[who]? = _
     rw [updL_get, hp]; rfl
    have hpt : (pop p).todo = r := by simp [pop, hT]
    have hsd : dpS s ≤ 3 ∧ dpL r ≤ 3 := by rw [hT] at hpd; simp only [dpL] at hpd; omega
    have hse := dpS_eq s
    have hlv : ∀ a, dpS (leaveS a) ≤ 3 := fun a => by simp [leaveS, dpS, dpL]
    unfold Wld.stepS
    refine ite_shl ?_ ?_
    ·exact Shl_upd hP fun q hq => by rw [hPp] at hq; cases hq; rw [set_todo, hpt]; exact hsd.2
    refine ite_shl ?_ ?_
    ·exact Shl_upd hP fun q hq => by rw [hPp] at hq; cases hq; rw [set_todo, hpt]; exact hsd.2
    refine ite_shl ?_ ?_
    ·exact Shl_upd hP fun q hq => by rw [hPp] at hq; cases hq; rw [set_todo, hpt]; exact hsd.2
    refine ite_shl ?_ ?_
    ·exact Shl_of hP (setCell_procs ..)
    refine ite_shl ?_ ?_
    ·exact Shl_of hP J
    refine ite_shl ?_ ?_
    ·refine Shl_upd hP fun q hq => ?_
     rw [hPp] at hq; cases hq
     simp only [dpL_append, hpt]
     split <;> omega
    refine ite_shl ?_ ?_
    ·refine Shl_upd hP fun q hq => ?_
     rw [hPp] at hq; cases hq
     simp only [dpL_append, hpt]
     split
     ·simp only [dpL]; omega
     ·simp only [dpL_append, dpL]; omega
    refine ite_shl ?_ ?_
    ·refine Shl_upd (Shl_of hP (setRm_procs ..)) fun q hq => ?_
     rw [setRm_procs, hPp] at hq; cases hq
     have := hlv s.a
     simp only [dpL_append, hpt, dpL]; omega
    refine ite_shl ?_ ?_
    ·refine Shl_of (Shl_upd (f := fun p => { p with mode := 1, on := s.a }) (Shl_of hP (setRm_procs _ _ 0)) fun q hq => ?_) (setQue_procs ..)
     rw [setRm_procs, hPp] at hq; cases hq
     show dpL (pop p).todo ≤ 3
     rw [hpt]; exact hsd.2
    refine ite_shl ?_ ?_
    ·unfold Wld.signal
     split
     ·exact hP
     ·refine Shl_of (Shl_upd (f := fun p => { p with mode := 2, on := 0 }) hP fun q hq => ?_) (setQue_procs ..)
      exact hP q (List.mem_of_getElem? hq)
    refine ite_shl ?_ ?_
    ·refine Shl_upd (Shl_of hP (setRm_procs ..)) fun q hq => ?_
     rw [setRm_procs, hPp] at hq; cases hq
     show dpL (pop p).todo ≤ 3
     rw [hpt]; exact hsd.2
    ·exact hP
 ·exact h
end
section
theorem Mod.intro0 {P : Program} {f : FuncId} {fn : Func} {c : Code} {vs : List Value} {G : PH} {Post : Value → PH → HP → Prop} {n : Nat} (hf : P.funcs[f]? = some fn) (hn : fn.ntmps = n) (hb : fn.body = some c) (hle : Nat.ble vs.length n = true)
  (hx : ∀ w, X (MC P n fn G Post w (fun _ => False)) [.code c] (envOf 0 vs) [] [.hp 1 emptyHP] G) : Mod P f vs G emptyHP Post := by
 have h1 : ∀ w, X (MC P n fn G Post w (fun _ => False)) [.code c] (envOf 0 vs) [] [.hp 1 emptyHP] G := hx
 intro w S hw hA hS
 have : S = fun _ => False := funext fun b => propext ⟨fun h => emptyHP_none hA b h, False.elim⟩
 subst this
 refine Enter (ι := []) (L := [.hp 1 emptyHP]) (G := G) (S0 := fun _ => False) hf hb hn hle ?_ (h1 w)
 refine ⟨rfl, rfl, rfl, Nat.le_refl _, fun _ _ _ => rfl, hw, [fun _ => False], ⟨hA, ⟨fun T hT => (by cases hT), trivial⟩⟩, ?_⟩
 intro T hT b hb
 rw [List.mem_singleton.1 hT] at hb
 exact hb.elim
attribute [local irreducible] X Pure Mod
theorem Fin3_of {W : Wld} {B : Nat} (h : Inv W B) (hB : B ≤ 1000000) : Fin3 W :=
 ⟨h.n1, h.n3, (h.rdy hB).sd, (h.rdy hB).q0, (h.rdy hB).q1, (h.rdy hB).tl⟩
theorem c_MeanOpen (p : List (List Stm)) (pv : Value) (G : PH) (hp : PrgS G p pv) : Mod Tryz.prog 89 [pv] G emptyHP (OPost p (open0 p)) := by
 obtain ⟨hpp, hsh, hpl⟩ := id hp
 obtain ⟨A, c, rfl, hl1, _⟩ := id hpp
 refine Mod.intro0 Tryz.func89 Tryz.ntmps89 J J fun w => ?_;refine Va J J ?_;refine AZ ZT_ok J J J J fun b2 => ?_;refine Va J J ?_;refine S_callN 20 Tryz.call41 (c_l3Open p _ G hp) J J J ?_;rintro v1 G1 A1 (⟨hpo, cs, ts, rfl, rfl, htd⟩ | ⟨hpo, rfl, rfl⟩) hext1
 ·have hI := Inv_open hpo hsh
  refine S_newHP 20 J J ?_;refine S_frzV 20 J J (fun _ h => h) htd hI.n3 ⟨by simp [open0], by simp [open0], by simp [open0]⟩ fun G2 hext2 hW => ?_;refine Va J J ?_;refine S_callN 21 Tryz.call44 (c_l3Out _ _ _ hW (Fin3_of hI (by omega))) J J J ?_;rintro v3 G3 A3 ⟨cs3, ts3, rfl, rfl, htd3⟩ hext3
  refine S_newHP 21 J J ?_;refine S_csV 21 J ?_;rintro bp bc br bs kp asd ksd kc kr ks rfl
  refine Va J J ?_;exact S_retm 21 (Res.c1 Tk Tryz.results89 J J) J ((hext1.trans hext2).trans hext3) (.inl ⟨hpo, _, ts3, J, by rw [(Shl_open hpo).out], by rw [(Shl_open hpo).out] at htd3; exact htd3⟩)
 ·refine Va J J ?_
  refine S_callN 21 Tryz.call44 (c_l3OutZ G1) J J J ?_;rintro v3 G3 A3 ⟨rfl, rfl, rfl⟩ hext3
  refine Va J J ?_;exact S_retm 1 (Res.c1 Tk Tryz.results89 J J) J hext1 (.inr ⟨hpo, J, J⟩)
def canV (W : Wld) (v : Value) (G : PH) : Prop := ∃ l, Ints G l v ∧ (∀ x ∈ l, 0 ≤ x ∧ x < W.procs.length) ∧ l.length ≤ 3
theorem c_l3Can (W : Wld) (cs ts : List Value) (B : Nat) (G : PH) (hI : Inv W B) (ht : Tds G W.procs ts) : Mod Tryz.prog 91 [.agg cs.toArray] G (worldV cs W ts) fun v G' A' => canV W v G' ∧ A' = worldV cs W ts := by
 have hn3 := hI.n3
 refine Mod.intro Tryz.func91 Tryz.ntmps91 J J fun w S => ?_;refine S_csV 1 J ?_;rintro bp bc br bs kp asd ksd kc kr ks rfl
 refine Va J J ?_;refine S_box J J J J J fun b1 => ?_;refine Va J J ?_;refine S_emptyO Tk 5 J J J J fun A0 => ?_;refine Va J J ?_;refine S_loop (α := Nat × Option Addr × Nat × List Int) (fun y => y.1 ≤ W.procs.length ∧ y.2.2.2.length ≤ y.1 ∧ ∀ x ∈ y.2.2.2, 0 ≤ x ∧ x < W.procs.length) (fun y => W.procs.length - y.1) [(1, b1)]
  (fun y => [(4, .val (.int .i64 (y.1 : Nat))), (3, .val (.slice y.2.1 y.2.2.2.length y.2.2.1)), (1, .ptr 1 0)])
  (fun y => [.hp 5 (rowO w.heap.size 3 1 y.2.1 y.2.2.2.length y.2.2.1 (intC y.2.2.2)), .blk 1 31 (vL [.slice (some ⟨bp, 0, none⟩) W.procs.length kp, .slice (some ⟨bc, 0, none⟩) 3 kc, .slice (some ⟨br, 0, none⟩) 2 kr, .slice (some ⟨bs, 0, none⟩) 2 ks, .slice asd W.said.length ksd]), .hp 1 (worldV [.slice (some ⟨bp, 0, none⟩) W.procs.length kp, .slice (some ⟨bc, 0, none⟩) 3 kc, .slice (some ⟨br, 0, none⟩) 2 kr, .slice (some ⟨bs, 0, none⟩) 2 ks, .slice asd W.said.length ksd] W ts)]) (fun y => G) (0, A0, 0, []) ⟨Nat.zero_le _, by simp, by simp⟩ rfl ?_ ?_ ?_
 ·exact ⟨⟨_, J, J⟩, ⟨_, J, J⟩, ⟨_, J, J⟩, trivial⟩
 ·exact .hp (.blk J J (.hp .nil))
 rintro ⟨i, A5, c5, q⟩ ⟨hi, hq, hqx⟩
 simp only at hi hq hqx ⊢
 refine Va J J ?_
 refine S_condp J (fun h5 => ?_) (fun h5 => ?_) <;> refine Va J J ?_
 ·refine S_callM 1 Tryz.call59 (c_l3Code W (i : Nat) _ ts G hI.n1 hI.n3 ht hI.head ⟨hI.m0, hI.m1⟩) J J J J (fun _ => J) ?_
  rintro v G2 A' ⟨rfl, rfl, rfl⟩ _
  refine Va J J ?_
  refine S_condp J (fun h6 => ?_) (fun h6 => ?_) <;> refine Va J J ?_
  ·refine S_slice Tk ZT_ok J J J J (by decide) (by decide) J J J J fun b2 => ?_
   refine Va J J ?_;refine S_app1 Tk 5 19 J J J J J J J J J J J J J J (by intro u hu; simp at hu; rcases hu with rfl; rfl) rfl (fun _ _ => rfl) (by omega) (Nat.le_refl _) fun A6 c6 => ?_;refine Va J J ?_;refine S_add J J J J (by omega) ?_;refine Va J J ?_;refine S_again (i + 1, A6, c6, q ++ [(i : Int)]) ⟨by simp only; omega, by simp; omega, ?_⟩ (by simp only; omega) rfl ⟨⟨_, rfl, by simp [denO]⟩, ⟨_, rfl, by simp [denO]⟩, ⟨_, rfl, rfl⟩, trivial⟩ ?_
   ·intro x hx
    rcases List.mem_append.1 hx with hx | hx
    ·exact hqx x hx
    ·rw [List.mem_singleton.1 hx]; omega
   ·simp only [List.length_append, List.length_singleton, intC_append]
    exact .drop (.hp (.blk J J (.hp .nil)))
  ·refine S_add J J J J (by omega) ?_
   refine Va J J ?_;exact S_again (i + 1, A5, c5, q) ⟨by simp only; omega, by simp only; omega, hqx⟩ (by simp only; omega) rfl ⟨⟨_, rfl, by simp [denO]⟩, ⟨_, rfl, by simp [denO]⟩, ⟨_, rfl, rfl⟩, trivial⟩ (.hp (.blk rfl rfl (.hp .nil)))
 ·refine S_freezeR 5 J J (Nat.le_refl _) fun Gf hextf hncf hcmf hclf => ?_
  have hvf : Ints Gf q _ := frz (Cs_intC fun x hx => by have := hqx x hx; exact ⟨by omega, by omega⟩) J (by omega) hncf hcmf hclf
  exact S_retm 1 (Res.t1 Tryz.results91 J J) J hextf ⟨⟨q, hvf, hqx, by omega⟩, J⟩
theorem c_l3CanZ (G : PH) : Pure Tryz.prog 91 [wZero] G fun v G' => ∃ A, v = .slice A 0 0 := by
 refine Pure.intro Tryz.func91 Tryz.ntmps91 J J fun w => ?_; refine Va J J ?_;refine S_box J J J J J fun b1 => ?_;refine Va J J ?_;refine S_emptyO Tk 5 J J J J fun A0 => ?_;refine Va J J ?_;refine S_unroll 1 ?_;refine Va J J ?_;refine RF J J ?_;refine Va J J ?_;exact S_retp (Res.t1 Tryz.results91 J J) XR ⟨A0, J⟩
end
section
attribute [local irreducible] X Pure Mod
theorem c_l3CodeZ (who : Int) (G : PH) : Pure Tryz.prog 59 [wZero, .int .i64 who] G fun v G' => v = .int .i64 3 ∧ G' = G := by
 refine Pure.intro Tryz.func59 Tryz.ntmps59 J J fun w => ?_; refine Va J J ?_;refine S_box J J J J J fun b1 => ?_;refine Va J J ?_;refine RT J (by simp; omega) ?_;refine Va J J ?_;exact S_retp (Res.t1 Tryz.results59 J J) XR ⟨J, J⟩
theorem code0_who {W : Wld} {who : Int} (h : codeOf W who = 0) : ∃ k : Nat, who = k ∧ k < W.procs.length := by
 unfold codeOf at h
 split at h
 ·cases h
 ·rename_i h1
  exact ⟨who.toNat, by omega, by omega⟩
structure WV where
 bp : Nat
 bc : Nat
 br : Nat
 bs : Nat
 kp : Nat
 asd : Option Addr
 ksd : Nat
 kc : Nat
 kr : Nat
 ks : Nat
def WV.cs (x : WV) (W : Wld) : List Value := [.slice (some ⟨x.bp, 0, none⟩) W.procs.length x.kp, .slice (some ⟨x.bc, 0, none⟩) 3 x.kc, .slice (some ⟨x.br, 0, none⟩) 2 x.kr, .slice (some ⟨x.bs, 0, none⟩) 2 x.ks, .slice x.asd W.said.length x.ksd]
structure PS where
 i : Nat
 M : Nat
 B : Nat
 V : Wld
 x : WV
 ts : List Value
 A : Option Addr
 c : Nat
 l : List Int
 G : PH
def pickV (v : Value) (G : PH) : Prop := ∃ l, Ints G l v ∧ l.length ≤ 201
theorem c_l3Picks (b : Nat) (l : List Int) (sv : Value) (p : List (List Stm)) (pv : Value) (N : Nat) (G : PH) (hl : Byts G l sv) (hp : PrgS G p pv) (hN : N + 2000 ≤ 1000000000) : Drw 50 b sv [pv] N 2000 G pickV := by
 obtain ⟨A, c, rfl, hl1, _⟩ := id hl
 obtain ⟨Ap, cp, rfl, _⟩ := id hp.1
 refine Mod.intro Tryz.func50 Tryz.ntmps50 J J fun w S => ?_;refine Va J J ?_;refine S_emptyO Tk 5 J J J J fun A0 => ?_;refine Va J J ?_;refine S_callN 20 Tryz.call89 (c_MeanOpen p _ G hp) J J J ?_;rintro v1 G1 A1 (⟨hpo, cs, ts, rfl, rfl, htd⟩ | ⟨hpo, rfl, rfl⟩) hext1
 ·have hI0 := Inv_open hpo hp.2.1
  refine S_newHP 20 J J ?_;refine S_csV 20 J ?_;rintro bp bc br bs kp asd ksd kc kr ks rfl
  refine Va J J ?_;refine AZ ZT_ok J J J J fun b6 => ?_;refine Va J J ?_;refine S_callM 1 Tryz.call32 (c_pick b l _ _ N G1 (Byts_le hext1.le hl) ⟨by omega, by omega⟩ (by omega)) J J J J (fun _ => J) ?_;rintro v G2 A' ⟨rfl, rfl, m, rfl, h0, h1⟩ _
  refine Va J J ?_;refine S_add J J J J (by omega) ?_;refine Va J J ?_;refine S_sliceG Tk ZT_ok J J J J (by decide) (by decide) J J J J (fun _ => J) fun bq Gq hxq hcq => ?_;refine Va J J ?_
  have hq7 : Ints Gq [10, 20, 35, 60, 5, 0, 200 + m] (.slice (some ⟨bq, 0, none⟩) 7 7) := ints_of hcq rfl (Nat.le_refl _) (by decide) (by decide) (by intro x hx; simp only [List.mem_cons, List.not_mem_nil, or_false] at hx; exact ⟨by omega, by omega⟩)
  refine S_callM 1 Tryz.call33 (c_num b l _ _ _ _ _ (Byts_le (hext1.trans hxq).le hl) hq7 (by simp) (by omega)) J J J J (fun _ => J) ?_;rintro v G' A' ⟨rfl, rfl, n7, hmem, rfl⟩ _
  have hn7 : 0 ≤ n7 ∧ n7 ≤ 201 := by (simp only [List.mem_cons, List.not_mem_nil, or_false] at hmem); omega
  obtain ⟨n7, rfl⟩ := Int.eq_ofNat_of_zero_le hn7.1
  refine Va J J ?_
  have hl0 := hl
  refine S_pick [20, 5, 6, 1] J ?_;refine S_loop (α := PS) (fun y => y.i + y.l.length ≤ 201 ∧ y.M + y.i * 5 ≤ N + 2000 ∧ PH.ext w.heap.size G y.G ∧ (Inv y.V y.B ∧ y.B + y.i ≤ 1000) ∧ Tds y.G y.V.procs y.ts ∧ y.l.length ≤ 201 ∧ ∀ x ∈ y.l, I64 x) (fun y => y.i) [(6, b6)]
   (fun y => [(7, .val (.int .i64 (y.i : Nat))), (5, .val (.slice y.A y.l.length y.c)), (6, .ptr 6 0), (0, .val (.pointer (some ⟨b, 0, none⟩)))])
   (fun y => [.hp 20 (worldV (y.x.cs y.V) y.V y.ts), .hp 5 (rowO w.heap.size 3 1 y.A y.l.length y.c (intC y.l)), .blk 6 31 (vL (y.x.cs y.V)), .hp 1 (rdHP b (.slice A l.length c) y.M)]) (fun y => y.G) ⟨n7, N + 1 + 1, 0, open0 p, ⟨bp, bc, br, bs, kp, asd, ksd, kc, kr, ks⟩, ts, A0, 0, [], G'⟩ ⟨by simp only [List.length_nil]; omega, by simp only; omega, hext1.trans hxq, ⟨hI0, by simp only; omega⟩, Tds_le hxq.le htd, by simp, by simp⟩ rfl ?_ ?_ ?_
  ·exact ⟨⟨_, J, J⟩, ⟨_, J, J⟩, ⟨_, J, J⟩, ⟨_, J, J⟩, trivial⟩
  ·exact .hp (.hp (.blk J J (.hp .nil)))
  rintro ⟨i, M, B1, V, ⟨bp1, bc1, br1, bs1, kp1, asd1, ksd1, kc1, kr1, ks1⟩, ts1, A1, c1, l1, G1⟩ ⟨hi, hM, hext, ⟨hI, hB⟩, ht, hll, hl1⟩
  simp only [WV.cs] at hi hM hext hI hB ht hll hl1 ⊢
  have hn1 := hI.n1
  have hn3 := hI.n3
  refine Va J J ?_
  refine S_condp J (fun h => ?_) (fun h => ?_) <;> refine Va J J ?_
  ·obtain ⟨j, rfl⟩ : ∃ j, i = j + 1 := ⟨i - 1, by omega⟩
   refine S_call Tryz.call90 (c_l1Max _ _ _) J J J ?_;rintro v G3 ⟨rfl, rfl⟩ _
   refine Va J J ?_;refine S_callM 1 Tryz.call32 (c_pick b l _ _ _ _ (Byts_le hext.le hl0) ⟨by omega, by omega⟩ (by omega)) J J J J (fun _ => J) ?_;rintro v G3 A' ⟨rfl, rfl, m4, rfl, hm40, hm41⟩ _
   refine Va J J ?_;refine S_callM 20 Tryz.call91 (c_l3Can V _ ts1 B1 _ hI ht) J J J J (fun _ => J) ?_;rintro v G4 A' ⟨⟨can, hcan, hcx, hc3⟩, rfl⟩ hx4
   obtain ⟨Ac, cc, rfl, _⟩ := id hcan
   refine Va J J ?_
   refine S_guardp J J (fun h5 => ?_) (fun h5 => ?_) <;> refine Va J J ?_
   ·refine S_callM 1 Tryz.call32 (c_pick b l _ _ _ _ (Byts_le (hext.trans hx4).le hl0) ⟨by omega, by omega⟩ (by omega)) J J J J (fun _ => J) ?_
    rintro v G5 A' ⟨rfl, rfl, m5, rfl, hm50, hm51⟩ _
    refine Va J J ?_
    refine S_condp J (fun h6 => ?_) (fun h6 => ?_) <;> refine Va J J ?_
    ·refine S_callM 1 Tryz.call32 (c_pick b l _ _ _ _ (Byts_le (hext.trans hx4).le hl0) ⟨by omega, by omega⟩ (by omega)) J J J J (fun _ => J) ?_
     rintro v G5 A' ⟨rfl, rfl, m6, rfl, hm60, hm61⟩ _
     refine Va J J ?_;obtain ⟨ad, cs5, eA, hcs5, rfl, hi5⟩ := Sr_at hcan (k := m6.toNat) (by omega)
     cases eA
     have hcx5 := hcx _ (List.getElem_mem (l := can) (n := m6.toNat) (by omega))
     generalize can[m6.toNat] = who5 at hcs5 hi5 hcx5
     refine S_index Tk J J J J J J (by omega) (by omega) ?_;refine Va J J ?_;refine S_load Tk J J J J J hcs5.1 ?_;refine Va J J ?_;refine S_callM 1 Tryz.call32 (c_pick b l _ _ _ _ (Byts_le (hext.trans (hx4)).le hl0) ⟨by omega, by omega⟩ (by omega)) J J J J (fun _ => J) ?_;rintro v G9 A' ⟨rfl, rfl, m9, rfl, hm90, hm91⟩ _
     refine Va J J ?_
     refine S_condp J (fun h9 => ?_) (fun h9 => ?_) <;> refine Va J J ?_
     ·refine S_sliceG Tk ZT_ok J J J J (by decide) (by decide) J J J J (fun _ => J) fun bq9 Gq9 hxq9 hcq9 => ?_
      refine Va J J ?_;refine S_callM 1 Tryz.call33 (c_numL b [-1, 3, 9] (Byts_le ((hext.trans (hx4)).trans hxq9).le hl0) hcq9 J (Nat.le_refl _) (by decide) (by decide) (i64_small (by decide)) (by omega)) J J J J (fun _ => J) ?_;rintro v G' A' ⟨rfl, rfl, who, hmem9, rfl⟩ _
      have hwho : I64 who := i64_small (l := [-1, 3, 9]) (by decide) who hmem9
      refine Va J J ?_;refine S_callM 20 Tryz.call59 (c_l3Code V (who) _ ts1 _ hI.n1 hI.n3 (Tds_le (PH.ext.le (((hx4).trans hxq9))) ht) hI.head ⟨hI.m0, hI.m1⟩) J J J J (fun _ => J) ?_;rintro v G7 A' ⟨rfl, rfl, rfl⟩ _
      refine Va J J ?_
      refine S_condp J (fun h7 => ?_) (fun h7 => ?_) <;> refine Va J J ?_
      ·obtain ⟨k, hk, hkl⟩ := code0_who h7
       have h7' : codeOf V (k : Nat) = 0 := hk ▸ h7
       rw [hk] at hwho ⊢
       refine S_callM 20 Tryz.call61 (c_l3Step V k _ ts1 _ (hI.rdy (by omega)) (Tds_le (PH.ext.le (((hx4).trans hxq9))) ht) hkl (hI.go h7')) J J J J (fun _ => J) ?_;rintro v G8 A' ⟨cs8, ts8, rfl, rfl, ht8⟩ hext8
       refine S_csV 20 J ?_;rintro bp8 bc8 br8 bs8 kp8 asd8 ksd8 kc8 kr8 ks8 rfl
       refine Va J J ?_;refine S_slice Tk ZT_ok J J J J (by decide) (by decide) J J J J fun b2 => ?_;refine Va J J ?_;refine S_app1 Tk 5 61 J J J J J J J J J J J J J J (by intro u hu; simp at hu; rcases hu with rfl; rfl) rfl (fun _ _ => rfl) (by omega) (Nat.le_refl _) fun A6 c6 => ?_;refine Va J J ?_;refine S_subI J J J J (by omega) ?_;refine Va J J ?_;refine S_pick [20, 5, 6, 1] J ?_;refine S_rdLe 1 ((M + 5)) (by omega) J J ?_
       refine S_again ⟨j, (M + 5), B1 + 1, V.step k, ⟨bp8, bc8, br8, bs8, kp8, asd8, ksd8, kc8, kr8, ks8⟩, ts8, A6, c6, l1 ++ [(k : Int)], G8⟩ ⟨by simp only [List.length_append, List.length_singleton]; omega, by simp only; omega, (hext.trans (((hx4).trans hxq9))).trans hext8, ⟨hI.step hkl h7', by simp only; omega⟩, ht8, by simp only [List.length_append, List.length_singleton]; omega, ?_⟩ (by simp only; omega) rfl ⟨⟨_, rfl, by simp [denO]⟩, ⟨_, rfl, by simp [denO]⟩, ⟨_, rfl, rfl⟩, ⟨_, rfl, rfl⟩, trivial⟩ ?_
       ·intro x hx
        rcases List.mem_append.1 hx with hx | hx
        ·exact hl1 x hx
        ·rw [List.mem_singleton.1 hx]; exact hwho
       ·simp only [List.length_append, List.length_singleton, intC_append, WV.cs]
        exact .hp (.hp (.blk J J (.hp .nil)))
      ·refine S_slice Tk ZT_ok J J J J (by decide) (by decide) J J J J fun b2 => ?_
       refine Va J J ?_;refine S_app1 Tk 5 61 J J J J J J J J J J J J J J (by intro u hu; simp at hu; rcases hu with rfl; rfl) rfl (fun _ _ => rfl) (by omega) (Nat.le_refl _) fun A6 c6 => ?_;refine Va J J ?_;refine S_subI J J J J (by omega) ?_;refine Va J J ?_;refine S_pick [20, 5, 6, 1] J ?_;refine S_rdLe 1 ((M + 5)) (by omega) J J ?_;refine S_again ⟨j, (M + 5), B1, V, ⟨bp1, bc1, br1, bs1, kp1, asd1, ksd1, kc1, kr1, ks1⟩, ts1, A6, c6, l1 ++ [who], _⟩ ⟨by simp only [List.length_append, List.length_singleton]; omega, by simp only; omega, hext.trans (((hx4).trans hxq9)), ⟨hI, by simp only; omega⟩, Tds_le (PH.ext.le (((hx4).trans hxq9))) ht, by simp only [List.length_append, List.length_singleton]; omega, ?_⟩ (by simp only; omega) rfl ⟨⟨_, rfl, by simp [denO]⟩, ⟨_, rfl, by simp [denO]⟩, ⟨_, rfl, rfl⟩, ⟨_, rfl, rfl⟩, trivial⟩ ?_
       ·intro x hx
        rcases List.mem_append.1 hx with hx | hx
        ·exact hl1 x hx
        ·rw [List.mem_singleton.1 hx]; exact hwho
       ·simp only [List.length_append, List.length_singleton, intC_append, WV.cs]
        exact .hp (.hp (.blk J J (.hp .nil)))
     ·have hwho : I64 (who5) := ⟨by omega, by omega⟩
      refine S_callM 20 Tryz.call59 (c_l3Code V (who5) _ ts1 _ hI.n1 hI.n3 (Tds_le (PH.ext.le (hx4)) ht) hI.head ⟨hI.m0, hI.m1⟩) J J J J (fun _ => J) ?_;rintro v G7 A' ⟨rfl, rfl, rfl⟩ _
      refine Va J J ?_
      refine S_condp J (fun h7 => ?_) (fun h7 => ?_) <;> refine Va J J ?_
      ·obtain ⟨k, hk, hkl⟩ := code0_who h7
       have h7' : codeOf V (k : Nat) = 0 := hk ▸ h7
       rw [hk] at hwho ⊢
       refine S_callM 20 Tryz.call61 (c_l3Step V k _ ts1 _ (hI.rdy (by omega)) (Tds_le (PH.ext.le (hx4)) ht) hkl (hI.go h7')) J J J J (fun _ => J) ?_;rintro v G8 A' ⟨cs8, ts8, rfl, rfl, ht8⟩ hext8
       refine S_csV 20 J ?_;rintro bp8 bc8 br8 bs8 kp8 asd8 ksd8 kc8 kr8 ks8 rfl
       refine Va J J ?_;refine S_slice Tk ZT_ok J J J J (by decide) (by decide) J J J J fun b2 => ?_;refine Va J J ?_;refine S_app1 Tk 5 61 J J J J J J J J J J J J J J (by intro u hu; simp at hu; rcases hu with rfl; rfl) rfl (fun _ _ => rfl) (by omega) (Nat.le_refl _) fun A6 c6 => ?_;refine Va J J ?_;refine S_subI J J J J (by omega) ?_;refine Va J J ?_;refine S_pick [20, 5, 6, 1] J ?_;refine S_rdLe 1 ((M + 5)) (by omega) J J ?_
       refine S_again ⟨j, (M + 5), B1 + 1, V.step k, ⟨bp8, bc8, br8, bs8, kp8, asd8, ksd8, kc8, kr8, ks8⟩, ts8, A6, c6, l1 ++ [(k : Int)], G8⟩ ⟨by simp only [List.length_append, List.length_singleton]; omega, by simp only; omega, (hext.trans (hx4)).trans hext8, ⟨hI.step hkl h7', by simp only; omega⟩, ht8, by simp only [List.length_append, List.length_singleton]; omega, ?_⟩ (by simp only; omega) rfl ⟨⟨_, rfl, by simp [denO]⟩, ⟨_, rfl, by simp [denO]⟩, ⟨_, rfl, rfl⟩, ⟨_, rfl, rfl⟩, trivial⟩ ?_
       ·intro x hx
        rcases List.mem_append.1 hx with hx | hx
        ·exact hl1 x hx
        ·rw [List.mem_singleton.1 hx]; exact hwho
       ·simp only [List.length_append, List.length_singleton, intC_append, WV.cs]
        exact .hp (.hp (.blk J J (.hp .nil)))
      ·refine S_slice Tk ZT_ok J J J J (by decide) (by decide) J J J J fun b2 => ?_
       refine Va J J ?_;refine S_app1 Tk 5 61 J J J J J J J J J J J J J J (by intro u hu; simp at hu; rcases hu with rfl; rfl) rfl (fun _ _ => rfl) (by omega) (Nat.le_refl _) fun A6 c6 => ?_;refine Va J J ?_;refine S_subI J J J J (by omega) ?_;refine Va J J ?_;refine S_pick [20, 5, 6, 1] J ?_;refine S_rdLe 1 ((M + 5)) (by omega) J J ?_;refine S_again ⟨j, (M + 5), B1, V, ⟨bp1, bc1, br1, bs1, kp1, asd1, ksd1, kc1, kr1, ks1⟩, ts1, A6, c6, l1 ++ [who5], _⟩ ⟨by simp only [List.length_append, List.length_singleton]; omega, by simp only; omega, hext.trans (hx4), ⟨hI, by simp only; omega⟩, Tds_le (PH.ext.le (hx4)) ht, by simp only [List.length_append, List.length_singleton]; omega, ?_⟩ (by simp only; omega) rfl ⟨⟨_, rfl, by simp [denO]⟩, ⟨_, rfl, by simp [denO]⟩, ⟨_, rfl, rfl⟩, ⟨_, rfl, rfl⟩, trivial⟩ ?_
       ·intro x hx
        rcases List.mem_append.1 hx with hx | hx
        ·exact hl1 x hx
        ·rw [List.mem_singleton.1 hx]; exact hwho
       ·simp only [List.length_append, List.length_singleton, intC_append, WV.cs]
        exact .hp (.hp (.blk J J (.hp .nil)))
    ·refine S_callM 1 Tryz.call32 (c_pick b l _ _ _ _ (Byts_le (hext.trans (hx4)).le hl0) ⟨by omega, by omega⟩ (by omega)) J J J J (fun _ => J) ?_
     rintro v G9 A' ⟨rfl, rfl, m9, rfl, hm90, hm91⟩ _
     refine Va J J ?_
     refine S_condp J (fun h9 => ?_) (fun h9 => ?_) <;> refine Va J J ?_
     ·refine S_sliceG Tk ZT_ok J J J J (by decide) (by decide) J J J J (fun _ => J) fun bq9 Gq9 hxq9 hcq9 => ?_
      refine Va J J ?_;refine S_callM 1 Tryz.call33 (c_numL b [-1, 3, 9] (Byts_le ((hext.trans (hx4)).trans hxq9).le hl0) hcq9 J (Nat.le_refl _) (by decide) (by decide) (i64_small (by decide)) (by omega)) J J J J (fun _ => J) ?_;rintro v G' A' ⟨rfl, rfl, who, hmem9, rfl⟩ _
      have hwho : I64 who := i64_small (l := [-1, 3, 9]) (by decide) who hmem9
      refine Va J J ?_;refine S_callM 20 Tryz.call59 (c_l3Code V (who) _ ts1 _ hI.n1 hI.n3 (Tds_le (PH.ext.le (((hx4).trans hxq9))) ht) hI.head ⟨hI.m0, hI.m1⟩) J J J J (fun _ => J) ?_;rintro v G7 A' ⟨rfl, rfl, rfl⟩ _
      refine Va J J ?_
      refine S_condp J (fun h7 => ?_) (fun h7 => ?_) <;> refine Va J J ?_
      ·obtain ⟨k, hk, hkl⟩ := code0_who h7
       have h7' : codeOf V (k : Nat) = 0 := hk ▸ h7
       rw [hk] at hwho ⊢
       refine S_callM 20 Tryz.call61 (c_l3Step V k _ ts1 _ (hI.rdy (by omega)) (Tds_le (PH.ext.le (((hx4).trans hxq9))) ht) hkl (hI.go h7')) J J J J (fun _ => J) ?_;rintro v G8 A' ⟨cs8, ts8, rfl, rfl, ht8⟩ hext8
       refine S_csV 20 J ?_;rintro bp8 bc8 br8 bs8 kp8 asd8 ksd8 kc8 kr8 ks8 rfl
       refine Va J J ?_;refine S_slice Tk ZT_ok J J J J (by decide) (by decide) J J J J fun b2 => ?_;refine Va J J ?_;refine S_app1 Tk 5 61 J J J J J J J J J J J J J J (by intro u hu; simp at hu; rcases hu with rfl; rfl) rfl (fun _ _ => rfl) (by omega) (Nat.le_refl _) fun A6 c6 => ?_;refine Va J J ?_;refine S_subI J J J J (by omega) ?_;refine Va J J ?_;refine S_pick [20, 5, 6, 1] J ?_;refine S_rdLe 1 ((M + 5)) (by omega) J J ?_
       refine S_again ⟨j, (M + 5), B1 + 1, V.step k, ⟨bp8, bc8, br8, bs8, kp8, asd8, ksd8, kc8, kr8, ks8⟩, ts8, A6, c6, l1 ++ [(k : Int)], G8⟩ ⟨by simp only [List.length_append, List.length_singleton]; omega, by simp only; omega, (hext.trans (((hx4).trans hxq9))).trans hext8, ⟨hI.step hkl h7', by simp only; omega⟩, ht8, by simp only [List.length_append, List.length_singleton]; omega, ?_⟩ (by simp only; omega) rfl ⟨⟨_, rfl, by simp [denO]⟩, ⟨_, rfl, by simp [denO]⟩, ⟨_, rfl, rfl⟩, ⟨_, rfl, rfl⟩, trivial⟩ ?_
       ·intro x hx
        rcases List.mem_append.1 hx with hx | hx
        ·exact hl1 x hx
        ·rw [List.mem_singleton.1 hx]; exact hwho
       ·simp only [List.length_append, List.length_singleton, intC_append, WV.cs]
        exact .hp (.hp (.blk J J (.hp .nil)))
      ·refine S_slice Tk ZT_ok J J J J (by decide) (by decide) J J J J fun b2 => ?_
       refine Va J J ?_;refine S_app1 Tk 5 61 J J J J J J J J J J J J J J (by intro u hu; simp at hu; rcases hu with rfl; rfl) rfl (fun _ _ => rfl) (by omega) (Nat.le_refl _) fun A6 c6 => ?_;refine Va J J ?_;refine S_subI J J J J (by omega) ?_;refine Va J J ?_;refine S_pick [20, 5, 6, 1] J ?_;refine S_rdLe 1 ((M + 5)) (by omega) J J ?_;refine S_again ⟨j, (M + 5), B1, V, ⟨bp1, bc1, br1, bs1, kp1, asd1, ksd1, kc1, kr1, ks1⟩, ts1, A6, c6, l1 ++ [who], _⟩ ⟨by simp only [List.length_append, List.length_singleton]; omega, by simp only; omega, hext.trans (((hx4).trans hxq9)), ⟨hI, by simp only; omega⟩, Tds_le (PH.ext.le (((hx4).trans hxq9))) ht, by simp only [List.length_append, List.length_singleton]; omega, ?_⟩ (by simp only; omega) rfl ⟨⟨_, rfl, by simp [denO]⟩, ⟨_, rfl, by simp [denO]⟩, ⟨_, rfl, rfl⟩, ⟨_, rfl, rfl⟩, trivial⟩ ?_
       ·intro x hx
        rcases List.mem_append.1 hx with hx | hx
        ·exact hl1 x hx
        ·rw [List.mem_singleton.1 hx]; exact hwho
       ·simp only [List.length_append, List.length_singleton, intC_append, WV.cs]
        exact .hp (.hp (.blk J J (.hp .nil)))
     ·have hwho : I64 (m4) := ⟨by omega, by omega⟩
      refine S_callM 20 Tryz.call59 (c_l3Code V (m4) _ ts1 _ hI.n1 hI.n3 (Tds_le (PH.ext.le (hx4)) ht) hI.head ⟨hI.m0, hI.m1⟩) J J J J (fun _ => J) ?_;rintro v G7 A' ⟨rfl, rfl, rfl⟩ _
      refine Va J J ?_
      refine S_condp J (fun h7 => ?_) (fun h7 => ?_) <;> refine Va J J ?_
      ·obtain ⟨k, hk, hkl⟩ := code0_who h7
       have h7' : codeOf V (k : Nat) = 0 := hk ▸ h7
       rw [hk] at hwho ⊢
       refine S_callM 20 Tryz.call61 (c_l3Step V k _ ts1 _ (hI.rdy (by omega)) (Tds_le (PH.ext.le (hx4)) ht) hkl (hI.go h7')) J J J J (fun _ => J) ?_;rintro v G8 A' ⟨cs8, ts8, rfl, rfl, ht8⟩ hext8
       refine S_csV 20 J ?_;rintro bp8 bc8 br8 bs8 kp8 asd8 ksd8 kc8 kr8 ks8 rfl
       refine Va J J ?_;refine S_slice Tk ZT_ok J J J J (by decide) (by decide) J J J J fun b2 => ?_;refine Va J J ?_;refine S_app1 Tk 5 61 J J J J J J J J J J J J J J (by intro u hu; simp at hu; rcases hu with rfl; rfl) rfl (fun _ _ => rfl) (by omega) (Nat.le_refl _) fun A6 c6 => ?_;refine Va J J ?_;refine S_subI J J J J (by omega) ?_;refine Va J J ?_;refine S_pick [20, 5, 6, 1] J ?_;refine S_rdLe 1 ((M + 5)) (by omega) J J ?_
       refine S_again ⟨j, (M + 5), B1 + 1, V.step k, ⟨bp8, bc8, br8, bs8, kp8, asd8, ksd8, kc8, kr8, ks8⟩, ts8, A6, c6, l1 ++ [(k : Int)], G8⟩ ⟨by simp only [List.length_append, List.length_singleton]; omega, by simp only; omega, (hext.trans (hx4)).trans hext8, ⟨hI.step hkl h7', by simp only; omega⟩, ht8, by simp only [List.length_append, List.length_singleton]; omega, ?_⟩ (by simp only; omega) rfl ⟨⟨_, rfl, by simp [denO]⟩, ⟨_, rfl, by simp [denO]⟩, ⟨_, rfl, rfl⟩, ⟨_, rfl, rfl⟩, trivial⟩ ?_
       ·intro x hx
        rcases List.mem_append.1 hx with hx | hx
        ·exact hl1 x hx
        ·rw [List.mem_singleton.1 hx]; exact hwho
       ·simp only [List.length_append, List.length_singleton, intC_append, WV.cs]
        exact .hp (.hp (.blk J J (.hp .nil)))
      ·refine S_slice Tk ZT_ok J J J J (by decide) (by decide) J J J J fun b2 => ?_
       refine Va J J ?_;refine S_app1 Tk 5 61 J J J J J J J J J J J J J J (by intro u hu; simp at hu; rcases hu with rfl; rfl) rfl (fun _ _ => rfl) (by omega) (Nat.le_refl _) fun A6 c6 => ?_;refine Va J J ?_;refine S_subI J J J J (by omega) ?_;refine Va J J ?_;refine S_pick [20, 5, 6, 1] J ?_;refine S_rdLe 1 ((M + 5)) (by omega) J J ?_;refine S_again ⟨j, (M + 5), B1, V, ⟨bp1, bc1, br1, bs1, kp1, asd1, ksd1, kc1, kr1, ks1⟩, ts1, A6, c6, l1 ++ [m4], _⟩ ⟨by simp only [List.length_append, List.length_singleton]; omega, by simp only; omega, hext.trans (hx4), ⟨hI, by simp only; omega⟩, Tds_le (PH.ext.le (hx4)) ht, by simp only [List.length_append, List.length_singleton]; omega, ?_⟩ (by simp only; omega) rfl ⟨⟨_, rfl, by simp [denO]⟩, ⟨_, rfl, by simp [denO]⟩, ⟨_, rfl, rfl⟩, ⟨_, rfl, rfl⟩, trivial⟩ ?_
       ·intro x hx
        rcases List.mem_append.1 hx with hx | hx
        ·exact hl1 x hx
        ·rw [List.mem_singleton.1 hx]; exact hwho
       ·simp only [List.length_append, List.length_singleton, intC_append, WV.cs]
        exact .hp (.hp (.blk J J (.hp .nil)))
   ·refine S_callM 1 Tryz.call32 (c_pick b l _ _ _ _ (Byts_le (hext.trans (hx4)).le hl0) ⟨by omega, by omega⟩ (by omega)) J J J J (fun _ => J) ?_
    rintro v G9 A' ⟨rfl, rfl, m9, rfl, hm90, hm91⟩ _
    refine Va J J ?_
    refine S_condp J (fun h9 => ?_) (fun h9 => ?_) <;> refine Va J J ?_
    ·refine S_sliceG Tk ZT_ok J J J J (by decide) (by decide) J J J J (fun _ => J) fun bq9 Gq9 hxq9 hcq9 => ?_
     refine Va J J ?_;refine S_callM 1 Tryz.call33 (c_numL b [-1, 3, 9] (Byts_le ((hext.trans (hx4)).trans hxq9).le hl0) hcq9 J (Nat.le_refl _) (by decide) (by decide) (i64_small (by decide)) (by omega)) J J J J (fun _ => J) ?_;rintro v G' A' ⟨rfl, rfl, who, hmem9, rfl⟩ _
     have hwho : I64 who := i64_small (l := [-1, 3, 9]) (by decide) who hmem9
     refine Va J J ?_;refine S_callM 20 Tryz.call59 (c_l3Code V (who) _ ts1 _ hI.n1 hI.n3 (Tds_le (PH.ext.le (((hx4).trans hxq9))) ht) hI.head ⟨hI.m0, hI.m1⟩) J J J J (fun _ => J) ?_;rintro v G7 A' ⟨rfl, rfl, rfl⟩ _
     refine Va J J ?_
     refine S_condp J (fun h7 => ?_) (fun h7 => ?_) <;> refine Va J J ?_
     ·obtain ⟨k, hk, hkl⟩ := code0_who h7
      have h7' : codeOf V (k : Nat) = 0 := hk ▸ h7
      rw [hk] at hwho ⊢
      refine S_callM 20 Tryz.call61 (c_l3Step V k _ ts1 _ (hI.rdy (by omega)) (Tds_le (PH.ext.le (((hx4).trans hxq9))) ht) hkl (hI.go h7')) J J J J (fun _ => J) ?_;rintro v G8 A' ⟨cs8, ts8, rfl, rfl, ht8⟩ hext8
      refine S_csV 20 J ?_;rintro bp8 bc8 br8 bs8 kp8 asd8 ksd8 kc8 kr8 ks8 rfl
      refine Va J J ?_;refine S_slice Tk ZT_ok J J J J (by decide) (by decide) J J J J fun b2 => ?_;refine Va J J ?_;refine S_app1 Tk 5 61 J J J J J J J J J J J J J J (by intro u hu; simp at hu; rcases hu with rfl; rfl) rfl (fun _ _ => rfl) (by omega) (Nat.le_refl _) fun A6 c6 => ?_;refine Va J J ?_;refine S_subI J J J J (by omega) ?_;refine Va J J ?_;refine S_pick [20, 5, 6, 1] J ?_;refine S_rdLe 1 ((M + 5)) (by omega) J J ?_
      refine S_again ⟨j, (M + 5), B1 + 1, V.step k, ⟨bp8, bc8, br8, bs8, kp8, asd8, ksd8, kc8, kr8, ks8⟩, ts8, A6, c6, l1 ++ [(k : Int)], G8⟩ ⟨by simp only [List.length_append, List.length_singleton]; omega, by simp only; omega, (hext.trans (((hx4).trans hxq9))).trans hext8, ⟨hI.step hkl h7', by simp only; omega⟩, ht8, by simp only [List.length_append, List.length_singleton]; omega, ?_⟩ (by simp only; omega) rfl ⟨⟨_, rfl, by simp [denO]⟩, ⟨_, rfl, by simp [denO]⟩, ⟨_, rfl, rfl⟩, ⟨_, rfl, rfl⟩, trivial⟩ ?_
      ·intro x hx
       rcases List.mem_append.1 hx with hx | hx
       ·exact hl1 x hx
       ·rw [List.mem_singleton.1 hx]; exact hwho
      ·simp only [List.length_append, List.length_singleton, intC_append, WV.cs]
       exact .hp (.hp (.blk J J (.hp .nil)))
     ·refine S_slice Tk ZT_ok J J J J (by decide) (by decide) J J J J fun b2 => ?_
      refine Va J J ?_;refine S_app1 Tk 5 61 J J J J J J J J J J J J J J (by intro u hu; simp at hu; rcases hu with rfl; rfl) rfl (fun _ _ => rfl) (by omega) (Nat.le_refl _) fun A6 c6 => ?_;refine Va J J ?_;refine S_subI J J J J (by omega) ?_;refine Va J J ?_;refine S_pick [20, 5, 6, 1] J ?_;refine S_rdLe 1 ((M + 5)) (by omega) J J ?_;refine S_again ⟨j, (M + 5), B1, V, ⟨bp1, bc1, br1, bs1, kp1, asd1, ksd1, kc1, kr1, ks1⟩, ts1, A6, c6, l1 ++ [who], _⟩ ⟨by simp only [List.length_append, List.length_singleton]; omega, by simp only; omega, hext.trans (((hx4).trans hxq9)), ⟨hI, by simp only; omega⟩, Tds_le (PH.ext.le (((hx4).trans hxq9))) ht, by simp only [List.length_append, List.length_singleton]; omega, ?_⟩ (by simp only; omega) rfl ⟨⟨_, rfl, by simp [denO]⟩, ⟨_, rfl, by simp [denO]⟩, ⟨_, rfl, rfl⟩, ⟨_, rfl, rfl⟩, trivial⟩ ?_
      ·intro x hx
       rcases List.mem_append.1 hx with hx | hx
       ·exact hl1 x hx
       ·rw [List.mem_singleton.1 hx]; exact hwho
      ·simp only [List.length_append, List.length_singleton, intC_append, WV.cs]
       exact .hp (.hp (.blk J J (.hp .nil)))
    ·have hwho : I64 (m4) := ⟨by omega, by omega⟩
     refine S_callM 20 Tryz.call59 (c_l3Code V (m4) _ ts1 _ hI.n1 hI.n3 (Tds_le (PH.ext.le (hx4)) ht) hI.head ⟨hI.m0, hI.m1⟩) J J J J (fun _ => J) ?_;rintro v G7 A' ⟨rfl, rfl, rfl⟩ _
     refine Va J J ?_
     refine S_condp J (fun h7 => ?_) (fun h7 => ?_) <;> refine Va J J ?_
     ·obtain ⟨k, hk, hkl⟩ := code0_who h7
      have h7' : codeOf V (k : Nat) = 0 := hk ▸ h7
      rw [hk] at hwho ⊢
      refine S_callM 20 Tryz.call61 (c_l3Step V k _ ts1 _ (hI.rdy (by omega)) (Tds_le (PH.ext.le (hx4)) ht) hkl (hI.go h7')) J J J J (fun _ => J) ?_;rintro v G8 A' ⟨cs8, ts8, rfl, rfl, ht8⟩ hext8
      refine S_csV 20 J ?_;rintro bp8 bc8 br8 bs8 kp8 asd8 ksd8 kc8 kr8 ks8 rfl
      refine Va J J ?_;refine S_slice Tk ZT_ok J J J J (by decide) (by decide) J J J J fun b2 => ?_;refine Va J J ?_;refine S_app1 Tk 5 61 J J J J J J J J J J J J J J (by intro u hu; simp at hu; rcases hu with rfl; rfl) rfl (fun _ _ => rfl) (by omega) (Nat.le_refl _) fun A6 c6 => ?_;refine Va J J ?_;refine S_subI J J J J (by omega) ?_;refine Va J J ?_;refine S_pick [20, 5, 6, 1] J ?_;refine S_rdLe 1 ((M + 5)) (by omega) J J ?_
      refine S_again ⟨j, (M + 5), B1 + 1, V.step k, ⟨bp8, bc8, br8, bs8, kp8, asd8, ksd8, kc8, kr8, ks8⟩, ts8, A6, c6, l1 ++ [(k : Int)], G8⟩ ⟨by simp only [List.length_append, List.length_singleton]; omega, by simp only; omega, (hext.trans (hx4)).trans hext8, ⟨hI.step hkl h7', by simp only; omega⟩, ht8, by simp only [List.length_append, List.length_singleton]; omega, ?_⟩ (by simp only; omega) rfl ⟨⟨_, rfl, by simp [denO]⟩, ⟨_, rfl, by simp [denO]⟩, ⟨_, rfl, rfl⟩, ⟨_, rfl, rfl⟩, trivial⟩ ?_
      ·intro x hx
       rcases List.mem_append.1 hx with hx | hx
       ·exact hl1 x hx
       ·rw [List.mem_singleton.1 hx]; exact hwho
      ·simp only [List.length_append, List.length_singleton, intC_append, WV.cs]
       exact .hp (.hp (.blk J J (.hp .nil)))
     ·refine S_slice Tk ZT_ok J J J J (by decide) (by decide) J J J J fun b2 => ?_
      refine Va J J ?_;refine S_app1 Tk 5 61 J J J J J J J J J J J J J J (by intro u hu; simp at hu; rcases hu with rfl; rfl) rfl (fun _ _ => rfl) (by omega) (Nat.le_refl _) fun A6 c6 => ?_;refine Va J J ?_;refine S_subI J J J J (by omega) ?_;refine Va J J ?_;refine S_pick [20, 5, 6, 1] J ?_;refine S_rdLe 1 ((M + 5)) (by omega) J J ?_;refine S_again ⟨j, (M + 5), B1, V, ⟨bp1, bc1, br1, bs1, kp1, asd1, ksd1, kc1, kr1, ks1⟩, ts1, A6, c6, l1 ++ [m4], _⟩ ⟨by simp only [List.length_append, List.length_singleton]; omega, by simp only; omega, hext.trans (hx4), ⟨hI, by simp only; omega⟩, Tds_le (PH.ext.le (hx4)) ht, by simp only [List.length_append, List.length_singleton]; omega, ?_⟩ (by simp only; omega) rfl ⟨⟨_, rfl, by simp [denO]⟩, ⟨_, rfl, by simp [denO]⟩, ⟨_, rfl, rfl⟩, ⟨_, rfl, rfl⟩, trivial⟩ ?_
      ·intro x hx
       rcases List.mem_append.1 hx with hx | hx
       ·exact hl1 x hx
       ·rw [List.mem_singleton.1 hx]; exact hwho
      ·simp only [List.length_append, List.length_singleton, intC_append, WV.cs]
       exact .hp (.hp (.blk J J (.hp .nil)))
  ·obtain rfl : i = 0 := by omega
   refine S_freezeR 5 J J (Nat.le_refl _) fun Gf hextf hncf hcmf hclf => ?_
   have hvf : Ints Gf l1 _ := frz (Cs_intC hl1) rfl (by omega) hncf hcmf hclf
   refine S_rdLe 1 (N + 2000) (by omega) J J ?_;exact S_retm 1 (Res.t1 Tryz.results50 J J) J (hext.trans hextf) ⟨J, l1, hvf, by omega⟩
 ·refine Va J J ?_
  refine AZ ZT_ok J J J J fun b6 => ?_;refine Va J J ?_;refine S_callM 1 Tryz.call32 (c_pick b l _ _ N G1 (Byts_le hext1.le hl) ⟨by omega, by omega⟩ (by omega)) J J J J (fun _ => J) ?_;rintro v G2 A' ⟨rfl, rfl, m, rfl, h0, h1⟩ _
  refine Va J J ?_;refine S_add J J J J (by omega) ?_;refine Va J J ?_;refine S_sliceG Tk ZT_ok J J J J (by decide) (by decide) J J J J (fun _ => J) fun bq Gq hxq hcq => ?_;refine Va J J ?_
  have hq7 : Ints Gq [10, 20, 35, 60, 5, 0, 200 + m] (.slice (some ⟨bq, 0, none⟩) 7 7) := ints_of hcq rfl (Nat.le_refl _) (by decide) (by decide) (by intro x hx; simp only [List.mem_cons, List.not_mem_nil, or_false] at hx; exact ⟨by omega, by omega⟩)
  refine S_callM 1 Tryz.call33 (c_num b l _ _ _ _ _ (Byts_le (hext1.trans hxq).le hl) hq7 (by simp) (by omega)) J J J J (fun _ => J) ?_;rintro v G' A' ⟨rfl, rfl, n7, hmem, rfl⟩ _
  have hn7 : 0 ≤ n7 ∧ n7 ≤ 201 := by (simp only [List.mem_cons, List.not_mem_nil, or_false] at hmem); omega
  obtain ⟨n7, rfl⟩ := Int.eq_ofNat_of_zero_le hn7.1
  refine Va J J ?_
  have hl0 := hl
  refine S_pick [5, 6, 1] J ?_;refine S_loop (α := Nat × Nat × Option Addr × Nat × List Int × PH) (fun y => y.1 + y.2.2.2.2.1.length ≤ 201 ∧ y.2.1 + y.1 * 5 ≤ N + 2000 ∧ PH.ext w.heap.size G y.2.2.2.2.2 ∧ ∀ x ∈ y.2.2.2.2.1, I64 x) (fun y => y.1) [(6, b6)]
   (fun y => [(7, .val (.int .i64 (y.1 : Nat))), (5, .val (.slice y.2.2.1 y.2.2.2.2.1.length y.2.2.2.1)), (6, .ptr 6 0), (0, .val (.pointer (some ⟨b, 0, none⟩)))])
   (fun y => [.hp 5 (rowO w.heap.size 3 1 y.2.2.1 y.2.2.2.2.1.length y.2.2.2.1 (intC y.2.2.2.2.1)), .blk 6 31 (vL [.slice none 0 0, .slice none 0 0, .slice none 0 0, .slice none 0 0, .slice none 0 0]), .hp 1 (rdHP b (.slice A l.length c) y.2.1)]) (fun y => y.2.2.2.2.2) (n7, N + 1 + 1, A0, 0, [], G') ⟨by simp only [List.length_nil]; omega, by simp only; omega, hext1.trans hxq, by simp⟩ rfl ?_ ?_ ?_
  ·exact ⟨⟨_, J, J⟩, ⟨_, J, J⟩, ⟨_, J, J⟩, ⟨_, J, J⟩, trivial⟩
  ·exact .hp (.blk J J (.hp .nil))
  rintro ⟨i, M, A1, c1, l1, G1⟩ ⟨hi, hM, hext, hl1⟩
  simp only at hi hM hext hl1 ⊢
  refine Va J J ?_
  refine S_condp J (fun h => ?_) (fun h => ?_) <;> refine Va J J ?_
  ·obtain ⟨j, rfl⟩ : ∃ j, i = j + 1 := ⟨i - 1, by omega⟩
   refine S_call Tryz.call90 (c_l1Max _ _ _) J J J ?_;rintro v G3 ⟨rfl, rfl⟩ _
   refine Va J J ?_;refine S_callM 1 Tryz.call32 (c_pick b l _ _ _ _ (Byts_le hext.le hl0) ⟨by omega, by omega⟩ (by omega)) J J J J (fun _ => J) ?_;rintro v G3 A' ⟨rfl, rfl, m4, rfl, hm40, hm41⟩ _
   refine Va J J ?_;refine S_call Tryz.call91 (c_l3CanZ _) J J J ?_;rintro v G4 ⟨Ac, rfl⟩ hx4
   refine Va J J ?_;refine GF J J J ?_;refine Va J J ?_;refine S_callM 1 Tryz.call32 (c_pick b l _ _ _ _ (Byts_le (hext.trans hx4).le hl0) ⟨by omega, by omega⟩ (by omega)) J J J J (fun _ => J) ?_;rintro v G9 A' ⟨rfl, rfl, m9, rfl, hm90, hm91⟩ _
   refine Va J J ?_
   refine S_condp J (fun h9 => ?_) (fun h9 => ?_) <;> refine Va J J ?_
   ·refine S_sliceG Tk ZT_ok J J J J (by decide) (by decide) J J J J (fun _ => J) fun bq9 Gq9 hxq9 hcq9 => ?_
    refine Va J J ?_;refine S_callM 1 Tryz.call33 (c_numL b [-1, 3, 9] (Byts_le ((hext.trans hx4).trans hxq9).le hl0) hcq9 J (Nat.le_refl _) (by decide) (by decide) (i64_small (by decide)) (by omega)) J J J J (fun _ => J) ?_;rintro v G' A' ⟨rfl, rfl, who, hmem9, rfl⟩ _
    have hwho : I64 who := i64_small (l := [-1, 3, 9]) (by decide) who hmem9
    refine Va J J ?_;refine S_call Tryz.call59 (c_l3CodeZ _ _) J J J ?_;rintro v G7 ⟨rfl, rfl⟩ _
    refine Va J J ?_;refine RF J J ?_;refine Va J J ?_;refine S_slice Tk ZT_ok J J J J (by decide) (by decide) J J J J fun b2 => ?_;refine Va J J ?_;refine S_app1 Tk 5 61 J J J J J J J J J J J J J J (by intro u hu; simp at hu; rcases hu with rfl; rfl) rfl (fun _ _ => rfl) (by omega) (Nat.le_refl _) fun A6 c6 => ?_;refine Va J J ?_;refine S_subI J J J J (by omega) ?_;refine Va J J ?_;refine S_pick [5, 6, 1] J ?_
    refine S_rdLe 1 ((M + 5)) (by omega) J J ?_;refine S_again (j, (M + 5), A6, c6, l1 ++ [who], _) ⟨by simp only [List.length_append, List.length_singleton]; omega, by simp only; omega, hext.trans ((hx4.trans hxq9)), ?_⟩ (by simp only; omega) rfl ⟨⟨_, rfl, by simp [denO]⟩, ⟨_, rfl, by simp [denO]⟩, ⟨_, rfl, rfl⟩, ⟨_, rfl, rfl⟩, trivial⟩ ?_
    ·intro x hx
     rcases List.mem_append.1 hx with hx | hx
     ·exact hl1 x hx
     ·rw [List.mem_singleton.1 hx]; exact hwho
    ·simp only [List.length_append, List.length_singleton, intC_append]
     exact .hp (.blk J J (.hp .nil))
   ·have hwho : I64 m4 := ⟨by omega, by omega⟩
    refine S_call Tryz.call59 (c_l3CodeZ _ _) J J J ?_;rintro v G7 ⟨rfl, rfl⟩ _
    refine Va J J ?_;refine RF J J ?_;refine Va J J ?_;refine S_slice Tk ZT_ok J J J J (by decide) (by decide) J J J J fun b2 => ?_;refine Va J J ?_;refine S_app1 Tk 5 61 J J J J J J J J J J J J J J (by intro u hu; simp at hu; rcases hu with rfl; rfl) rfl (fun _ _ => rfl) (by omega) (Nat.le_refl _) fun A6 c6 => ?_;refine Va J J ?_;refine S_subI J J J J (by omega) ?_;refine Va J J ?_;refine S_pick [5, 6, 1] J ?_
    refine S_rdLe 1 ((M + 5)) (by omega) J J ?_;refine S_again (j, (M + 5), A6, c6, l1 ++ [m4], _) ⟨by simp only [List.length_append, List.length_singleton]; omega, by simp only; omega, hext.trans (hx4), ?_⟩ (by simp only; omega) rfl ⟨⟨_, rfl, by simp [denO]⟩, ⟨_, rfl, by simp [denO]⟩, ⟨_, rfl, rfl⟩, ⟨_, rfl, rfl⟩, trivial⟩ ?_
    ·intro x hx
     rcases List.mem_append.1 hx with hx | hx
     ·exact hl1 x hx
     ·rw [List.mem_singleton.1 hx]; exact hwho
    ·simp only [List.length_append, List.length_singleton, intC_append]
     exact .hp (.blk J J (.hp .nil))
  ·obtain rfl : i = 0 := by omega
   refine S_freezeR 5 J J (Nat.le_refl _) fun Gf hextf hncf hcmf hclf => ?_
   have hvf : Ints Gf l1 _ := frz (Cs_intC hl1) rfl (by omega) hncf hcmf hclf
   refine S_rdLe 1 (N + 2000) (by omega) J J ?_;exact S_retm 1 (Res.t1 Tryz.results50 J J) J (hext.trans hextf) ⟨J, l1, hvf, by omega⟩
end
section
attribute [local irreducible] X Pure Mod
structure WS where
 i : Nat
 B : Nat
 V : Wld
 x : WV
 ts : List Value
 A : Option Addr
 c : Nat
 l : List Int
 G : PH
def rowV (v : Value) (G' : PH) (A' : HP) : Prop := ∃ A c l base, v = .slice A l.length c ∧ A' = rowO base 3 1 A l.length c (intC l) ∧ l.length ≤ 201 ∧ ∀ x ∈ l, I64 x
theorem c_WholeOrder (p : List (List Stm)) (q : List Int) (pv qv : Value) (G : PH) (hp : PrgS G p pv) (hq : Ints G q qv) : Mod Tryz.prog 30 [pv, qv] G emptyHP rowV := by
 obtain ⟨Ap, cp, rfl, _⟩ := id hp.1
 obtain ⟨Aq, cq, rfl, _⟩ := id hq
 refine Mod.intro0 Tryz.func30 Tryz.ntmps30 J J fun w => ?_;refine Va J J ?_;refine S_emptyO Tk 5 J J J J fun A0 => ?_;refine Va J J ?_;refine S_call Tryz.call28 (c_ProgOk p _ G hp.1) J J J ?_;rintro v G5 ⟨rfl, rfl⟩ _
 refine Va J J ?_
 refine S_cond J (fun h => ?_) (fun h => ?_) <;> refine Va J J ?_
 ·exact S_retm 5 (Res.t1 Tryz.results30 J J) J XR ⟨A0, 0, [], _, J, J, by simp, by simp⟩
 simp only [Bool.or_eq_false_iff, Bool.not_eq_false', decide_eq_false_iff_not] at h
 obtain ⟨hpo, hq2⟩ := h
 refine S_callN 20 Tryz.call41 (c_l3Open p _ G5 hp) J J J ?_;rintro v1 G1 A1 (⟨_, cs, ts, rfl, rfl, htd⟩ | ⟨hpf, _⟩) hext1
 rotate_left
 ·rw [hpo] at hpf; cases hpf
 have hI0 := Inv_open hpo hp.2.1
 refine S_newHP 20 J J ?_;refine S_csV 20 J ?_;rintro bp bc br bs kp asd ksd kc kr ks rfl
 refine Va J J ?_;refine AZ ZT_ok J J J J fun b6 => ?_;refine Va J J ?_;refine S_pick [20, 5, 6] J ?_;refine S_loop (α := WS) (fun y => y.i ≤ q.length ∧ y.l.length ≤ y.i ∧ PH.ext w.heap.size G5 y.G ∧ (Inv y.V y.B ∧ y.B ≤ y.i) ∧ Tds y.G y.V.procs y.ts ∧ ∀ x ∈ y.l, I64 x) (fun y => q.length - y.i) [(6, b6)]
  (fun y => [(7, .val (.int .i64 (y.i : Nat))), (5, .val (.slice y.A y.l.length y.c)), (6, .ptr 6 0), (1, .val (.slice Aq q.length cq))])
  (fun y => [.hp 20 (worldV (y.x.cs y.V) y.V y.ts), .hp 5 (rowO w.heap.size 3 1 y.A y.l.length y.c (intC y.l)), .blk 6 31 (vL (y.x.cs y.V))]) (fun y => y.G) ⟨0, 0, open0 p, ⟨bp, bc, br, bs, kp, asd, ksd, kc, kr, ks⟩, ts, A0, 0, [], G1⟩ ⟨Nat.zero_le _, by simp, hext1, ⟨hI0, Nat.le_refl _⟩, htd, by simp⟩ rfl ?_ ?_ ?_
 ·exact ⟨⟨_, J, J⟩, ⟨_, J, J⟩, ⟨_, J, J⟩, ⟨_, J, J⟩, trivial⟩
 ·exact .hp (.hp (.blk J J .nil))
 rintro ⟨i, B1, V, ⟨bp1, bc1, br1, bs1, kp1, asd1, ksd1, kc1, kr1, ks1⟩, ts1, A1, c1, l1, G1⟩ ⟨hi, hll, hext, ⟨hI, hB⟩, ht, hl1⟩
 simp only [WV.cs] at hi hll hext hI hB ht hl1 ⊢
 have hn1 := hI.n1
 have hn3 := hI.n3
 refine Va J J ?_
 refine S_condp J (fun h => ?_) (fun h => ?_) <;> refine Va J J ?_
 ·have hil : i < q.length := by omega
  obtain ⟨ad, cs5, rfl, hcs, rfl, hi5⟩ := Sr_at (Ints_le hext.le hq) hil
  generalize hwe : q[i] = who at hcs hi5
  refine Ds J J J ?_;refine Da J J ?_;refine Nt 3 J J J J J J fun back => ?_;refine S_index Tk J J J J J J (by omega) (by omega) ?_;refine back _ _ _ _ (by kernel_rfl) ?_; clear back
  refine Da J J ?_;refine Nt 4 J J J J J J fun back => ?_;refine S_load Tk J J J J J (by simpa using hcs.1) ?_;refine back _ _ _ _ (by kernel_rfl) ?_; clear back
  refine Da J J ?_;refine Nt 5 J J J J J J fun back => ?_;refine S_callM 20 Tryz.call59 (c_l3Code V who _ ts1 G1 hn1 hn3 ht hI.head ⟨hI.m0, hI.m1⟩) J J J J (fun _ => J) ?_;rintro v G7 A' ⟨rfl, rfl, rfl⟩ _
  refine back _ _ _ _ (by kernel_rfl) ?_; clear back
  refine Da J J ?_;refine DD ?_;refine Va J J ?_
  refine S_condp J (fun h7 => ?_) (fun h7 => ?_) <;> refine Va J J ?_
  ·obtain ⟨k, rfl, hkl⟩ := code0_who h7
   have hp7 : V.procs[k]? = some V.procs[k] := by simp [hkl]
   refine Ds J J J ?_;refine Da J J ?_;refine Nt 3 J J J J J J fun back => ?_;refine S_index Tk J J J J J J (by omega) (by omega) ?_;refine back _ _ _ _ (by kernel_rfl) ?_; clear back
   refine Da J J ?_;refine Nt 4 J J J J J J fun back => ?_;refine S_load Tk J J J J J (by simpa using hcs.1) ?_;refine back _ _ _ _ (by kernel_rfl) ?_; clear back
   refine Da J J ?_;refine Nt 5 J J J J J J fun back => ?_;refine S_callM 20 Tryz.call69 (c_l6Comes V k _ ts1 _ hn1 hn3 ht hkl (code0 hp7 h7).2) J J J J (fun _ => J) ?_;rintro v G8 A' ⟨rfl, rfl, rfl⟩ _
   refine back _ _ _ _ (by kernel_rfl) ?_; clear back
   refine Da J J ?_;refine DD ?_;refine Va J J ?_
   refine S_cond J (fun h8 => ?_) (fun h8 => ?_) <;> refine Va J J ?_
   ·refine S_index Tk J J J J J J (by omega) (by omega) ?_
    refine Va J J ?_;refine S_load Tk J J J J J (by simpa using hcs.1) ?_;refine Va J J ?_;refine S_slice Tk ZT_ok J J J J (by decide) (by decide) J J J J fun b44 => ?_;refine Va J J ?_;refine S_app1 Tk 5 44 J J J J J J J J J J J J J J (by intro u hu; simp at hu; rcases hu with rfl; rfl) rfl (fun _ _ => rfl) (by omega) (Nat.le_refl _) fun A6 c6 => ?_;refine Va J J ?_
    have hl2 : ∀ x ∈ l1 ++ [(k : Int)], I64 x := by
     intro x hx
     rcases List.mem_append.1 hx with hx | hx
     ·exact hl1 x hx
     ·rw [List.mem_singleton.1 hx]; exact hi5
    refine Ds J J J ?_;refine Da J J ?_;refine Nt 3 J J J J J J fun back => ?_;refine S_index Tk J J J J J J (by omega) (by omega) ?_;refine back _ _ _ _ (by kernel_rfl) ?_; clear back
    refine Da J J ?_;refine Nt 4 J J J J J J fun back => ?_;refine S_load Tk J J J J J (by simpa using hcs.1) ?_;refine back _ _ _ _ (by kernel_rfl) ?_; clear back
    refine Da J J ?_;refine Nt 5 J J J J J J fun back => ?_;refine S_callM 20 Tryz.call61 (c_l3Step V k _ ts1 _ (hI.rdy (by omega)) ht hkl (hI.go h7)) J J J J (fun _ => J) ?_;rintro v G9 A' ⟨cs8, ts8, rfl, rfl, ht8⟩ hext8
    refine S_csV 20 J ?_;rintro bp8 bc8 br8 bs8 kp8 asd8 ksd8 kc8 kr8 ks8 rfl
    refine back _ _ _ _ (by kernel_rfl) ?_; clear back
    refine Da J J ?_;refine Ns 6 J J J J J J J J J ?_;refine Da J J ?_;refine DD ?_;refine Va J J ?_;refine S_add J J J J (by omega) ?_;refine Va J J ?_;refine S_pick [20, 5, 6] J ?_;refine S_again ⟨i + 1, B1 + 1, V.step k, ⟨bp8, bc8, br8, bs8, kp8, asd8, ksd8, kc8, kr8, ks8⟩, ts8, A6, c6, (l1 ++ [(k : Int)]), G9⟩ ⟨by simp only; omega, by simp only [List.length_append, List.length_singleton]; omega, hext.trans hext8, ⟨hI.step hkl h7, by simp only; omega⟩, ht8, hl2⟩ (by simp only; omega) rfl ⟨⟨_, rfl, by simp [denO]⟩, ⟨_, rfl, by simp [denO]⟩, ⟨_, rfl, rfl⟩, ⟨_, rfl, rfl⟩, trivial⟩ ?_
    simp only [List.length_append, List.length_singleton, intC_append, WV.cs]
    exact .hp (.hp (.blk J J .nil))
   ·refine Ds J J J ?_
    refine Da J J ?_;refine Nt 3 J J J J J J fun back => ?_;refine S_index Tk J J J J J J (by omega) (by omega) ?_;refine back _ _ _ _ (by kernel_rfl) ?_; clear back
    refine Da J J ?_;refine Nt 4 J J J J J J fun back => ?_;refine S_load Tk J J J J J (by simpa using hcs.1) ?_;refine back _ _ _ _ (by kernel_rfl) ?_; clear back
    refine Da J J ?_;refine Nt 5 J J J J J J fun back => ?_;refine S_callM 20 Tryz.call61 (c_l3Step V k _ ts1 _ (hI.rdy (by omega)) ht hkl (hI.go h7)) J J J J (fun _ => J) ?_;rintro v G9 A' ⟨cs8, ts8, rfl, rfl, ht8⟩ hext8
    refine S_csV 20 J ?_;rintro bp8 bc8 br8 bs8 kp8 asd8 ksd8 kc8 kr8 ks8 rfl
    refine back _ _ _ _ (by kernel_rfl) ?_; clear back
    refine Da J J ?_;refine Ns 6 J J J J J J J J J ?_;refine Da J J ?_;refine DD ?_;refine Va J J ?_;refine S_add J J J J (by omega) ?_;refine Va J J ?_;refine S_pick [20, 5, 6] J ?_;refine S_again ⟨i + 1, B1 + 1, V.step k, ⟨bp8, bc8, br8, bs8, kp8, asd8, ksd8, kc8, kr8, ks8⟩, ts8, A1, c1, l1, G9⟩ ⟨by simp only; omega, by simp only [List.length_append, List.length_singleton]; omega, hext.trans hext8, ⟨hI.step hkl h7, by simp only; omega⟩, ht8, hl1⟩ (by simp only; omega) rfl ⟨⟨_, rfl, by simp [denO]⟩, ⟨_, rfl, by simp [denO]⟩, ⟨_, rfl, rfl⟩, ⟨_, rfl, rfl⟩, trivial⟩ ?_
    simp only [List.length_append, List.length_singleton, intC_append, WV.cs]
    exact .hp (.hp (.blk J J .nil))
  ·refine S_add J J J J (by omega) ?_
   refine Va J J ?_;refine S_again ⟨i + 1, B1, V, ⟨bp1, bc1, br1, bs1, kp1, asd1, ksd1, kc1, kr1, ks1⟩, ts1, A1, c1, l1, G7⟩ ⟨by simp only; omega, by simp only; omega, hext, ⟨hI, by simp only; omega⟩, ht, hl1⟩ (by simp only; omega) rfl ⟨⟨_, rfl, by simp [denO]⟩, ⟨_, rfl, rfl⟩, ⟨_, rfl, rfl⟩, ⟨_, rfl, rfl⟩, trivial⟩ (.hp (.hp (.blk rfl rfl .nil)))
 ·exact S_retm 5 (Res.t1 Tryz.results30 J J) J hext ⟨A1, c1, l1, _, J, J, by omega, hl1⟩
def dwoV (v : Value) (G : PH) : Prop := ∃ p pv q qv, v = .tuple #[pv, qv] ∧ PrgS G p pv ∧ Ints G q qv ∧ q.length ≤ 202
theorem c_DrawWholeOrder (l : List Int) (cv : Value) (G : PH) (hl : Byts G l cv) : Pure Tryz.prog 18 [cv] G dwoV := by
 refine Pure.intro Tryz.func18 Tryz.ntmps18 J J fun w => ?_; refine Va J J ?_;refine S_callN 1 Tryz.call31 (c_l11Open l cv G hl) J J J ?_;rintro v1 G1 A1 ⟨b, sv, l', rfl, rfl, hl', rfl⟩ hext1
 refine S_newHP 1 J J ?_;refine Va J J ?_;refine S_callM 1 Tryz.call49 (c_l6Some b l' sv 0 G1 hl' (by decide)) J J J J (fun _ => J) ?_;rintro v2 G2 A2 ⟨rfl, p, pv, ow, ov, rfl, hp, hp1, hp3, how, hol⟩ hext2
 obtain ⟨Ap, cp, rfl, _⟩ := id hp.1
 obtain ⟨Ao, co, rfl, _⟩ := id how
 refine Va J J ?_;refine S_callM 1 Tryz.call50 (c_l3Picks b l' sv p _ _ G2 (Byts_le hext2.le hl') hp (by decide)) J J J J (fun _ => J) ?_;rintro v3 G3 A3 ⟨rfl, q, hq, hq2⟩ hext3
 obtain ⟨Aq, cq, rfl, _⟩ := id hq
 refine Va J J ?_;exact S_retp (Res.t2 Tryz.results18 J J J J) (hext2.trans hext3) ⟨p, _, q, _, J, PrgS_le hext3.le hp, hq, by omega⟩
theorem c_DrawWholeRun (l : List Int) (cv : Value) (G : PH) (hl : Byts G l cv) : Pure Tryz.prog 12 [cv] G dwoV := by
 obtain ⟨Ac, cc, rfl, _⟩ := id hl
 refine Pure.intro Tryz.func12 Tryz.ntmps12 J J fun w => ?_; refine Va J J ?_;refine S_call Tryz.call18 (c_DrawWholeOrder l _ G hl) J J J ?_;rintro v1 G1 ⟨p, pv, q, qv, rfl, hp, hq, hq2⟩ hext1
 obtain ⟨Ap, cp, rfl, _⟩ := id hp.1
 obtain ⟨Aq, cq, rfl, _⟩ := id hq
 refine Va J J ?_;refine S_callN 5 Tryz.call30 (c_WholeOrder p q _ _ G1 hp hq) J J J ?_;rintro v2 G2 A2 ⟨A5, c5, l5, base, rfl, rfl, hl5, hi5⟩ hext2
 refine S_newRow 5 J J ?_;refine Va J J ?_;refine S_callN 1 Tryz.call31 (c_l11Open l _ G2 (Byts_le (hext1.trans hext2).le hl)) J J J ?_;rintro v3 G3 A3 ⟨b, sv, l', rfl, rfl, hl', rfl⟩ hext3
 refine S_newHP 1 J J ?_;refine Va J J ?_;refine S_callM 1 Tryz.call32 (c_pick b l' _ _ 0 _ hl' ⟨by omega, by omega⟩ (by omega)) J J J J (fun _ => J) ?_;rintro v G3 A' ⟨rfl, rfl, m, rfl, hm0, hm1⟩ _
 refine Va J J ?_
 refine S_condp J (fun h => ?_) (fun h => ?_) <;> refine Va J J ?_
 ·refine S_sliceG Tk ZT_ok J J J J (by decide) (by decide) J J J J (fun _ => J) fun bq Gq hxq hcq => ?_
  refine Va J J ?_;refine S_callM 1 Tryz.call33 (c_numL b [0, 1, 2, -1, 3] (Byts_le hxq.le hl') hcq J (Nat.le_refl _) (by decide) (by decide) (i64_small (by decide)) (by omega)) J J J J (fun _ => J) ?_;rintro v G' A' ⟨rfl, rfl, m1, hmem1, rfl⟩ _
  have hi1 : I64 m1 := i64_small (l := [0, 1, 2, -1, 3]) (by decide) m1 hmem1
  refine Va J J ?_;refine S_slice Tk ZT_ok J J J J (by decide) (by decide) J J J J fun b25 => ?_;refine Va J J ?_;refine S_app1 Tk 5 25 J J J J J J J J J J J J J J (by intro u hu; simp at hu; rcases hu with rfl; rfl) rfl (fun _ _ => rfl) (by omega) (Nat.le_refl _) fun A6 c6 => ?_;refine Va J J ?_;refine S_freezeR 5 J J (Nat.le_refl _) fun Gf hextf hncf hcmf hclf => ?_
  have hvf : Ints Gf (l5 ++ [m1]) _ := frz (n := l5.length + 1) (by rw [show intC l5 ++ [.int .i64 m1] = intC (l5 ++ [m1]) by simp [intC_append, intC]]; exact Cs_intC (by
   intro x hx
   rcases List.mem_append.1 hx with hx | hx
   ·exact hi5 x hx
   ·rw [List.mem_singleton.1 hx]; exact hi1)) (by simp) (by omega) hncf hcmf hclf
  exact S_retp (Res.t2 Tryz.results12 J J J J) (((hext1.trans hext2).trans hxq).trans hextf) ⟨p, _, _, _, J, PrgS_le ((hext2.trans hxq).trans hextf).le hp, hvf, by simp; omega⟩
 ·refine S_freezeR 5 J J (Nat.le_refl _) fun Gf hextf hncf hcmf hclf => ?_
  have hvf : Ints Gf l5 _ := frz (Cs_intC hi5) rfl (by omega) hncf hcmf hclf
  exact S_retp (Res.t2 Tryz.results12 J J J J) ((hext1.trans hext2).trans hextf) ⟨p, _, _, _, J, PrgS_le (hext2.trans hextf).le hp, hvf, by omega⟩
end
section
attribute [local irreducible] X Pure Mod
theorem denL_cons' {ι : Ids} {c : Cel} {l : List Cel} {vs : List Value} (h : denL ι (c :: l) = some vs) : ∃ v r, denC ι c = some v ∧ denL ι l = some r ∧ vs = v :: r := by
 simp only [denL] at h
 cases h1 : denC ι c with
 | none => simp [h1] at h
 | some v => cases h2 : denL ι l with
  | none => simp [h1, h2] at h
  | some r => exact ⟨v, r, rfl, rfl, by simpa [h1, h2] using h.symm⟩
theorem procCs_todo {ι : Ids} {kg : Nat → Nat} {sp : List Value} : ∀ {ps : List Prc} {ts : List Value} {j i : Nat} {t : Value} {vs : List Value}, denL ι (procCs kg sp j ps ts) = some vs → ts[i]? = some t → i < ps.length → vs[5 * i + 1]? = some t
 | [], _, _, i, _, _, _, _, hi => by simp at hi
 | p :: ps, [], _, i, _, _, _, h, _ => by simp at h
 | p :: ps, t0 :: ts, j, i, t, vs, h, ht, hi => by
  simp only [procCs] at h
  obtain ⟨v1, r1, _, h1, rfl⟩ := denL_cons' h
  obtain ⟨v2, r2, e2, h2, rfl⟩ := denL_cons' h1
  obtain ⟨v3, r3, _, h3, rfl⟩ := denL_cons' h2
  obtain ⟨v4, r4, _, h4, rfl⟩ := denL_cons' h3
  obtain ⟨v5, r5, _, h5, rfl⟩ := denL_cons' h4
  cases i with
  | zero =>
   simp only [List.getElem?_cons_zero, Option.some.injEq] at ht
   simp only [denC, Option.some.injEq] at e2
   simp [← e2, ht]
  | succ i =>
   have := procCs_todo h5 (i := i) (by simpa using ht) (by simpa using hi)
   rw [show 5 * (i + 1) + 1 = (5 * i + 1) + 1 + 1 + 1 + 1 + 1 by omega]
   simpa using this
theorem V_todoW {C : Ctx} {ι : Ids} {E : Env} {L : List Ent} {G : PH} {W : Wld} {ts : List Value} {d : Option Nat} {ty : Nat} {pos : String} {af : Array Edge} {g : Option (Nat × Bool)} {T : Tab} (hT : tabOk C.P T) (κ : Nat) {t : Nat} {i : TyI} {x : Operand} {bp nn kp n : Nat} {c2 c3 c4 c5 v : Value} {a : Addr}
  (hL : getH κ L = some (worldV [.slice (some ⟨bp, 0, none⟩) nn kp, c2, c3, c4, c5] W ts)) (hx : ev E x = some (.val (.pointer (some a)))) (ha : a = ⟨bp, 5 * n + 1, none⟩) (ht : lookT t T = some i) (hk0 : i.k.isAgg = false) (hv : ts[n]? = some v) (hn : n < W.procs.length) : Vl C ι E L G ⟨d, .load t x, ty, pos, af, g⟩ v := by
 intro act w hE hw
 obtain ⟨Ss, ho, _⟩ := hw.own
 obtain ⟨S, ⟨ι0, L0, Ss0, ⟨bp', bc, br, bs, bg, m, x', hl, hmk, hx', rfl, rfl, hcs⟩, hown, _⟩, _⟩ := owns_split ho hL
 have ex := ev_sound hE hx
 simp only [denO, Option.some.injEq] at ex
 subst ha
 have hb : bp' = bp := by
  obtain ⟨v1, r1, e1, _, e2⟩ := denL_cons' hcs
  simp only [List.cons.injEq] at e2
  rw [← e2.1] at e1
  simp [denC, wIds, lookI] at e1
  exact e1.1
 subst hb
 cases Ss0 with
 | nil => exact absurd hown id
 | cons S1 Ss1 =>
  obtain ⟨⟨b, vs, h1, h2, h3, _⟩, _⟩ := hown
  have hbb : b = bp' := by simpa [wIds, lookI] using h1.symm
  subst hbb
  have := procCs_todo h2 hv hn
  have hc : w.cell? ⟨b, 5 * n + 1, none⟩ = some v := by simp [World.cell?, h3, this]
  simp only [execOp, ← ex]
  simp [Instr.loadAt, loadVar, Instr.sureAddr, tyOk_agg (hT _ _ ht), hk0, hc]
end
section
attribute [local irreducible] X Pure Mod
theorem Tds_get {G : PH} : ∀ {ps : List Prc} {ts : List Value} {i : Nat} {p : Prc}, Tds G ps ts → ps[i]? = some p → ∃ t, ts[i]? = some t ∧ Sts G p.todo t
 | [], _, i, _, _, h => by simp at h
 | _ :: _, [], _, _, h, _ => absurd h id
 | p :: ps, t :: ts, 0, q, h, hp => by
  simp only [List.getElem?_cons_zero, Option.some.injEq] at hp
  exact ⟨t, J, hp ▸ h.1⟩
 | p :: ps, t :: ts, i + 1, q, h, hp => by
  simpa using Tds_get h.2 (i := i) (by simpa using hp)
structure TS where
 V : Wld
 B : Nat
 inn : Bool
 n : Nat
 x : WV
 ts : List Value
 G : PH
abbrev TPost (r : Wld × Bool × Nat) : Value → PH → HP → Prop := fun v G' A' => ∃ cs' ts', v = .tuple #[.agg cs'.toArray, .bool r.2.1, .int .i64 (r.2.2 : Nat)] ∧ A' = worldV cs' r.1 ts' ∧ Tds G' r.1.procs ts'
theorem c_l6Till (W : Wld) (who B n : Nat) (inn : Bool) (cs : List Value) (ts : List Value) (G : PH) (h : Inv W B) (hB : B + n ≤ 1000000) (ht : Tds G W.procs ts) (hw : who < W.procs.length) :
  Mod Tryz.prog 42 [.agg cs.toArray, .int .i64 (who : Nat), .bool inn, .int .i64 (n : Nat)] G (worldV cs W ts) (TPost (till who n inn W)) := by
 refine Mod.intro Tryz.func42 Tryz.ntmps42 J J fun w S => ?_;refine S_csV 1 J ?_;rintro bp bc br bs kp asd ksd kc kr ks rfl
 refine Va J J ?_;refine S_box J J J J J fun b4 => ?_;refine Va J J ?_;refine AZ ZT_ok J J J J fun b8 => ?_;refine Va J J ?_;refine S_loop (α := TS) (fun y => PH.ext w.heap.size G y.G ∧ (Inv y.V y.B ∧ y.B + y.n ≤ 1000000) ∧ Tds y.G y.V.procs y.ts ∧ who < y.V.procs.length ∧ till who n inn W = till who y.n y.inn y.V) (fun y => y.n) [(8, b8), (4, b4)]
  (fun y => [(3, .val (.int .i64 (y.n : Nat))), (2, .val (.bool y.inn)), (1, .val (.int .i64 (who : Nat))), (4, .ptr 4 0), (8, .ptr 8 0), (9, .lit false), (10, .val (.int .i64 0))])
  (fun y => [.blk 8 31 (vL [.slice none 0 0, .slice none 0 0, .slice none 0 0, .slice none 0 0, .slice none 0 0]), .blk 4 31 (vL (y.x.cs y.V)), .hp 1 (worldV (y.x.cs y.V) y.V y.ts)]) (fun y => y.G) ⟨W, B, inn, n, ⟨bp, bc, br, bs, kp, asd, ksd, kc, kr, ks⟩, ts, G⟩ ⟨PH.ext.refl _ _, ⟨h, hB⟩, ht, hw, rfl⟩ rfl ?_ ?_ ?_
 ·exact ⟨⟨_, J, J⟩, ⟨_, J, J⟩, ⟨_, J, J⟩, ⟨_, J, J⟩, ⟨_, J, J⟩, ⟨_, J, J⟩, ⟨_, J, J⟩, trivial⟩
 ·exact .blk J J (.blk J J (.hp .nil))
 rintro ⟨V, B1, inn1, n1, ⟨bp1, bc1, br1, bs1, kp1, asd1, ksd1, kc1, kr1, ks1⟩, ts1, G1⟩ ⟨hext, ⟨h1, hB1⟩, ht1, hw1, heq⟩
 simp only [WV.cs] at hext h1 hB1 ht1 hw1 heq ⊢
 refine Va J J ?_
 refine S_condp J (fun hn => ?_) (fun hn => ?_) <;> refine Va J J ?_
 ·obtain ⟨m, rfl⟩ : ∃ m, n1 = m + 1 := ⟨n1 - 1, by omega⟩
  refine S_callM 1 Tryz.call59 (c_l3Code V (who : Nat) _ ts1 G1 h1.n1 h1.n3 ht1 h1.head ⟨h1.m0, h1.m1⟩) J J J J (fun _ => J) ?_;rintro v G2 A' ⟨rfl, rfl, rfl⟩ _
  refine Va J J ?_
  by_cases hc : codeOf V (who : Nat) = 0
  ·refine RF J (by simp [hc]) ?_
   refine Va J J ?_
   have hp : V.procs[who]? = some V.procs[who] := by simp [hw1]
   refine S_callM 1 Tryz.call69 (c_l6Comes V who _ ts1 _ h1.n1 h1.n3 ht1 hw1 (code0 hp hc).2) J J J J (fun _ => J) ?_;rintro v G3 A' ⟨rfl, rfl, rfl⟩ _
   refine Va J J ?_
   have hE : isEnt V who = entP V.procs[who] := by simp [isEnt, hp, hc]
   have hF : fstK V who = fstP V.procs[who] := by simp [fstK, hp]
   obtain ⟨tv, htv, hst⟩ := Tds_get ht1 hp
   generalize hP : V.procs[who] = p at *
   cases hent : entP p <;> cases inn1
   -- no entry, outside
   ·have hte : till who (m + 1) false V = till who m false (V.step who) := by simp [till, hc, hE, hent]
    refine RF J J ?_;refine Va J J ?_;refine GT J J J ?_;refine Va J J ?_;obtain ⟨hm2, hk8⟩ : p.mode ≠ 2 ∧ fstP p ≠ 8 := by simpa [entP] using hent
    rcases hT : p.todo with _ | ⟨s, r⟩
    ·exact absurd hT ((code0 hp hc).2 hm2)
    rw [hT] at hst
    obtain ⟨A, c, rfl, _⟩ := id hst
    obtain ⟨ad, vx, vy, rfl, hcs, _⟩ := Sts_head hst
    have hfp : fstP p = s.kind := by simp [fstP, hm2, hT]
    refine S_index Tk J J J J J J (by omega) (by omega) ?_;refine Va J J ?_;refine S_valV J J J (V_todoW Tk 1 J J (by simp [add_lit', add_add']; omega) rfl rfl htv hw1) ?_;refine Va J J ?_;refine S_index Tk J J J J J J (by omega) (by simp) ?_;refine Va J J ?_;refine S_load Tk J J J J J (by simpa [add_zero'] using hcs.1) ?_;refine Va J J ?_
    refine S_guardp J J (fun h12 => ?_) (fun h12 => ?_) <;> refine Va J J ?_
    ·refine S_callM 1 Tryz.call61 (c_l3Step V who _ ts1 _ (h1.rdy (by omega)) ht1 hw1 (h1.go hc)) J J J J (fun _ => J) ?_
     rintro v G9 A' ⟨cs8, ts8, rfl, rfl, ht8⟩ hext8
     refine S_csV 1 J ?_;rintro bp8 bc8 br8 bs8 kp8 asd8 ksd8 kc8 kr8 ks8 rfl
     refine Va J J ?_;refine S_subI J J J J (by omega) ?_;refine Va J J ?_
     rw [show (((m + 1 : Nat) : Int) - 1) = ((m : Nat) : Int) by omega]
     refine RF J J ?_;refine Va J J ?_;refine RF J J ?_;refine Va J J ?_;refine S_again ⟨V.step who, B1 + 1, false, m, ⟨bp8, bc8, br8, bs8, kp8, asd8, ksd8, kc8, kr8, ks8⟩, ts8, G9⟩ ⟨hext.trans hext8, ⟨h1.step hw1 hc, by simp only; omega⟩, ht8, by rw [V.step_len]; exact hw1, (heq.trans hte)⟩ (by simp only; omega) rfl ⟨⟨_, rfl, by simp [denO]⟩, ⟨_, rfl, rfl⟩, ⟨_, rfl, rfl⟩, ⟨_, rfl, rfl⟩, ⟨_, rfl, rfl⟩, ⟨_, rfl, rfl⟩, ⟨_, rfl, rfl⟩, trivial⟩ (by simp only [WV.cs]; first | exact .blk J J (.blk J J (.hp .nil)) | exact .hp (.blk J J (.blk J J .nil)))
    ·refine S_index Tk J J J J J J (by omega) (by omega) ?_
     refine Va J J ?_;refine S_valV J J J (V_todoW Tk 1 J J (by simp [add_lit', add_add']; omega) rfl rfl htv hw1) ?_;refine Va J J ?_;refine S_index Tk J J J J J J (by omega) (by simp) ?_;refine Va J J ?_;refine S_load Tk J J J J J (by simpa [add_zero'] using hcs.1) ?_;refine Va J J ?_;refine S_callM 1 Tryz.call61 (c_l3Step V who _ ts1 _ (h1.rdy (by omega)) ht1 hw1 (h1.go hc)) J J J J (fun _ => J) ?_
     rintro v G9 A' ⟨cs8, ts8, rfl, rfl, ht8⟩ hext8
     refine S_csV 1 J ?_;rintro bp8 bc8 br8 bs8 kp8 asd8 ksd8 kc8 kr8 ks8 rfl
     refine Va J J ?_;refine S_subI J J J J (by omega) ?_;refine Va J J ?_
     rw [show (((m + 1 : Nat) : Int) - 1) = ((m : Nat) : Int) by omega]
     refine RF J (by simp) ?_;refine Va J J ?_;refine RF J J ?_;refine Va J J ?_;refine S_again ⟨V.step who, B1 + 1, false, m, ⟨bp8, bc8, br8, bs8, kp8, asd8, ksd8, kc8, kr8, ks8⟩, ts8, G9⟩ ⟨hext.trans hext8, ⟨h1.step hw1 hc, by simp only; omega⟩, ht8, by rw [V.step_len]; exact hw1, (heq.trans hte)⟩ (by simp only; omega) rfl ⟨⟨_, rfl, by simp [denO]⟩, ⟨_, rfl, rfl⟩, ⟨_, rfl, rfl⟩, ⟨_, rfl, rfl⟩, ⟨_, rfl, rfl⟩, ⟨_, rfl, rfl⟩, ⟨_, rfl, rfl⟩, trivial⟩ (by simp only [WV.cs]; first | exact .blk J J (.blk J J (.hp .nil)) | exact .hp (.blk J J (.blk J J .nil)))
   -- no entry, inside
   ·refine RF J J ?_
    refine Va J J ?_;refine GT J J J ?_;refine Va J J ?_;obtain ⟨hm2, hk8⟩ : p.mode ≠ 2 ∧ fstP p ≠ 8 := by simpa [entP] using hent
    rcases hT : p.todo with _ | ⟨s, r⟩
    ·exact absurd hT ((code0 hp hc).2 hm2)
    rw [hT] at hst
    obtain ⟨A, c, rfl, _⟩ := id hst
    obtain ⟨ad, vx, vy, rfl, hcs, _⟩ := Sts_head hst
    have hfp : fstP p = s.kind := by simp [fstP, hm2, hT]
    refine S_index Tk J J J J J J (by omega) (by omega) ?_;refine Va J J ?_;refine S_valV J J J (V_todoW Tk 1 J J (by simp [add_lit', add_add']; omega) rfl rfl htv hw1) ?_;refine Va J J ?_;refine S_index Tk J J J J J J (by omega) (by simp) ?_;refine Va J J ?_;refine S_load Tk J J J J J (by simpa [add_zero'] using hcs.1) ?_;refine Va J J ?_
    refine S_guardp J J (fun h12 => ?_) (fun h12 => ?_) <;> refine Va J J ?_
    ·refine S_callM 1 Tryz.call61 (c_l3Step V who _ ts1 _ (h1.rdy (by omega)) ht1 hw1 (h1.go hc)) J J J J (fun _ => J) ?_
     rintro v G9 A' ⟨cs8, ts8, rfl, rfl, ht8⟩ hext8
     refine S_csV 1 J ?_;rintro bp8 bc8 br8 bs8 kp8 asd8 ksd8 kc8 kr8 ks8 rfl
     refine Va J J ?_;refine S_subI J J J J (by omega) ?_;refine Va J J ?_
     rw [show (((m + 1 : Nat) : Int) - 1) = ((m : Nat) : Int) by omega]
     refine RT J J ?_;refine Va J J ?_
     have hte : till who (m + 1) true V = (V.step who, true, m) := by simp [till, hc, hE, hent, hF, hfp, endK, *]
     exact S_retm 1 (Res.c3 Tk Tryz.results42 J J J J J J) J (hext.trans hext8) ⟨_, ts8, by rw [heq, hte], by rw [heq, hte], by rw [heq, hte]; exact ht8⟩
    ·refine S_index Tk J J J J J J (by omega) (by omega) ?_
     refine Va J J ?_;refine S_valV J J J (V_todoW Tk 1 J J (by simp [add_lit', add_add']; omega) rfl rfl htv hw1) ?_;refine Va J J ?_;refine S_index Tk J J J J J J (by omega) (by simp) ?_;refine Va J J ?_;refine S_load Tk J J J J J (by simpa [add_zero'] using hcs.1) ?_;refine Va J J ?_
     by_cases h9 : s.kind = 9
     ·refine S_callM 1 Tryz.call61 (c_l3Step V who _ ts1 _ (h1.rdy (by omega)) ht1 hw1 (h1.go hc)) J J J J (fun _ => J) ?_
      rintro v G9 A' ⟨cs8, ts8, rfl, rfl, ht8⟩ hext8
      refine S_csV 1 J ?_;rintro bp8 bc8 br8 bs8 kp8 asd8 ksd8 kc8 kr8 ks8 rfl
      refine Va J J ?_;refine S_subI J J J J (by omega) ?_;refine Va J J ?_
      rw [show (((m + 1 : Nat) : Int) - 1) = ((m : Nat) : Int) by omega]
      refine RT J (by simp [h9]) ?_;refine Va J J ?_
      have hte : till who (m + 1) true V = (V.step who, true, m) := by simp [till, hc, hE, hent, hF, hfp, endK, *]
      exact S_retm 1 (Res.c3 Tk Tryz.results42 J J J J J J) J (hext.trans hext8) ⟨_, ts8, by rw [heq, hte], by rw [heq, hte], by rw [heq, hte]; exact ht8⟩
     ·refine S_callM 1 Tryz.call61 (c_l3Step V who _ ts1 _ (h1.rdy (by omega)) ht1 hw1 (h1.go hc)) J J J J (fun _ => J) ?_
      rintro v G9 A' ⟨cs8, ts8, rfl, rfl, ht8⟩ hext8
      refine S_csV 1 J ?_;rintro bp8 bc8 br8 bs8 kp8 asd8 ksd8 kc8 kr8 ks8 rfl
      refine Va J J ?_;refine S_subI J J J J (by omega) ?_;refine Va J J ?_
      rw [show (((m + 1 : Nat) : Int) - 1) = ((m : Nat) : Int) by omega]
      refine RF J (by simp [h9]) ?_;refine Va J J ?_;refine RF J J ?_;refine Va J J ?_
      have hte : till who (m + 1) true V = till who m true (V.step who) := by simp [till, hc, hE, hent, hF, hfp, endK, h12, h9]
      refine S_again ⟨V.step who, B1 + 1, true, m, ⟨bp8, bc8, br8, bs8, kp8, asd8, ksd8, kc8, kr8, ks8⟩, ts8, G9⟩ ⟨hext.trans hext8, ⟨h1.step hw1 hc, by simp only; omega⟩, ht8, by rw [V.step_len]; exact hw1, (heq.trans hte)⟩ (by simp only; omega) rfl ⟨⟨_, rfl, by simp [denO]⟩, ⟨_, rfl, rfl⟩, ⟨_, rfl, rfl⟩, ⟨_, rfl, rfl⟩, ⟨_, rfl, rfl⟩, ⟨_, rfl, rfl⟩, ⟨_, rfl, rfl⟩, trivial⟩ (by simp only [WV.cs]; first | exact .blk J J (.blk J J (.hp .nil)) | exact .hp (.blk J J (.blk J J .nil)))
   -- an entry, outside
   ·refine RT J J ?_
    refine Va J J ?_
    have hte : till who (m + 1) false V = (V, true, m + 1) := by simp [till, hc, hE, hent]
    exact S_retm 1 (Res.c3 Tk Tryz.results42 J J J J J J) J hext ⟨_, ts1, by rw [heq, hte], by rw [heq, hte], by rw [heq, hte]; exact ht1⟩
   -- an entry, inside
   ·refine RF J J ?_
    refine Va J J ?_;refine GF J J J ?_;refine Va J J ?_;refine S_callM 1 Tryz.call61 (c_l3Step V who _ ts1 _ (h1.rdy (by omega)) ht1 hw1 (h1.go hc)) J J J J (fun _ => J) ?_;rintro v G9 A' ⟨cs8, ts8, rfl, rfl, ht8⟩ hext8
    refine S_csV 1 J ?_;rintro bp8 bc8 br8 bs8 kp8 asd8 ksd8 kc8 kr8 ks8 rfl
    refine Va J J ?_;refine S_subI J J J J (by omega) ?_;refine Va J J ?_
    rw [show (((m + 1 : Nat) : Int) - 1) = ((m : Nat) : Int) by omega]
    refine RT J J ?_;refine Va J J ?_
    have hte : till who (m + 1) true V = till who m true (V.step who) := by simp [till, hc, hE, hent]
    refine S_again ⟨V.step who, B1 + 1, true, m, ⟨bp8, bc8, br8, bs8, kp8, asd8, ksd8, kc8, kr8, ks8⟩, ts8, G9⟩ ⟨hext.trans hext8, ⟨h1.step hw1 hc, by simp only; omega⟩, ht8, by rw [V.step_len]; exact hw1, (heq.trans hte)⟩ (by simp only; omega) rfl ⟨⟨_, rfl, by simp [denO]⟩, ⟨_, rfl, rfl⟩, ⟨_, rfl, rfl⟩, ⟨_, rfl, rfl⟩, ⟨_, rfl, rfl⟩, ⟨_, rfl, rfl⟩, ⟨_, rfl, rfl⟩, trivial⟩ (by simp only [WV.cs]; first | exact .blk J J (.blk J J (.hp .nil)) | exact .hp (.blk J J (.blk J J .nil)))
  ·refine RT J (by simp [hc]) ?_
   refine Va J J ?_
   have hte : till who (m + 1) inn1 V = (V, false, m + 1) := by simp [till, hc]
   exact S_retm 1 (Res.c3 Tk Tryz.results42 J J J J J J) J hext ⟨_, ts1, by rw [heq, hte], by rw [heq, hte], by rw [heq, hte]; exact ht1⟩
 ·obtain rfl : n1 = 0 := by omega
  exact S_retm 1 (Res.c3 Tk Tryz.results42 J J J J J J) J hext ⟨_, ts1, by rw [heq]; rfl, by rw [heq]; rfl, by rw [heq]; exact ht1⟩
end
section
attribute [local irreducible] X Pure Mod
structure RS where
 i : Nat
 V : Wld
 B : Nat
 x : WV
 ts : List Value
 G : PH
def RPost (W : Wld) (B : Nat) : Value → PH → HP → Prop := fun v G' A' => ∃ W' ok cs' ts', v = .tuple #[.agg cs'.toArray, .bool ok] ∧ A' = worldV cs' W' ts' ∧ Tds G' W'.procs ts' ∧ (ok = true → rests (List.range W.procs.length) W = some W' ∧ Inv W' (B + 200 * W.procs.length) ∧ W'.procs.length = W.procs.length) ∧ (ok = false → rests (List.range W.procs.length) W = none)
theorem drop_range {i n : Nat} (h : i < n) : (List.range n).drop i = i :: (List.range n).drop (i + 1) := by
 rw [List.drop_eq_getElem_cons (by simpa using h)]
 simp
theorem c_l6Rest (W : Wld) (B : Nat) (cs : List Value) (ts : List Value) (G : PH) (h : Inv W B) (hB : B ≤ 900000) (ht : Tds G W.procs ts) :
  Mod Tryz.prog 43 [.agg cs.toArray, .int .i64 200] G (worldV cs W ts) (RPost W B) := by
 have hn3 := h.n3
 refine Mod.intro Tryz.func43 Tryz.ntmps43 J J fun w S => ?_;refine S_csV 1 J ?_;rintro bp bc br bs kp asd ksd kc kr ks rfl
 refine Va J J ?_;refine S_box J J J J J fun b2 => ?_;refine Va J J ?_;refine AZ ZT_ok J J J J fun b4 => ?_;refine Va J J ?_;refine S_loop (α := RS) (fun y => y.i ≤ W.procs.length ∧ PH.ext w.heap.size G y.G ∧ (Inv y.V y.B ∧ y.B ≤ B + 200 * y.i) ∧ Tds y.G y.V.procs y.ts ∧ y.V.procs.length = W.procs.length ∧ rests (List.range W.procs.length) W = rests ((List.range W.procs.length).drop y.i) y.V) (fun y => W.procs.length - y.i) [(4, b4), (2, b2)]
  (fun y => [(6, .val (.int .i64 (y.i : Nat))), (1, .val (.int .i64 200)), (2, .ptr 2 0), (4, .ptr 4 0), (5, .lit false)])
  (fun y => [.blk 4 31 (vL [.slice none 0 0, .slice none 0 0, .slice none 0 0, .slice none 0 0, .slice none 0 0]), .blk 2 31 (vL (y.x.cs y.V)), .hp 1 (worldV (y.x.cs y.V) y.V y.ts)]) (fun y => y.G) ⟨0, W, B, ⟨bp, bc, br, bs, kp, asd, ksd, kc, kr, ks⟩, ts, G⟩ ⟨Nat.zero_le _, PH.ext.refl _ _, ⟨h, Nat.le_refl _⟩, ht, rfl, rfl⟩ rfl ?_ ?_ ?_
 ·exact ⟨⟨_, J, J⟩, ⟨_, J, J⟩, ⟨_, J, J⟩, ⟨_, J, J⟩, ⟨_, J, J⟩, trivial⟩
 ·exact .blk J J (.blk J J (.hp .nil))
 rintro ⟨i, V, B1, ⟨bp1, bc1, br1, bs1, kp1, asd1, ksd1, kc1, kr1, ks1⟩, ts1, G1⟩ ⟨hi, hext, ⟨h1, hB1⟩, ht1, hlen, heq⟩
 simp only [WV.cs] at hi hext h1 hB1 ht1 hlen heq ⊢
 refine Va J J ?_
 refine S_condp J (fun h5 => ?_) (fun h5 => ?_) <;> refine Va J J ?_
 ·have hiW : i < W.procs.length := by omega
  refine S_loop (α := RS) (fun y => PH.ext w.heap.size G y.G ∧ (Inv y.V y.B ∧ y.B + y.i ≤ B + 200 * i + 200) ∧ Tds y.G y.V.procs y.ts ∧ y.V.procs.length = W.procs.length ∧ restP i 200 V = restP i y.i y.V) (fun y => y.i) [(4, b4), (2, b2)]
   (fun y => [(7, .val (.int .i64 (y.i : Nat))), (6, .val (.int .i64 (i : Nat))), (1, .val (.int .i64 200)), (2, .ptr 2 0), (4, .ptr 4 0), (5, .lit false)])
   (fun y => [.blk 4 31 (vL [.slice none 0 0, .slice none 0 0, .slice none 0 0, .slice none 0 0, .slice none 0 0]), .blk 2 31 (vL (y.x.cs y.V)), .hp 1 (worldV (y.x.cs y.V) y.V y.ts)]) (fun y => y.G) ⟨200, V, B1, ⟨bp1, bc1, br1, bs1, kp1, asd1, ksd1, kc1, kr1, ks1⟩, ts1, G1⟩ ⟨hext, ⟨h1, by simp only; omega⟩, ht1, hlen, rfl⟩ rfl ?_ ?_ ?_
  ·exact ⟨⟨_, J, J⟩, ⟨_, J, J⟩, ⟨_, J, J⟩, ⟨_, J, J⟩, ⟨_, J, J⟩, ⟨_, J, J⟩, trivial⟩
  ·simp only [WV.cs]
   exact .blk J J (.blk J J (.hp .nil))
  rintro ⟨n, V2, B2, ⟨bp2, bc2, br2, bs2, kp2, asd2, ksd2, kc2, kr2, ks2⟩, ts2, G2⟩ ⟨hext2, ⟨h2, hB2⟩, ht2, hlen2, heq2⟩
  simp only [WV.cs] at hext2 h2 hB2 ht2 hlen2 heq2 ⊢
  have hi2 : i < V2.procs.length := by omega
  refine Va J J ?_
  refine S_guardp J J (fun hn => ?_) (fun hn => ?_) <;> refine Va J J ?_
  ·obtain ⟨m, rfl⟩ : ∃ m, n = m + 1 := ⟨n - 1, by omega⟩
   refine S_callM 1 Tryz.call59 (c_l3Code V2 (i : Nat) _ ts2 G2 h2.n1 h2.n3 ht2 h2.head ⟨h2.m0, h2.m1⟩) J J J J (fun _ => J) ?_;rintro v G3 A' ⟨rfl, rfl, rfl⟩ _
   refine Va J J ?_
   refine S_guardp J J (fun hc => ?_) (fun hc => ?_) <;> refine Va J J ?_
   ·have hp : V2.procs[i]? = some V2.procs[i] := by simp [hi2]
    refine S_callM 1 Tryz.call69 (c_l6Comes V2 i _ ts2 _ h2.n1 h2.n3 ht2 hi2 (code0 hp hc).2) J J J J (fun _ => J) ?_;rintro v G3 A' ⟨rfl, rfl, rfl⟩ _
    refine Va J J ?_
    have hE : isEnt V2 i = entP V2.procs[i] := by simp [isEnt, hp, hc]
    refine S_cond J (fun h8 => ?_) (fun h8 => ?_) <;> refine Va J J ?_
    ·have hEf : isEnt V2 i = false := by rw [hE]; simpa using h8
     refine S_callM 1 Tryz.call61 (c_l3Step V2 i _ ts2 _ (h2.rdy (by omega)) ht2 hi2 (h2.go hc)) J J J J (fun _ => J) ?_;rintro v G9 A' ⟨cs8, ts8, rfl, rfl, ht8⟩ hext8
     refine S_csV 1 J ?_;rintro bp8 bc8 br8 bs8 kp8 asd8 ksd8 kc8 kr8 ks8 rfl
     refine Va J J ?_;refine S_subI J J J J (by omega) ?_;refine Va J J ?_;exact S_again ⟨m, V2.step i, B2 + 1, ⟨bp8, bc8, br8, bs8, kp8, asd8, ksd8, kc8, kr8, ks8⟩, ts8, G9⟩ ⟨hext2.trans hext8, ⟨h2.step hi2 hc, by simp only; omega⟩, ht8, by simp only; rw [V2.step_len]; exact hlen2, by simp only; rw [heq2]; simp [restP, hc, hEf]⟩ (by simp only; omega) rfl ⟨⟨_, rfl, by simp [denO]⟩, ⟨_, rfl, rfl⟩, ⟨_, rfl, rfl⟩, ⟨_, rfl, rfl⟩, ⟨_, rfl, rfl⟩, ⟨_, rfl, rfl⟩, trivial⟩ (by simp only [WV.cs]; first | exact .blk J J (.blk J J (.hp .nil)) | exact .hp (.blk J J (.blk J J .nil)))
    ·have hEt : isEnt V2 i = true := by rw [hE]; simpa using h8
     have hte : restP i (m + 1) V2 = (V2, true) := by simp [restP, hEt]
     refine RF J (by simp; omega) ?_;refine Va J J ?_;refine S_add J J J J (by omega) ?_;refine Va J J ?_;refine S_again ⟨i + 1, V2, B2, ⟨bp2, bc2, br2, bs2, kp2, asd2, ksd2, kc2, kr2, ks2⟩, ts2, _⟩ ⟨by simp only; omega, hext2, ⟨h2, by simp only; omega⟩, ht2, by simp only; omega, ?_⟩ (by simp only; omega) rfl ⟨⟨_, rfl, by simp [denO]⟩, ⟨_, rfl, rfl⟩, ⟨_, rfl, rfl⟩, ⟨_, rfl, rfl⟩, ⟨_, rfl, rfl⟩, trivial⟩ (by simp only [WV.cs]; exact .blk J J (.blk J J (.hp .nil)))
     ·simp only
      rw [heq, drop_range (by omega)]
      simp only [rests, heq2, hte]
   ·have hte : restP i (m + 1) V2 = (V2, true) := by simp [restP, hc]
    refine RF J (by simp; omega) ?_;refine Va J J ?_;refine S_add J J J J (by omega) ?_;refine Va J J ?_;refine S_again ⟨i + 1, V2, B2, ⟨bp2, bc2, br2, bs2, kp2, asd2, ksd2, kc2, kr2, ks2⟩, ts2, _⟩ ⟨by simp only; omega, hext2, ⟨h2, by simp only; omega⟩, ht2, by simp only; omega, ?_⟩ (by simp only; omega) rfl ⟨⟨_, rfl, by simp [denO]⟩, ⟨_, rfl, rfl⟩, ⟨_, rfl, rfl⟩, ⟨_, rfl, rfl⟩, ⟨_, rfl, rfl⟩, trivial⟩ (by simp only [WV.cs]; exact .blk J J (.blk J J (.hp .nil)))
    ·simp only
     rw [heq, drop_range (by omega)]
     simp only [rests, heq2, hte]
  ·obtain rfl : n = 0 := by omega
   refine RT J J ?_;refine Va J J ?_;refine S_retm 1 (Res.c2 Tk Tryz.results43 rfl rfl rfl rfl) rfl hext2 ⟨V2, false, _, ts2, rfl, rfl, ht2, (fun h => by cases h), fun _ => ?_⟩
   rw [heq, drop_range (by omega)]
   show rests (i :: _) V = none
   unfold rests
   rw [heq2]
   rfl
 ·have hin : i = W.procs.length := by omega
  subst hin
  refine S_retm 1 (Res.c2 Tk Tryz.results43 rfl rfl rfl rfl) rfl hext ⟨V, true, _, ts1, rfl, rfl, ht1, fun _ => ⟨?_, h1.mono hB1, hlen⟩, fun h => by cases h⟩
  rw [heq, List.drop_of_length_le (by simp)]
  rfl
end
end Go.Proofs.YtlmkipckihgehaaGreat
