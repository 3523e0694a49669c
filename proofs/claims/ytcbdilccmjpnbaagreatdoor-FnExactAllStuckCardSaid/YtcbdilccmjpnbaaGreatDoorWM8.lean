/- Walks of the program's functions, one after the other (part 8); without conditions of their own. -/
import Derived.Test.YtcbdilccmjpnbaaGreatDoorWM1
import Derived.Test.YtcbdilccmjpnbaaGreatDoorWM2
import Derived.Test.YtcbdilccmjpnbaaGreatDoorWM3
import Derived.Test.YtcbdilccmjpnbaaGreatDoorWM7
import Derived.Lib.ItoaLen
import Derived.Lib.Join
set_option linter.unusedVariables false
set_option linter.unusedSimpArgs false
set_option maxRecDepth 100000
set_option maxHeartbeats 4000000
open Go.RowKit
namespace Go.Proofs.YtcbdilccmjpnbaaGreatDoor
section
attribute [local irreducible] X Pure Mod
theorem Cs_intU_eq : ∀ {l : List Int} {xs : List Value}, Cs 1 intU l xs → xs = intC l
  | [], xs, h => h
  | n :: l, xs, h => by
    obtain ⟨cs, ys, rfl, _, rfl, h4⟩ := h
    rw [Cs_intU_eq h4]; rfl
theorem Cs_sayU_eq : ∀ {l : List (Int × Int)} {xs : List Value}, Cs 2 sayU l xs → xs = saidC l
  | [], xs, h => h
  | n :: l, xs, h => by
    obtain ⟨cs, ys, rfl, _, rfl, h4⟩ := h
    rw [Cs_sayU_eq h4]; rfl
theorem intsU_cells {G : PH} {l : List Int} {v : Value} (h : IntsU G l v) : ∃ A c, v = .slice A l.length c ∧ (intC l).length = l.length * 1 ∧ (l.length = 0 ∨ ∃ a, A = some a ∧ gcells G a (intC l)) := by
  obtain ⟨xs, hx, hc⟩ := Sr_Sx (rep := intU) (sz := 1) (fun n cs h => by rw [show cs = [.int .i64 n] from h]; rfl) h
  obtain rfl := Cs_intU_eq hc
  obtain ⟨A, c, rfl, _, _, _, hl, hr⟩ := hx
  exact ⟨A, c, J, hl, hr⟩
theorem saysU_cells {G : PH} {l : List (Int × Int)} {v : Value} (h : SaysU G l v) : ∃ A c, v = .slice A l.length c ∧ (saidC l).length = l.length * 2 ∧ (l.length = 0 ∨ ∃ a, A = some a ∧ gcells G a (saidC l)) := by
  obtain ⟨xs, hx, hc⟩ := Sr_Sx (rep := sayU) (sz := 2) (fun n cs h => by rw [show cs = [.int .i64 n.1, .int .i64 n.2] from h]; rfl) h
  obtain rfl := Cs_sayU_eq hc
  obtain ⟨A, c, rfl, _, _, _, hl, hr⟩ := hx
  exact ⟨A, c, J, hl, hr⟩
theorem intC1 (l : List Int) : ∀ u ∈ intC l, u.oneCell' = true := intC_one l
theorem off_app {A A' : Option Addr} (h : ∃ g, A = some ⟨g, 0, none⟩) (h' : A' = A ∨ ∃ g, A' = some ⟨g, 0, none⟩) : Off0 A' := by
  rcases h' with rfl | h'
  · exact .inr h
  · exact .inr h'
theorem off_app' {A A' : Option Addr} (h : Off0 A) (h' : A' = A ∨ ∃ g, A' = some ⟨g, 0, none⟩) : Off0 A' := by
  rcases h' with rfl | h'
  · exact h
  · exact .inr h'
structure QE where
  A : Option Addr
  c : Nat
  t : Value
  p : Prc
def procZ : List QE → List Value
  | [] => []
  | x :: q => [.slice x.A (0 + 3) x.c, x.t, .int .i64 x.p.mode, .int .i64 x.p.on, .int .i64 x.p.room] ++ procZ q
theorem procZ_snoc (q : List QE) (x : QE) : procZ (q ++ [x]) = procZ q ++ [.slice x.A (0 + 3) x.c, x.t, .int .i64 x.p.mode, .int .i64 x.p.on, .int .i64 x.p.room] := by
  induction q with
  | nil => simp [procZ]
  | cons y q ih => simp [procZ, ih]
def regsZ (base : Nat) (q : List QE) : HP := starHP (q.reverse.map fun x => rowO base 3 1 x.A (0 + 3) x.c ([] ++ intC [x.p.r0, x.p.r1, x.p.r2]))
theorem regsZ_snoc (base : Nat) (q : List QE) (x : QE) : regsZ base (q ++ [x]) = pairHP (rowO base 3 1 x.A (0 + 3) x.c ([] ++ intC [x.p.r0, x.p.r1, x.p.r2])) (regsZ base q) := by simp [regsZ, starHP]
def QOk (G : PH) (ps : List Prc) (q : List QE) : Prop := q.map (·.p) = ps ∧ ∀ x ∈ q, Sts G x.p.todo x.t ∧ Off0 x.A
theorem QOk_le {G G' : PH} (hl : G.le G') {ps : List Prc} {q : List QE} (h : QOk G ps q) : QOk G' ps q := ⟨h.1, fun x hx => ⟨Sts_le hl (h.2 x hx).1, (h.2 x hx).2⟩⟩
structure OC where
  i : Nat
  A : Option Addr
  c : Nat
  q : List QE
  G : PH
theorem off0_eq {A : Option Addr} (h : Off0 A) {g off : Nat} (e : A = some ⟨g, off, none⟩) : off = 0 := by
  rcases h with h | ⟨g', h⟩
  · rw [h] at e; cases e
  · rw [h] at e; cases e; rfl
def kg3 (a b c : Nat) : Nat → Nat
  | 0 => a
  | 1 => b
  | _ => c
def sp3 (a b c : List Value) : Nat → List Value
  | 0 => a
  | 1 => b
  | _ => c
theorem kg3_ok {a b c : Nat} (ha : 3 ≤ a ∧ a ≤ maxLen) (hb : 3 ≤ b ∧ b ≤ maxLen) (hc : 3 ≤ c ∧ c ≤ maxLen) : ∀ i, 3 ≤ kg3 a b c i ∧ kg3 a b c i ≤ maxLen
  | 0 => ha
  | 1 => hb
  | _ + 2 => hc
abbrev NPost (W : Wld) (v : Value) (G' : PH) (A' : HP) : Prop := ∃ cs ts, v = .agg cs.toArray ∧ A' = worldV cs W ts ∧ Tds G' W.procs ts
theorem c_l3Copy (W : Wld) (v : Value) (G : PH) (hW : WG G W v) (hn : 1 ≤ W.procs.length ∧ W.procs.length ≤ 3) (hl : W.said.length ≤ 1000000 ∧ W.q0.length ≤ 1000000 ∧ W.q1.length ≤ 1000000) (hT : ∀ p ∈ W.procs, p.todo.length ≤ 1000000) : Mod Tryz.prog 47 [v] G emptyHP (NPost W) := by
  obtain ⟨vp, vc, vr, vs, vd, rfl, hpr, hce, hro, hsg, hsd⟩ := hW
  obtain ⟨Ac, cc, rfl, xc1, xc2⟩ := intsU_cells hce
  obtain ⟨Ar, cr, rfl, xr1, xr2⟩ := intsU_cells hro
  obtain ⟨Ad, cd, rfl, xd1, xd2⟩ := saysU_cells hsd
  obtain ⟨Ap, cp, rfl, _⟩ := id hpr
  obtain ⟨As, cs', rfl, _⟩ := id hsg
  obtain ⟨ads, z0, eA, hz0, v0, rfl, hv0⟩ := Sr_at hsg (k := 0) (by simp)
  subst eA
  obtain ⟨ads', z1, eA, hz1, v1, rfl, hv1⟩ := Sr_at hsg (k := 1) (by simp)
  cases eA
  obtain ⟨A0, c0, rfl, x01, x02⟩ := intsU_cells hv0
  obtain ⟨A1, c1, rfl, x11, x12⟩ := intsU_cells hv1
  simp only [List.getElem_cons_zero, List.getElem_cons_succ] at hz0 hz1 x01 x02 x11 x12
  refine Mod.intro Tryz.func47 Tryz.ntmps47 J J fun w S => ?_;refine Va J J ?_;refine S_box J J J J J fun b1 => ?_;refine Va J J ?_;refine AZ ZT_ok J J J J fun b2 => ?_;refine Va J J ?_;refine S_cut (α := Nat × (Option Addr × Nat) × (Option Addr × Nat) × Option Addr × Nat) (fun y => Off0 y.2.1.1 ∧ Off0 y.2.2.1.1) (fun y => [(1, b1), (2, b2), (3, y.1)]) (fun y => [(1, .ptr 1 0), (2, .ptr 2 0), (3, .ptr 3 0)])
    (fun y => [.blk 1 56 (vL [.slice Ap W.procs.length cp, .slice Ac [W.c0, W.c1, W.c2].length cc, .slice Ar [W.m0, W.m1].length cr, .slice (some ads) [W.q0, W.q1].length cs', .slice Ad W.said.length cd]), .blk 2 56 (vL [.slice none 0 0, .slice none 0 0, .slice none 0 0, .slice none 0 0, .slice none 0 0]),
      .blk 3 56 [.v (.slice none 0 0), .v (.slice y.2.1.1 (0 + [W.c0, W.c1, W.c2].length) y.2.1.2), .v (.slice y.2.2.1.1 (0 + [W.m0, W.m1].length) y.2.2.1.2), .v (.slice none 0 0), .v (.slice y.2.2.2.1 (0 + W.said.length) y.2.2.2.2)],
      .hp 7 (rowO w.heap.size 3 1 y.2.1.1 (0 + [W.c0, W.c1, W.c2].length) y.2.1.2 ([] ++ intC [W.c0, W.c1, W.c2])), .hp 11 (rowO w.heap.size 3 1 y.2.2.1.1 (0 + [W.m0, W.m1].length) y.2.2.1.2 ([] ++ intC [W.m0, W.m1])), .hp 15 (rowO w.heap.size 96 2 y.2.2.2.1 (0 + W.said.length) y.2.2.2.2 ([] ++ saidC W.said)), .hp 1 emptyHP]) (fun _ => G) ?_ ?_
  ·
    refine Ds J J J ?_;refine Da J J ?_
    repeat' (first
      | exact trivial
      | (refine D_list J ?_)
      | refine And.intro ?_ ?_
      | (refine N_turn Tk 0 J J J J fun back => ?_
         refine S_emptyOz Tk 7 J J J J fun A7 h7 => ?_;refine back _ _ _ _ (by kernel_rfl) ?_
         clear back
         refine Da J J ?_)
      | (refine N_turn Tk 4 J J J J fun back => ?_
         refine S_emptyOz Tk 11 J J J J fun A11 h11 => ?_;refine back _ _ _ _ (by kernel_rfl) ?_
         clear back
         refine Da J J ?_)
      | (refine N_turn Tk 8 J J J J fun back => ?_
         refine S_emptyO Tk 15 J J J J fun A15 => ?_;refine back _ _ _ _ (by kernel_rfl) ?_
         clear back
         refine Da J J ?_)
      | (refine N_turn Tk 13 J J J J fun back => ?_
         refine AZ ZT_ok J J J J fun b3 => ?_;refine back _ _ _ _ (by kernel_rfl) ?_
         clear back
         refine Da J J ?_)
      | (refine N_turn Tk 3 J J J J fun back => ?_
         refine S_appOz Tk 7 J J J J J J J J J J J (fun _ _ => J) (src_G xc1 xc2) (intC1 _) (by simp) (by simp [maxLen]) (Nat.le_refl _) fun A7' c7 h7' => ?_;refine back _ _ _ _ (by kernel_rfl) ?_
         clear back
         refine Da J J ?_)
      | (refine N_turn Tk 7 J J J J fun back => ?_
         refine S_appOz Tk 11 J J J J J J J J J J J (fun _ _ => J) (src_G xr1 xr2) (intC1 _) (by simp) (by simp [maxLen]) (Nat.le_refl _) fun A11' c11 h11' => ?_;refine back _ _ _ _ (by kernel_rfl) ?_
         clear back
         refine Da J J ?_)
      | (refine N_turn Tk 11 J J J J fun back => ?_
         refine S_appO Tk 15 J J J J J J J J J J J (fun _ _ => J) (src_G xd1 xd2) (saidC_one _) (by simp only; omega) (by simp only [maxLen]; omega) (Nat.le_refl _) fun A15' c15 => ?_;refine back _ _ _ _ (by kernel_rfl) ?_
         clear back
         refine Da J J ?_)
      | fail)
    all_goals (refine N_store Tk 14 rfl rfl rfl rfl rfl rfl rfl rfl (by kernel_rfl) ?_)
    all_goals refine D_adv Tk (by decide) rfl rfl ?_
    all_goals (refine DD ?_)
    all_goals refine S_adv Tk rfl 1000 rfl ?_
    all_goals (refine S_pick [1, 2, 3, 7, 11, 15, 1] rfl ?_)
    all_goals exact S_meet (_, (_, _), (_, _), _, _) ⟨off_app h7 h7', off_app h11 h11'⟩ rfl ⟨⟨_, rfl, rfl⟩, ⟨_, rfl, rfl⟩, ⟨_, rfl, rfl⟩, trivial⟩ (.blk rfl rfl (.blk rfl rfl (.blk rfl rfl (.hp (.hp (.hp (.hp .nil)))))))
  rintro ⟨b3, ⟨A7, c7⟩, ⟨A11, c11⟩, A15, c15⟩ ⟨o7, o11⟩
  simp only at o7 o11 ⊢
  refine S_nilO (base := w.heap.size) (e := 52) (size := 1) 40 ?_;refine Va J J ?_;refine S_unroll 2 ?_;refine Va J J ?_
  have o0 : Off0 none := .inl rfl
  refine RT J J ?_;refine Va J J ?_;refine S_cut (α := (Option Addr × Nat) × Option Addr × Nat) (fun y => Off0 y.2.1) (fun y => [(1, b1), (2, b2), (3, b3)]) (fun y => [(4, .val (.int .i64 0)), (1, .ptr 1 0), (2, .ptr 2 0), (3, .ptr 3 0)])
    (fun y => [.blk 1 56 (vL [.slice Ap W.procs.length cp, .slice Ac [W.c0, W.c1, W.c2].length cc, .slice Ar [W.m0, W.m1].length cr, .slice (some ads) [W.q0, W.q1].length cs', .slice Ad W.said.length cd]), .blk 2 56 (vL [.slice none 0 0, .slice none 0 0, .slice none 0 0, .slice none 0 0, .slice none 0 0]),
      .blk 3 56 [.v (.slice none 0 0), .v (.slice A7 (0 + [W.c0, W.c1, W.c2].length) c7), .v (.slice A11 (0 + [W.m0, W.m1].length) c11), .v (.slice y.2.1 (0 + 1) y.2.2), .v (.slice A15 (0 + W.said.length) c15)],
      .hp 7 (rowO w.heap.size 3 1 A7 (0 + [W.c0, W.c1, W.c2].length) c7 ([] ++ intC [W.c0, W.c1, W.c2])), .hp 11 (rowO w.heap.size 3 1 A11 (0 + [W.m0, W.m1].length) c11 ([] ++ intC [W.m0, W.m1])), .hp 15 (rowO w.heap.size 96 2 A15 (0 + W.said.length) c15 ([] ++ saidC W.said)),
      .hp 40 (rowO w.heap.size 52 1 y.2.1 (0 + 1) y.2.2 ([] ++ [.slice y.1.1 (0 + W.q0.length) y.1.2])), .hp 41 (rowO w.heap.size 3 1 y.1.1 (0 + W.q0.length) y.1.2 ([] ++ intC W.q0))] ++ [.hp 1 emptyHP]) (fun _ => G) ?_ ?_
  · refine Ds J J J ?_
    refine Da J J ?_
    repeat' (first
      | exact trivial
      | (refine D_list J ?_)
      | refine And.intro ?_ ?_
      | (refine N_turn Tk 2 J J J J fun back => ?_
         refine S_emptyO Tk 41 J J J J fun A29 => ?_;refine back _ _ _ _ (by kernel_rfl) ?_
         clear back
         refine Da J J ?_)
      | (refine N_turn Tk 6 J J J J fun back => ?_
         refine S_index Tk J J J J J J (by simp) (by simp) ?_;refine back _ _ _ _ (by kernel_rfl) ?_
         clear back
         refine Da J J ?_)
      | (refine N_turn Tk 7 J J J J fun back => ?_
         refine S_load Tk J J J J J (by simpa using hz0.1) ?_;refine back _ _ _ _ (by kernel_rfl) ?_
         clear back
         refine Da J J ?_)
      | (refine N_turn Tk 8 J J J J fun back => ?_
         refine S_appO Tk 41 J J J J J J J J J J J (fun _ _ => J) (src_G x01 x02) (intC1 _) (by simp only; omega) (by simp only [maxLen]; omega) (Nat.le_refl _) fun A29' c29 => ?_;refine back _ _ _ _ (by kernel_rfl) ?_
         clear back
         refine Da J J ?_)
      | (refine N_turn Tk 9 J J J J fun back => ?_
         refine S_slice Tk ZT_ok J J J J (by decide) (by decide) J J J J fun b36 => ?_;refine back _ _ _ _ (by kernel_rfl) ?_
         clear back
         refine Da J J ?_)
      | (refine N_turn Tk 10 J J J J fun back => ?_
         refine S_app1z Tk 40 36 J J J J J J J J J J J J J J (by intro u hu; simp at hu; rcases hu with rfl; rfl) rfl (fun _ _ => rfl) (by omega) (Nat.le_refl _) fun A40 c40 h40 => ?_;refine back _ _ _ _ (by kernel_rfl) ?_
         clear back
         refine Da J J ?_)
      | fail)
    all_goals (refine N_store Tk 12 rfl rfl rfl rfl rfl rfl rfl rfl (by kernel_rfl) ?_)
    all_goals refine D_adv Tk (by decide) rfl rfl ?_
    all_goals (refine DD ?_)
    all_goals refine S_adv Tk rfl 1000 rfl ?_
    all_goals (refine S_pick [1, 2, 3, 7, 11, 15, 40, 41, 1] rfl ?_)
    all_goals exact S_meet ((_, _), _, _) (by rename_i h40; exact off_app' (by assumption) h40) J ⟨⟨_, J, J⟩, ⟨_, J, J⟩, ⟨_, J, J⟩, ⟨_, J, J⟩, trivial⟩ (.blk J J (.blk J J (.blk J J (.hp (.hp (.hp (.hp (.hp (.hp .nil)))))))))
  rintro ⟨⟨A41, c41⟩, A42, c42⟩ o42
  simp only at o42 ⊢
  refine Va J J ?_;refine S_add J J J J (by omega) ?_;refine Va J J ?_;refine S_next ?_;refine Va J J ?_;refine RT J J ?_;refine Va J J ?_;refine S_cut (α := (Option Addr × Nat) × Option Addr × Nat) (fun y => Off0 y.2.1) (fun y => [(1, b1), (2, b2), (3, b3)]) (fun y => [(4, .val (.int .i64 1)), (1, .ptr 1 0), (2, .ptr 2 0), (3, .ptr 3 0)])
    (fun y => [.blk 1 56 (vL [.slice Ap W.procs.length cp, .slice Ac [W.c0, W.c1, W.c2].length cc, .slice Ar [W.m0, W.m1].length cr, .slice (some ads) [W.q0, W.q1].length cs', .slice Ad W.said.length cd]), .blk 2 56 (vL [.slice none 0 0, .slice none 0 0, .slice none 0 0, .slice none 0 0, .slice none 0 0]),
      .blk 3 56 [.v (.slice none 0 0), .v (.slice A7 (0 + [W.c0, W.c1, W.c2].length) c7), .v (.slice A11 (0 + [W.m0, W.m1].length) c11), .v (.slice y.2.1 ((0 + 1) + 1) y.2.2), .v (.slice A15 (0 + W.said.length) c15)],
      .hp 7 (rowO w.heap.size 3 1 A7 (0 + [W.c0, W.c1, W.c2].length) c7 ([] ++ intC [W.c0, W.c1, W.c2])), .hp 11 (rowO w.heap.size 3 1 A11 (0 + [W.m0, W.m1].length) c11 ([] ++ intC [W.m0, W.m1])), .hp 15 (rowO w.heap.size 96 2 A15 (0 + W.said.length) c15 ([] ++ saidC W.said)),
      .hp 40 (rowO w.heap.size 52 1 y.2.1 ((0 + 1) + 1) y.2.2 (([] ++ [.slice A41 (0 + W.q0.length) c41]) ++ [.slice y.1.1 (0 + W.q1.length) y.1.2])), .hp 43 (rowO w.heap.size 3 1 y.1.1 (0 + W.q1.length) y.1.2 ([] ++ intC W.q1))] ++ [.hp 41 (rowO w.heap.size 3 1 A41 (0 + W.q0.length) c41 ([] ++ intC W.q0)), .hp 1 emptyHP]) (fun _ => G) ?_ ?_
  · refine Ds J J J ?_
    refine Da J J ?_
    repeat' (first
      | exact trivial
      | (refine D_list J ?_)
      | refine And.intro ?_ ?_
      | (refine N_turn Tk 2 J J J J fun back => ?_
         refine S_emptyO Tk 43 J J J J fun A29 => ?_;refine back _ _ _ _ (by kernel_rfl) ?_
         clear back
         refine Da J J ?_)
      | (refine N_turn Tk 6 J J J J fun back => ?_
         refine S_index Tk J J J J J J (by simp) (by simp) ?_;refine back _ _ _ _ (by kernel_rfl) ?_
         clear back
         refine Da J J ?_)
      | (refine N_turn Tk 7 J J J J fun back => ?_
         refine S_load Tk J J J J J (by simpa using hz1.1) ?_;refine back _ _ _ _ (by kernel_rfl) ?_
         clear back
         refine Da J J ?_)
      | (refine N_turn Tk 8 J J J J fun back => ?_
         refine S_appO Tk 43 J J J J J J J J J J J (fun _ _ => J) (src_G x11 x12) (intC1 _) (by simp only; omega) (by simp only [maxLen]; omega) (Nat.le_refl _) fun A29' c29 => ?_;refine back _ _ _ _ (by kernel_rfl) ?_
         clear back
         refine Da J J ?_)
      | (refine N_turn Tk 9 J J J J fun back => ?_
         refine S_slice Tk ZT_ok J J J J (by decide) (by decide) J J J J fun b36 => ?_;refine back _ _ _ _ (by kernel_rfl) ?_
         clear back
         refine Da J J ?_)
      | (refine N_turn Tk 10 J J J J fun back => ?_
         refine S_app1z Tk 40 36 J J J J J J J J J J J J J J (by intro u hu; simp at hu; rcases hu with rfl; rfl) rfl (fun _ _ => rfl) (by omega) (Nat.le_refl _) fun A40 c40 h40 => ?_;refine back _ _ _ _ (by kernel_rfl) ?_
         clear back
         refine Da J J ?_)
      | fail)
    all_goals (refine N_store Tk 12 rfl rfl rfl rfl rfl rfl rfl rfl (by kernel_rfl) ?_)
    all_goals refine D_adv Tk (by decide) rfl rfl ?_
    all_goals (refine DD ?_)
    all_goals refine S_adv Tk rfl 1000 rfl ?_
    all_goals (refine S_pick [1, 2, 3, 7, 11, 15, 40, 43, 41, 1] rfl ?_)
    all_goals exact S_meet ((_, _), _, _) (by rename_i h40; exact off_app' (by assumption) h40) J ⟨⟨_, J, J⟩, ⟨_, J, J⟩, ⟨_, J, J⟩, ⟨_, J, J⟩, trivial⟩ (.blk J J (.blk J J (.blk J J (.hp (.hp (.hp (.hp (.hp (.hp (.hp .nil))))))))))
  rintro ⟨⟨A43, c43⟩, A44, c44⟩ o44
  simp only at o44 ⊢
  refine Va J J ?_;refine S_add J J J J (by omega) ?_;refine Va J J ?_;refine S_next ?_;refine Va J J ?_;refine RF J J ?_;refine Va J J ?_;refine S_nilO (base := w.heap.size) (e := 62) (size := 5) 50 ?_;refine S_newE 51 ?_;refine S_loop (α := OC) (fun y => y.i ≤ W.procs.length ∧ y.q.length = y.i ∧ PH.ext w.heap.size G y.G ∧ QOk y.G (W.procs.take y.i) y.q ∧ Off0 y.A) (fun y => W.procs.length - y.i) [(1, b1), (2, b2), (3, b3)]
    (fun y => [(5, .val (.int .i64 (y.i : Nat))), (1, .ptr 1 0), (2, .ptr 2 0), (3, .ptr 3 0)])
    (fun y => [.hp 51 (regsZ w.heap.size y.q), .hp 50 (rowO w.heap.size 62 5 y.A y.q.length y.c (procZ y.q)),
      .blk 1 56 (vL [.slice Ap W.procs.length cp, .slice Ac [W.c0, W.c1, W.c2].length cc, .slice Ar [W.m0, W.m1].length cr, .slice (some ads) [W.q0, W.q1].length cs', .slice Ad W.said.length cd]), .blk 2 56 (vL [.slice none 0 0, .slice none 0 0, .slice none 0 0, .slice none 0 0, .slice none 0 0]),
      .blk 3 56 [.v (.slice y.A y.q.length y.c), .v (.slice A7 (0 + [W.c0, W.c1, W.c2].length) c7), .v (.slice A11 (0 + [W.m0, W.m1].length) c11), .v (.slice A44 (0 + 1 + 1) c44), .v (.slice A15 (0 + W.said.length) c15)],
      .hp 7 (rowO w.heap.size 3 1 A7 (0 + [W.c0, W.c1, W.c2].length) c7 ([] ++ intC [W.c0, W.c1, W.c2])), .hp 11 (rowO w.heap.size 3 1 A11 (0 + [W.m0, W.m1].length) c11 ([] ++ intC [W.m0, W.m1])), .hp 15 (rowO w.heap.size 96 2 A15 (0 + W.said.length) c15 ([] ++ saidC W.said)),
      .hp 40 (rowO w.heap.size 52 1 A44 (0 + 1 + 1) c44 ([] ++ [.slice A41 (0 + W.q0.length) c41] ++ [.slice A43 (0 + W.q1.length) c43])), .hp 43 (rowO w.heap.size 3 1 A43 (0 + W.q1.length) c43 ([] ++ intC W.q1)), .hp 41 (rowO w.heap.size 3 1 A41 (0 + W.q0.length) c41 ([] ++ intC W.q0)), .hp 1 emptyHP]) (fun y => y.G) ⟨0, none, 0, [], G⟩ ⟨Nat.zero_le _, rfl, PH.ext.refl _ _, ⟨rfl, by simp⟩, .inl rfl⟩ rfl ?_ ?_ ?_
  · exact ⟨⟨_, J, J⟩, ⟨_, J, J⟩, ⟨_, J, J⟩, ⟨_, J, J⟩, trivial⟩
  · exact .hp (.hp (.blk J J (.blk J J (.blk J J (.hp (.hp (.hp (.hp (.hp (.hp (.hp .nil)))))))))))
  rintro ⟨i, A5, c5, q, G1⟩ ⟨hi, hq, hext, hqd, hoff⟩
  simp only at hi hq hext hqd hoff ⊢
  refine Va J J ?_
  refine S_condp J (fun h5 => ?_) (fun h5 => ?_) <;> refine Va J J ?_
  · have hil : i < W.procs.length := by omega
    obtain ⟨ad, cs, rfl, hcs, vr1, vt1, rfl, hr1, ht1⟩ := Sr_at (Sr_mono hext.le (fun _ _ _ h => prcRep_le hext.le h) hpr) hil
    obtain ⟨Br, dr, rfl, y1, y2⟩ := intsU_cells hr1
    obtain ⟨Bt, dt, xt, rfl, hxl, hxg, hct⟩ := sts_cells ht1
    have htl := hT _ (List.getElem_mem hil)
    refine S_index Tk J J J J J J (by omega) (by omega) ?_;refine Va J J ?_;refine S_loadA Tk J J J J J (by simpa using hcs) ?_;refine Va J J ?_;refine AZ ZT_ok J J J J fun b6 => ?_;refine Va J J ?_;refine S_emptyOz Tk 52 J J J J fun A52 h52 => ?_;refine Va J J ?_;refine S_appOz Tk 52 J J J J J J J J J J J (fun _ _ => J) (src_G y1 y2) (intC1 _) (by simp) (by simp [maxLen]) (Nat.le_refl _) fun A53 c53 h53 => ?_
    refine Va J J ?_;refine S_emptyO Tk 56 J J J J fun A56 => ?_;refine Va J J ?_;refine S_appO Tk 56 J J J J J J J J J J J (fun _ _ => J) (src_G hxl hxg) (Cs_one Stm.rep_one hct) (by simp only; omega) (by simp only [maxLen]; omega) (Nat.le_refl _) fun A57 c57 => ?_;refine Va J J ?_;refine S_slice Tk ZT_ok J J J J (by decide) (by decide) J J J J fun b64 => ?_;refine Va J J ?_
    refine S_app1z Tk 50 64 J J J J J J J J J J J J J J (by intro u hu; simp at hu; rcases hu with rfl | rfl | rfl | rfl | rfl <;> rfl) rfl (fun _ _ => rfl) (by omega) (Nat.le_refl _) fun A6 c6 h6 => ?_
    refine Va J J ?_;refine S_add J J J J (by omega) ?_;refine Va J J ?_;refine S_freezeR 56 J J (Nat.le_refl _) fun G2 hext2 hnc hcm hcl => ?_
    have hv : Sts G2 W.procs[i].todo (.slice A57 (0 + W.procs[i].todo.length) c57) := frz (Cs_mono (Stm.reps_le hext2.le _) (by simpa using hct)) (by omega) (by omega) hnc hcm hcl
    refine S_pair 52 51 58 J J J J ?_;refine S_pick [58, 50, 1, 2, 3, 7, 11, 15, 40, 43, 41, 1] J ?_;refine S_again ⟨i + 1, A6, c6, q ++ [⟨A53, c53, .slice A57 (0 + W.procs[i].todo.length) c57, W.procs[i]⟩], G2⟩ ⟨by simp only; omega, by simp; omega, hext.trans hext2, ⟨?_, ?_⟩, off_app' hoff h6⟩ (by simp only; omega) rfl ⟨⟨_, rfl, by simp [denO]⟩, ⟨_, rfl, rfl⟩, ⟨_, rfl, rfl⟩, ⟨_, rfl, rfl⟩, trivial⟩ ?_
    · simp only
      rw [List.take_succ_eq_append_getElem hil, List.map_append, hqd.1]; rfl
    · intro x hx
      rcases List.mem_append.1 hx with hx | hx
      · exact (QOk_le hext2.le hqd).2 x hx
      · rw [List.mem_singleton.1 hx]; exact ⟨hv, off_app h52 h53⟩
    · simp only [regsZ_snoc, procZ_snoc, List.length_append, List.length_singleton]
      exact .hp (.hp (.blk J J (.blk J J (.blk J J (.hp (.hp (.hp (.hp (.hp (.hp (.hp .nil)))))))))))
  · have hin : i = W.procs.length := by omega
    subst hin
    rw [List.take_length] at hqd
    refine S_capO 50 J fun hnP hmP _ => ?_;refine S_someO 50 J (by (try simp at hnP); (try simp only); omega) fun gP oP eA => ?_;obtain rfl : oP = 0 := off0_eq (hoff) eA
    subst eA
    refine S_rowB 50 74 J J J fun spP => ?_;refine S_capO 7 J fun hnC hmC _ => ?_;refine S_someO 7 J (by (try simp at hnC); (try simp only); omega) fun gC oC eA => ?_;obtain rfl : oC = 0 := off0_eq (o7) eA
    subst eA
    refine S_rowB 7 71 J J J fun spC => ?_;refine S_capO 11 J fun hnR hmR _ => ?_;refine S_someO 11 J (by (try simp at hnR); (try simp only); omega) fun gR oR eA => ?_;obtain rfl : oR = 0 := off0_eq (o11) eA
    subst eA
    refine S_rowB 11 72 J J J fun spR => ?_;refine S_capO 40 J fun hnS hmS _ => ?_;refine S_someO 40 J (by (try simp at hnS); (try simp only); omega) fun gS oS eA => ?_;obtain rfl : oS = 0 := off0_eq (o44) eA
    subst eA
    refine S_rowB 40 73 J J J fun spS => ?_;refine S_base0 15 J J ?_;refine S_base0 41 J J ?_;refine S_base0 43 J J ?_;obtain ⟨hqd1, hqd2⟩ := hqd
    obtain ⟨ps, w1, w2, w3, w4, w5, w6, w7, w8⟩ := W
    simp only at hq hqd1 hn hnP
    subst hqd1
    rcases (by rw [List.length_map] at hn; omega : q.length = 1 ∨ q.length = 2 ∨ q.length = 3) with h1 | h1 | h1
    · obtain ⟨⟨Aa, ca, ta, pa⟩, rfl⟩ := len1 h1
      refine S_unpair 51 500 600 J J ?_;refine S_capO 500 J fun hna hma _ => ?_;refine S_someO 500 J (by (try simp at hna); (try simp only); omega) fun ga oa eA => ?_;obtain rfl : oa = 0 := off0_eq ((hqd2 ⟨Aa, ca, ta, pa⟩ (by simp)).2) eA
      subst eA
      refine S_rowB 500 60 J J J fun spa => ?_
      simp only at hna hma
      exact RK [74, 71, 72, 73, 15, 41, 43, 60] (Res.c1 Tk Tryz.results47 J J) ⟨_, [ta], J, J, ⟨(hqd2 _ (List.mem_cons_self ..)).1, trivial⟩⟩ ⟨gP, gC, gR, gS, [ga], ⟨c5, spP, A15, c15, A41, c41, A43, c43, c7, spC, c11, spR, c44, spS, kg3 ca 3 3, sp3 spa [] []⟩, ⟨0 + w8.length, [] ++ saidC w8, 0 + w6.length, [] ++ intC w6, 0 + w7.length, [] ++ intC w7⟩, J, ⟨⟨by simpa using hnP, hmP⟩, ⟨by simpa using hnC, hmC⟩, ⟨by simpa using hnR, hmR⟩, ⟨by simpa using hnS, hmS⟩, kg3_ok ⟨by simpa using hna, hma⟩ ⟨by decide, by decide⟩ ⟨by decide, by decide⟩⟩, ⟨⟨by simp, by simp⟩, ⟨by simp, by simp⟩, by simp, by simp⟩, J, J, J⟩ J (Wsub 5 J J J J J J J J J J J J J J J J (Bs 3 J J J J .nil)) hext
    · obtain ⟨⟨Aa, ca, ta, pa⟩, ⟨Ab, cb, tb, pb⟩, rfl⟩ := len2 h1
      refine S_unpair 51 501 601 J J ?_;refine S_capO 501 J fun hnb hmb _ => ?_;refine S_someO 501 J (by (try simp at hnb); (try simp only); omega) fun gb ob eA => ?_;obtain rfl : ob = 0 := off0_eq ((hqd2 ⟨Ab, cb, tb, pb⟩ (by simp)).2) eA
      subst eA
      refine S_rowB 501 61 J J J fun spb => ?_
      simp only at hnb hmb
      refine S_unpair 601 500 600 J J ?_;refine S_capO 500 J fun hna hma _ => ?_;refine S_someO 500 J (by (try simp at hna); (try simp only); omega) fun ga oa eA => ?_;obtain rfl : oa = 0 := off0_eq ((hqd2 ⟨Aa, ca, ta, pa⟩ (by simp)).2) eA
      subst eA
      refine S_rowB 500 60 J J J fun spa => ?_
      simp only at hna hma
      exact RK [74, 71, 72, 73, 15, 41, 43, 60, 61] (Res.c1 Tk Tryz.results47 J J) ⟨_, [ta, tb], J, J, ⟨(hqd2 _ (List.mem_cons_self ..)).1, ⟨(hqd2 _ (List.mem_cons_of_mem _ (List.mem_cons_self ..))).1, trivial⟩⟩⟩ ⟨gP, gC, gR, gS, [ga, gb], ⟨c5, spP, A15, c15, A41, c41, A43, c43, c7, spC, c11, spR, c44, spS, kg3 ca cb 3, sp3 spa spb []⟩, ⟨0 + w8.length, [] ++ saidC w8, 0 + w6.length, [] ++ intC w6, 0 + w7.length, [] ++ intC w7⟩, J, ⟨⟨by simpa using hnP, hmP⟩, ⟨by simpa using hnC, hmC⟩, ⟨by simpa using hnR, hmR⟩, ⟨by simpa using hnS, hmS⟩, kg3_ok ⟨by simpa using hna, hma⟩ ⟨by simpa using hnb, hmb⟩ ⟨by decide, by decide⟩⟩, ⟨⟨by simp, by simp⟩, ⟨by simp, by simp⟩, by simp, by simp⟩, J, J, J⟩ J (Wsub 10 J J J J J J J J J J J J J J J J (Bs 3 J J J J (Bs 3 J J J J .nil))) hext
    · obtain ⟨⟨Aa, ca, ta, pa⟩, ⟨Ab, cb, tb, pb⟩, ⟨Ad, cd, td, pd⟩, rfl⟩ := len3 h1
      refine S_unpair 51 502 602 J J ?_;refine S_capO 502 J fun hnd hmd _ => ?_;refine S_someO 502 J (by (try simp at hnd); (try simp only); omega) fun gd od eA => ?_;obtain rfl : od = 0 := off0_eq ((hqd2 ⟨Ad, cd, td, pd⟩ (by simp)).2) eA
      subst eA
      refine S_rowB 502 62 J J J fun spd => ?_
      simp only at hnd hmd
      refine S_unpair 602 501 601 J J ?_;refine S_capO 501 J fun hnb hmb _ => ?_;refine S_someO 501 J (by (try simp at hnb); (try simp only); omega) fun gb ob eA => ?_;obtain rfl : ob = 0 := off0_eq ((hqd2 ⟨Ab, cb, tb, pb⟩ (by simp)).2) eA
      subst eA
      refine S_rowB 501 61 J J J fun spb => ?_
      simp only at hnb hmb
      refine S_unpair 601 500 600 J J ?_;refine S_capO 500 J fun hna hma _ => ?_;refine S_someO 500 J (by (try simp at hna); (try simp only); omega) fun ga oa eA => ?_;obtain rfl : oa = 0 := off0_eq ((hqd2 ⟨Aa, ca, ta, pa⟩ (by simp)).2) eA
      subst eA
      refine S_rowB 500 60 J J J fun spa => ?_
      simp only at hna hma
      exact RK [74, 71, 72, 73, 15, 41, 43, 60, 61, 62] (Res.c1 Tk Tryz.results47 J J) ⟨_, [ta, tb, td], J, J, ⟨(hqd2 _ (List.mem_cons_self ..)).1, ⟨(hqd2 _ (List.mem_cons_of_mem _ (List.mem_cons_self ..))).1, ⟨(hqd2 _ (List.mem_cons_of_mem _ (List.mem_cons_of_mem _ (List.mem_cons_self ..)))).1, trivial⟩⟩⟩⟩ ⟨gP, gC, gR, gS, [ga, gb, gd], ⟨c5, spP, A15, c15, A41, c41, A43, c43, c7, spC, c11, spR, c44, spS, kg3 ca cb cd, sp3 spa spb spd⟩, ⟨0 + w8.length, [] ++ saidC w8, 0 + w6.length, [] ++ intC w6, 0 + w7.length, [] ++ intC w7⟩, J, ⟨⟨by simpa using hnP, hmP⟩, ⟨by simpa using hnC, hmC⟩, ⟨by simpa using hnR, hmR⟩, ⟨by simpa using hnS, hmS⟩, kg3_ok ⟨by simpa using hna, hma⟩ ⟨by simpa using hnb, hmb⟩ ⟨by simpa using hnd, hmd⟩⟩, ⟨⟨by simp, by simp⟩, ⟨by simp, by simp⟩, by simp, by simp⟩, J, J, J⟩ J (Wsub 15 J J J J J J J J J J J J J J J J (Bs 3 J J J J (Bs 3 J J J J (Bs 3 J J J J .nil)))) hext
end
section
attribute [local irreducible] X Pure Mod
def outP (p : Prc) : Prc := { p with todo := cpL p.todo 4 }
def Wld.out (W : Wld) : Wld := { W with procs := W.procs.map outP }
structure Fin3 (W : Wld) : Prop where
 n1 : 1 ≤ W.procs.length
 n3 : W.procs.length ≤ 3
 sd : W.said.length ≤ 1000000
 q0 : W.q0.length ≤ 1000000
 q1 : W.q1.length ≤ 1000000
 td : ∀ p ∈ W.procs, p.todo.length ≤ 1000000
theorem c_l3Out (W : Wld) (v : Value) (G : PH) (hW : WG G W v) (hF : Fin3 W) : Mod Tryz.prog 30 [v] G emptyHP (NPost W.out) := by
 have hW0 := hW
 obtain ⟨vp, vc, vr, vs, vd, rfl, hpr, hce, hro, hsg, hsd⟩ := hW
 obtain ⟨Ap, cp, rfl, _⟩ := id hpr
 obtain ⟨ps, w1, w2, w3, w4, w5, w6, w7, w8⟩ := W
 have hn1 := hF.n1
 have hn3 := hF.n3
 simp only at hn1 hn3 hpr hsg hsd
 refine Mod.intro Tryz.func30 Tryz.ntmps30 J J fun w S => ?_;refine Va J J ?_;refine S_box J J J J J fun b1 => ?_;refine Va J J ?_;refine AZ ZT_ok J J J J fun b2 => ?_;refine Va J J ?_;refine RF J (by simp; intro h; simp [h] at hn1) ?_;refine Va J J ?_;refine S_callN 20 Tryz.call47 (c_l3Copy _ _ G hW0 ⟨hn1, hn3⟩ ⟨hF.sd, hF.q0, hF.q1⟩ hF.td) J J J ?_;rintro v1 G1 A1 ⟨cs, ts, rfl, rfl, htd⟩ hext1
 refine S_newHP 20 J J ?_;refine S_csV 20 J ?_;rintro bp bc br bs kp asd ksd kc kr ks rfl
 refine Va J J ?_;refine AZ ZT_ok J J J J fun b3 => ?_;refine Va J J ?_;refine S_V2P 3 20 21 J J J J J J ?_;refine S_reE 3 (.val (.pointer (some ⟨b3, 0, none⟩))) J J ?_
 rcases shape hn1 hn3 htd with ⟨p0, A0, c0, rfl, rfl, s0⟩ | ⟨p0, A0, c0, p1, A1, c1, rfl, rfl, s0, s1⟩ | ⟨p0, A0, c0, p1, A1, c1, p2, A2, c2, rfl, rfl, s0, s1, s2⟩
 ·refine OpP 21 3 J J J J fun bp bc br bs bg kp sp asd ksd aq0 kq0 aq1 kq1 kc spc kr spr ks sps kg spg hbg hmk => ?_; obtain ⟨g0, rfl⟩ := len1 hbg; clear hbg; refine NM J J ?_; dsimp only [wEnts, wCels, procCs, regEs, WX.of, vi]
  refine S_unroll 1 ?_;refine Va J J ?_;refine RT J J ?_;refine Va J J ?_;refine Ds J J J ?_;refine Da J J ?_;refine D_sole 9 J J (N_call 9 Tryz.call60 (Cp_all _ 4 _ _ s0 (by omega)) J J J J J J J J J J ?_)
  rintro v9 G9 hv0 hx0
  obtain ⟨A9, c9, rfl, _⟩ := id hv0
  refine Da J J ?_;refine Ns 12 J J J J J J J J J ?_;refine DD ?_;refine Va J J ?_;refine S_add J J J J (by omega) ?_;refine Va J J ?_;refine S_next ?_;refine Va J J ?_;refine RF J J ?_;refine Va J J ?_;exact RK (wKeys 1) (Res.c1 Tk Tryz.results30 J J) ⟨_, [_], J, J, hv0, trivial⟩ (Wvp [_] kg spg J ‹_› J J J J J J J J J) J (Wsub 5 J J J J J J J J J J J J J J J J (Bs 3 J J J J .nil)) (hext1.trans hx0)
 ·refine OpP 21 3 J J J J fun bp bc br bs bg kp sp asd ksd aq0 kq0 aq1 kq1 kc spc kr spr ks sps kg spg hbg hmk => ?_; obtain ⟨g0, g1, rfl⟩ := len2 hbg; clear hbg; refine NM J J ?_; dsimp only [wEnts, wCels, procCs, regEs, WX.of, vi]
  refine S_unroll 2 ?_;refine Va J J ?_;refine RT J J ?_;refine Va J J ?_;refine Ds J J J ?_;refine Da J J ?_;refine D_sole 9 J J (N_call 9 Tryz.call60 (Cp_all _ 4 _ _ s0 (by omega)) J J J J J J J J J J ?_)
  rintro v9 G9 hv0 hx0
  obtain ⟨A9, c9, rfl, _⟩ := id hv0
  refine Da J J ?_;refine Ns 12 J J J J J J J J J ?_;refine DD ?_;refine Va J J ?_;refine S_add J J J J (by omega) ?_;refine Va J J ?_;refine S_next ?_;refine Va J J ?_;refine RT J J ?_;refine Va J J ?_;refine Ds J J J ?_;refine Da J J ?_;refine D_sole 9 J J (N_call 9 Tryz.call60 (Cp_all _ 4 _ _ (Sts_le hx0.le s1) (by omega)) J J J J J J J J J J ?_)
  rintro v9 G10 hv1 hx1
  obtain ⟨A9, c9, rfl, _⟩ := id hv1
  refine Da J J ?_;refine Ns 12 J J J J J J J J J ?_;refine DD ?_;refine Va J J ?_;refine S_add J J J J (by omega) ?_;refine Va J J ?_;refine S_next ?_;refine Va J J ?_;refine RF J J ?_;refine Va J J ?_;exact RK (wKeys 2) (Res.c1 Tk Tryz.results30 J J) ⟨_, [_, _], J, J, Sts_le hx1.le hv0, hv1, trivial⟩ (Wvp [_, _] kg spg J ‹_› J J J J J J J J J) J (Wsub 10 J J J J J J J J J J J J J J J J (Bs 3 J J J J (Bs 3 J J J J .nil))) ((hext1.trans hx0).trans hx1)
 ·refine OpP 21 3 J J J J fun bp bc br bs bg kp sp asd ksd aq0 kq0 aq1 kq1 kc spc kr spr ks sps kg spg hbg hmk => ?_; obtain ⟨g0, g1, g2, rfl⟩ := len3 hbg; clear hbg; refine NM J J ?_; dsimp only [wEnts, wCels, procCs, regEs, WX.of, vi]
  refine S_unroll 3 ?_;refine Va J J ?_;refine RT J J ?_;refine Va J J ?_;refine Ds J J J ?_;refine Da J J ?_;refine D_sole 9 J J (N_call 9 Tryz.call60 (Cp_all _ 4 _ _ s0 (by omega)) J J J J J J J J J J ?_)
  rintro v9 G9 hv0 hx0
  obtain ⟨A9, c9, rfl, _⟩ := id hv0
  refine Da J J ?_;refine Ns 12 J J J J J J J J J ?_;refine DD ?_;refine Va J J ?_;refine S_add J J J J (by omega) ?_;refine Va J J ?_;refine S_next ?_;refine Va J J ?_;refine RT J J ?_;refine Va J J ?_;refine Ds J J J ?_;refine Da J J ?_;refine D_sole 9 J J (N_call 9 Tryz.call60 (Cp_all _ 4 _ _ (Sts_le hx0.le s1) (by omega)) J J J J J J J J J J ?_)
  rintro v9 G10 hv1 hx1
  obtain ⟨A9, c9, rfl, _⟩ := id hv1
  refine Da J J ?_;refine Ns 12 J J J J J J J J J ?_;refine DD ?_;refine Va J J ?_;refine S_add J J J J (by omega) ?_;refine Va J J ?_;refine S_next ?_;refine Va J J ?_;refine RT J J ?_;refine Va J J ?_;refine Ds J J J ?_;refine Da J J ?_;refine D_sole 9 J J (N_call 9 Tryz.call60 (Cp_all _ 4 _ _ (Sts_le (hx0.le.trans hx1.le) s2) (by omega)) J J J J J J J J J J ?_)
  rintro v9 G11 hv2 hx2
  obtain ⟨A9, c9, rfl, _⟩ := id hv2
  refine Da J J ?_;refine Ns 12 J J J J J J J J J ?_;refine DD ?_;refine Va J J ?_;refine S_add J J J J (by omega) ?_;refine Va J J ?_;refine S_next ?_;refine Va J J ?_;refine RF J J ?_;refine Va J J ?_;exact RK (wKeys 3) (Res.c1 Tk Tryz.results30 J J) ⟨_, [_, _, _], J, J, Sts_le (hx1.le.trans hx2.le) hv0, Sts_le hx2.le hv1, hv2, trivial⟩ (Wvp [_, _, _] kg spg J ‹_› J J J J J J J J J) J (Wsub 15 J J J J J J J J J J J J J J J J (Bs 3 J J J J (Bs 3 J J J J (Bs 3 J J J J .nil)))) (((hext1.trans hx0).trans hx1).trans hx2)
end
section
attribute [local irreducible] X Pure Mod
mutual
def dpS : Stm → Nat
 | .mk _ _ _ _ x y => 1 + max (dpL x) (dpL y)
def dpL : List Stm → Nat
 | [] => 0
 | s :: r => max (dpS s) (dpL r)
end
theorem dpS_eq (s : Stm) : dpS s = 1 + max (dpL s.body) (dpL s.els) := by cases s; simp [dpS, Stm.body, Stm.els]
theorem dpL_append (L M : List Stm) : dpL (L ++ M) = max (dpL L) (dpL M) := by
 induction L with
 | nil => simp [dpL]
 | cons s L ih => simp only [List.cons_append, dpL, ih]; omega
theorem cpL_id : ∀ (n : Nat) (L : List Stm), dpL L ≤ n → cpL L n = L
 | 0, [], _ => rfl
 | 0, s :: L, h => by simp only [dpL, dpS_eq] at h; omega
 | n + 1, L, h => by
  rw [cpL_succ]
  induction L with
  | nil => rfl
  | cons s L ih =>
   simp only [dpL] at h
   rw [List.map_cons, ih (by omega)]
   obtain ⟨k, a, b, m, x, y⟩ := s
   simp only [dpS] at h
   simp only [cpS, cpL_id n x (by omega), cpL_id n y (by omega)]
theorem stmtOk_deep {k a b n : Int} {x y : List Stm} {d r : Int} (h : stmtOk (.mk k a b n x y) d r = true) : 1 ≤ d ∧ (∃ r', listOk x (d - 1) r' = true) ∧ ∃ r', listOk y (d - 1) r' = true := by
 simp only [stmtOk] at h
 split at h
 ·cases h
 rename_i h0
 simp only [Bool.or_eq_true, Bool.and_eq_true, decide_eq_true_eq, not_or, not_and] at h0
 have hy : k ≠ 6 → y = [] := fun hk => List.eq_nil_of_length_eq_zero (by have := h0.1 hk; omega)
 refine ⟨by omega, ?_⟩
 split at h
 ·simp only [Bool.and_eq_true] at h
  exact ⟨⟨_, h.1.2⟩, ⟨_, h.2⟩⟩
 split at h
 ·simp only [Bool.and_eq_true] at h
  exact ⟨⟨_, h.2⟩, 0, by rw [hy (by omega)]; rfl⟩
 ·simp only [Bool.and_eq_true, decide_eq_true_eq] at h
  rename_i h6 h8
  exact ⟨⟨0, by rw [List.eq_nil_of_length_eq_zero h.1]; rfl⟩, 0, by rw [hy (by omega)]; rfl⟩
theorem dpL_ok : ∀ (n : Nat) (L : List Stm) (d r : Int), listOk L d r = true → d ≤ n → dpL L ≤ n
 | n, [], d, r, _, _ => by simp [dpL]
 | 0, s :: L, d, r, h, hd => by
  simp only [listOk, Bool.and_eq_true] at h
  obtain ⟨k, a, b, m, x, y⟩ := s
  have := (stmtOk_deep h.1).1
  omega
 | n + 1, s :: L, d, r, h, hd => by
  simp only [listOk, Bool.and_eq_true] at h
  obtain ⟨k, a, b, m, x, y⟩ := s
  obtain ⟨h1, ⟨r1, h2⟩, r2, h3⟩ := stmtOk_deep h.1
  have a1 := dpL_ok n x (d - 1) r1 h2 (by omega)
  have a2 := dpL_ok n y (d - 1) r2 h3 (by omega)
  have a3 := dpL_ok (n + 1) L d r h.2 hd
  simp only [dpL, dpS]
  omega
theorem mx_many : ∀ (n : Nat) (L : List Stm) (d r : Int), listOk L d r = true → d ≤ n → (mx L : Int) ≤ many L d
 | n, [], d, r, _, _ => by simp [mx, many]
 | 0, s :: L, d, r, h, hd => by
  simp only [listOk, Bool.and_eq_true] at h
  obtain ⟨k, a, b, m, x, y⟩ := s
  have := (stmtOk_deep h.1).1
  omega
 | n + 1, s :: L, d, r, h, hd => by
  simp only [listOk, Bool.and_eq_true] at h
  obtain ⟨k, a, b, m, x, y⟩ := s
  obtain ⟨h1, ⟨r1, h2⟩, r2, h3⟩ := stmtOk_deep h.1
  have a1 := mx_many n x (d - 1) r1 h2 (by omega)
  have a2 := mx_many n y (d - 1) r2 h3 (by omega)
  have a3 := mx_many (n + 1) L d r h.2 hd
  have a4 := len_mx L
  simp only [mx, mxS, many, manyS, if_pos (show 0 < d by omega)]
  omega
def MB : Nat → Nat
 | 0 => 0
 | d + 1 => 1048576 * (1 + 2 * MB d)
theorem many_bnd : ∀ (d : Nat) (L : List Stm), Sh L → 0 ≤ many L d ∧ many L d ≤ MB d
 | 0, L, _ => by rw [many_zero L (by omega)]; simp [MB]
 | d + 1, L, h => by
  obtain ⟨K, hK⟩ : ∃ K, K = 1 + 2 * MB d := ⟨_, rfl⟩
  have key : ∀ (L : List Stm), shL L → 0 ≤ many L ((d + 1 : Nat) : Int) ∧ many L ((d + 1 : Nat) : Int) ≤ (L.length * K : Nat) := by
   intro L
   induction L with
   | nil => intro _; simp [many]
   | cons s L ih =>
    intro hs
    obtain ⟨h1, h2⟩ := hs
    have a1 := ih h2
    obtain ⟨k, a, b, m, x, y⟩ := s
    rw [Stm.short_mk] at h1
    have b1 := many_bnd d x h1.1
    have b2 := many_bnd d y h1.2
    have e : (((d + 1 : Nat) : Int) - 1) = (d : Nat) := by omega
    simp only [many, manyS, e, if_pos (show (0 : Int) < ((d + 1 : Nat) : Int) by omega), List.length_cons, Nat.succ_mul]
    omega
  obtain ⟨k1, k2⟩ := key L h.2
  refine ⟨k1, Int.le_trans k2 ?_⟩
  have := Nat.mul_le_mul_right K h.1
  simp only [MB, ← hK]
  omega
theorem MB3 : MB 3 ≤ 9000000000000000000 := by decide
theorem mx_ok {L : List Stm} (h : stmtsOk L = true) (hs : Sh L) : mx L ≤ 14 := by
 simp only [stmtsOk, Bool.and_eq_true, decide_eq_true_eq] at h
 have b := many_bnd 3 L hs
 have m3 := MB3
 rw [show ((3 : Nat) : Int) = 3 from rfl] at b
 have e : w64 (many L 3) = many L 3 := w64_eq ⟨by omega, by omega⟩
 rw [e] at h
 have := mx_many 3 L 3 (-1) h.1 (by omega)
 omega
theorem prog_parts {p : List (List Stm)} (h : progOk p = true) : (∀ l ∈ p, stmtsOk l = true) ∧ 1 ≤ p.length ∧ p.length ≤ 3 := by
 simp only [progOk, Bool.and_eq_true, decide_eq_true_eq, List.all_eq_true] at h
 exact ⟨h.1.1, h.1.2, h.2⟩
theorem Inv_open {p : List (List Stm)} (h : progOk p = true) (hs : ∀ l ∈ p, Sh l) : Inv (open0 p) 0 := by
 obtain ⟨h1, h2, h3⟩ := prog_parts h
 refine ⟨by simpa [open0] using h2, by simpa [open0] using h3, ?_, by simp [open0], by simp [open0], by simp [open0], by simp [open0], by simp [open0], by simp [open0]⟩
 intro q hq
 simp only [open0, List.mem_map] at hq
 obtain ⟨l, hl, rfl⟩ := hq
 have a1 := h1 l hl
 have a2 := mx_ok a1 (hs l hl)
 simp only [stmtsOk, Bool.and_eq_true] at a1
 exact ⟨by have := TOk.app a1.1 TOk.nil; simpa [proc0] using this, by simp only [proc0]; omega, .inl rfl, fun hx => absurd rfl hx, .inl rfl⟩
def Shl (W : Wld) : Prop := ∀ q ∈ W.procs, dpL q.todo ≤ 3
theorem Shl_open {p : List (List Stm)} (h : progOk p = true) : Shl (open0 p) := by
 obtain ⟨h1, _, _⟩ := prog_parts h
 intro q hq
 simp only [open0, List.mem_map] at hq
 obtain ⟨l, hl, rfl⟩ := hq
 have a1 := h1 l hl
 simp only [stmtsOk, Bool.and_eq_true] at a1
 exact dpL_ok 3 l 3 (-1) a1.1 (by omega)
theorem Shl.out {W : Wld} (h : Shl W) : W.out = W := by
 obtain ⟨ps, w1, w2, w3, w4, w5, w6, w7, w8⟩ := W
 show Wld.mk _ _ _ _ _ _ _ _ _ = Wld.mk _ _ _ _ _ _ _ _ _
 congr 1
 have h' : ∀ q ∈ ps, outP q = q := fun q hq => by
  have := h q hq
  simp only [outP]
  rw [cpL_id 4 q.todo (by omega)]
 clear h
 show ps.map outP = ps
 induction ps with
 | nil => rfl
 | cons q ps ih => rw [List.map_cons, h' q (List.mem_cons_self ..), ih fun x hx => h' x (List.mem_cons_of_mem _ hx)]
theorem Shl_upd {W : Wld} {who : Nat} {f : Prc → Prc} (h : Shl W) (hf : ∀ p, W.procs[who]? = some p → dpL (f p).todo ≤ 3) : Shl (W.upd who f) := by
 intro q hq
 rcases mem_updL' _ _ hq with hq | ⟨x, hx, rfl⟩
 ·exact h q hq
 ·exact hf x hx
theorem Shl_of {W V : Wld} (h : Shl W) (e : V.procs = W.procs) : Shl V := by unfold Shl; rw [e]; exact h
theorem dp_tail (L : List Stm) : dpL L.tail ≤ dpL L := by
 cases L with
 | nil => simp [dpL]
 | cons s r => simp only [List.tail_cons, dpL]; omega
theorem set_todo (p : Prc) (k v : Int) : (p.set k v).todo = p.todo := by unfold Prc.set; split; rfl; split <;> rfl
theorem ite_shl {c : Prop} [Decidable c] {A B : Wld} (h1 : Shl A) (h2 : Shl B) : Shl (if c then A else B) := by
 by_cases h : c
 ·rw [if_pos h]; exact h1
 ·rw [if_neg h]; exact h2
theorem Shl.step {W : Wld} (h : Shl W) (who : Nat) : Shl (W.step who) := by
 unfold Wld.step
 split
 ·rename_i p hp
  have hpd := h p (List.mem_of_getElem? hp)
  split
  ·exact Shl_upd (Shl_of h (setRm_procs ..)) fun q hq => by rw [setRm_procs] at hq; rw [hp] at hq; cases hq; exact hpd
  ·split
   ·exact h
   ·rename_i s r hT
    have hP : Shl (W.upd who pop) := Shl_upd h fun q hq => by rw [hp] at hq; cases hq; have := dp_tail p.todo; simp only [pop]; omega
    have hPp : (W.upd who pop).procs[who]? = some (pop p) := by
     show (updL _ _ _)[who]? = _
     rw [updL_get, hp]; rfl
    have hpt : (pop p).todo = r := by simp [pop, hT]
    have hsd : dpS s ≤ 3 ∧ dpL r ≤ 3 := by rw [hT] at hpd; simp only [dpL] at hpd; omega
    have hse := dpS_eq s
    have hlv : ∀ a, dpS (leaveS a) ≤ 3 := fun a => by simp [leaveS, dpS, dpL]
    unfold Wld.stepS
    refine ite_shl ?_ ?_
    ·exact Shl_upd hP fun q hq => by rw [hPp] at hq; cases hq; rw [set_todo, hpt]; exact hsd.2
    refine ite_shl ?_ ?_
    ·exact Shl_upd hP fun q hq => by rw [hPp] at hq; cases hq; rw [set_todo, hpt]; exact hsd.2
    refine ite_shl ?_ ?_
    ·exact Shl_upd hP fun q hq => by rw [hPp] at hq; cases hq; rw [set_todo, hpt]; exact hsd.2
    refine ite_shl ?_ ?_
    ·exact Shl_of hP (setCell_procs ..)
    refine ite_shl ?_ ?_
    ·exact Shl_of hP J
    refine ite_shl ?_ ?_
    ·refine Shl_upd hP fun q hq => ?_
     rw [hPp] at hq; cases hq
     simp only [dpL_append, hpt]
     split <;> omega
    refine ite_shl ?_ ?_
    ·refine Shl_upd hP fun q hq => ?_
     rw [hPp] at hq; cases hq
     simp only [dpL_append, hpt]
     split
     ·simp only [dpL]; omega
     ·simp only [dpL_append, dpL]; omega
    refine ite_shl ?_ ?_
    ·refine Shl_upd (Shl_of hP (setRm_procs ..)) fun q hq => ?_
     rw [setRm_procs, hPp] at hq; cases hq
     have := hlv s.a
     simp only [dpL_append, hpt, dpL]; omega
    refine ite_shl ?_ ?_
    ·refine Shl_of (Shl_upd (f := fun p => { p with mode := 1, on := s.a }) (Shl_of hP (setRm_procs _ _ 0)) fun q hq => ?_) (setQue_procs ..)
     rw [setRm_procs, hPp] at hq; cases hq
     show dpL (pop p).todo ≤ 3
     rw [hpt]; exact hsd.2
    refine ite_shl ?_ ?_
    ·unfold Wld.signal
     split
     ·exact hP
     ·refine Shl_of (Shl_upd (f := fun p => { p with mode := 2, on := 0 }) hP fun q hq => ?_) (setQue_procs ..)
      exact hP q (List.mem_of_getElem? hq)
    refine ite_shl ?_ ?_
    ·refine Shl_upd (Shl_of hP (setRm_procs ..)) fun q hq => ?_
     rw [setRm_procs, hPp] at hq; cases hq
     show dpL (pop p).todo ≤ 3
     rw [hpt]; exact hsd.2
    ·exact hP
 ·exact h
end
section
open Go.Lib (itoa join)
attribute [local irreducible] X Pure Mod
def lineT (word : List UInt8) (l : List Int) : List UInt8 := word ++ l.flatMap (fun n => 32 :: itoa n) ++ [10]
def fourT (k a b n : Int) : List UInt8 := itoa k ++ [44] ++ itoa a ++ [44] ++ itoa b ++ [44] ++ itoa n
def todoT : Nat → List Stm → List UInt8
 | 0, _ => [40, 41]
 | d + 1, L => [40] ++ L.flatMap (fun s => fourT s.kind s.a s.b s.n ++ todoT d s.body ++ todoT d s.els) ++ [41]
def stmT (d : Nat) (s : Stm) : List UInt8 := fourT s.kind s.a s.b s.n ++ todoT d s.body ++ todoT d s.els
theorem todoT_succ (d : Nat) (L : List Stm) : todoT (d + 1) L = [40] ++ L.flatMap (stmT d) ++ [41] := rfl
def wProc : List UInt8 := [112, 114, 111, 99]
def wRegs : List UInt8 := [114, 101, 103, 115]
def wCells : List UInt8 := [99, 101, 108, 108, 115]
def wRooms : List UInt8 := [114, 111, 111, 109, 115]
def wSign : List UInt8 := [115, 105, 103, 110]
def wSaid : List UInt8 := [115, 97, 105, 100]
def procT (p : Prc) : List UInt8 := lineT wProc [p.mode, p.on, p.room] ++ lineT wRegs [p.r0, p.r1, p.r2] ++ todoT 6 p.todo ++ [10]
def saidT (s : Int × Int) : List UInt8 := lineT wSaid [s.1, s.2]
def wText (W : Wld) : List UInt8 := W.procs.flatMap procT ++ lineT wCells [W.c0, W.c1, W.c2] ++ lineT wRooms [W.m0, W.m1] ++ lineT wSign W.q0 ++ lineT wSign W.q1 ++ W.said.flatMap saidT
theorem flatMap_len {α : Type} {f : α → List UInt8} {c : Nat} : ∀ (l : List α), (∀ x ∈ l, (f x).length ≤ c) → (l.flatMap f).length ≤ c * l.length
 | [], _ => by simp
 | x :: l, h => by
  have h1 := h x (List.mem_cons_self ..)
  have h2 := flatMap_len l fun y hy => h y (List.mem_cons_of_mem _ hy)
  simp only [List.flatMap_cons, List.length_append, List.length_cons, Nat.mul_add_one]
  omega
theorem itoa_len {n : Int} (h : I64 n) : (itoa n).length ≤ 21 := Lib.itoa_length_le n h.1 h.2
theorem lineT_len {w : List UInt8} {l : List Int} (h : ∀ n ∈ l, I64 n) : (lineT w l).length ≤ w.length + 22 * l.length + 1 := by
 have := flatMap_len (c := 22) (f := fun n => 32 :: itoa n) l fun n hn => by have := itoa_len (h n hn); simp only [List.length_cons]; omega
 simp only [lineT, List.length_append, List.length_singleton]
 omega
theorem fourT_len {k a b n : Int} (hk : I64 k) (ha : I64 a) (hb : I64 b) (hn : I64 n) : (fourT k a b n).length ≤ 87 := by
 have h1 := itoa_len hk
 have h2 := itoa_len ha
 have h3 := itoa_len hb
 have h4 := itoa_len hn
 simp only [fourT, List.length_append, List.length_singleton]
 omega
mutual
def iS : Stm → Prop
 | .mk k a b n x y => I64 k ∧ I64 a ∧ I64 b ∧ I64 n ∧ iL x ∧ iL y
def iL : List Stm → Prop
 | [] => True
 | s :: r => iS s ∧ iL r
end
theorem iL_mem : ∀ {L : List Stm} {s : Stm}, iL L → s ∈ L → iS s
 | x :: r, s, h, hs => by
  rcases List.mem_cons.1 hs with rfl | hs
  ·exact h.1
  ·exact iL_mem h.2 hs
def tB : Nat → Nat
 | 0 => 2
 | d + 1 => 2 + 1000 * (87 + 2 * tB d)
theorem tB_two (e : Nat) : 2 ≤ tB e := by cases e <;> simp only [tB] <;> omega
theorem mx_mem {L : List Stm} {s : Stm} (h : s ∈ L) : mxS s ≤ mx L := by
 induction L with
 | nil => cases h
 | cons t M ih =>
  simp only [mx]
  rcases List.mem_cons.1 h with rfl | h
  ·omega
  ·have := ih h; omega
theorem dp_memS {L : List Stm} {s : Stm} (h : s ∈ L) : dpS s ≤ dpL L := by
 induction L with
 | nil => cases h
 | cons x r ih =>
  simp only [dpL]
  rcases List.mem_cons.1 h with rfl | h
  ·omega
  ·have := ih h; omega
theorem todoT_len : ∀ (e d : Nat) (L : List Stm), dpL L ≤ e → iL L → mx L ≤ 1000 → (todoT d L).length ≤ tB e
 | e, 0, L, _, _, _ => by have := tB_two e; simpa [todoT] using this
 | 0, d + 1, L, hd, _, _ => by
  cases L with
  | nil => simp [todoT, tB]
  | cons s r =>
   have := dp_memS (List.mem_cons_self (a := s) (l := r))
   have := dpS_eq s
   omega
 | e + 1, d + 1, L, hd, hi, hm => by
  have hl := len_mx L
  have := flatMap_len (c := 87 + 2 * tB e) (f := stmT d) L fun s hs => by
   have h1 := iL_mem hi hs
   have h2 := mx_mem hs
   have h0 := dp_memS hs
   rw [mxS_eq] at h2
   rw [dpS_eq] at h0
   obtain ⟨k, a, b, n, x, y⟩ := s
   obtain ⟨hk, ha, hb, hn, hx, hy⟩ := h1
   simp only [Stm.body, Stm.els] at h2 h0
   have h3 := fourT_len hk ha hb hn
   have h4 := todoT_len e d x (by omega) hx (by omega)
   have h5 := todoT_len e d y (by omega) hy (by omega)
   simp only [stmT, Stm.kind, Stm.a, Stm.b, Stm.n, Stm.body, Stm.els, List.length_append]
   omega
  rw [todoT_succ]
  simp only [List.length_append, List.length_singleton, tB]
  have h6 : (87 + 2 * tB e) * L.length ≤ (87 + 2 * tB e) * 1000 := Nat.mul_le_mul_left _ (by omega)
  omega
end
section
attribute [local irreducible] X Pure Mod
theorem iL_app {L M : List Stm} (h1 : iL L) (h2 : iL M) : iL (L ++ M) := by
 induction L with
 | nil => exact h2
 | cons s L ih => exact ⟨h1.1, ih h1.2⟩
mutual
theorem iS_rep {G : PH} : ∀ {s : Stm} {cs : List Value}, Stm.rep G s cs → iS s
 | .mk k a b n x y, cs, h => by
  obtain ⟨vx, vy, rfl, h1, h2, h3, h4, hx, hy⟩ := Stm.rep_iff.1 h
  exact ⟨h1, h2, h3, h4, iL_rep hx, iL_rep hy⟩
theorem iL_rep {G : PH} : ∀ {L : List Stm} {v : Value}, Sts G L v → iL L
 | [], v, h => trivial
 | s :: r, v, h => by
  obtain ⟨A, c, e, h1, h2, h3, h4⟩ := h
  rcases h4 with h4 | ⟨ad, h5, h6⟩
  ·simp at h4
  ·obtain ⟨⟨cs, _, hc⟩, hr⟩ := h6
   exact ⟨iS_rep hc, iR_rep hr⟩
theorem iR_rep {G : PH} : ∀ {L : List Stm} {ad : Addr}, Rw G 6 (Stm.rep G) L ad → iL L
 | [], _, _ => trivial
 | s :: r, ad, h => ⟨iS_rep h.1.choose_spec.2, iR_rep h.2⟩
end
structure PNm (p : Prc) : Prop where
 r0 : I64 p.r0
 r1 : I64 p.r1
 r2 : I64 p.r2
 on : I64 p.on
 td : iL p.todo
structure Nm (W : Wld) : Prop where
 pr : ∀ p ∈ W.procs, PNm p
 c0 : I64 W.c0
 c1 : I64 W.c1
 c2 : I64 W.c2
 sd : ∀ s ∈ W.said, I64 s.1 ∧ I64 s.2
theorem cutN_i (n : Int) : I64 (cutN n) := by
 unfold cutN I64
 split
 ·omega
 ·split <;> omega
theorem b2i_i (b : Bool) : I64 (b2i b) := by cases b <;> simp [b2i, I64]
theorem numDo_i (op a b : Int) : I64 (numDo op a b).1 := by
 unfold numDo
 split
 ·show I64 (doOp op a b)
  unfold doOp
  split
  ·exact cutN_i _
  split
  ·exact cutN_i _
  split
  ·exact cutN_i _
  split
  ·exact b2i_i _
  split
  ·exact b2i_i _
  ·simp [I64]
 ·simp [I64]
theorem PNm.set {p : Prc} (h : PNm p) (k : Int) {v : Int} (hv : I64 v) : PNm (p.set k v) := by
 unfold Prc.set
 split
 ·exact ⟨hv, h.r1, h.r2, h.on, h.td⟩
 split
 ·exact ⟨h.r0, hv, h.r2, h.on, h.td⟩
 ·exact ⟨h.r0, h.r1, hv, h.on, h.td⟩
theorem PNm.get {p : Prc} (h : PNm p) (k : Int) : I64 (p.get k) := by
 unfold Prc.get
 split
 ·exact h.r0
 split
 ·exact h.r1
 ·exact h.r2
theorem Nm.upd {W : Wld} (h : Nm W) {who : Nat} {f : Prc → Prc} (hf : ∀ p, W.procs[who]? = some p → PNm p → PNm (f p)) : Nm (W.upd who f) :=
 ⟨fun q hq => by
  rcases mem_updL' _ _ hq with hq | ⟨x, hx, rfl⟩
  ·exact h.pr q hq
  ·exact hf x hx (h.pr x (List.mem_of_getElem? hx)), h.c0, h.c1, h.c2, h.sd⟩
theorem Nm.of {W V : Wld} (h : Nm W) (hp : V.procs = W.procs) (h0 : V.c0 = W.c0) (h1 : V.c1 = W.c1) (h2 : V.c2 = W.c2) (hs : V.said = W.said) : Nm V :=
 ⟨by rw [hp]; exact h.pr, by rw [h0]; exact h.c0, by rw [h1]; exact h.c1, by rw [h2]; exact h.c2, by rw [hs]; exact h.sd⟩
theorem Nm.setRm {W : Wld} (h : Nm W) (a v : Int) : Nm (W.setRm a v) := by
 unfold Wld.setRm
 split <;> exact h.of J J J J J
theorem Nm.setQue {W : Wld} (h : Nm W) (a : Int) (q : List Int) : Nm (W.setQue a q) := by
 unfold Wld.setQue
 split <;> exact h.of J J J J J
theorem Nm.setCell {W : Wld} (h : Nm W) (a : Int) {v : Int} (hv : I64 v) : Nm (W.setCell a v) := by
 unfold Wld.setCell
 split
 ·exact ⟨h.pr, hv, h.c1, h.c2, h.sd⟩
 split
 ·exact ⟨h.pr, h.c0, hv, h.c2, h.sd⟩
 ·exact ⟨h.pr, h.c0, h.c1, hv, h.sd⟩
theorem Nm.cell {W : Wld} (h : Nm W) (k : Int) : I64 (W.cell k) := by
 unfold Wld.cell
 split
 ·exact h.c0
 split
 ·exact h.c1
 ·exact h.c2
theorem Nm.reg {W : Wld} (h : Nm W) (who : Nat) (k : Int) : I64 (W.reg who k) := by
 unfold Wld.reg
 split
 ·rename_i p hp
  exact (h.pr p (List.mem_of_getElem? hp)).get k
 ·simp [I64]
theorem ite_nm {c : Prop} [Decidable c] {A B : Wld} (h1 : c → Nm A) (h2 : ¬ c → Nm B) : Nm (if c then A else B) := by
 by_cases h : c
 ·rw [if_pos h]; exact h1 h
 ·rw [if_neg h]; exact h2 h
theorem ite_iL {c : Prop} [Decidable c] {A B : List Stm} (h1 : iL A) (h2 : iL B) : iL (if c then A else B) := by
 by_cases h : c
 ·rw [if_pos h]; exact h1
 ·rw [if_neg h]; exact h2
theorem Nm.step {W : Wld} {B who : Nat} (hI : Inv W B) (h : Nm W) (hw : who < W.procs.length) : Nm (W.step who) := by
 have hp : W.procs[who]? = some W.procs[who] := List.getElem?_eq_getElem hw
 have hpm : W.procs[who] ∈ W.procs := List.getElem_mem hw
 have hn3 := hI.n3
 generalize W.procs[who] = p at hp hpm
 have hP := h.pr p hpm
 by_cases hm : p.mode = 2
 ·have e : W.step who = (W.setRm p.room ((who : Int) + 1)).upd who (fun p => { p with mode := 0 }) := by simp [Wld.step, hp, hm]
  rw [e]
  exact (h.setRm _ _).upd fun q _ hq => ⟨hq.r0, hq.r1, hq.r2, hq.on, hq.td⟩
 rcases hT : p.todo with _ | ⟨s, r⟩
 ·have e : W.step who = W := by simp [Wld.step, hp, hm, hT]
  rw [e]; exact h
 rw [step_eq hp hm hT]
 have htd := hP.td
 rw [hT] at htd
 obtain ⟨hs, hr⟩ := htd
 have hpop : Nm (W.upd who pop) := h.upd fun q hq hQ => by
  rw [hp] at hq; cases hq
  exact ⟨hQ.r0, hQ.r1, hQ.r2, hQ.on, by show iL p.todo.tail; rw [hT]; exact hr⟩
 have htd : ∀ (T : List Stm), iL T → Nm ((W.upd who pop).upd who fun q => { q with todo := T ++ q.todo }) := fun T hTT => hpop.upd fun q _ hQ => ⟨hQ.r0, hQ.r1, hQ.r2, hQ.on, iL_app hTT hQ.td⟩
 obtain ⟨k, a, b, n, x, y⟩ := s
 obtain ⟨ik, ia, ib, iN, ix, iy⟩ := hs
 unfold Wld.stepS
 simp only [Stm.kind, Stm.a, Stm.b, Stm.n, Stm.body, Stm.els]
 refine ite_nm (fun _ => hpop.upd fun q _ hQ => hQ.set _ iN) fun _ => ?_;refine ite_nm (fun _ => hpop.upd fun q _ hQ => hQ.set _ (numDo_i _ _ _)) fun _ => ?_;refine ite_nm (fun _ => hpop.upd fun q _ hQ => hQ.set _ (hpop.cell _)) fun _ => ?_;refine ite_nm (fun _ => hpop.setCell _ (hpop.reg _ _)) fun _ => ?_;refine ite_nm (fun _ => ⟨hpop.pr, hpop.c0, hpop.c1, hpop.c2, fun z hz => ?_⟩) fun _ => ?_
 ·rcases List.mem_append.1 hz with hz | hz
  ·exact hpop.sd z hz
  ·rw [List.mem_singleton.1 hz]
   exact ⟨by unfold I64; simp only; omega, hpop.reg _ _⟩
 refine ite_nm (fun _ => htd _ (ite_iL iy ix)) fun _ => ?_;refine ite_nm (fun _ => htd _ (ite_iL trivial (iL_app ix ⟨⟨ik, ia, ib, iN, ix, iy⟩, trivial⟩))) fun _ => ?_;refine ite_nm (fun _ => (hpop.setRm _ _).upd fun q _ hQ => ⟨hQ.r0, hQ.r1, hQ.r2, hQ.on, iL_app (iL_app ix ⟨⟨by simp [I64], ia, by simp [I64], by simp [I64], trivial, trivial⟩, trivial⟩) hQ.td⟩) fun _ => ?_;refine ite_nm (fun _ => Nm.setQue (Nm.upd (f := fun p => { p with mode := 1, on := a }) (hpop.setRm _ _) fun q _ hQ => ⟨hQ.r0, hQ.r1, hQ.r2, ia, hQ.td⟩) _ _) fun _ => ?_
 refine ite_nm (fun _ => ?_) fun _ => ?_
 ·unfold Wld.signal
  split
  ·exact hpop
  ·exact Nm.setQue (hpop.upd (f := fun p => { p with mode := 2, on := 0 }) fun q _ hQ => ⟨hQ.r0, hQ.r1, hQ.r2, by simp [I64], hQ.td⟩) _ _
 refine ite_nm (fun _ => (hpop.setRm _ _).upd fun q _ hQ => ⟨hQ.r0, hQ.r1, hQ.r2, hQ.on, hQ.td⟩) fun _ => hpop
def RmB (W : Wld) : Prop := W.m0 ≤ 3 ∧ W.m1 ≤ 3
theorem RmB.setRm {W : Wld} (h : RmB W) (a : Int) {v : Int} (hv : v ≤ 3) : RmB (W.setRm a v) := by
 unfold Wld.setRm
 split
 ·exact ⟨hv, h.2⟩
 ·exact ⟨h.1, hv⟩
theorem RmB.setQue {W : Wld} (h : RmB W) (a : Int) (q : List Int) : RmB (W.setQue a q) := by
 unfold Wld.setQue
 split <;> exact h
theorem RmB.setCell {W : Wld} (h : RmB W) (a v : Int) : RmB (W.setCell a v) := by
 unfold Wld.setCell
 split
 ·exact h
 split <;> exact h
theorem RmB.upd {W : Wld} (h : RmB W) (i : Nat) (f : Prc → Prc) : RmB (W.upd i f) := h
theorem ite_rm {c : Prop} [Decidable c] {A B : Wld} (h1 : RmB A) (h2 : RmB B) : RmB (if c then A else B) := by
 split
 ·exact h1
 ·exact h2
theorem RmB.step {W : Wld} {who : Nat} (h : RmB W) (hw : who < W.procs.length) (h3 : W.procs.length ≤ 3) : RmB (W.step who) := by
 have hv : ((who : Int) + 1) ≤ 3 := by omega
 unfold Wld.step
 split
 ·split
  ·exact (h.setRm _ hv : RmB (W.setRm _ _))
  split
  ·exact h
  ·unfold Wld.stepS
   have hp : RmB (W.upd who pop) := h
   refine ite_rm hp (ite_rm hp (ite_rm hp (ite_rm (hp.setCell _ _) (ite_rm hp (ite_rm hp (ite_rm hp (ite_rm (hp.setRm _ hv : RmB ((W.upd who pop).setRm _ _)) (ite_rm ?_ (ite_rm ?_ (ite_rm (hp.setRm _ (by omega) : RmB ((W.upd who pop).setRm _ _)) hp))))))))))
   ·exact RmB.setQue (RmB.upd (hp.setRm _ (by omega)) _ _) _ _
   ·unfold Wld.signal
    split
    ·exact hp
    ·exact RmB.setQue (RmB.upd hp _ _) _ _
 ·exact h
end
section
attribute [local irreducible] X Pure Mod
def hasW (Ws : List Wld) (W : Wld) : Bool := Ws.any fun V => decide (wText V = wText W)
def addW (Ws : List Wld) (W : Wld) : List Wld := if hasW Ws W then Ws else Ws ++ [W]
def roundW (W : Wld) : List Nat → List Wld → Option (List Wld)
 | [], Ws => some Ws
 | who :: r, Ws => if codeOf W (who : Nat) = 0 then (if 120 < (addW Ws (W.step who)).length then none else roundW W r (addW Ws (W.step who))) else roundW W r Ws
def allF : Nat → Nat → List Wld → Option (List Wld)
 | 0, _, _ => none
 | f + 1, k, Ws => match Ws[k]? with
  | none => some Ws
  | some W => match roundW W (List.range W.procs.length) Ws with
   | none => none
   | some Ws' => allF f (k + 1) Ws'
def allW (p : List (List Stm)) : Option (List Wld) := allF 122 0 [open0 p]
structure Wok (W : Wld) (B : Nat) : Prop where
 inv : Inv W B
 shl : Shl W
 nm : Nm W
 rb : RmB W
structure Wsok (n : Nat) (Ws : List Wld) : Prop where
 ok : ∀ (i : Nat) W, Ws[i]? = some W → Wok W i ∧ W.procs.length = n
 nd : Ws.Pairwise fun V W => wText V ≠ wText W
 le : Ws.length ≤ 120
theorem Wok.mono {W : Wld} {B B' : Nat} (h : Wok W B) (hB : B ≤ B') : Wok W B' := ⟨h.inv.mono hB, h.shl, h.nm, h.rb⟩
theorem Wok.step {W : Wld} {B who : Nat} (h : Wok W B) (hw : who < W.procs.length) (hc : codeOf W (who : Nat) = 0) : Wok (W.step who) (B + 1) :=
 ⟨h.inv.step hw hc, h.shl.step who, h.nm.step h.inv hw, h.rb.step hw h.inv.n3⟩
theorem addW_pre (Ws : List Wld) (W : Wld) : Ws <+: addW Ws W := by unfold addW; split <;> simp
theorem Wsok.add {n : Nat} {Ws : List Wld} {W : Wld} {B : Nat} (h : Wsok n Ws) (hW : Wok W B) (hB : B ≤ Ws.length) (hn : W.procs.length = n) (hl : ¬ 120 < (addW Ws W).length) : Wsok n (addW Ws W) := by
 unfold addW at hl ⊢
 split
 ·exact h
 ·rename_i hh
  rw [if_neg hh] at hl
  refine ⟨fun i V hV => ?_, ?_, by omega⟩
  ·rcases Nat.lt_trichotomy i Ws.length with hi | hi | hi
   ·rw [List.getElem?_append_left hi] at hV; exact h.ok i V hV
   ·subst hi
    rw [List.getElem?_append_right (Nat.le_refl _)] at hV
    simp at hV
    subst hV
    exact ⟨hW.mono hB, hn⟩
   ·rw [List.getElem?_eq_none (by simp; omega)] at hV; cases hV
  ·refine List.pairwise_append.2 ⟨h.nd, by simp, fun V hV V' hV' => ?_⟩
   rw [List.mem_singleton.1 hV']
   intro e
   exact hh (List.any_eq_true.2 ⟨V, hV, decide_eq_true e⟩)
theorem roundW_ok {n : Nat} {W : Wld} {B : Nat} (hW : Wok W B) (hn : W.procs.length = n) : ∀ (l : List Nat) (Ws Ws' : List Wld), (∀ w ∈ l, w < n) → Wsok n Ws → B < Ws.length → roundW W l Ws = some Ws' → Wsok n Ws' ∧ Ws <+: Ws'
 | [], Ws, Ws', _, h, _, e => by cases e; exact ⟨h, List.prefix_refl _⟩
 | who :: r, Ws, Ws', hl, h, hB, e => by
  have hw := hl who (List.mem_cons_self ..)
  have hr : ∀ w ∈ r, w < n := fun w hw => hl w (List.mem_cons_of_mem _ hw)
  rw [roundW] at e
  split at e
  ·rename_i hc
   split at e
   ·cases e
   ·rename_i h120
    have hstep := hW.step (by omega) hc
    have ha := h.add hstep (by omega) (by rw [Wld.step_len]; exact hn) h120
    have hp := addW_pre Ws (W.step who)
    obtain ⟨h1, h2⟩ := roundW_ok hW hn r _ _ hr ha (Nat.lt_of_lt_of_le hB hp.length_le) e
    exact ⟨h1, hp.trans h2⟩
  ·exact roundW_ok hW hn r Ws Ws' hr h hB e
theorem allF_ok {n : Nat} : ∀ (f k : Nat) (Ws Ws' : List Wld), Wsok n Ws → allF f k Ws = some Ws' → Wsok n Ws' ∧ Ws <+: Ws'
 | 0, _, _, _, _, e => by cases e
 | f + 1, k, Ws, Ws', h, e => by
  rw [allF] at e
  split at e
  ·cases e; exact ⟨h, List.prefix_refl _⟩
  ·rename_i W hW
   have hk := (List.getElem?_eq_some_iff.1 hW).1
   split at e
   ·cases e
   ·rename_i Ws2 h2
    obtain ⟨hok, hn⟩ := h.ok k W hW
    obtain ⟨h3, h4⟩ := roundW_ok hok hn _ _ _ (fun w hw => by rw [← hn]; exact List.mem_range.1 hw) h hk h2
    obtain ⟨h5, h6⟩ := allF_ok f (k + 1) Ws2 Ws' h3 e
    exact ⟨h5, h4.trans h6⟩
theorem Nm_open {p : List (List Stm)} (h : ∀ l ∈ p, iL l) : Nm (open0 p) := by
 refine ⟨fun q hq => ?_, by simp [open0, I64], by simp [open0, I64], by simp [open0, I64], by simp [open0]⟩
 obtain ⟨l, hl, rfl⟩ := List.mem_map.1 hq
 exact ⟨by simp [proc0, I64], by simp [proc0, I64], by simp [proc0, I64], by simp [proc0, I64], h l hl⟩
theorem open_ok {p : List (List Stm)} (hp : progOk p = true) (hs : ∀ l ∈ p, Sh l) (hi : ∀ l ∈ p, iL l) : Wsok p.length [open0 p] := by
 refine ⟨fun i W hW => ?_, by simp, by simp⟩
 cases i with
 | zero =>
  simp at hW
  subst hW
  exact ⟨⟨Inv_open hp hs, Shl_open hp, Nm_open hi, by simp [open0], by simp [open0]⟩, by simp [open0]⟩
 | succ i => simp at hW
theorem allW_ok {p : List (List Stm)} {Ws : List Wld} (hp : progOk p = true) (hs : ∀ l ∈ p, Sh l) (hi : ∀ l ∈ p, iL l) (h : allW p = some Ws) : Wsok p.length Ws := (allF_ok 122 0 _ _ (open_ok hp hs hi) h).1
theorem prg_iL {G : PH} {p : List (List Stm)} {v : Value} (h : Prg G p v) : ∀ l ∈ p, iL l := by
 intro l hl
 obtain ⟨k, hk, rfl⟩ := List.getElem_of_mem hl
 obtain ⟨A, c, rfl, _⟩ := id h
 obtain ⟨ad, cs, _, _, v', _, hv⟩ := Sr_at h hk
 exact iL_rep hv
def finalW (W : Wld) : Bool := (List.range W.procs.length).all fun who => !decide (codeOf W (who : Nat) = 0)
def endsW (Ws : List Wld) : List Wld := Ws.filter finalW
def leftP (p : Prc) : Bool := decide (p.mode ≠ 0) || !p.todo.isEmpty
def leftW (W : Wld) : Bool := W.procs.any leftP
end
section
section
variable {C : Ctx} {ks : List Nat} {all : Array Oper} {k : List It} {E : Env} {ι : Ids} {L : List Ent} {G : PH} {R : List Nat} {pend l : List Pd}
theorem N_turnV (j : Nat) {o : Oper} {R' : List Nat} {pend' : List Pd} {E' : Env} (ho : nthOp j all.toList = some o) (hR : strN (remN j R) = some R') (hp' : strP (dropP (edgeN o.after.toList) pend) = some pend') (hE : strE (penv (takeP (edgeN o.after.toList) pend) ++ E) = some E')
  (hx : (∀ (E'' : Env) (ι' : Ids) (L' : List Ent) (G' : PH), (∀ p ∈ pend', PdOk C ks all E'' ι' L' G' pend' p) → D C ks all k R' pend' E'' ι' L' G' → X C (.ops all [] :: .stop (DR C all k R' pend') :: k) E'' ι' L' G') →
   X C (.ops all [o] :: .stop (DR C all k R' pend') :: k) E' ι L G) : Nx C ks all k R pend E ι L G j := by
 refine N_eff j ho hR hp' hE fun hok hp hdis => hx fun E'' ι' L' G' hrc h => ?_
 intro a w h1 h2 h3 h4
 refine wpE_nil (h hok hrc ?_ _ _ h1 h2 h3 h4)
 intro p hpm hR'
 have hp' := strP_eq hp'
 have hR := strN_eq hR
 rw [dropP_eq] at hp'
 rw [remN_eq] at hR
 subst hp' hR
 exact hdis p (List.mem_filter.1 hpm).1 (List.mem_filter.1 hR').1
theorem pk_re {T : Tab} (hT : tabOk C.P T) {q : Pd} {l : List Pd} (h : rechk ks T C.n ι all L (penv pend ++ E) E [q] = some [q]) (hl : ∀ p ∈ l, PdOk C ks all E ι L G pend p) : ∀ p ∈ q :: l, PdOk C ks all E ι L G pend p := fun p hp => by
 rcases List.mem_cons.1 hp with rfl | hp
 ·exact rechk_sound hT J _ _ h p (List.mem_cons_self ..)
 ·exact hl p hp
theorem pk_all {T : Tab} (hT : tabOk C.P T) (h : rechk ks T C.n ι all L (penv pend ++ E) E l = some l) : ∀ p ∈ l, PdOk C ks all E ι L G pend p := rechk_sound hT rfl _ _ h
theorem pk_val {q : Pd} {l : List Pd} {d : Nat} {op : Op} {ty : Nat} {pos : String} {af : Array Edge} {g : Option (Nat × Bool)} {s : Sym} {v : Value} (ho : nthOp q.i all.toList = some ⟨some d, op, ty, pos, af, g⟩) (hd : some d = some q.d) (hN : Nat.ble (q.d + 1) C.n = true) (hf : look q.d E = none) (hks : memN q.d ks = false) (hsv : q.sv = some (s, v)) (hden : denO ι s = some v)
  (hg : guardOf all (penv pend ++ E) g = .on) (hV : Vl C ι (penv pend ++ E) L G ⟨some d, op, ty, pos, af, g⟩ v) (hl : ∀ p ∈ l, PdOk C ks all E ι L G pend p) : ∀ p ∈ q :: l, PdOk C ks all E ι L G pend p := fun p hp => by
 rcases List.mem_cons.1 hp with rfl | hp
 ·refine ⟨_, by simpa using nthOp_eq ho, hd, Nat.le_of_ble_eq_true hN, hf, memN_false hks, ?_⟩
  rw [hsv]
  exact ⟨hden, hg, hV⟩
 ·exact hl p hp
end
section
variable {C : Ctx} {E : Env} {ι : Ids} {L : List Ent} {G : PH} {d : Option Nat} {ty : Nat} {pos : String} {af : Array Edge} {g : Option (Nat × Bool)}
theorem V_addS {t t' : Nat} {x y : Operand} {a b : ByteArray} (hx : ev E x = some (.val (.string a))) (hy : ev E y = some (.val (.string b))) (hn : a.size + b.size ≤ 9223372036854775807) : Vl C ι E L G ⟨d, .binOp .add t x y t', ty, pos, af, g⟩ (.string (a ++ b)) := by
 intro a' w hE hw
 have ex := ev_sound hE hx
 have ey := ev_sound hE hy
 simp only [denO, Option.some.injEq] at ex ey
 have := run_string_add_sum (P := C.P) (w := w) a b hn
 simp only [execOp, ← ex, ← ey]
 simp [eqGuard, binOp, this]
theorem sz_tx (l : List UInt8) : (⟨l.toArray⟩ : ByteArray).size = l.length := by simp [ByteArray.size]
end
end
section
open Go.Lib (itoa decDigits)
attribute [local irreducible] X Pure Mod
theorem V_neg {C : Ctx} {E : Env} {ι : Ids} {L : List Ent} {G : PH} {d : Option Nat} {ty : Nat} {pos : String} {af : Array Edge} {g : Option (Nat × Bool)} {t : Nat} {x : Operand} {p : Int} (hx : ev E x = some (.val (.int .i64 p))) (hb : -9223372036854775808 ≤ -p ∧ -p ≤ 9223372036854775807) : Vl C ι E L G ⟨d, .unOp .neg t x, ty, pos, af, g⟩ (.int .i64 (-p)) := by
 intro a w hE _
 have ex := ev_sound hE hx
 simp only [denO, Option.some.injEq] at ex
 have hwr : IntKind.i64.wrap (-p) = -p := by rw [IntKind.wrap_i64]; omega
 simp only [execOp, ← ex]
 simp [Op.unary, Op.intArith, hwr]
theorem u_intT : Tryz.prog.underlying 3 = some (.int .i64) := by kernel_rfl
theorem u_byte : Tryz.prog.underlying 5 = some (.int .u8) := by kernel_rfl
theorem u_bytes : Tryz.prog.underlying 147 = some (.slice 5) := by kernel_rfl
theorem u_str : Tryz.prog.underlying 9 = some .string := by kernel_rfl
theorem digit_u8 {m : Int} (h0 : 0 ≤ m) (h1 : m < 10) : IntKind.u8.wrap (48 + m) = 48 + m := by
 simp [IntKind.wrap, IntKind.bits, IntKind.signed]
 omega
theorem dig_cell {G : PH} {b : Nat} {m : Int} (h0 : 0 ≤ m) (h1 : m < 10) (h : gcells G ⟨b, 0, none⟩ [.int .u8 (48 + m)]) : ∀ j (hj : j < [UInt8.ofNat (48 + m.toNat)].length), gcell G ((⟨b, 0, none⟩ : Addr).add j) = some (.int .u8 ([UInt8.ofNat (48 + m.toNat)][j].toNat : Int)) := by
 intro j hj
 obtain rfl : j = 0 := by simpa using hj
 rw [List.getElem_cons_zero, UInt8.toNat_ofNat', show ((48 + m.toNat) % 2 ^ 8 : Nat) = 48 + m.toNat by omega, show ((48 + m.toNat : Nat) : Int) = 48 + m by omega]
 exact h.1
theorem c_l11DecN (u : Nat) (hu : u ≤ 9223372036854775807) (G : PH) : Pure Tryz.prog 84 [.int .i64 (u : Nat)] G fun v G' => v = tx (decDigits u) := by
 refine Pure.intro Tryz.func84 Tryz.ntmps84 J J fun w => ?_; refine Va J J ?_;refine RF J (by simp) ?_;refine Va J J ?_;refine RF J (by simp) ?_;refine Va J J ?_;refine S_loop (α := Nat × List UInt8 × PH) (fun y => y.1 ≤ u ∧ decDigits u = decDigits y.1 ++ y.2.1 ∧ PH.ext w.heap.size G y.2.2) (fun y => y.1) []
  (fun y => [(0, .val (.int .i64 (y.1 : Nat))), (3, .val (tx y.2.1))]) (fun _ => []) (fun y => y.2.2) (u, [], G) ⟨Nat.le_refl _, by simp, PH.ext.refl _ _⟩ rfl ⟨⟨_, rfl, rfl⟩, ⟨_, rfl, rfl⟩, trivial⟩ .nil ?_
 rintro ⟨n, out, G1⟩ ⟨hn, hd, hext⟩
 simp only at hn hd hext ⊢
 have hl : out.length ≤ 20 := by
  have h1 := congrArg List.length hd
  have h2 := Lib.nDigits_le20 u (by omega)
  rw [Lib.decDigits_length, List.length_append] at h1
  omega
 refine Va J J ?_
 refine S_condp J (fun h => ?_) (fun h => ?_) <;> refine Va J J ?_
 ·have hm : 0 ≤ (n : Int) % 10 ∧ (n : Int) % 10 < 10 := by omega
  refine S_valV J J J (V_rem J J (by omega) (by decide)) ?_;refine Va J J ?_;refine S_add J J J J (by omega) ?_;refine Va J J ?_
  generalize hme : (n : Int) % 10 = m at hm ⊢
  refine S_valV J J J (V_conv J u_intT u_byte (digit_u8 (by omega) (by omega))) ?_;refine Va J J ?_;refine S_sliceG Tk ZT_ok J J J J (by decide) (by decide) J J J J (fun _ => J) fun bq Gq hxq hcq => ?_;refine Va J J ?_;refine S_valV J J J (V_convT u_bytes u_byte u_str J (dig_cell (by omega) (by omega) hcq)) ?_;refine Va J J ?_;refine S_valV J J J (V_addT (p := [_]) J J J J ?_) ?_
  ·simp only [List.length_singleton]; omega
  refine Va J J ?_;refine S_valV J J J (V_quo J J (by omega) (by omega) (by decide)) ?_;refine Va J J ?_
  have hdd : decDigits n = decDigits (n / 10) ++ [UInt8.ofNat (48 + m.toNat)] := by
   rw [decDigits, dif_neg (by omega), show m.toNat = n % 10 by omega]
  exact S_again (n / 10, [UInt8.ofNat (48 + m.toNat)] ++ out, _) ⟨by simp only; omega, by rw [hd, hdd, List.append_assoc], hext.trans hxq⟩ (by simp only; omega) rfl ⟨⟨_, rfl, by simp [denO]⟩, ⟨_, rfl, rfl⟩, trivial⟩ .nil
 ·obtain ⟨m, rfl⟩ : ∃ m : Nat, m = n := ⟨n, rfl⟩
  refine S_add J J J J (by omega) ?_;refine Va J J ?_
  have hm : 0 ≤ (m : Int) ∧ (m : Int) < 10 := by omega
  refine S_valV J J J (V_conv J u_intT u_byte (digit_u8 (by omega) (by omega))) ?_;refine Va J J ?_;refine S_sliceG Tk ZT_ok J J J J (by decide) (by decide) J J J J (fun _ => J) fun bq Gq hxq hcq => ?_;refine Va J J ?_;refine S_valV J J J (V_convT u_bytes u_byte u_str J (dig_cell (by omega) (by omega) hcq)) ?_;refine Va J J ?_;refine S_valV J J J (V_addT (p := [_]) J J J J ?_) ?_
  ·simp only [List.length_singleton]; omega
  refine Va J J ?_;refine S_retp (Res.t1 Tryz.results84 J J) (hext.trans hxq) ?_
  rw [hd, Lib.decDigits_one (i := m) (by omega)]
  simp
theorem c_l11Dec (n : Int) (hn : I64 n) (G : PH) : Pure Tryz.prog 84 [.int .i64 n] G fun v G' => v = tx (itoa n) := by
 obtain ⟨hn1, hn2⟩ := hn
 by_cases h0 : 0 ≤ n
 ·obtain ⟨u, rfl⟩ := Int.eq_ofNat_of_zero_le h0
  rw [Lib.itoa_nonneg]
  exact c_l11DecN u (by omega) G
 obtain ⟨u, rfl⟩ : ∃ u : Nat, n = -(u : Int) := ⟨n.natAbs, by omega⟩
 rw [Lib.itoa_neg u (by omega)]
 refine Pure.intro Tryz.func84 Tryz.ntmps84 J J fun w => ?_; refine Va J J ?_
 by_cases hmin : u = 9223372036854775808
 ·subst hmin
  refine RT J (by simp) ?_;refine Va J J ?_;refine S_retp (Res.t1 Tryz.results84 J J) XR ?_
  have e : decDigits 9223372036854775808 = [57, 50, 50, 51, 51, 55, 50, 48, 51, 54, 56, 53, 52, 55, 55, 53, 56, 48, 56] := by
   simp [Lib.decDigits]
  rw [e]; rfl
 refine RF J (by simp; omega) ?_;refine Va J J ?_;refine RT J (by simp; omega) ?_;refine Va J J ?_;refine S_valV J J J (V_neg J (by omega)) ?_;refine Va J J ?_
 rw [Int.neg_neg]
 refine S_call Tryz.call84 (c_l11DecN u (by omega) _) J J J ?_;rintro v G1 rfl hext
 refine Va J J ?_;refine S_valV J J J (V_addT (p := [45]) J J J J ?_) ?_
 ·have := Lib.itoa_length_le (u : Int) (by omega) (by omega)
  rw [Lib.itoa_nonneg] at this
  simp only [List.length_singleton]; omega
 refine Va J J ?_;exact S_retp (Res.t1 Tryz.results84 J J) hext J
end
section
open Go.Lib (itoa)
attribute [local irreducible] X Pure Mod
theorem intsU_at {G : PH} {o : List Int} {A : Option Addr} {n c t : Nat} (h : IntsU G o (.slice A n c)) (ht : t < o.length) : ∃ ad, A = some ad ∧ gcell G (ad.add (t * 1)) = some (.int .i64 o[t]) := by
 obtain ⟨ad, cs, rfl, hcs, rfl⟩ := Sr_at h ht
 exact ⟨ad, J, hcs.1⟩
def numT (n : Int) : List UInt8 := 32 :: itoa n
theorem numT_len {l : List Int} (hi : ∀ n ∈ l, I64 n) : (l.flatMap numT).length ≤ 22 * l.length := flatMap_len (c := 22) (f := numT) l fun n hn => by have := itoa_len (hi n hn); simp only [numT, List.length_cons]; omega
theorem c_l8Nums (w : List UInt8) (l : List Int) (v : Value) (G : PH) (hv : IntsU G l v) (hi : ∀ n ∈ l, I64 n) (hw : w.length ≤ 1000) : Pure Tryz.prog 71 [tx w, v] G fun v' G' => v' = tx (lineT w l) := by
 obtain ⟨A, c, rfl, hl1, _⟩ := id hv
 refine Pure.intro Tryz.func71 Tryz.ntmps71 J J fun w0 => ?_;refine Va J J ?_;refine S_loop (α := Nat × PH) (fun y => y.1 ≤ l.length ∧ PH.ext w0.heap.size G y.2) (fun y => l.length - y.1) []
  (fun y => [(6, .val (.int .i64 (y.1 : Nat))), (5, .val (tx (w ++ (l.take y.1).flatMap numT))), (1, .val (.slice A l.length c))]) (fun _ => []) (fun y => y.2) (0, G) ⟨Nat.zero_le _, PH.ext.refl _ _⟩ rfl ⟨⟨_, rfl, rfl⟩, ⟨_, rfl, by simp [denO]⟩, ⟨_, rfl, rfl⟩, trivial⟩ .nil ?_
 rintro ⟨i, G1⟩ ⟨hil, hext⟩
 simp only at hil hext ⊢
 have htk := numT_len (l := l.take i) fun n hn => hi n (List.mem_of_mem_take hn)
 have htl := List.length_take_le i l
 refine Va J J ?_
 refine S_condp J (fun h => ?_) (fun h => ?_) <;> refine Va J J ?_
 ·have hkl : i < l.length := by omega
  obtain ⟨ad, e1, hc⟩ := intsU_at (IntsU_le hext.le hv) hkl
  subst e1
  have hin := hi _ (List.getElem_mem hkl)
  have hnx : (l.take (i + 1)).flatMap numT = (l.take i).flatMap numT ++ numT l[i] := by rw [List.take_succ_eq_append_getElem hkl, List.flatMap_append]; simp
  have hlen := itoa_len hin
  generalize l[i] = n at hc hin hnx hlen
  refine S_valV J J J (V_addT (q := [32]) J J J J (by simp only [List.length_append, List.length_singleton]; omega)) ?_;refine Va J J ?_;refine S_index Tk J J J J J J (by omega) (by omega) ?_;refine Va J J ?_;refine S_load Tk J J J J J (by simpa using hc) ?_;refine Va J J ?_;refine S_call Tryz.call84 (c_l11Dec n hin _) J J J ?_;rintro v1 G2 rfl hext2
  refine Va J J ?_;refine S_valV J J J (V_addT J J J J (by simp only [List.length_append, List.length_singleton]; omega)) ?_;refine Va J J ?_;refine S_add J J J J (by omega) ?_;refine Va J J ?_;exact S_again (i + 1, G2) ⟨hkl, hext.trans hext2⟩ (by simp only; omega) rfl ⟨⟨_, rfl, by simp [denO]⟩, ⟨_, rfl, by rw [hnx]; simp [denO, numT]⟩, ⟨_, rfl, rfl⟩, trivial⟩ .nil
 ·have e : i = l.length := by omega
  subst e
  rw [List.take_length] at htk ⊢
  refine S_valV J J J (V_addT (q := [10]) J J J J (by simp only [List.length_append, List.length_singleton]; omega)) ?_;refine Va J J ?_;exact S_retp (Res.t1 Tryz.results71 J J) hext J
end
section
open Go.Lib (itoa)
attribute [local irreducible] X Pure Mod
theorem tB_le {e : Nat} (h : e ≤ 3) : tB e ≤ 400000000000 := by
 rcases e with _ | _ | _ | _ | e <;> first | omega | decide
theorem stm_parts {L : List Stm} {k a b n : Int} {x y : List Stm} {e : Nat} (hs : (Stm.mk k a b n x y) ∈ L) (hd : dpL L ≤ e) (hi : iL L) (hm : mx L ≤ 1000) : ∃ e', e = e' + 1 ∧ dpL x ≤ e' ∧ dpL y ≤ e' ∧ mx x ≤ 1000 ∧ mx y ≤ 1000 ∧ iL x ∧ iL y ∧ I64 k ∧ I64 a ∧ I64 b ∧ I64 n := by
 have h0 := dp_memS hs
 have h1 := iL_mem hi hs
 have h2 := mx_mem hs
 rw [mxS_eq] at h2
 rw [dpS_eq] at h0
 obtain ⟨hk, ha, hb, hn, hx, hy⟩ := h1
 simp only [Stm.body, Stm.els] at h2 h0
 exact ⟨e - 1, by omega, by omega, by omega, by omega, by omega, hx, hy, hk, ha, hb, hn⟩
theorem stmT_len {L : List Stm} {s : Stm} {e d : Nat} (hs : s ∈ L) (hd : dpL L ≤ e + 1) (hi : iL L) (hm : mx L ≤ 1000) : (stmT d s).length ≤ 87 + 2 * tB e := by
 obtain ⟨k, a, b, n, x, y⟩ := s
 obtain ⟨e', he, h1, h2, h3, h4, hx, hy, hk, ha, hb, hn⟩ := stm_parts hs hd hi hm
 obtain rfl : e = e' := by omega
 have h5 := fourT_len hk ha hb hn
 have h6 := todoT_len e d x h1 hx h3
 have h7 := todoT_len e d y h2 hy h4
 simp only [stmT, Stm.kind, Stm.a, Stm.b, Stm.n, Stm.body, Stm.els, List.length_append]
 omega
def TdS (L : List Stm) : Prop := ∀ (d : Nat) (dv : Int) (e : Nat) (v : Value) (G : PH), Sts G L v → dv = (d : Nat) → d ≤ 100 → dpL L ≤ e → e ≤ 3 → mx L ≤ 1000 → Pure Tryz.prog 72 [v, .int .i64 dv] G fun v' G' => v' = tx (todoT d L)
theorem c_l8Todo (L : List Stm) (hb : ∀ k (hk : k < L.length), TdS L[k].body ∧ TdS L[k].els) : TdS L := by
 intro d dv e v G hst hdv hd100 hdp he hmx
 subst hdv
 obtain ⟨A, c, rfl, hl1, _⟩ := id hst
 have hiL := iL_rep hst
 refine Pure.intro Tryz.func72 Tryz.ntmps72 J J fun w0 => ?_;refine Va J J ?_
 rcases d with _ | d
 ·refine S_loop (α := Unit) (fun _ => True) (fun _ => 0) [] (fun _ => [(6, .val (.int .i64 0)), (5, .val (tx [40])), (0, .val (.slice A L.length c)), (1, .val (.int .i64 0))]) (fun _ => []) (fun _ => G) () trivial J ⟨⟨_, J, J⟩, ⟨_, J, J⟩, ⟨_, J, J⟩, ⟨_, J, J⟩, trivial⟩ .nil ?_
  rintro ⟨⟩ _
  refine Va J J ?_;refine RF J (by simp) ?_;refine Va J J ?_;refine S_valV J J J (V_addT (q := [41]) J J J J (by simp)) ?_;refine Va J J ?_;exact S_retp (Res.t1 Tryz.results72 J J) XR J
 refine S_loop (α := Nat × PH) (fun y => y.1 ≤ L.length ∧ PH.ext w0.heap.size G y.2) (fun y => L.length - y.1) []
  (fun y => [(6, .val (.int .i64 (y.1 : Nat))), (5, .val (tx ([40] ++ (L.take y.1).flatMap (stmT d)))), (0, .val (.slice A L.length c)), (1, .val (.int .i64 (d + 1 : Nat)))]) (fun _ => []) (fun y => y.2) (0, G) ⟨Nat.zero_le _, PH.ext.refl _ _⟩ rfl ⟨⟨_, rfl, rfl⟩, ⟨_, rfl, by simp [denO]; rfl⟩, ⟨_, rfl, rfl⟩, ⟨_, rfl, rfl⟩, trivial⟩ .nil ?_
 rintro ⟨i, G1⟩ ⟨hil, hext⟩
 simp only at hil hext ⊢
 have hlm := len_mx L
 refine Va J J ?_
 by_cases hkl : i < L.length
 ·have hso := List.getElem_mem hkl
  obtain ⟨ad, cs, e1, hcs, hrep⟩ := Sr_at (Sts_le hext.le hst) hkl
  subst e1
  obtain ⟨hbx, hby⟩ := hb i hkl
  have hnx : (L.take (i + 1)).flatMap (stmT d) = (L.take i).flatMap (stmT d) ++ stmT d L[i] := by rw [List.take_succ_eq_append_getElem hkl, List.flatMap_append]; simp
  generalize L[i] = s at hso hcs hrep hbx hby hnx
  obtain ⟨q1, q2, q3, q4, q5, q6⟩ := s
  obtain ⟨vx, vy, rfl, i1, i2, i3, i4, hx, hy⟩ := Stm.rep_iff.1 hrep
  obtain ⟨e', rfl, p1, p2, p3, p4, p5, p6, _⟩ := stm_parts hso hdp hiL hmx
  have htB := tB_le (show e' ≤ 3 by omega)
  have htk : ((L.take i).flatMap (stmT d)).length ≤ (87 + 2 * tB e') * (L.take i).length := flatMap_len _ fun s hs => stmT_len (List.mem_of_mem_take hs) hdp hiL hmx
  have htl : (87 + 2 * tB e') * (L.take i).length ≤ (87 + 2 * tB e') * 1000 := Nat.mul_le_mul_left _ (by have := List.length_take_le i L; omega)
  have t5 := todoT_len e' d q5 p1 p5 p3
  have t6 := todoT_len e' d q6 p2 p6 p4
  have l1 := itoa_len i1
  have l2 := itoa_len i2
  have l3 := itoa_len i3
  have l4 := itoa_len i4
  simp only [Stm.body, Stm.els] at hbx hby
  obtain ⟨Ax, cx, rfl, hx1, _⟩ := id hx
  obtain ⟨Ay, cy, rfl, hy1, _⟩ := id hy
  refine RT J (by simp; omega) ?_;refine Va J J ?_;refine S_index Tk J J J J J J (by omega) (by omega) ?_;refine Va J J ?_;refine S_loadA Tk J J J J J (by simpa using hcs) ?_;refine Va J J ?_;refine AZ ZT_ok J J J J fun b7 => ?_;refine Va J J ?_;refine D_startK [5] (by exact MO) J J J (by kernel_rfl) ?_;refine Da J J ?_;refine D_val 23 J J J J J J J J J (V_sub J J (by omega)) ?_;refine Da J J ?_;refine D_val 29 J J J J J J J J J (V_sub J J (by omega)) ?_
  refine Da J J ?_;refine D_sole 3 J J (N_turnV 3 J J J J fun back => ?_)
  refine S_call Tryz.call84 (c_l11Dec q1 i1 _) J J J ?_;rintro v1 H1 rfl hx1
  refine back _ _ _ _ (pk_val J J J J J J J J (V_sub J J (by omega)) (pk_val J J J J J J J J (V_sub J J (by omega)) (pk_all Tk (by kernel_rfl)))) ?_; clear back
  refine Da J J ?_;refine D_val 4 J J J J J J J J J (V_addS J J (by simp only [ByteArray.size_append, sz_tx, List.length_append, List.length_cons, List.length_nil]; omega)) ?_;refine Da J J ?_;refine D_val 5 J J J J J J J J J (V_addS J J (by simp only [ByteArray.size_append, sz_tx, List.length_append, List.length_cons, List.length_nil]; omega)) ?_;refine Da J J ?_;refine D_sole 8 J J (N_turnV 8 J J J J fun back => ?_)
  refine S_call Tryz.call84 (c_l11Dec q2 i2 _) J J J ?_;rintro v2 H2 rfl hx2
  refine back _ _ _ _ (pk_val J J J J J J J J (V_addS J J (by simp only [ByteArray.size_append, sz_tx, List.length_append, List.length_cons, List.length_nil]; omega)) (pk_val rfl rfl rfl rfl rfl rfl rfl rfl (V_addS rfl rfl (by simp only [ByteArray.size_append, sz_tx, List.length_append, List.length_cons, List.length_nil]; omega)) (pk_val rfl rfl rfl rfl rfl rfl rfl rfl (V_sub rfl rfl (by omega)) (pk_val rfl rfl rfl rfl rfl rfl rfl rfl (V_sub rfl rfl (by omega)) (pk_all Tk (by kernel_rfl)))))) ?_; clear back
  refine Da J J ?_;refine D_val 9 J J J J J J J J J (V_addS J J (by simp only [ByteArray.size_append, sz_tx, List.length_append, List.length_cons, List.length_nil]; omega)) ?_;refine Da J J ?_;refine D_val 10 J J J J J J J J J (V_addS J J (by simp only [ByteArray.size_append, sz_tx, List.length_append, List.length_cons, List.length_nil]; omega)) ?_;refine Da J J ?_;refine D_sole 13 J J (N_turnV 13 J J J J fun back => ?_)
  refine S_call Tryz.call84 (c_l11Dec q3 i3 _) J J J ?_;rintro v3 H3 rfl hx3
  refine back _ _ _ _ (pk_val J J J J J J J J (V_addS J J (by simp only [ByteArray.size_append, sz_tx, List.length_append, List.length_cons, List.length_nil]; omega)) (pk_val rfl rfl rfl rfl rfl rfl rfl rfl (V_addS rfl rfl (by simp only [ByteArray.size_append, sz_tx, List.length_append, List.length_cons, List.length_nil]; omega)) (pk_val rfl rfl rfl rfl rfl rfl rfl rfl (V_addS rfl rfl (by simp only [ByteArray.size_append, sz_tx, List.length_append, List.length_cons, List.length_nil]; omega)) (pk_val rfl rfl rfl rfl rfl rfl rfl rfl (V_addS rfl rfl (by simp only [ByteArray.size_append, sz_tx, List.length_append, List.length_cons, List.length_nil]; omega)) (pk_val rfl rfl rfl rfl rfl rfl rfl rfl (V_sub rfl rfl (by omega)) (pk_val rfl rfl rfl rfl rfl rfl rfl rfl (V_sub rfl rfl (by omega)) (pk_all Tk (by kernel_rfl)))))))) ?_; clear back
  refine Da J J ?_;refine D_val 14 J J J J J J J J J (V_addS J J (by simp only [ByteArray.size_append, sz_tx, List.length_append, List.length_cons, List.length_nil]; omega)) ?_;refine Da J J ?_;refine D_val 15 J J J J J J J J J (V_addS J J (by simp only [ByteArray.size_append, sz_tx, List.length_append, List.length_cons, List.length_nil]; omega)) ?_;refine Da J J ?_;refine D_sole 18 J J (N_turnV 18 J J J J fun back => ?_)
  refine S_call Tryz.call84 (c_l11Dec q4 i4 _) J J J ?_;rintro v4 H4 rfl hx4
  refine back _ _ _ _ (pk_val J J J J J J J J (V_addS J J (by simp only [ByteArray.size_append, sz_tx, List.length_append, List.length_cons, List.length_nil]; omega)) (pk_val rfl rfl rfl rfl rfl rfl rfl rfl (V_addS rfl rfl (by simp only [ByteArray.size_append, sz_tx, List.length_append, List.length_cons, List.length_nil]; omega)) (pk_val rfl rfl rfl rfl rfl rfl rfl rfl (V_addS rfl rfl (by simp only [ByteArray.size_append, sz_tx, List.length_append, List.length_cons, List.length_nil]; omega)) (pk_val rfl rfl rfl rfl rfl rfl rfl rfl (V_addS rfl rfl (by simp only [ByteArray.size_append, sz_tx, List.length_append, List.length_cons, List.length_nil]; omega)) (pk_val rfl rfl rfl rfl rfl rfl rfl rfl (V_addS rfl rfl (by simp only [ByteArray.size_append, sz_tx, List.length_append, List.length_cons, List.length_nil]; omega)) (pk_val rfl rfl rfl rfl rfl rfl rfl rfl (V_addS rfl rfl (by simp only [ByteArray.size_append, sz_tx, List.length_append, List.length_cons, List.length_nil]; omega)) (pk_val rfl rfl rfl rfl rfl rfl rfl rfl (V_sub rfl rfl (by omega)) (pk_val rfl rfl rfl rfl rfl rfl rfl rfl (V_sub rfl rfl (by omega)) (pk_all Tk (by kernel_rfl)))))))))) ?_; clear back
  refine Da J J ?_;refine D_val 19 J J J J J J J J J (V_addS J J (by simp only [ByteArray.size_append, sz_tx, List.length_append, List.length_cons, List.length_nil]; omega)) ?_;refine Da J J ?_
  have hxx := ((hx1.trans hx2).trans hx3).trans hx4
  refine D_sole 24 J J (N_turnV 24 J J J J fun back => ?_)
  refine S_call Tryz.call72 (hbx d _ e' _ _ (Sts_le hxx.le hx) (by omega) (by omega) p1 (by omega) p3) J J J ?_;rintro v5 H5 rfl hx5
  refine back _ _ _ _ (pk_val J J J J J J J J (V_addS J J (by simp only [ByteArray.size_append, sz_tx, List.length_append, List.length_cons, List.length_nil]; omega)) (pk_val rfl rfl rfl rfl rfl rfl rfl rfl (V_addS rfl rfl (by simp only [ByteArray.size_append, sz_tx, List.length_append, List.length_cons, List.length_nil]; omega)) (pk_val rfl rfl rfl rfl rfl rfl rfl rfl (V_addS rfl rfl (by simp only [ByteArray.size_append, sz_tx, List.length_append, List.length_cons, List.length_nil]; omega)) (pk_val rfl rfl rfl rfl rfl rfl rfl rfl (V_addS rfl rfl (by simp only [ByteArray.size_append, sz_tx, List.length_append, List.length_cons, List.length_nil]; omega)) (pk_val rfl rfl rfl rfl rfl rfl rfl rfl (V_addS rfl rfl (by simp only [ByteArray.size_append, sz_tx, List.length_append, List.length_cons, List.length_nil]; omega)) (pk_val rfl rfl rfl rfl rfl rfl rfl rfl (V_addS rfl rfl (by simp only [ByteArray.size_append, sz_tx, List.length_append, List.length_cons, List.length_nil]; omega)) (pk_val rfl rfl rfl rfl rfl rfl rfl rfl (V_addS rfl rfl (by simp only [ByteArray.size_append, sz_tx, List.length_append, List.length_cons, List.length_nil]; omega)) (pk_val rfl rfl rfl rfl rfl rfl rfl rfl (V_sub rfl rfl (by omega)) (pk_all Tk (by kernel_rfl)))))))))) ?_; clear back
  refine Da J J ?_;refine D_val 25 J J J J J J J J J (V_addS J J (by simp only [ByteArray.size_append, sz_tx, List.length_append, List.length_cons, List.length_nil]; omega)) ?_;refine Da J J ?_;refine D_sole 30 J J (N_turnV 30 J J J J fun back => ?_)
  refine S_call Tryz.call72 (hby d _ e' _ _ (Sts_le (hxx.trans hx5).le hy) (by omega) (by omega) p2 (by omega) p4) J J J ?_;rintro v6 H6 rfl hx6
  refine back _ _ _ _ (pk_val J J J J J J J J (V_addS J J (by simp only [ByteArray.size_append, sz_tx, List.length_append, List.length_cons, List.length_nil]; omega)) (pk_val rfl rfl rfl rfl rfl rfl rfl rfl (V_addS rfl rfl (by simp only [ByteArray.size_append, sz_tx, List.length_append, List.length_cons, List.length_nil]; omega)) (pk_val rfl rfl rfl rfl rfl rfl rfl rfl (V_addS rfl rfl (by simp only [ByteArray.size_append, sz_tx, List.length_append, List.length_cons, List.length_nil]; omega)) (pk_val rfl rfl rfl rfl rfl rfl rfl rfl (V_addS rfl rfl (by simp only [ByteArray.size_append, sz_tx, List.length_append, List.length_cons, List.length_nil]; omega)) (pk_val rfl rfl rfl rfl rfl rfl rfl rfl (V_addS rfl rfl (by simp only [ByteArray.size_append, sz_tx, List.length_append, List.length_cons, List.length_nil]; omega)) (pk_val rfl rfl rfl rfl rfl rfl rfl rfl (V_addS rfl rfl (by simp only [ByteArray.size_append, sz_tx, List.length_append, List.length_cons, List.length_nil]; omega)) (pk_val rfl rfl rfl rfl rfl rfl rfl rfl (V_addS rfl rfl (by simp only [ByteArray.size_append, sz_tx, List.length_append, List.length_cons, List.length_nil]; omega)) (pk_val rfl rfl rfl rfl rfl rfl rfl rfl (V_addS rfl rfl (by simp only [ByteArray.size_append, sz_tx, List.length_append, List.length_cons, List.length_nil]; omega)) (pk_all Tk (by kernel_rfl)))))))))) ?_; clear back
  refine Da J J ?_;refine D_val 31 J J J J J J J J J (V_addS J J (by simp only [ByteArray.size_append, sz_tx, List.length_append, List.length_cons, List.length_nil]; omega)) ?_;refine Da J J ?_;refine D_sole 32 J J (N_assign Tk 32 J J J J J J J J J (by kernel_rfl) ?_)
  refine DD ?_;refine Va J J ?_;refine S_add J J J J (by omega) ?_;refine Va J J ?_;exact S_again (i + 1, _) ⟨hkl, ((hext.trans hxx).trans hx5).trans hx6⟩ (by simp only; omega) rfl ⟨⟨_, rfl, by simp [denO]⟩, ⟨_, rfl, by rw [hnx]; simp [denO, tx, ba_append, stmT, fourT, Stm.kind, Stm.a, Stm.b, Stm.n, Stm.body, Stm.els]⟩, ⟨_, rfl, rfl⟩, ⟨_, rfl, rfl⟩, trivial⟩ (by first | exact .nil | exact .drop .nil)
 ·refine RF J (by simp; omega) ?_
  refine Va J J ?_
  have e0 : i = L.length := by omega
  subst e0
  rw [List.take_length]
  have ht := todoT_len e (d + 1) L hdp hiL hmx
  have htB := tB_le he
  rw [todoT_succ] at ht
  simp only [List.length_append, List.length_cons, List.length_nil] at ht
  refine S_valV J J J (V_addT (q := [41]) J J J J (by simp only [List.length_append, List.length_cons, List.length_nil]; omega)) ?_;refine Va J J ?_;exact S_retp (Res.t1 Tryz.results72 J J) hext J
mutual
theorem TdS_stm : ∀ s : Stm, TdS s.body ∧ TdS s.els
 | .mk k a b n x y => ⟨c_l8Todo x (TdS_at x), c_l8Todo y (TdS_at y)⟩
theorem TdS_at : ∀ (L : List Stm) (k : Nat) (hk : k < L.length), TdS L[k].body ∧ TdS L[k].els
 | [], _, hk => absurd hk (Nat.not_lt_zero _)
 | s :: r, 0, _ => TdS_stm s
 | s :: r, k + 1, hk => TdS_at r k (Nat.lt_of_succ_lt_succ hk)
end
theorem TdS_all (L : List Stm) : TdS L := c_l8Todo L (TdS_at L)
end
section
open Go.Lib (itoa)
attribute [local irreducible] X Pure Mod
theorem Ints_U {G : PH} {l : List Int} {v : Value} (h : Ints G l v) : IntsU G l v := Sr_mono (fun _ _ h => h) (fun _ _ _ h => h.1) h
structure Tok (W : Wld) : Prop where
 n3 : W.procs.length ≤ 3
 nm : Nm W
 shl : Shl W
 mx : ∀ p ∈ W.procs, mx p.todo ≤ 1000
 md : ∀ p ∈ W.procs, I64 p.mode ∧ I64 p.room
 rm : I64 W.m0 ∧ I64 W.m1
 q0 : W.q0.length ≤ 1000 ∧ ∀ n ∈ W.q0, I64 n
 q1 : W.q1.length ≤ 1000 ∧ ∀ n ∈ W.q1, I64 n
 sd : W.said.length ≤ 1000
theorem procT_len {W : Wld} (h : Tok W) {p : Prc} (hp : p ∈ W.procs) : (procT p).length ≤ 400000000200 := by
 have hn := h.nm.pr p hp
 have h1 := lineT_len (w := wProc) (l := [p.mode, p.on, p.room]) (by simp only [List.mem_cons, List.not_mem_nil, or_false]; rintro n (rfl | rfl | rfl); exact (h.md p hp).1; exact hn.on; exact (h.md p hp).2)
 have h2 := lineT_len (w := wRegs) (l := [p.r0, p.r1, p.r2]) (by simp only [List.mem_cons, List.not_mem_nil, or_false]; rintro n (rfl | rfl | rfl); exact hn.r0; exact hn.r1; exact hn.r2)
 have h3 := todoT_len 3 6 p.todo (h.shl p hp) hn.td (h.mx p hp)
 have h4 := tB_le (e := 3) (by omega)
 simp only [procT, List.length_append, List.length_cons, List.length_nil, wProc, wRegs] at h1 h2 ⊢
 omega
theorem c_sWorldText (W : Wld) (v : Value) (G : PH) (hW : WG G W v) (hT : Tok W) : Pure Tryz.prog 45 [v] G fun v' G' => v' = tx (wText W) := by
 obtain ⟨vp, vc, vr, vs, vd, rfl, hpr, hce, hro, hsg, hsd⟩ := hW
 obtain ⟨Ap, cp, rfl, _⟩ := id hpr
 obtain ⟨Ac, cc, rfl, _⟩ := id hce
 obtain ⟨Ar, cr, rfl, _⟩ := id hro
 obtain ⟨As, cs_, rfl, _⟩ := id hsg
 obtain ⟨Ad, cd, rfl, _⟩ := id hsd
 have hn3 := hT.n3
 refine Pure.intro Tryz.func45 Tryz.ntmps45 J J fun w0 => ?_;refine Va J J ?_;refine S_box J J J J J fun b1 => ?_;refine Va J J ?_;refine S_loop (α := Nat × PH) (fun y => y.1 ≤ W.procs.length ∧ PH.ext w0.heap.size G y.2) (fun y => W.procs.length - y.1) [(1, b1)]
  (fun y => [(4, .val (.int .i64 (y.1 : Nat))), (3, .val (tx ((W.procs.take y.1).flatMap procT))), (1, .ptr 1 0)]) (fun _ => [.blk 1 56 (vL [.slice Ap W.procs.length cp, .slice Ac 3 cc, .slice Ar 2 cr, .slice As 2 cs_, .slice Ad W.said.length cd])]) (fun y => y.2) (0, G) ⟨Nat.zero_le _, PH.ext.refl _ _⟩ rfl ⟨⟨_, rfl, rfl⟩, ⟨_, rfl, rfl⟩, ⟨_, rfl, rfl⟩, trivial⟩ (.blk rfl rfl .nil) ?_
 rintro ⟨i, G1⟩ ⟨hil, hext⟩
 simp only at hil hext ⊢
 have htk : ((W.procs.take i).flatMap procT).length ≤ 400000000200 * (W.procs.take i).length := flatMap_len _ fun p hp => procT_len hT (List.mem_of_mem_take hp)
 have htl := List.length_take_le i W.procs
 refine Va J J ?_
 refine S_condp J (fun h => ?_) (fun h => ?_) <;> refine Va J J ?_
 ·have hkl : i < W.procs.length := by omega
  have hso := List.getElem_mem hkl
  obtain ⟨ad, cs, e1, hcs, vr', vt, rfl, hrg, htd⟩ := Sr_at hpr hkl
  subst e1
  have hnx : (W.procs.take (i + 1)).flatMap procT = (W.procs.take i).flatMap procT ++ procT W.procs[i] := by rw [List.take_succ_eq_append_getElem hkl, List.flatMap_append]; simp
  have hpm := hT.nm.pr _ hso
  have hmd := hT.md _ hso
  have hmx := hT.mx _ hso
  have hsh := hT.shl _ hso
  have hpl := procT_len hT hso
  generalize W.procs[i] = p at hso hcs hrg htd hnx hpm hmd hmx hsh hpl
  obtain ⟨A1, c1, rfl, _⟩ := id hrg
  obtain ⟨A2, c2, rfl, _⟩ := id htd
  refine S_index Tk J J J J J J (by omega) (by omega) ?_;refine Va J J ?_;refine S_loadA Tk J J J J J (by simpa using gcells_le hext.le hcs) ?_;refine Va J J ?_;refine AZ ZT_ok J J J J fun b5 => ?_;refine Va J J ?_
  have hi1 : ∀ n ∈ [p.mode, p.on, p.room], I64 n := by simp only [List.mem_cons, List.not_mem_nil, or_false]; rintro n (rfl | rfl | rfl); exact hmd.1; exact hpm.on; exact hmd.2
  have hi2 : ∀ n ∈ [p.r0, p.r1, p.r2], I64 n := by simp only [List.mem_cons, List.not_mem_nil, or_false]; rintro n (rfl | rfl | rfl); exact hpm.r0; exact hpm.r1; exact hpm.r2
  have l1 : (lineT wProc [p.mode, p.on, p.room]).length ≤ 71 := Nat.le_trans (lineT_len hi1) (show 4 + 22 * 3 + 1 ≤ 71 by decide)
  have l2 : (lineT wRegs [p.r0, p.r1, p.r2]).length ≤ 71 := Nat.le_trans (lineT_len hi2) (show 4 + 22 * 3 + 1 ≤ 71 by decide)
  have l3 := todoT_len 3 6 p.todo hsh hpm.td hmx
  have l4 := tB_le (e := 3) (by omega)
  refine D_startK [3] (by exact MO) J J J (by kernel_rfl) ?_;refine Da J J ?_;refine D_sole 7 J J (N_turnV 7 J J J J fun back => ?_)
  refine S_sliceG Tk ZT_ok J J J J (by decide) (by decide) J J J J (fun _ => J) fun bq Gq hxq hcq => ?_;refine back _ _ _ _ (pk_all Tk (by kernel_rfl)) ?_; clear back
  refine Da J J ?_
  have hq : IntsU Gq [p.mode, p.on, p.room] (.slice (some ⟨bq, 0, none⟩) 3 3) := Ints_U (ints_of hcq rfl (Nat.le_refl _) (by decide) (by decide) hi1)
  refine D_sole 8 J J (N_turnV 8 J J J J fun back => ?_)
  refine S_call Tryz.call71 (c_l8Nums wProc _ _ _ hq hi1 (by decide)) J J J ?_;rintro v1 H1 rfl hx1
  refine back _ _ _ _ (pk_all Tk (by kernel_rfl)) ?_; clear back
  refine Da J J ?_;refine D_val 9 J J J J J J J J J (V_addS J J (by simp only [ByteArray.size_append, sz_tx, List.length_append, List.length_cons, List.length_nil]; omega)) ?_;refine Da J J ?_;refine D_sole 12 J J (N_turnV 12 J J J J fun back => ?_)
  refine S_call Tryz.call71 (c_l8Nums wRegs _ _ _ (IntsU_le ((hext.trans hxq).trans hx1).le hrg) hi2 (by decide)) J J J ?_;rintro v2 H2 rfl hx2
  refine back _ _ _ _ (pk_val J J J J J J J J (V_addS J J (by simp only [ByteArray.size_append, sz_tx, List.length_append, List.length_cons, List.length_nil]; omega)) (pk_all Tk (by kernel_rfl))) ?_; clear back
  refine Da J J ?_;refine D_val 13 J J J J J J J J J (V_addS J J (by simp only [ByteArray.size_append, sz_tx, List.length_append, List.length_cons, List.length_nil]; omega)) ?_;refine Da J J ?_
  have hxx := ((hext.trans hxq).trans hx1).trans hx2
  refine D_sole 16 J J (N_turnV 16 J J J J fun back => ?_)
  refine S_call Tryz.call72 (TdS_all _ 6 6 3 _ _ (Sts_le hxx.le htd) (by omega) (by omega) hsh (by omega) hmx) J J J ?_;rintro v3 H3 rfl hx3
  refine back _ _ _ _ (pk_val J J J J J J J J (V_addS J J (by simp only [ByteArray.size_append, sz_tx, List.length_append, List.length_cons, List.length_nil]; omega)) (pk_val rfl rfl rfl rfl rfl rfl rfl rfl (V_addS rfl rfl (by simp only [ByteArray.size_append, sz_tx, List.length_append, List.length_cons, List.length_nil]; omega)) (pk_all Tk (by kernel_rfl)))) ?_; clear back
  refine Da J J ?_;refine D_val 17 J J J J J J J J J (V_addS J J (by simp only [ByteArray.size_append, sz_tx, List.length_append, List.length_cons, List.length_nil]; omega)) ?_;refine Da J J ?_;refine D_val 18 J J J J J J J J J (V_addS J J (by simp only [ByteArray.size_append, sz_tx, List.length_append, List.length_cons, List.length_nil]; omega)) ?_;refine Da J J ?_;refine D_sole 19 J J (N_assign Tk 19 J J J J J J J J J (by kernel_rfl) ?_)
  refine DD ?_;refine Va J J ?_;refine S_add J J J J (by omega) ?_;refine Va J J ?_;exact S_again (i + 1, _) ⟨hkl, hxx.trans hx3⟩ (by simp only; omega) rfl ⟨⟨_, rfl, by simp [denO]⟩, ⟨_, rfl, by rw [hnx]; simp [denO, tx, ba_append, procT]⟩, ⟨_, rfl, rfl⟩, trivial⟩ (.drop (.blk rfl rfl .nil))
 ·have e0 : i = W.procs.length := by omega
  subst e0
  rw [List.take_length] at htk ⊢
  have hb1 : (W.procs.flatMap procT).length ≤ 1200000000600 := by
   have : 400000000200 * W.procs.length ≤ 400000000200 * 3 := Nat.mul_le_mul_left _ hn3
   omega
  have hi1 : ∀ n ∈ [W.c0, W.c1, W.c2], I64 n := by simp only [List.mem_cons, List.not_mem_nil, or_false]; rintro n (rfl | rfl | rfl); exact hT.nm.c0; exact hT.nm.c1; exact hT.nm.c2
  have hi2 : ∀ n ∈ [W.m0, W.m1], I64 n := by simp only [List.mem_cons, List.not_mem_nil, or_false]; rintro n (rfl | rfl); exact hT.rm.1; exact hT.rm.2
  have l1 : (lineT wCells [W.c0, W.c1, W.c2]).length ≤ 72 := Nat.le_trans (lineT_len hi1) (show 5 + 22 * 3 + 1 ≤ 72 by decide)
  have l2 : (lineT wRooms [W.m0, W.m1]).length ≤ 50 := Nat.le_trans (lineT_len hi2) (show 5 + 22 * 2 + 1 ≤ 50 by decide)
  refine D_startK [3] (by exact MO) J J J (by kernel_rfl) ?_;refine Da J J ?_;refine D_sole 3 J J (N_turnV 3 J J J J fun back => ?_)
  refine S_call Tryz.call71 (c_l8Nums wCells _ _ _ (IntsU_le hext.le hce) hi1 (by decide)) J J J ?_;rintro v1 H1 rfl hx1
  refine back _ _ _ _ (pk_all Tk (by kernel_rfl)) ?_; clear back
  refine Da J J ?_;refine D_val 4 J J J J J J J J J (V_addS J J (by simp only [ByteArray.size_append, sz_tx, List.length_append, List.length_cons, List.length_nil]; omega)) ?_;refine Da J J ?_;refine D_sole 7 J J (N_turnV 7 J J J J fun back => ?_)
  refine S_call Tryz.call71 (c_l8Nums wRooms _ _ _ (IntsU_le (hext.trans hx1).le hro) hi2 (by decide)) J J J ?_;rintro v2 H2 rfl hx2
  refine back _ _ _ _ (pk_val J J J J J J J J (V_addS J J (by simp only [ByteArray.size_append, sz_tx, List.length_append, List.length_cons, List.length_nil]; omega)) (pk_all Tk (by kernel_rfl))) ?_; clear back
  refine Da J J ?_;refine D_val 8 J J J J J J J J J (V_addS J J (by simp only [ByteArray.size_append, sz_tx, List.length_append, List.length_cons, List.length_nil]; omega)) ?_;refine Da J J ?_;refine D_sole 9 J J (N_assign Tk 9 J J J J J J J J J (by kernel_rfl) ?_)
  refine DD ?_;refine Va J J ?_
  have hext2 := (hext.trans hx1).trans hx2
  have htw : wText W = (W.procs.flatMap procT ++ lineT wCells [W.c0, W.c1, W.c2] ++ lineT wRooms [W.m0, W.m1] ++ [W.q0, W.q1].flatMap (lineT wSign)) ++ W.said.flatMap saidT := by simp [wText]
  have hbase : Value.string (({ data := (W.procs.flatMap procT).toArray } ++ { data := (lineT wCells [W.c0, W.c1, W.c2]).toArray }) ++ { data := (lineT wRooms [W.m0, W.m1]).toArray }) = tx (W.procs.flatMap procT ++ lineT wCells [W.c0, W.c1, W.c2] ++ lineT wRooms [W.m0, W.m1]) := by rw [ba_append, ba_append]; rfl
  rw [hbase]
  have hb2 : (W.procs.flatMap procT ++ lineT wCells [W.c0, W.c1, W.c2] ++ lineT wRooms [W.m0, W.m1]).length ≤ 1200000001000 := by simp only [List.length_append]; omega
  generalize W.procs.flatMap procT ++ lineT wCells [W.c0, W.c1, W.c2] ++ lineT wRooms [W.m0, W.m1] = base at htw hb2 ⊢
  have hqs : ∀ q ∈ [W.q0, W.q1], q.length ≤ 1000 ∧ ∀ n ∈ q, I64 n := by simp only [List.mem_cons, List.not_mem_nil, or_false]; rintro q (rfl | rfl); exact hT.q0; exact hT.q1
  have hsl : ∀ q ∈ [W.q0, W.q1], (lineT wSign q).length ≤ 22005 := fun q hq => Nat.le_trans (lineT_len (hqs q hq).2) (by have := (hqs q hq).1; show 4 + 22 * q.length + 1 ≤ 22005; omega)
  generalize hQ : [W.q0, W.q1] = Q at hsg htw hqs hsl
  have hQl : Q.length = 2 := by rw [← hQ]; rfl
  refine S_loop (α := Nat × PH) (fun y => y.1 ≤ 2 ∧ PH.ext w0.heap.size G y.2) (fun y => 2 - y.1) [(1, b1)]
   (fun y => [(6, .val (.int .i64 (y.1 : Nat))), (3, .val (tx (base ++ (Q.take y.1).flatMap (lineT wSign)))), (1, .ptr 1 0)]) (fun _ => [.blk 1 56 (vL [.slice Ap W.procs.length cp, .slice Ac 3 cc, .slice Ar 2 cr, .slice As 2 cs_, .slice Ad W.said.length cd])]) (fun y => y.2) (0, H2) ⟨Nat.zero_le _, hext2⟩ rfl ⟨⟨_, rfl, rfl⟩, ⟨_, rfl, by simp [denO]⟩, ⟨_, rfl, rfl⟩, trivial⟩ (.blk rfl rfl .nil) ?_
  rintro ⟨i, G2⟩ ⟨hil, hext⟩
  simp only at hil hext ⊢
  have htk : ((Q.take i).flatMap (lineT wSign)).length ≤ 22005 * (Q.take i).length := flatMap_len _ fun q hq => hsl q (List.mem_of_mem_take hq)
  have htl := List.length_take_le i Q
  refine Va J J ?_
  refine S_condp J (fun h => ?_) (fun h => ?_) <;> refine Va J J ?_
  ·have hkl : i < Q.length := by omega
   obtain ⟨ad, cs, e1, hcs, vq, rfl, hvq⟩ := Sr_at hsg hkl
   subst e1
   have hnx : (Q.take (i + 1)).flatMap (lineT wSign) = (Q.take i).flatMap (lineT wSign) ++ lineT wSign Q[i] := by rw [List.take_succ_eq_append_getElem hkl, List.flatMap_append]; simp
   have hqi := hqs _ (List.getElem_mem hkl)
   have hqs2 := hsl _ (List.getElem_mem hkl)
   generalize Q[i] = q at hcs hvq hnx hqi hqs2
   obtain ⟨Aq, cq, rfl, _⟩ := id hvq
   refine S_index Tk J J J J J J (by omega) (by omega) ?_;refine Va J J ?_;refine S_load Tk J J J J J (by simpa using gcell_le hext.le hcs.1) ?_;refine Va J J ?_;refine S_call Tryz.call71 (c_l8Nums wSign _ _ _ (IntsU_le hext.le hvq) hqi.2 (by decide)) J J J ?_;rintro v1 H1 rfl hx1
   refine Va J J ?_;refine S_valV J J J (V_addT J J J J (by simp only [List.length_append]; omega)) ?_;refine Va J J ?_;refine S_add J J J J (by omega) ?_;refine Va J J ?_;exact S_again (i + 1, _) ⟨by simp only; omega, hext.trans hx1⟩ (by simp only; omega) rfl ⟨⟨_, rfl, by simp [denO]⟩, ⟨_, rfl, by rw [hnx]; simp [denO]⟩, ⟨_, rfl, rfl⟩, trivial⟩ (.blk rfl rfl .nil)
  ·have e0 : i = Q.length := by omega
   subst e0
   rw [List.take_length] at htk ⊢
   have hb3 : (base ++ Q.flatMap (lineT wSign)).length ≤ 1200000046000 := by simp only [List.length_append]; omega
   generalize base ++ Q.flatMap (lineT wSign) = base at htw hb3 ⊢
   have hsl : ∀ s ∈ W.said, (saidT s).length ≤ 49 := fun s hs => Nat.le_trans (lineT_len (by
    have := hT.nm.sd s hs
    simp only [List.mem_cons, List.not_mem_nil, or_false]
    rintro n (rfl | rfl)
    ·exact this.1
    ·exact this.2)) (show 4 + 22 * 2 + 1 ≤ 49 by decide)
   have hs1 := hT.sd
   refine S_loop (α := Nat × PH) (fun y => y.1 ≤ W.said.length ∧ PH.ext w0.heap.size G y.2) (fun y => W.said.length - y.1) [(1, b1)]
    (fun y => [(7, .val (.int .i64 (y.1 : Nat))), (3, .val (tx (base ++ (W.said.take y.1).flatMap saidT))), (1, .ptr 1 0)]) (fun _ => [.blk 1 56 (vL [.slice Ap W.procs.length cp, .slice Ac 3 cc, .slice Ar 2 cr, .slice As 2 cs_, .slice Ad W.said.length cd])]) (fun y => y.2) (0, G2) ⟨Nat.zero_le _, hext⟩ rfl ⟨⟨_, rfl, rfl⟩, ⟨_, rfl, by simp [denO]⟩, ⟨_, rfl, rfl⟩, trivial⟩ (.blk rfl rfl .nil) ?_
   rintro ⟨i, G3⟩ ⟨hil, hext⟩
   simp only at hil hext ⊢
   have htk : ((W.said.take i).flatMap saidT).length ≤ 49 * (W.said.take i).length := flatMap_len _ fun s hs => hsl s (List.mem_of_mem_take hs)
   have htl := List.length_take_le i W.said
   refine Va J J ?_
   refine S_condp J (fun h => ?_) (fun h => ?_) <;> refine Va J J ?_
   ·have hkl : i < W.said.length := by omega
    obtain ⟨ad, cs, e1, hcs, rfl⟩ := Sr_at hsd hkl
    subst e1
    have hnx : (W.said.take (i + 1)).flatMap saidT = (W.said.take i).flatMap saidT ++ saidT W.said[i] := by rw [List.take_succ_eq_append_getElem hkl, List.flatMap_append]; simp
    have hi3 := hT.nm.sd _ (List.getElem_mem hkl)
    have hs2 := hsl _ (List.getElem_mem hkl)
    generalize W.said[i] = sx at hcs hnx hi3 hs2
    obtain ⟨x1, x2⟩ := sx
    have hcs' := gcells_le hext.le hcs
    simp only at hcs' hi3
    refine D_startK [3] (by exact MO) J J J (by kernel_rfl) ?_;refine Da J J ?_;refine D_val 4 J J J J J J J J J (V_index Tk J J J J (by omega) (by omega)) ?_;refine Da J J ?_;refine D_val 6 J J J J J J J J J (V_load Tk J J J (by simpa [add_zero'] using gcells_at hcs' 0 _ J)) ?_;refine Da J J ?_;refine D_val 10 J J J J J J J J J (V_index Tk J J J J (by omega) (by omega)) ?_;refine Da J J ?_;refine D_val 12 J J J J J J J J J (V_load Tk J J J (by simpa [add_add'] using gcells_at hcs' 1 _ J)) ?_
    refine Da J J ?_;refine D_sole 13 J J (N_turnV 13 J J J J fun back => ?_)
    refine S_sliceG Tk ZT_ok J J J J (by decide) (by decide) J J J J (fun _ => J) fun bq Gq hxq hcq => ?_;refine back _ _ _ _ (pk_re Tk (by kernel_rfl) (pk_val J J J J J J J J (V_index Tk J J J J (by omega) (by omega)) (pk_re Tk (by kernel_rfl) (pk_val J J J J J J J J (V_index Tk J J J J (by omega) (by omega)) (pk_all Tk (by kernel_rfl)))))) ?_; clear back
    refine Da J J ?_
    have hi4 : ∀ n ∈ [x1, x2], I64 n := by simp only [List.mem_cons, List.not_mem_nil, or_false]; rintro n (rfl | rfl); exact hi3.1; exact hi3.2
    have hq : IntsU Gq [x1, x2] (.slice (some ⟨bq, 0, none⟩) 2 2) := Ints_U (ints_of hcq rfl (Nat.le_refl _) (by decide) (by decide) hi4)
    refine D_sole 14 J J (N_turnV 14 J J J J fun back => ?_)
    refine S_call Tryz.call71 (c_l8Nums wSaid _ _ _ hq hi4 (by decide)) J J J ?_;rintro v1 H1 rfl hx1
    refine back _ _ _ _ (pk_re Tk (by kernel_rfl) (pk_val J J J J J J J J (V_index Tk J J J J (by omega) (by omega)) (pk_re Tk (by kernel_rfl) (pk_val J J J J J J J J (V_index Tk J J J J (by omega) (by omega)) (pk_all Tk (by kernel_rfl)))))) ?_; clear back
    refine Da J J ?_
    have hs3 : (lineT wSaid [x1, x2]).length ≤ 49 := hs2
    refine D_val 15 J J J J J J J J J (V_addS J J (by simp only [ByteArray.size_append, sz_tx, List.length_append, List.length_cons, List.length_nil]; omega)) ?_;refine Da J J ?_;refine D_sole 16 J J (N_assign Tk 16 J J J J J J J J J (by kernel_rfl) ?_)
    refine DD ?_;refine Va J J ?_;refine S_add J J J J (by omega) ?_;refine Va J J ?_;exact S_again (i + 1, _) ⟨hkl, (hext.trans hxq).trans hx1⟩ (by simp only; omega) rfl ⟨⟨_, rfl, by simp [denO]⟩, ⟨_, rfl, by rw [hnx]; simp [denO, tx, ba_append, saidT]⟩, ⟨_, rfl, rfl⟩, trivial⟩ (.blk rfl rfl .nil)
   ·have e0 : i = W.said.length := by omega
    subst e0
    rw [List.take_length]
    exact S_retp (Res.t1 Tryz.results45 J J) hext (by rw [htw])
end
section
attribute [local irreducible] X Pure Mod
theorem c_l8Has (ts : List (List UInt8)) (A : Option Addr) (c : Nat) (t : List UInt8) (G : PH) (hv : ts.length = 0 ∨ ∃ ad, A = some ad ∧ gcells G ad (ts.map tx)) (hl : ts.length ≤ 1000000) : Pure Tryz.prog 48 [.slice A ts.length c, tx t] G fun v G' => v = .bool (decide (t ∈ ts)) ∧ G' = G := by
 refine Pure.intro Tryz.func48 Tryz.ntmps48 J J fun w => ?_; refine Va J J ?_;refine S_loop (α := Nat) (fun i => i ≤ ts.length ∧ t ∉ ts.take i) (fun i => ts.length - i) [] (fun i => [(5, .val (.int .i64 (i : Nat))), (0, .val (.slice A ts.length c)), (1, .val (tx t))]) (fun _ => []) (fun _ => G) 0 ⟨Nat.zero_le _, by simp⟩ J ⟨⟨_, J, J⟩, ⟨_, J, J⟩, ⟨_, J, J⟩, trivial⟩ .nil ?_;rintro i ⟨hi, hn⟩
 refine Va J J ?_
 refine S_condp J (fun h5 => ?_) (fun h5 => ?_) <;> refine Va J J ?_
 ·have hil : i < ts.length := by omega
  rcases hv with hv | ⟨ad, rfl, hcs⟩
  ·omega
  have hc := gcells_at hcs i (tx ts[i]) (by simp [hil])
  refine S_index Tk J J J J J J (by omega) (by omega) ?_;refine Va J J ?_;refine S_load Tk J J J J J (by simpa using hc) ?_;refine Va J J ?_;refine S_valV J J J (V_eqT J J J) ?_;refine Va J J ?_
  by_cases he : ts[i] = t
  ·refine RT J (by simpa using he) ?_
   refine Va J J ?_;exact S_retp (Res.t1 Tryz.results48 J J) XR ⟨by rw [decide_eq_true (he ▸ List.getElem_mem hil)], J⟩
  ·refine RF J (by simpa using he) ?_
   refine Va J J ?_;refine S_add J J J J (by omega) ?_;refine Va J J ?_;refine S_again (i + 1) ⟨hil, ?_⟩ (by omega) J ⟨⟨_, J, by simp [denO]⟩, ⟨_, J, J⟩, ⟨_, J, J⟩, trivial⟩ .nil
   rw [List.take_succ_eq_append_getElem hil, List.mem_append, List.mem_singleton]
   rintro (h | h)
   ·exact hn h
   ·exact he h.symm
 ·have e0 : i = ts.length := by omega
  subst e0
  rw [List.take_length] at hn
  exact S_retp (Res.t1 Tryz.results48 J J) XR ⟨by rw [decide_eq_false hn], J⟩
theorem codeOf_at {W : Wld} {who : Nat} {p : Prc} (h : W.procs[who]? = some p) : codeOf W (who : Nat) = codeP W p := by
 have hlt : who < W.procs.length := (List.getElem?_eq_some_iff.1 h).1
 rw [codeOf, if_neg (by omega)]
 simp [h]
theorem c_l3CodeF (W : Wld) (who : Nat) (v : Value) (G : PH) (hW : WG G W v) (h3 : W.procs.length ≤ 3) (hw : who < W.procs.length) (hh : ∀ p ∈ W.procs, HeadOk p) (hm : 0 ≤ W.m0 ∧ 0 ≤ W.m1) : Pure Tryz.prog 59 [v, .int .i64 (who : Nat)] G fun v' G' => v' = .int .i64 (codeOf W (who : Nat)) ∧ G' = G := by
 obtain ⟨vp, vc, vr, vs, vd, rfl, hpr, hce, hro, hsg, hsd⟩ := hW
 obtain ⟨Ap, cp, rfl, _⟩ := id hpr
 obtain ⟨Ac, cc, rfl, _⟩ := id hce
 obtain ⟨Ar, cr, rfl, _⟩ := id hro
 obtain ⟨As, cs_, rfl, _⟩ := id hsg
 obtain ⟨Ad, cd, rfl, _⟩ := id hsd
 obtain ⟨ad, cs, e1, hcs, vr', vt, rfl, hrg, htd⟩ := Sr_at hpr hw
 subst e1
 have hP := hh _ (List.getElem_mem hw)
 rw [codeOf_at (List.getElem?_eq_getElem hw)]
 generalize W.procs[who] = p at hcs hrg htd hP
 obtain ⟨a0, a1, a2, td, mo, on, ro⟩ := p
 obtain ⟨A1, c1, rfl, _⟩ := id hrg
 obtain ⟨A2, c2, rfl, _⟩ := id htd
 obtain ⟨ar, e2, hr0⟩ := intsU_at hro (t := 0) (by simp)
 subst e2
 obtain ⟨ar', e2, hr1⟩ := intsU_at hro (t := 1) (by simp)
 cases e2
 obtain ⟨ps, x0, x1, x2, m0, m1, q0, q1, sd⟩ := W
 simp only [List.getElem_cons_zero, List.getElem_cons_succ] at h3 hw hm hP hr0 hr1 hcs htd ⊢
 refine Pure.intro Tryz.func59 Tryz.ntmps59 J J fun w => ?_; refine Va J J ?_;refine S_box J J J J J fun b2 => ?_;refine Va J J ?_;refine RF J (by simp; omega) ?_;refine Va J J ?_;refine S_index Tk J J J J J J (by omega) (by omega) ?_;refine Va J J ?_;refine S_loadA Tk J J J J J (by simpa using hcs) ?_;refine Va J J ?_;refine AZ ZT_ok J J J J fun b5 => ?_;refine Va J J ?_
 by_cases hm1 : mo = 1
 ·refine GT J J (by simp [hm1]) ?_
  refine Va J J ?_;exact S_retp (Res.t1 Tryz.results59 J J) XR ⟨by first | (simp [codeP, Wld.rm, *]; done) | (simp_all [codeP, Wld.rm]; done) | (simp [codeP, Wld.rm, Stm.kind, Stm.a, *]; done) | (simp [codeP, Wld.rm, Stm.kind, Stm.a, *]; omega), rfl⟩
 refine GF J J (by simp [hm1]) ?_
 by_cases hm2 : mo = 2
 ·subst hm2
  have hro' := hP.1 rfl
  simp only at hro'
  rcases hro' with rfl | rfl <;>
  ·refine Va J J ?_
   refine GT J J J ?_;refine Va J J ?_;refine S_index Tk J J J J J J (by simp) (by simp) ?_;refine Va J J ?_;refine S_load Tk J J J J J (by first | simpa using hr0 | simpa using hr1) ?_;refine Va J J ?_
   refine S_condp J (fun h => ?_) (fun h => ?_) <;> refine Va J J ?_
   ·have hne : ¬ m0 = 0 ∨ ¬ m1 = 0 := by omega
    exact S_retp (Res.t1 Tryz.results59 J J) XR ⟨by first | (simp [codeP, Wld.rm, *]; done) | (simp_all [codeP, Wld.rm]; done) | (simp [codeP, Wld.rm, Stm.kind, Stm.a, *]; done) | (simp [codeP, Wld.rm, Stm.kind, Stm.a, *]; omega), rfl⟩
   ·refine RT J J ?_
    refine Va J J ?_;exact S_retp (Res.t1 Tryz.results59 J J) XR ⟨by first | (simp [codeP, Wld.rm, *]; done) | (simp_all [codeP, Wld.rm]; done) | (simp [codeP, Wld.rm, Stm.kind, Stm.a, *]; done) | (simp [codeP, Wld.rm, Stm.kind, Stm.a, *]; omega), rfl⟩
 refine Va J J ?_;refine GF J J (by simp [hm2]) ?_;refine Va J J ?_;refine RF J (by simp [hm2]) ?_;refine Va J J ?_
 rcases td with _ | ⟨s, r⟩
 ·refine RT J J ?_
  refine Va J J ?_;exact S_retp (Res.t1 Tryz.results59 J J) XR ⟨by first | (simp [codeP, Wld.rm, *]; done) | (simp_all [codeP, Wld.rm]; done) | (simp [codeP, Wld.rm, Stm.kind, Stm.a, *]; done) | (simp [codeP, Wld.rm, Stm.kind, Stm.a, *]; omega), rfl⟩
 obtain ⟨adt, vx, vy, rfl, hct, _⟩ := Sts_head htd
 refine RF J (by simp <;> omega) ?_
 refine Va J J ?_
 by_cases hk8 : s.kind = 8
 ·have hsa := hP.2 s r rfl hk8
  obtain ⟨sk, sa, sb, sn, sx, sy⟩ := s
  simp only [Stm.kind, Stm.a] at hk8 hsa hct
  subst hk8
  rcases hsa with rfl | rfl <;>
  ·refine Ds J J J ?_
   refine Da J J ?_
   refine D_val 2 J J J J J J J J J (V_index Tk J J J J (by omega) (by simp <;> omega)) ?_
   refine Da J J ?_;refine D_val 4 J J J J J J J J J (V_load Tk J J J (by simpa [add_add', add_zero'] using gcells_at hct 0 _ J)) ?_;refine Da J J ?_;refine D_setP 54 (b := true) J J ?_;refine Da J J ?_
   refine D_val 11 J J J J J J J J J (V_index Tk J J J J (by omega) (by simp <;> omega)) ?_
   refine Da J J ?_;refine D_val 13 J J J J J J J J J (V_load Tk J J J (by simpa [add_add', add_zero'] using gcells_at hct 1 _ J)) ?_;refine Da J J ?_;refine D_val 14 J J J J J J J J J (V_index Tk J J J J (by simp) (by simp)) ?_;refine Da J J ?_;refine D_val 15 J J J J J J J J J (V_load Tk J J J (by first | simpa using hr0 | simpa using hr1)) ?_;refine Da J J ?_;refine DD ?_;refine Va J J ?_
   refine S_condp J (fun h => ?_) (fun h => ?_) <;> refine Va J J ?_
   ·have hne : ¬ m0 = 0 ∨ ¬ m1 = 0 := by omega
    exact S_retp (Res.t1 Tryz.results59 J J) XR ⟨by first | (simp [codeP, Wld.rm, *]; done) | (simp_all [codeP, Wld.rm]; done) | (simp [codeP, Wld.rm, Stm.kind, Stm.a, *]; done) | (simp [codeP, Wld.rm, Stm.kind, Stm.a, *]; omega), rfl⟩
   ·exact S_retp (Res.t1 Tryz.results59 J J) XR ⟨by first | (simp [codeP, Wld.rm, *]; done) | (simp_all [codeP, Wld.rm]; done) | (simp [codeP, Wld.rm, Stm.kind, Stm.a, *]; done) | (simp [codeP, Wld.rm, Stm.kind, Stm.a, *]; omega), rfl⟩
 refine Ds J J J ?_;refine Da J J ?_
 refine D_val 2 J J J J J J J J J (V_index Tk J J J J (by omega) (by simp <;> omega)) ?_
 refine Da J J ?_;refine D_val 4 J J J J J J J J J (V_load Tk J J J (by simpa [add_add', add_zero'] using gcells_at hct 0 _ J)) ?_;refine Da J J ?_;refine D_split 54 J (fun _ => J) (fun h => absurd h (by simp [hk8])) (fun h => ?_)
 refine Da J J ?_;refine DD ?_;refine Va J J ?_;exact S_retp (Res.t1 Tryz.results59 J J) XR ⟨by first | (simp [codeP, Wld.rm, *]; done) | (simp_all [codeP, Wld.rm]; done) | (simp [codeP, Wld.rm, Stm.kind, Stm.a, *]; done) | (simp [codeP, Wld.rm, Stm.kind, Stm.a, *]; omega), rfl⟩
end
section
attribute [local irreducible] X Pure Mod
def canL (W : Wld) (n : Nat) : List Int := ((List.range n).filter fun who => decide (codeOf W (who : Nat) = 0)).map fun (k : Nat) => (k : Int)
theorem canL_succ (W : Wld) (n : Nat) : canL W (n + 1) = canL W n ++ (if codeOf W (n : Nat) = 0 then [(n : Int)] else []) := by
 unfold canL
 rw [List.range_succ, List.filter_append, List.map_append]
 by_cases h : codeOf W (n : Nat) = 0 <;> simp [h]
theorem canL_len (W : Wld) (n : Nat) : (canL W n).length ≤ n := by
 unfold canL
 rw [List.length_map]
 exact Nat.le_trans (List.length_filter_le _ _) (by simp)
theorem canL_mem {W : Wld} {n : Nat} {x : Int} (h : x ∈ canL W n) : ∃ k : Nat, x = k ∧ k < n ∧ codeOf W (k : Nat) = 0 := by
 unfold canL at h
 obtain ⟨k, hk, rfl⟩ := List.mem_map.1 h
 obtain ⟨h1, h2⟩ := List.mem_filter.1 hk
 exact ⟨k, J, List.mem_range.1 h1, of_decide_eq_true h2⟩
structure Cod (W : Wld) : Prop where
 n3 : W.procs.length ≤ 3
 hd : ∀ p ∈ W.procs, HeadOk p
 m : 0 ≤ W.m0 ∧ 0 ≤ W.m1
theorem c_l3CanF (W : Wld) (v : Value) (G : PH) (hW : WG G W v) (hC : Cod W) : Pure Tryz.prog 29 [v] G fun v' G' => Ints G' (canL W W.procs.length) v' := by
 have hn3 := hC.n3
 have hW0 := hW
 obtain ⟨vp, vc, vr, vs, vd, rfl, hpr, hce, hro, hsg, hsd⟩ := hW
 obtain ⟨Ap, cp, rfl, _⟩ := id hpr
 obtain ⟨Ac, cc, rfl, _⟩ := id hce
 obtain ⟨Ar, cr, rfl, _⟩ := id hro
 obtain ⟨As, cs_, rfl, _⟩ := id hsg
 obtain ⟨Ad, cd, rfl, _⟩ := id hsd
 refine Pure.intro Tryz.func29 Tryz.ntmps29 J J fun w => ?_; refine Va J J ?_;refine S_box J J J J J fun b1 => ?_;refine Va J J ?_;refine S_emptyO Tk 5 J J J J fun A0 => ?_;refine Va J J ?_;refine S_loop (α := Nat × Option Addr × Nat) (fun y => y.1 ≤ W.procs.length) (fun y => W.procs.length - y.1) [(1, b1)]
  (fun y => [(4, .val (.int .i64 (y.1 : Nat))), (3, .val (.slice y.2.1 (canL W y.1).length y.2.2)), (1, .ptr 1 0)])
  (fun y => [.hp 5 (rowO w.heap.size 3 1 y.2.1 (canL W y.1).length y.2.2 (intC (canL W y.1))), .blk 1 56 (vL [.slice Ap W.procs.length cp, .slice Ac 3 cc, .slice Ar 2 cr, .slice As 2 cs_, .slice Ad W.said.length cd])]) (fun y => G) (0, A0, 0) (Nat.zero_le _) rfl ?_ ?_ ?_
 ·exact ⟨⟨_, J, J⟩, ⟨_, J, J⟩, ⟨_, J, J⟩, trivial⟩
 ·exact .hp (.blk J J .nil)
 rintro ⟨i, A5, c5⟩ hi
 simp only at hi ⊢
 have hcl := canL_len W i
 refine Va J J ?_
 refine S_condp J (fun h5 => ?_) (fun h5 => ?_) <;> refine Va J J ?_
 ·refine S_call Tryz.call59 (c_l3CodeF W i _ _ hW0 hn3 (by omega) hC.hd hC.m) J J J ?_
  rintro v G2 ⟨rfl, rfl⟩ _
  refine Va J J ?_
  refine S_condp J (fun h6 => ?_) (fun h6 => ?_) <;> refine Va J J ?_
  ·refine S_slice Tk ZT_ok J J J J (by decide) (by decide) J J J J fun b2 => ?_
   refine Va J J ?_;refine S_app1 Tk 5 19 J J J J J J J J J J J J J J (by intro u hu; simp at hu; rcases hu with rfl; rfl) rfl (fun _ _ => rfl) (by omega) (Nat.le_refl _) fun A6 c6 => ?_;refine Va J J ?_;refine S_add J J J J (by omega) ?_;refine Va J J ?_;refine S_again (i + 1, A6, c6) (by simp only; omega) (by simp only; omega) rfl ⟨⟨_, rfl, by simp [denO]⟩, ⟨_, rfl, by simp [denO, canL_succ, h6]⟩, ⟨_, rfl, rfl⟩, trivial⟩ ?_
   simp only [canL_succ, h6, if_true, List.length_append, List.length_singleton, intC_append]
   exact .drop (.hp (.blk J J .nil))
  ·refine S_add J J J J (by omega) ?_
   refine Va J J ?_;refine S_again (i + 1, A5, c5) (by simp only; omega) (by simp only; omega) rfl ⟨⟨_, rfl, by simp [denO]⟩, ⟨_, rfl, by simp [denO, canL_succ, h6]⟩, ⟨_, rfl, rfl⟩, trivial⟩ ?_
   simp only [canL_succ, h6, if_false, List.append_nil]
   exact .hp (.blk J J .nil)
 ·have e0 : i = W.procs.length := by omega
  subst e0
  refine S_freezeR 5 J J (Nat.le_refl _) fun Gf hextf hncf hcmf hclf => ?_
  have hvf : Ints Gf (canL W W.procs.length) _ := frz (Cs_intC fun x hx => by obtain ⟨k, rfl, hk, _⟩ := canL_mem hx; exact ⟨by omega, by omega⟩) J (by omega) hncf hcmf hclf
  exact S_retp (Res.t1 Tryz.results29 J J) hextf hvf
end
section
attribute [local irreducible] X Pure Mod
theorem Wok.tok {W : Wld} {B : Nat} (h : Wok W B) (hB : B ≤ 1000) : Tok W := by
 have hI := h.inv
 have hn3 := hI.n3
 have hq : ∀ n ∈ W.q0 ++ W.q1, I64 n := fun n hn => by
  obtain ⟨h0, p, hp, _⟩ := hI.qf n hn
  have := (List.getElem?_eq_some_iff.1 hp).1
  exact ⟨by omega, by omega⟩
 have hql := hI.ql
 have hm0 := hI.m0
 have hm1 := hI.m1
 have hr0 := h.rb.1
 have hr1 := h.rb.2
 refine ⟨hn3, h.nm, h.shl, fun p hp => (hI.pr p hp).mx, fun p hp => ⟨?_, ?_⟩, ⟨⟨by omega, by omega⟩, ⟨by omega, by omega⟩⟩, ⟨by omega, fun n hn => hq n (List.mem_append_left _ hn)⟩, ⟨by omega, fun n hn => hq n (List.mem_append_right _ hn)⟩, Nat.le_trans hI.sd hB⟩
 ·rcases (hI.pr p hp).md with e | e | e <;> rw [e] <;> simp [I64]
 ·rcases (hI.pr p hp).ro with e | e | e <;> rw [e] <;> simp [I64]
theorem Wok.cod {W : Wld} {B : Nat} (h : Wok W B) : Cod W := ⟨h.inv.n3, h.inv.head, h.inv.m0, h.inv.m1⟩
theorem canL_nil {W : Wld} : (canL W W.procs.length).length = 0 ↔ finalW W = true := by
 unfold canL finalW
 rw [List.length_map, List.length_eq_zero_iff, List.filter_eq_nil_iff, List.all_eq_true]
 constructor
 ·intro h x hx
  have := h x hx
  simpa using this
 ·intro h x hx
  have := h x hx
  simpa using this
theorem hasW_mem (Ws : List Wld) (W : Wld) : hasW Ws W = decide (wText W ∈ Ws.map wText) := by
 unfold hasW
 by_cases h : wText W ∈ Ws.map wText
 ·rw [decide_eq_true h, List.any_eq_true]
  obtain ⟨V, hV, e⟩ := List.mem_map.1 h
  exact ⟨V, hV, decide_eq_true e⟩
 ·rw [decide_eq_false h, List.any_eq_false]
  intro V hV e
  exact h (List.mem_map.2 ⟨V, hV, of_decide_eq_true e⟩)
def roundC (W : Wld) : List Int → List Wld → Option (List Wld)
 | [], Ws => some Ws
 | x :: r, Ws => if hasW Ws (W.step x.toNat) then roundC W r Ws else if 120 ≤ Ws.length then none else roundC W r (Ws ++ [W.step x.toNat])
theorem roundW_C (W : Wld) : ∀ (l : List Nat) (Ws : List Wld), Ws.length ≤ 120 → roundW W l Ws = roundC W ((l.filter fun who => decide (codeOf W (who : Nat) = 0)).map fun (k : Nat) => (k : Int)) Ws
 | [], Ws, _ => rfl
 | who :: r, Ws, hl => by
  by_cases hc : codeOf W (who : Nat) = 0
  ·rw [roundW, if_pos hc, List.filter_cons_of_pos (by simpa using hc), List.map_cons, roundC]
   simp only [Int.toNat_natCast]
   unfold addW
   by_cases hh : hasW Ws (W.step who) = true
   ·rw [if_pos hh, if_pos hh, if_neg (by omega)]
    exact roundW_C W r Ws hl
   ·rw [if_neg hh, if_neg hh, List.length_append, List.length_singleton]
    by_cases h120 : 120 ≤ Ws.length
    ·rw [if_pos (by omega), if_pos h120]
    ·rw [if_neg (by omega), if_neg h120]
     exact roundW_C W r _ (by simp; omega)
  ·rw [roundW, if_neg hc, List.filter_cons_of_neg (by simpa using hc)]
   exact roundW_C W r Ws hl
theorem roundW_can (W : Wld) {Ws : List Wld} (hl : Ws.length ≤ 120) : roundW W (List.range W.procs.length) Ws = roundC W (canL W W.procs.length) Ws := roundW_C W _ Ws hl
end
end Go.Proofs.YtcbdilccmjpnbaaGreatDoor
