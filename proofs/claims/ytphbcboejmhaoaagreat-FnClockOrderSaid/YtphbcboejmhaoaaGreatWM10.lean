/- Walks of the program's functions, one after the other (part 10); without conditions of their own. -/
import Derived.Test.YtphbcboejmhaoaaGreatWM3
import Derived.Test.YtphbcboejmhaoaaGreatWM4
import Derived.Test.YtphbcboejmhaoaaGreatWM5
import Derived.Test.YtphbcboejmhaoaaGreatWM9
import Derived.Test.YtphbcboejmhaoaaGreatWM2
set_option linter.unusedVariables false
set_option linter.unusedSimpArgs false
set_option maxRecDepth 100000
set_option maxHeartbeats 4000000
open Go.RowKit
namespace Go.Proofs.YtphbcboejmhaoaaGreat
section
attribute [local irreducible] X Pure Mod
mutual
def dpS : Stm → Nat
 | .mk _ _ _ _ x y => 1 + max (dpL x) (dpL y)
def dpL : List Stm → Nat
 | [] => 0
 | s :: r => max (dpS s) (dpL r)
end
theorem dpS_eq (s : Stm) : dpS s = 1 + max (dpL s.body) (dpL s.els) := by cases s; simp [dpS, Stm.body, Stm.els]
theorem dpL_append (L M : List Stm) : dpL (L ++ M) = max (dpL L) (dpL M) := by
 induction L with
 | nil => simp [dpL]
 | cons s L ih => simp only [List.cons_append, dpL, ih]; omega
theorem cpL_id : ∀ (n : Nat) (L : List Stm), dpL L ≤ n → cpL L n = L
 | 0, [], _ => rfl
 | 0, s :: L, h => by simp only [dpL, dpS_eq] at h; omega
 | n + 1, L, h => by
  rw [cpL_succ]
  induction L with
  | nil => rfl
  | cons s L ih =>
   simp only [dpL] at h
   rw [List.map_cons, ih (by omega)]
   obtain ⟨k, a, b, m, x, y⟩ := s
   simp only [dpS] at h
   simp only [cpS, cpL_id n x (by omega), cpL_id n y (by omega)]
theorem stmtOk_deep {k a b n : Int} {x y : List Stm} {d r : Int} (h : stmtOk (.mk k a b n x y) d r = true) : 1 ≤ d ∧ (∃ r', listOk x (d - 1) r' = true) ∧ ∃ r', listOk y (d - 1) r' = true := by
 simp only [stmtOk] at h
 split at h
 ·cases h
 rename_i h0
 simp only [Bool.or_eq_true, Bool.and_eq_true, decide_eq_true_eq, not_or, not_and] at h0
 have hy : k ≠ 6 → y = [] := fun hk => List.eq_nil_of_length_eq_zero (by have := h0.1 hk; omega)
 refine ⟨by omega, ?_⟩
 split at h
 ·simp only [Bool.and_eq_true] at h
  exact ⟨⟨_, h.1.2⟩, ⟨_, h.2⟩⟩
 split at h
 ·simp only [Bool.and_eq_true] at h
  exact ⟨⟨_, h.2⟩, 0, by rw [hy (by omega)]; rfl⟩
 ·simp only [Bool.and_eq_true, decide_eq_true_eq] at h
  rename_i h6 h8
  exact ⟨⟨0, by rw [List.eq_nil_of_length_eq_zero h.1]; rfl⟩, 0, by rw [hy (by omega)]; rfl⟩
theorem dpL_ok : ∀ (n : Nat) (L : List Stm) (d r : Int), listOk L d r = true → d ≤ n → dpL L ≤ n
 | n, [], d, r, _, _ => by simp [dpL]
 | 0, s :: L, d, r, h, hd => by
  simp only [listOk, Bool.and_eq_true] at h
  obtain ⟨k, a, b, m, x, y⟩ := s
  have := (stmtOk_deep h.1).1
  omega
 | n + 1, s :: L, d, r, h, hd => by
  simp only [listOk, Bool.and_eq_true] at h
  obtain ⟨k, a, b, m, x, y⟩ := s
  obtain ⟨h1, ⟨r1, h2⟩, r2, h3⟩ := stmtOk_deep h.1
  have a1 := dpL_ok n x (d - 1) r1 h2 (by omega)
  have a2 := dpL_ok n y (d - 1) r2 h3 (by omega)
  have a3 := dpL_ok (n + 1) L d r h.2 hd
  simp only [dpL, dpS]
  omega
theorem mx_many : ∀ (n : Nat) (L : List Stm) (d r : Int), listOk L d r = true → d ≤ n → (mx L : Int) ≤ many L d
 | n, [], d, r, _, _ => by simp [mx, many]
 | 0, s :: L, d, r, h, hd => by
  simp only [listOk, Bool.and_eq_true] at h
  obtain ⟨k, a, b, m, x, y⟩ := s
  have := (stmtOk_deep h.1).1
  omega
 | n + 1, s :: L, d, r, h, hd => by
  simp only [listOk, Bool.and_eq_true] at h
  obtain ⟨k, a, b, m, x, y⟩ := s
  obtain ⟨h1, ⟨r1, h2⟩, r2, h3⟩ := stmtOk_deep h.1
  have a1 := mx_many n x (d - 1) r1 h2 (by omega)
  have a2 := mx_many n y (d - 1) r2 h3 (by omega)
  have a3 := mx_many (n + 1) L d r h.2 hd
  have a4 := len_mx L
  simp only [mx, mxS, many, manyS, if_pos (show 0 < d by omega)]
  omega
def MB : Nat → Nat
 | 0 => 0
 | d + 1 => 1000000 * (1 + 2 * MB d)
theorem many_bnd : ∀ (d : Nat) (L : List Stm), Sh L → 0 ≤ many L d ∧ many L d ≤ MB d
 | 0, L, _ => by rw [many_zero L (by omega)]; simp [MB]
 | d + 1, L, h => by
  obtain ⟨K, hK⟩ : ∃ K, K = 1 + 2 * MB d := ⟨_, rfl⟩
  have key : ∀ (L : List Stm), shL L → 0 ≤ many L ((d + 1 : Nat) : Int) ∧ many L ((d + 1 : Nat) : Int) ≤ (L.length * K : Nat) := by
   intro L
   induction L with
   | nil => intro _; simp [many]
   | cons s L ih =>
    intro hs
    obtain ⟨h1, h2⟩ := hs
    have a1 := ih h2
    obtain ⟨k, a, b, m, x, y⟩ := s
    rw [Stm.short_mk] at h1
    have b1 := many_bnd d x h1.1
    have b2 := many_bnd d y h1.2
    have e : (((d + 1 : Nat) : Int) - 1) = (d : Nat) := by omega
    simp only [many, manyS, e, if_pos (show (0 : Int) < ((d + 1 : Nat) : Int) by omega), List.length_cons, Nat.succ_mul]
    omega
  obtain ⟨k1, k2⟩ := key L h.2
  refine ⟨k1, Int.le_trans k2 ?_⟩
  have := Nat.mul_le_mul_right K h.1
  simp only [MB, ← hK]
  omega
theorem MB3 : MB 3 ≤ 9000000000000000000 := by decide
theorem mx_ok {L : List Stm} (h : stmtsOk L = true) (hs : Sh L) : mx L ≤ 14 := by
 simp only [stmtsOk, Bool.and_eq_true, decide_eq_true_eq] at h
 have b := many_bnd 3 L hs
 have m3 := MB3
 rw [show ((3 : Nat) : Int) = 3 from rfl] at b
 have e : w64 (many L 3) = many L 3 := w64_eq ⟨by omega, by omega⟩
 rw [e] at h
 have := mx_many 3 L 3 (-1) h.1 (by omega)
 omega
theorem prog_parts {p : List (List Stm)} (h : progOk p = true) : (∀ l ∈ p, stmtsOk l = true) ∧ 1 ≤ p.length ∧ p.length ≤ 3 := by
 simp only [progOk, Bool.and_eq_true, decide_eq_true_eq, List.all_eq_true] at h
 exact ⟨h.1.1, h.1.2, h.2⟩
theorem Inv_open {p : List (List Stm)} (h : progOk p = true) (hs : ∀ l ∈ p, Sh l) : Inv (open0 p) 0 := by
 obtain ⟨h1, h2, h3⟩ := prog_parts h
 refine ⟨by simpa [open0] using h2, by simpa [open0] using h3, ?_, by simp [open0], by simp [open0], by simp [open0], by simp [open0], by simp [open0], by simp [open0]⟩
 intro q hq
 simp only [open0, List.mem_map] at hq
 obtain ⟨l, hl, rfl⟩ := hq
 have a1 := h1 l hl
 have a2 := mx_ok a1 (hs l hl)
 simp only [stmtsOk, Bool.and_eq_true] at a1
 exact ⟨by have := TOk.app a1.1 TOk.nil; simpa [proc0] using this, by simp only [proc0]; omega, .inl rfl, fun hx => absurd rfl hx, .inl rfl⟩
def Shl (W : Wld) : Prop := ∀ q ∈ W.procs, dpL q.todo ≤ 3
theorem Shl_open {p : List (List Stm)} (h : progOk p = true) : Shl (open0 p) := by
 obtain ⟨h1, _, _⟩ := prog_parts h
 intro q hq
 simp only [open0, List.mem_map] at hq
 obtain ⟨l, hl, rfl⟩ := hq
 have a1 := h1 l hl
 simp only [stmtsOk, Bool.and_eq_true] at a1
 exact dpL_ok 3 l 3 (-1) a1.1 (by omega)
theorem Shl.out {W : Wld} (h : Shl W) : W.out = W := by
 obtain ⟨ps, w1, w2, w3, w4, w5, w6, w7, w8⟩ := W
 show Wld.mk _ _ _ _ _ _ _ _ _ = Wld.mk _ _ _ _ _ _ _ _ _
 congr 1
 have h' : ∀ q ∈ ps, outP q = q := fun q hq => by
  have := h q hq
  simp only [outP]
  rw [cpL_id 4 q.todo (by omega)]
 clear h
 show ps.map outP = ps
 induction ps with
 | nil => rfl
 | cons q ps ih => rw [List.map_cons, h' q (List.mem_cons_self ..), ih fun x hx => h' x (List.mem_cons_of_mem _ hx)]
theorem Shl_upd {W : Wld} {who : Nat} {f : Prc → Prc} (h : Shl W) (hf : ∀ p, W.procs[who]? = some p → dpL (f p).todo ≤ 3) : Shl (W.upd who f) := by
 intro q hq
 rcases mem_updL' _ _ hq with hq | ⟨x, hx, rfl⟩
 ·exact h q hq
 ·exact hf x hx
theorem Shl_of {W V : Wld} (h : Shl W) (e : V.procs = W.procs) : Shl V := by unfold Shl; rw [e]; exact h
theorem dp_tail (L : List Stm) : dpL L.tail ≤ dpL L := by
 cases L with
 | nil => simp [dpL]
 | cons s r => simp only [List.tail_cons, dpL]; omega
theorem set_todo (p : Prc) (k v : Int) : (p.set k v).todo = p.todo := by unfold Prc.set; split; rfl; split <;> rfl
theorem ite_shl {c : Prop} [Decidable c] {A B : Wld} (h1 : Shl A) (h2 : Shl B) : Shl (if c then A else B) := by
 by_cases h : c
 ·rw [if_pos h]; exact h1
 ·rw [if_neg h]; exact h2
theorem Shl.step {W : Wld} (h : Shl W) (who : Nat) : Shl (W.step who) := by
 unfold Wld.step
 split
 ·rename_i p hp
  have hpd := h p (List.mem_of_getElem? hp)
  split
  ·exact Shl_upd (Shl_of h (setRm_procs ..)) fun q hq => by rw [setRm_procs] at hq; rw [hp] at hq; cases hq; exact hpd
  ·split
   ·exact h
   ·rename_i s r hT
    have hP : Shl (W.upd who pop) := Shl_upd h fun q hq => by rw [hp] at hq; cases hq; have := dp_tail p.todo; simp only [pop]; omega
    have hPp : (W.upd who pop).procs[who]? = some (pop p) := by
     show (updL _ _ _)[who]? = _
     rw [updL_get, hp]; rfl
    have hpt : (pop p).todo = r := by simp [pop, hT]
    have hsd : dpS s ≤ 3 ∧ dpL r ≤ 3 := by rw [hT] at hpd; simp only [dpL] at hpd; omega
    have hse := dpS_eq s
    have hlv : ∀ a, dpS (leaveS a) ≤ 3 := fun a => by simp [leaveS, dpS, dpL]
    unfold Wld.stepS
    refine ite_shl ?_ ?_
    ·exact Shl_upd hP fun q hq => by rw [hPp] at hq; cases hq; rw [set_todo, hpt]; exact hsd.2
    refine ite_shl ?_ ?_
    ·exact Shl_upd hP fun q hq => by rw [hPp] at hq; cases hq; rw [set_todo, hpt]; exact hsd.2
    refine ite_shl ?_ ?_
    ·exact Shl_upd hP fun q hq => by rw [hPp] at hq; cases hq; rw [set_todo, hpt]; exact hsd.2
    refine ite_shl ?_ ?_
    ·exact Shl_of hP (setCell_procs ..)
    refine ite_shl ?_ ?_
    ·exact Shl_of hP J
    refine ite_shl ?_ ?_
    ·refine Shl_upd hP fun q hq => ?_
     rw [hPp] at hq; cases hq
     simp only [dpL_append, hpt]
     split <;> omega
    refine ite_shl ?_ ?_
    ·refine Shl_upd hP fun q hq => ?_
     rw [hPp] at hq; cases hq
     simp only [dpL_append, hpt]
     split
     ·simp only [dpL]; omega
     ·simp only [dpL_append, dpL]; omega
    refine ite_shl ?_ ?_
    ·refine Shl_upd (Shl_of hP (setRm_procs ..)) fun q hq => ?_
     rw [setRm_procs, hPp] at hq; cases hq
     have := hlv s.a
     simp only [dpL_append, hpt, dpL]; omega
    refine ite_shl ?_ ?_
    ·refine Shl_of (Shl_upd (f := fun p => { p with mode := 1, on := s.a }) (Shl_of hP (setRm_procs _ _ 0)) fun q hq => ?_) (setQue_procs ..)
     rw [setRm_procs, hPp] at hq; cases hq
     show dpL (pop p).todo ≤ 3
     rw [hpt]; exact hsd.2
    refine ite_shl ?_ ?_
    ·unfold Wld.signal
     split
     ·exact hP
     ·refine Shl_of (Shl_upd (f := fun p => { p with mode := 2, on := 0 }) hP fun q hq => ?_) (setQue_procs ..)
      exact hP q (List.mem_of_getElem? hq)
    refine ite_shl ?_ ?_
    ·refine Shl_upd (Shl_of hP (setRm_procs ..)) fun q hq => ?_
     rw [setRm_procs, hPp] at hq; cases hq
     show dpL (pop p).todo ≤ 3
     rw [hpt]; exact hsd.2
    ·exact hP
 ·exact h
end
section
theorem Mod.intro0 {P : Program} {f : FuncId} {fn : Func} {c : Code} {vs : List Value} {G : PH} {Post : Value → PH → HP → Prop} {n : Nat} (hf : P.funcs[f]? = some fn) (hn : fn.ntmps = n) (hb : fn.body = some c) (hle : Nat.ble vs.length n = true)
  (hx : ∀ w, X (MC P n fn G Post w (fun _ => False)) [.code c] (envOf 0 vs) [] [.hp 1 emptyHP] G) : Mod P f vs G emptyHP Post := by
 have h1 : ∀ w, X (MC P n fn G Post w (fun _ => False)) [.code c] (envOf 0 vs) [] [.hp 1 emptyHP] G := hx
 intro w S hw hA hS
 have : S = fun _ => False := funext fun b => propext ⟨fun h => emptyHP_none hA b h, False.elim⟩
 subst this
 refine Enter (ι := []) (L := [.hp 1 emptyHP]) (G := G) (S0 := fun _ => False) hf hb hn hle ?_ (h1 w)
 refine ⟨rfl, rfl, rfl, Nat.le_refl _, fun _ _ _ => rfl, hw, [fun _ => False], ⟨hA, ⟨fun T hT => (by cases hT), trivial⟩⟩, ?_⟩
 intro T hT b hb
 rw [List.mem_singleton.1 hT] at hb
 exact hb.elim
attribute [local irreducible] X Pure Mod
theorem Fin3_of {W : Wld} {B : Nat} (h : Inv W B) (hB : B ≤ 1000000) : Fin3 W :=
 ⟨h.n1, h.n3, (h.rdy hB).sd, (h.rdy hB).q0, (h.rdy hB).q1, (h.rdy hB).tl⟩
theorem c_MeanOpen (p : List (List Stm)) (pv : Value) (G : PH) (hp : PrgS G p pv) : Mod Tryz.prog 48 [pv] G emptyHP (OPost p (open0 p)) := by
 obtain ⟨hpp, hsh, hpl⟩ := id hp
 obtain ⟨A, c, rfl, hl1, _⟩ := id hpp
 refine Mod.intro0 Tryz.func48 Tryz.ntmps48 J J fun w => ?_;refine Va J J ?_;refine AZ ZT_ok J J J J fun b2 => ?_;refine Va J J ?_;refine S_callN 20 Tryz.call33 (c_l3Open p _ G hp) J J J ?_;rintro v1 G1 A1 (⟨hpo, cs, ts, rfl, rfl, htd⟩ | ⟨hpo, rfl, rfl⟩) hext1
 ·have hI := Inv_open hpo hsh
  refine S_newHP 20 J J ?_;refine S_frzV 20 J J (fun _ h => h) htd hI.n3 ⟨by simp [open0], by simp [open0], by simp [open0]⟩ fun G2 hext2 hW => ?_;refine Va J J ?_;refine S_callN 21 Tryz.call74 (c_l3Out _ _ _ hW (Fin3_of hI (by omega))) J J J ?_;rintro v3 G3 A3 ⟨cs3, ts3, rfl, rfl, htd3⟩ hext3
  refine S_newHP 21 J J ?_;refine S_csV 21 J ?_;rintro bp bc br bs kp asd ksd kc kr ks rfl
  refine Va J J ?_;exact S_retm 21 (Res.c1 Tk Tryz.results48 J J) J ((hext1.trans hext2).trans hext3) (.inl ⟨hpo, _, ts3, J, by rw [(Shl_open hpo).out], by rw [(Shl_open hpo).out] at htd3; exact htd3⟩)
 ·refine Va J J ?_
  refine S_callN 21 Tryz.call74 (c_l3OutZ G1) J J J ?_;rintro v3 G3 A3 ⟨rfl, rfl, rfl⟩ hext3
  refine Va J J ?_;exact S_retm 1 (Res.c1 Tk Tryz.results48 J J) J hext1 (.inr ⟨hpo, J, J⟩)
def canV (W : Wld) (v : Value) (G : PH) : Prop := ∃ l, Ints G l v ∧ (∀ x ∈ l, 0 ≤ x ∧ x < W.procs.length) ∧ l.length ≤ 3
theorem c_l3Can (W : Wld) (cs ts : List Value) (B : Nat) (G : PH) (hI : Inv W B) (ht : Tds G W.procs ts) : Mod Tryz.prog 50 [.agg cs.toArray] G (worldV cs W ts) fun v G' A' => canV W v G' ∧ A' = worldV cs W ts := by
 have hn3 := hI.n3
 refine Mod.intro Tryz.func50 Tryz.ntmps50 J J fun w S => ?_;refine S_csV 1 J ?_;rintro bp bc br bs kp asd ksd kc kr ks rfl
 refine Va J J ?_;refine S_box J J J J J fun b1 => ?_;refine Va J J ?_;refine S_emptyO Tk 5 J J J J fun A0 => ?_;refine Va J J ?_;refine S_loop (α := Nat × Option Addr × Nat × List Int) (fun y => y.1 ≤ W.procs.length ∧ y.2.2.2.length ≤ y.1 ∧ ∀ x ∈ y.2.2.2, 0 ≤ x ∧ x < W.procs.length) (fun y => W.procs.length - y.1) [(1, b1)]
  (fun y => [(4, .val (.int .i64 (y.1 : Nat))), (3, .val (.slice y.2.1 y.2.2.2.length y.2.2.1)), (1, .ptr 1 0)])
  (fun y => [.hp 5 (rowO w.heap.size 3 1 y.2.1 y.2.2.2.length y.2.2.1 (intC y.2.2.2)), .blk 1 56 (vL [.slice (some ⟨bp, 0, none⟩) W.procs.length kp, .slice (some ⟨bc, 0, none⟩) 3 kc, .slice (some ⟨br, 0, none⟩) 2 kr, .slice (some ⟨bs, 0, none⟩) 2 ks, .slice asd W.said.length ksd]), .hp 1 (worldV [.slice (some ⟨bp, 0, none⟩) W.procs.length kp, .slice (some ⟨bc, 0, none⟩) 3 kc, .slice (some ⟨br, 0, none⟩) 2 kr, .slice (some ⟨bs, 0, none⟩) 2 ks, .slice asd W.said.length ksd] W ts)]) (fun y => G) (0, A0, 0, []) ⟨Nat.zero_le _, by simp, by simp⟩ rfl ?_ ?_ ?_
 ·exact ⟨⟨_, J, J⟩, ⟨_, J, J⟩, ⟨_, J, J⟩, trivial⟩
 ·exact .hp (.blk J J (.hp .nil))
 rintro ⟨i, A5, c5, q⟩ ⟨hi, hq, hqx⟩
 simp only at hi hq hqx ⊢
 refine Va J J ?_
 refine S_condp J (fun h5 => ?_) (fun h5 => ?_) <;> refine Va J J ?_
 ·refine S_callM 1 Tryz.call35 (c_l3Code W (i : Nat) _ ts G hI.n1 hI.n3 ht hI.head ⟨hI.m0, hI.m1⟩) J J J J (fun _ => J) ?_
  rintro v G2 A' ⟨rfl, rfl, rfl⟩ _
  refine Va J J ?_
  refine S_condp J (fun h6 => ?_) (fun h6 => ?_) <;> refine Va J J ?_
  ·refine S_slice Tk ZT_ok J J J J (by decide) (by decide) J J J J fun b2 => ?_
   refine Va J J ?_;refine S_app1 Tk 5 19 J J J J J J J J J J J J J J (by intro u hu; simp at hu; rcases hu with rfl; rfl) rfl (fun _ _ => rfl) (by omega) (Nat.le_refl _) fun A6 c6 => ?_;refine Va J J ?_;refine S_add J J J J (by omega) ?_;refine Va J J ?_;refine S_again (i + 1, A6, c6, q ++ [(i : Int)]) ⟨by simp only; omega, by simp; omega, ?_⟩ (by simp only; omega) rfl ⟨⟨_, rfl, by simp [denO]⟩, ⟨_, rfl, by simp [denO]⟩, ⟨_, rfl, rfl⟩, trivial⟩ ?_
   ·intro x hx
    rcases List.mem_append.1 hx with hx | hx
    ·exact hqx x hx
    ·rw [List.mem_singleton.1 hx]; omega
   ·simp only [List.length_append, List.length_singleton, intC_append]
    exact .drop (.hp (.blk J J (.hp .nil)))
  ·refine S_add J J J J (by omega) ?_
   refine Va J J ?_;exact S_again (i + 1, A5, c5, q) ⟨by simp only; omega, by simp only; omega, hqx⟩ (by simp only; omega) rfl ⟨⟨_, rfl, by simp [denO]⟩, ⟨_, rfl, by simp [denO]⟩, ⟨_, rfl, rfl⟩, trivial⟩ (.hp (.blk rfl rfl (.hp .nil)))
 ·refine S_freezeR 5 J J (Nat.le_refl _) fun Gf hextf hncf hcmf hclf => ?_
  have hvf : Ints Gf q _ := frz (Cs_intC fun x hx => by have := hqx x hx; exact ⟨by omega, by omega⟩) J (by omega) hncf hcmf hclf
  exact S_retm 1 (Res.t1 Tryz.results50 J J) J hextf ⟨⟨q, hvf, hqx, by omega⟩, J⟩
theorem c_l3CanZ (G : PH) : Pure Tryz.prog 50 [wZero] G fun v G' => ∃ A, v = .slice A 0 0 := by
 refine Pure.intro Tryz.func50 Tryz.ntmps50 J J fun w => ?_; refine Va J J ?_;refine S_box J J J J J fun b1 => ?_;refine Va J J ?_;refine S_emptyO Tk 5 J J J J fun A0 => ?_;refine Va J J ?_;refine S_unroll 1 ?_;refine Va J J ?_;refine RF J J ?_;refine Va J J ?_;exact S_retp (Res.t1 Tryz.results50 J J) XR ⟨A0, J⟩
end
section
attribute [local irreducible] X Pure Mod
theorem c_l3CodeZ (who : Int) (G : PH) : Pure Tryz.prog 35 [wZero, .int .i64 who] G fun v G' => v = .int .i64 3 ∧ G' = G := by
 refine Pure.intro Tryz.func35 Tryz.ntmps35 J J fun w => ?_; refine Va J J ?_;refine S_box J J J J J fun b1 => ?_;refine Va J J ?_;refine RT J (by simp; omega) ?_;refine Va J J ?_;exact S_retp (Res.t1 Tryz.results35 J J) XR ⟨J, J⟩
theorem code0_who {W : Wld} {who : Int} (h : codeOf W who = 0) : ∃ k : Nat, who = k ∧ k < W.procs.length := by
 unfold codeOf at h
 split at h
 ·cases h
 ·rename_i h1
  exact ⟨who.toNat, by omega, by omega⟩
structure WV where
 bp : Nat
 bc : Nat
 br : Nat
 bs : Nat
 kp : Nat
 asd : Option Addr
 ksd : Nat
 kc : Nat
 kr : Nat
 ks : Nat
def WV.cs (x : WV) (W : Wld) : List Value := [.slice (some ⟨x.bp, 0, none⟩) W.procs.length x.kp, .slice (some ⟨x.bc, 0, none⟩) 3 x.kc, .slice (some ⟨x.br, 0, none⟩) 2 x.kr, .slice (some ⟨x.bs, 0, none⟩) 2 x.ks, .slice x.asd W.said.length x.ksd]
structure PS where
 i : Nat
 M : Nat
 B : Nat
 V : Wld
 x : WV
 ts : List Value
 A : Option Addr
 c : Nat
 l : List Int
 G : PH
def pickV (v : Value) (G : PH) : Prop := ∃ l, Ints G l v ∧ l.length ≤ 201
theorem c_l3Picks (b : Nat) (l : List Int) (sv : Value) (p : List (List Stm)) (pv : Value) (N : Nat) (G : PH) (hl : Byts G l sv) (hp : PrgS G p pv) (hN : N + 2000 ≤ 1000000000) : Drw 24 b sv [pv] N 2000 G pickV := by
 obtain ⟨A, c, rfl, hl1, _⟩ := id hl
 obtain ⟨Ap, cp, rfl, _⟩ := id hp.1
 refine Mod.intro Tryz.func24 Tryz.ntmps24 J J fun w S => ?_;refine Va J J ?_;refine S_emptyO Tk 5 J J J J fun A0 => ?_;refine Va J J ?_;refine S_callN 20 Tryz.call48 (c_MeanOpen p _ G hp) J J J ?_;rintro v1 G1 A1 (⟨hpo, cs, ts, rfl, rfl, htd⟩ | ⟨hpo, rfl, rfl⟩) hext1
 ·have hI0 := Inv_open hpo hp.2.1
  refine S_newHP 20 J J ?_;refine S_csV 20 J ?_;rintro bp bc br bs kp asd ksd kc kr ks rfl
  refine Va J J ?_;refine AZ ZT_ok J J J J fun b6 => ?_;refine Va J J ?_;refine S_callM 1 Tryz.call22 (c_pick b l _ _ N G1 (Byts_le hext1.le hl) ⟨by omega, by omega⟩ (by omega)) J J J J (fun _ => J) ?_;rintro v G2 A' ⟨rfl, rfl, m, rfl, h0, h1⟩ _
  refine Va J J ?_;refine S_add J J J J (by omega) ?_;refine Va J J ?_;refine S_sliceG Tk ZT_ok J J J J (by decide) (by decide) J J J J (fun _ => J) fun bq Gq hxq hcq => ?_;refine Va J J ?_
  have hq7 : Ints Gq [10, 20, 35, 60, 5, 0, 200 + m] (.slice (some ⟨bq, 0, none⟩) 7 7) := ints_of hcq rfl (Nat.le_refl _) (by decide) (by decide) (by intro x hx; simp only [List.mem_cons, List.not_mem_nil, or_false] at hx; exact ⟨by omega, by omega⟩)
  refine S_callM 1 Tryz.call46 (c_num b l _ _ _ _ _ (Byts_le (hext1.trans hxq).le hl) hq7 (by simp) (by omega)) J J J J (fun _ => J) ?_;rintro v G' A' ⟨rfl, rfl, n7, hmem, rfl⟩ _
  have hn7 : 0 ≤ n7 ∧ n7 ≤ 201 := by (simp only [List.mem_cons, List.not_mem_nil, or_false] at hmem); omega
  obtain ⟨n7, rfl⟩ := Int.eq_ofNat_of_zero_le hn7.1
  refine Va J J ?_
  have hl0 := hl
  refine S_pick [20, 5, 6, 1] J ?_;refine S_loop (α := PS) (fun y => y.i + y.l.length ≤ 201 ∧ y.M + y.i * 5 ≤ N + 2000 ∧ PH.ext w.heap.size G y.G ∧ (Inv y.V y.B ∧ y.B + y.i ≤ 1000) ∧ Tds y.G y.V.procs y.ts ∧ y.l.length ≤ 201 ∧ ∀ x ∈ y.l, I64 x) (fun y => y.i) [(6, b6)]
   (fun y => [(7, .val (.int .i64 (y.i : Nat))), (5, .val (.slice y.A y.l.length y.c)), (6, .ptr 6 0), (0, .val (.pointer (some ⟨b, 0, none⟩)))])
   (fun y => [.hp 20 (worldV (y.x.cs y.V) y.V y.ts), .hp 5 (rowO w.heap.size 3 1 y.A y.l.length y.c (intC y.l)), .blk 6 56 (vL (y.x.cs y.V)), .hp 1 (rdHP b (.slice A l.length c) y.M)]) (fun y => y.G) ⟨n7, N + 1 + 1, 0, open0 p, ⟨bp, bc, br, bs, kp, asd, ksd, kc, kr, ks⟩, ts, A0, 0, [], G'⟩ ⟨by simp only [List.length_nil]; omega, by simp only; omega, hext1.trans hxq, ⟨hI0, by simp only; omega⟩, Tds_le hxq.le htd, by simp, by simp⟩ rfl ?_ ?_ ?_
  ·exact ⟨⟨_, J, J⟩, ⟨_, J, J⟩, ⟨_, J, J⟩, ⟨_, J, J⟩, trivial⟩
  ·exact .hp (.hp (.blk J J (.hp .nil)))
  rintro ⟨i, M, B1, V, ⟨bp1, bc1, br1, bs1, kp1, asd1, ksd1, kc1, kr1, ks1⟩, ts1, A1, c1, l1, G1⟩ ⟨hi, hM, hext, ⟨hI, hB⟩, ht, hll, hl1⟩
  simp only [WV.cs] at hi hM hext hI hB ht hll hl1 ⊢
  have hn1 := hI.n1
  have hn3 := hI.n3
  refine Va J J ?_
  refine S_condp J (fun h => ?_) (fun h => ?_) <;> refine Va J J ?_
  ·obtain ⟨j, rfl⟩ : ∃ j, i = j + 1 := ⟨i - 1, by omega⟩
   refine S_call Tryz.call49 (c_l1Max _ _ _) J J J ?_;rintro v G3 ⟨rfl, rfl⟩ _
   refine Va J J ?_;refine S_callM 1 Tryz.call22 (c_pick b l _ _ _ _ (Byts_le hext.le hl0) ⟨by omega, by omega⟩ (by omega)) J J J J (fun _ => J) ?_;rintro v G3 A' ⟨rfl, rfl, m4, rfl, hm40, hm41⟩ _
   refine Va J J ?_;refine S_callM 20 Tryz.call50 (c_l3Can V _ ts1 B1 _ hI ht) J J J J (fun _ => J) ?_;rintro v G4 A' ⟨⟨can, hcan, hcx, hc3⟩, rfl⟩ hx4
   obtain ⟨Ac, cc, rfl, _⟩ := id hcan
   refine Va J J ?_
   refine S_guardp J J (fun h5 => ?_) (fun h5 => ?_) <;> refine Va J J ?_
   ·refine S_callM 1 Tryz.call22 (c_pick b l _ _ _ _ (Byts_le (hext.trans hx4).le hl0) ⟨by omega, by omega⟩ (by omega)) J J J J (fun _ => J) ?_
    rintro v G5 A' ⟨rfl, rfl, m5, rfl, hm50, hm51⟩ _
    refine Va J J ?_
    refine S_condp J (fun h6 => ?_) (fun h6 => ?_) <;> refine Va J J ?_
    ·refine S_callM 1 Tryz.call22 (c_pick b l _ _ _ _ (Byts_le (hext.trans hx4).le hl0) ⟨by omega, by omega⟩ (by omega)) J J J J (fun _ => J) ?_
     rintro v G5 A' ⟨rfl, rfl, m6, rfl, hm60, hm61⟩ _
     refine Va J J ?_;obtain ⟨ad, cs5, eA, hcs5, rfl, hi5⟩ := Sr_at hcan (k := m6.toNat) (by omega)
     cases eA
     have hcx5 := hcx _ (List.getElem_mem (l := can) (n := m6.toNat) (by omega))
     generalize can[m6.toNat] = who5 at hcs5 hi5 hcx5
     refine S_index Tk J J J J J J (by omega) (by omega) ?_;refine Va J J ?_;refine S_load Tk J J J J J hcs5.1 ?_;refine Va J J ?_;refine S_callM 1 Tryz.call22 (c_pick b l _ _ _ _ (Byts_le (hext.trans (hx4)).le hl0) ⟨by omega, by omega⟩ (by omega)) J J J J (fun _ => J) ?_;rintro v G9 A' ⟨rfl, rfl, m9, rfl, hm90, hm91⟩ _
     refine Va J J ?_
     refine S_condp J (fun h9 => ?_) (fun h9 => ?_) <;> refine Va J J ?_
     ·refine S_sliceG Tk ZT_ok J J J J (by decide) (by decide) J J J J (fun _ => J) fun bq9 Gq9 hxq9 hcq9 => ?_
      refine Va J J ?_;refine S_callM 1 Tryz.call46 (c_numL b [-1, 3, 9] (Byts_le ((hext.trans (hx4)).trans hxq9).le hl0) hcq9 J (Nat.le_refl _) (by decide) (by decide) (i64_small (by decide)) (by omega)) J J J J (fun _ => J) ?_;rintro v G' A' ⟨rfl, rfl, who, hmem9, rfl⟩ _
      have hwho : I64 who := i64_small (l := [-1, 3, 9]) (by decide) who hmem9
      refine Va J J ?_;refine S_callM 20 Tryz.call35 (c_l3Code V (who) _ ts1 _ hI.n1 hI.n3 (Tds_le (PH.ext.le (((hx4).trans hxq9))) ht) hI.head ⟨hI.m0, hI.m1⟩) J J J J (fun _ => J) ?_;rintro v G7 A' ⟨rfl, rfl, rfl⟩ _
      refine Va J J ?_
      refine S_condp J (fun h7 => ?_) (fun h7 => ?_) <;> refine Va J J ?_
      ·obtain ⟨k, hk, hkl⟩ := code0_who h7
       have h7' : codeOf V (k : Nat) = 0 := hk ▸ h7
       rw [hk] at hwho ⊢
       refine S_callM 20 Tryz.call37 (c_l3Step V k _ ts1 _ (hI.rdy (by omega)) (Tds_le (PH.ext.le (((hx4).trans hxq9))) ht) hkl (hI.go h7')) J J J J (fun _ => J) ?_;rintro v G8 A' ⟨cs8, ts8, rfl, rfl, ht8⟩ hext8
       refine S_csV 20 J ?_;rintro bp8 bc8 br8 bs8 kp8 asd8 ksd8 kc8 kr8 ks8 rfl
       refine Va J J ?_;refine S_slice Tk ZT_ok J J J J (by decide) (by decide) J J J J fun b2 => ?_;refine Va J J ?_;refine S_app1 Tk 5 61 J J J J J J J J J J J J J J (by intro u hu; simp at hu; rcases hu with rfl; rfl) rfl (fun _ _ => rfl) (by omega) (Nat.le_refl _) fun A6 c6 => ?_;refine Va J J ?_;refine S_subI J J J J (by omega) ?_;refine Va J J ?_;refine S_pick [20, 5, 6, 1] J ?_;refine S_rdLe 1 ((M + 5)) (by omega) J J ?_
       refine S_again ⟨j, (M + 5), B1 + 1, V.step k, ⟨bp8, bc8, br8, bs8, kp8, asd8, ksd8, kc8, kr8, ks8⟩, ts8, A6, c6, l1 ++ [(k : Int)], G8⟩ ⟨by simp only [List.length_append, List.length_singleton]; omega, by simp only; omega, (hext.trans (((hx4).trans hxq9))).trans hext8, ⟨hI.step hkl h7', by simp only; omega⟩, ht8, by simp only [List.length_append, List.length_singleton]; omega, ?_⟩ (by simp only; omega) rfl ⟨⟨_, rfl, by simp [denO]⟩, ⟨_, rfl, by simp [denO]⟩, ⟨_, rfl, rfl⟩, ⟨_, rfl, rfl⟩, trivial⟩ ?_
       ·intro x hx
        rcases List.mem_append.1 hx with hx | hx
        ·exact hl1 x hx
        ·rw [List.mem_singleton.1 hx]; exact hwho
       ·simp only [List.length_append, List.length_singleton, intC_append, WV.cs]
        exact .hp (.hp (.blk J J (.hp .nil)))
      ·refine S_slice Tk ZT_ok J J J J (by decide) (by decide) J J J J fun b2 => ?_
       refine Va J J ?_;refine S_app1 Tk 5 61 J J J J J J J J J J J J J J (by intro u hu; simp at hu; rcases hu with rfl; rfl) rfl (fun _ _ => rfl) (by omega) (Nat.le_refl _) fun A6 c6 => ?_;refine Va J J ?_;refine S_subI J J J J (by omega) ?_;refine Va J J ?_;refine S_pick [20, 5, 6, 1] J ?_;refine S_rdLe 1 ((M + 5)) (by omega) J J ?_;refine S_again ⟨j, (M + 5), B1, V, ⟨bp1, bc1, br1, bs1, kp1, asd1, ksd1, kc1, kr1, ks1⟩, ts1, A6, c6, l1 ++ [who], _⟩ ⟨by simp only [List.length_append, List.length_singleton]; omega, by simp only; omega, hext.trans (((hx4).trans hxq9)), ⟨hI, by simp only; omega⟩, Tds_le (PH.ext.le (((hx4).trans hxq9))) ht, by simp only [List.length_append, List.length_singleton]; omega, ?_⟩ (by simp only; omega) rfl ⟨⟨_, rfl, by simp [denO]⟩, ⟨_, rfl, by simp [denO]⟩, ⟨_, rfl, rfl⟩, ⟨_, rfl, rfl⟩, trivial⟩ ?_
       ·intro x hx
        rcases List.mem_append.1 hx with hx | hx
        ·exact hl1 x hx
        ·rw [List.mem_singleton.1 hx]; exact hwho
       ·simp only [List.length_append, List.length_singleton, intC_append, WV.cs]
        exact .hp (.hp (.blk J J (.hp .nil)))
     ·have hwho : I64 (who5) := ⟨by omega, by omega⟩
      refine S_callM 20 Tryz.call35 (c_l3Code V (who5) _ ts1 _ hI.n1 hI.n3 (Tds_le (PH.ext.le (hx4)) ht) hI.head ⟨hI.m0, hI.m1⟩) J J J J (fun _ => J) ?_;rintro v G7 A' ⟨rfl, rfl, rfl⟩ _
      refine Va J J ?_
      refine S_condp J (fun h7 => ?_) (fun h7 => ?_) <;> refine Va J J ?_
      ·obtain ⟨k, hk, hkl⟩ := code0_who h7
       have h7' : codeOf V (k : Nat) = 0 := hk ▸ h7
       rw [hk] at hwho ⊢
       refine S_callM 20 Tryz.call37 (c_l3Step V k _ ts1 _ (hI.rdy (by omega)) (Tds_le (PH.ext.le (hx4)) ht) hkl (hI.go h7')) J J J J (fun _ => J) ?_;rintro v G8 A' ⟨cs8, ts8, rfl, rfl, ht8⟩ hext8
       refine S_csV 20 J ?_;rintro bp8 bc8 br8 bs8 kp8 asd8 ksd8 kc8 kr8 ks8 rfl
       refine Va J J ?_;refine S_slice Tk ZT_ok J J J J (by decide) (by decide) J J J J fun b2 => ?_;refine Va J J ?_;refine S_app1 Tk 5 61 J J J J J J J J J J J J J J (by intro u hu; simp at hu; rcases hu with rfl; rfl) rfl (fun _ _ => rfl) (by omega) (Nat.le_refl _) fun A6 c6 => ?_;refine Va J J ?_;refine S_subI J J J J (by omega) ?_;refine Va J J ?_;refine S_pick [20, 5, 6, 1] J ?_;refine S_rdLe 1 ((M + 5)) (by omega) J J ?_
       refine S_again ⟨j, (M + 5), B1 + 1, V.step k, ⟨bp8, bc8, br8, bs8, kp8, asd8, ksd8, kc8, kr8, ks8⟩, ts8, A6, c6, l1 ++ [(k : Int)], G8⟩ ⟨by simp only [List.length_append, List.length_singleton]; omega, by simp only; omega, (hext.trans (hx4)).trans hext8, ⟨hI.step hkl h7', by simp only; omega⟩, ht8, by simp only [List.length_append, List.length_singleton]; omega, ?_⟩ (by simp only; omega) rfl ⟨⟨_, rfl, by simp [denO]⟩, ⟨_, rfl, by simp [denO]⟩, ⟨_, rfl, rfl⟩, ⟨_, rfl, rfl⟩, trivial⟩ ?_
       ·intro x hx
        rcases List.mem_append.1 hx with hx | hx
        ·exact hl1 x hx
        ·rw [List.mem_singleton.1 hx]; exact hwho
       ·simp only [List.length_append, List.length_singleton, intC_append, WV.cs]
        exact .hp (.hp (.blk J J (.hp .nil)))
      ·refine S_slice Tk ZT_ok J J J J (by decide) (by decide) J J J J fun b2 => ?_
       refine Va J J ?_;refine S_app1 Tk 5 61 J J J J J J J J J J J J J J (by intro u hu; simp at hu; rcases hu with rfl; rfl) rfl (fun _ _ => rfl) (by omega) (Nat.le_refl _) fun A6 c6 => ?_;refine Va J J ?_;refine S_subI J J J J (by omega) ?_;refine Va J J ?_;refine S_pick [20, 5, 6, 1] J ?_;refine S_rdLe 1 ((M + 5)) (by omega) J J ?_;refine S_again ⟨j, (M + 5), B1, V, ⟨bp1, bc1, br1, bs1, kp1, asd1, ksd1, kc1, kr1, ks1⟩, ts1, A6, c6, l1 ++ [who5], _⟩ ⟨by simp only [List.length_append, List.length_singleton]; omega, by simp only; omega, hext.trans (hx4), ⟨hI, by simp only; omega⟩, Tds_le (PH.ext.le (hx4)) ht, by simp only [List.length_append, List.length_singleton]; omega, ?_⟩ (by simp only; omega) rfl ⟨⟨_, rfl, by simp [denO]⟩, ⟨_, rfl, by simp [denO]⟩, ⟨_, rfl, rfl⟩, ⟨_, rfl, rfl⟩, trivial⟩ ?_
       ·intro x hx
        rcases List.mem_append.1 hx with hx | hx
        ·exact hl1 x hx
        ·rw [List.mem_singleton.1 hx]; exact hwho
       ·simp only [List.length_append, List.length_singleton, intC_append, WV.cs]
        exact .hp (.hp (.blk J J (.hp .nil)))
    ·refine S_callM 1 Tryz.call22 (c_pick b l _ _ _ _ (Byts_le (hext.trans (hx4)).le hl0) ⟨by omega, by omega⟩ (by omega)) J J J J (fun _ => J) ?_
     rintro v G9 A' ⟨rfl, rfl, m9, rfl, hm90, hm91⟩ _
     refine Va J J ?_
     refine S_condp J (fun h9 => ?_) (fun h9 => ?_) <;> refine Va J J ?_
     ·refine S_sliceG Tk ZT_ok J J J J (by decide) (by decide) J J J J (fun _ => J) fun bq9 Gq9 hxq9 hcq9 => ?_
      refine Va J J ?_;refine S_callM 1 Tryz.call46 (c_numL b [-1, 3, 9] (Byts_le ((hext.trans (hx4)).trans hxq9).le hl0) hcq9 J (Nat.le_refl _) (by decide) (by decide) (i64_small (by decide)) (by omega)) J J J J (fun _ => J) ?_;rintro v G' A' ⟨rfl, rfl, who, hmem9, rfl⟩ _
      have hwho : I64 who := i64_small (l := [-1, 3, 9]) (by decide) who hmem9
      refine Va J J ?_;refine S_callM 20 Tryz.call35 (c_l3Code V (who) _ ts1 _ hI.n1 hI.n3 (Tds_le (PH.ext.le (((hx4).trans hxq9))) ht) hI.head ⟨hI.m0, hI.m1⟩) J J J J (fun _ => J) ?_;rintro v G7 A' ⟨rfl, rfl, rfl⟩ _
      refine Va J J ?_
      refine S_condp J (fun h7 => ?_) (fun h7 => ?_) <;> refine Va J J ?_
      ·obtain ⟨k, hk, hkl⟩ := code0_who h7
       have h7' : codeOf V (k : Nat) = 0 := hk ▸ h7
       rw [hk] at hwho ⊢
       refine S_callM 20 Tryz.call37 (c_l3Step V k _ ts1 _ (hI.rdy (by omega)) (Tds_le (PH.ext.le (((hx4).trans hxq9))) ht) hkl (hI.go h7')) J J J J (fun _ => J) ?_;rintro v G8 A' ⟨cs8, ts8, rfl, rfl, ht8⟩ hext8
       refine S_csV 20 J ?_;rintro bp8 bc8 br8 bs8 kp8 asd8 ksd8 kc8 kr8 ks8 rfl
       refine Va J J ?_;refine S_slice Tk ZT_ok J J J J (by decide) (by decide) J J J J fun b2 => ?_;refine Va J J ?_;refine S_app1 Tk 5 61 J J J J J J J J J J J J J J (by intro u hu; simp at hu; rcases hu with rfl; rfl) rfl (fun _ _ => rfl) (by omega) (Nat.le_refl _) fun A6 c6 => ?_;refine Va J J ?_;refine S_subI J J J J (by omega) ?_;refine Va J J ?_;refine S_pick [20, 5, 6, 1] J ?_;refine S_rdLe 1 ((M + 5)) (by omega) J J ?_
       refine S_again ⟨j, (M + 5), B1 + 1, V.step k, ⟨bp8, bc8, br8, bs8, kp8, asd8, ksd8, kc8, kr8, ks8⟩, ts8, A6, c6, l1 ++ [(k : Int)], G8⟩ ⟨by simp only [List.length_append, List.length_singleton]; omega, by simp only; omega, (hext.trans (((hx4).trans hxq9))).trans hext8, ⟨hI.step hkl h7', by simp only; omega⟩, ht8, by simp only [List.length_append, List.length_singleton]; omega, ?_⟩ (by simp only; omega) rfl ⟨⟨_, rfl, by simp [denO]⟩, ⟨_, rfl, by simp [denO]⟩, ⟨_, rfl, rfl⟩, ⟨_, rfl, rfl⟩, trivial⟩ ?_
       ·intro x hx
        rcases List.mem_append.1 hx with hx | hx
        ·exact hl1 x hx
        ·rw [List.mem_singleton.1 hx]; exact hwho
       ·simp only [List.length_append, List.length_singleton, intC_append, WV.cs]
        exact .hp (.hp (.blk J J (.hp .nil)))
      ·refine S_slice Tk ZT_ok J J J J (by decide) (by decide) J J J J fun b2 => ?_
       refine Va J J ?_;refine S_app1 Tk 5 61 J J J J J J J J J J J J J J (by intro u hu; simp at hu; rcases hu with rfl; rfl) rfl (fun _ _ => rfl) (by omega) (Nat.le_refl _) fun A6 c6 => ?_;refine Va J J ?_;refine S_subI J J J J (by omega) ?_;refine Va J J ?_;refine S_pick [20, 5, 6, 1] J ?_;refine S_rdLe 1 ((M + 5)) (by omega) J J ?_;refine S_again ⟨j, (M + 5), B1, V, ⟨bp1, bc1, br1, bs1, kp1, asd1, ksd1, kc1, kr1, ks1⟩, ts1, A6, c6, l1 ++ [who], _⟩ ⟨by simp only [List.length_append, List.length_singleton]; omega, by simp only; omega, hext.trans (((hx4).trans hxq9)), ⟨hI, by simp only; omega⟩, Tds_le (PH.ext.le (((hx4).trans hxq9))) ht, by simp only [List.length_append, List.length_singleton]; omega, ?_⟩ (by simp only; omega) rfl ⟨⟨_, rfl, by simp [denO]⟩, ⟨_, rfl, by simp [denO]⟩, ⟨_, rfl, rfl⟩, ⟨_, rfl, rfl⟩, trivial⟩ ?_
       ·intro x hx
        rcases List.mem_append.1 hx with hx | hx
        ·exact hl1 x hx
        ·rw [List.mem_singleton.1 hx]; exact hwho
       ·simp only [List.length_append, List.length_singleton, intC_append, WV.cs]
        exact .hp (.hp (.blk J J (.hp .nil)))
     ·have hwho : I64 (m4) := ⟨by omega, by omega⟩
      refine S_callM 20 Tryz.call35 (c_l3Code V (m4) _ ts1 _ hI.n1 hI.n3 (Tds_le (PH.ext.le (hx4)) ht) hI.head ⟨hI.m0, hI.m1⟩) J J J J (fun _ => J) ?_;rintro v G7 A' ⟨rfl, rfl, rfl⟩ _
      refine Va J J ?_
      refine S_condp J (fun h7 => ?_) (fun h7 => ?_) <;> refine Va J J ?_
      ·obtain ⟨k, hk, hkl⟩ := code0_who h7
       have h7' : codeOf V (k : Nat) = 0 := hk ▸ h7
       rw [hk] at hwho ⊢
       refine S_callM 20 Tryz.call37 (c_l3Step V k _ ts1 _ (hI.rdy (by omega)) (Tds_le (PH.ext.le (hx4)) ht) hkl (hI.go h7')) J J J J (fun _ => J) ?_;rintro v G8 A' ⟨cs8, ts8, rfl, rfl, ht8⟩ hext8
       refine S_csV 20 J ?_;rintro bp8 bc8 br8 bs8 kp8 asd8 ksd8 kc8 kr8 ks8 rfl
       refine Va J J ?_;refine S_slice Tk ZT_ok J J J J (by decide) (by decide) J J J J fun b2 => ?_;refine Va J J ?_;refine S_app1 Tk 5 61 J J J J J J J J J J J J J J (by intro u hu; simp at hu; rcases hu with rfl; rfl) rfl (fun _ _ => rfl) (by omega) (Nat.le_refl _) fun A6 c6 => ?_;refine Va J J ?_;refine S_subI J J J J (by omega) ?_;refine Va J J ?_;refine S_pick [20, 5, 6, 1] J ?_;refine S_rdLe 1 ((M + 5)) (by omega) J J ?_
       refine S_again ⟨j, (M + 5), B1 + 1, V.step k, ⟨bp8, bc8, br8, bs8, kp8, asd8, ksd8, kc8, kr8, ks8⟩, ts8, A6, c6, l1 ++ [(k : Int)], G8⟩ ⟨by simp only [List.length_append, List.length_singleton]; omega, by simp only; omega, (hext.trans (hx4)).trans hext8, ⟨hI.step hkl h7', by simp only; omega⟩, ht8, by simp only [List.length_append, List.length_singleton]; omega, ?_⟩ (by simp only; omega) rfl ⟨⟨_, rfl, by simp [denO]⟩, ⟨_, rfl, by simp [denO]⟩, ⟨_, rfl, rfl⟩, ⟨_, rfl, rfl⟩, trivial⟩ ?_
       ·intro x hx
        rcases List.mem_append.1 hx with hx | hx
        ·exact hl1 x hx
        ·rw [List.mem_singleton.1 hx]; exact hwho
       ·simp only [List.length_append, List.length_singleton, intC_append, WV.cs]
        exact .hp (.hp (.blk J J (.hp .nil)))
      ·refine S_slice Tk ZT_ok J J J J (by decide) (by decide) J J J J fun b2 => ?_
       refine Va J J ?_;refine S_app1 Tk 5 61 J J J J J J J J J J J J J J (by intro u hu; simp at hu; rcases hu with rfl; rfl) rfl (fun _ _ => rfl) (by omega) (Nat.le_refl _) fun A6 c6 => ?_;refine Va J J ?_;refine S_subI J J J J (by omega) ?_;refine Va J J ?_;refine S_pick [20, 5, 6, 1] J ?_;refine S_rdLe 1 ((M + 5)) (by omega) J J ?_;refine S_again ⟨j, (M + 5), B1, V, ⟨bp1, bc1, br1, bs1, kp1, asd1, ksd1, kc1, kr1, ks1⟩, ts1, A6, c6, l1 ++ [m4], _⟩ ⟨by simp only [List.length_append, List.length_singleton]; omega, by simp only; omega, hext.trans (hx4), ⟨hI, by simp only; omega⟩, Tds_le (PH.ext.le (hx4)) ht, by simp only [List.length_append, List.length_singleton]; omega, ?_⟩ (by simp only; omega) rfl ⟨⟨_, rfl, by simp [denO]⟩, ⟨_, rfl, by simp [denO]⟩, ⟨_, rfl, rfl⟩, ⟨_, rfl, rfl⟩, trivial⟩ ?_
       ·intro x hx
        rcases List.mem_append.1 hx with hx | hx
        ·exact hl1 x hx
        ·rw [List.mem_singleton.1 hx]; exact hwho
       ·simp only [List.length_append, List.length_singleton, intC_append, WV.cs]
        exact .hp (.hp (.blk J J (.hp .nil)))
   ·refine S_callM 1 Tryz.call22 (c_pick b l _ _ _ _ (Byts_le (hext.trans (hx4)).le hl0) ⟨by omega, by omega⟩ (by omega)) J J J J (fun _ => J) ?_
    rintro v G9 A' ⟨rfl, rfl, m9, rfl, hm90, hm91⟩ _
    refine Va J J ?_
    refine S_condp J (fun h9 => ?_) (fun h9 => ?_) <;> refine Va J J ?_
    ·refine S_sliceG Tk ZT_ok J J J J (by decide) (by decide) J J J J (fun _ => J) fun bq9 Gq9 hxq9 hcq9 => ?_
     refine Va J J ?_;refine S_callM 1 Tryz.call46 (c_numL b [-1, 3, 9] (Byts_le ((hext.trans (hx4)).trans hxq9).le hl0) hcq9 J (Nat.le_refl _) (by decide) (by decide) (i64_small (by decide)) (by omega)) J J J J (fun _ => J) ?_;rintro v G' A' ⟨rfl, rfl, who, hmem9, rfl⟩ _
     have hwho : I64 who := i64_small (l := [-1, 3, 9]) (by decide) who hmem9
     refine Va J J ?_;refine S_callM 20 Tryz.call35 (c_l3Code V (who) _ ts1 _ hI.n1 hI.n3 (Tds_le (PH.ext.le (((hx4).trans hxq9))) ht) hI.head ⟨hI.m0, hI.m1⟩) J J J J (fun _ => J) ?_;rintro v G7 A' ⟨rfl, rfl, rfl⟩ _
     refine Va J J ?_
     refine S_condp J (fun h7 => ?_) (fun h7 => ?_) <;> refine Va J J ?_
     ·obtain ⟨k, hk, hkl⟩ := code0_who h7
      have h7' : codeOf V (k : Nat) = 0 := hk ▸ h7
      rw [hk] at hwho ⊢
      refine S_callM 20 Tryz.call37 (c_l3Step V k _ ts1 _ (hI.rdy (by omega)) (Tds_le (PH.ext.le (((hx4).trans hxq9))) ht) hkl (hI.go h7')) J J J J (fun _ => J) ?_;rintro v G8 A' ⟨cs8, ts8, rfl, rfl, ht8⟩ hext8
      refine S_csV 20 J ?_;rintro bp8 bc8 br8 bs8 kp8 asd8 ksd8 kc8 kr8 ks8 rfl
      refine Va J J ?_;refine S_slice Tk ZT_ok J J J J (by decide) (by decide) J J J J fun b2 => ?_;refine Va J J ?_;refine S_app1 Tk 5 61 J J J J J J J J J J J J J J (by intro u hu; simp at hu; rcases hu with rfl; rfl) rfl (fun _ _ => rfl) (by omega) (Nat.le_refl _) fun A6 c6 => ?_;refine Va J J ?_;refine S_subI J J J J (by omega) ?_;refine Va J J ?_;refine S_pick [20, 5, 6, 1] J ?_;refine S_rdLe 1 ((M + 5)) (by omega) J J ?_
      refine S_again ⟨j, (M + 5), B1 + 1, V.step k, ⟨bp8, bc8, br8, bs8, kp8, asd8, ksd8, kc8, kr8, ks8⟩, ts8, A6, c6, l1 ++ [(k : Int)], G8⟩ ⟨by simp only [List.length_append, List.length_singleton]; omega, by simp only; omega, (hext.trans (((hx4).trans hxq9))).trans hext8, ⟨hI.step hkl h7', by simp only; omega⟩, ht8, by simp only [List.length_append, List.length_singleton]; omega, ?_⟩ (by simp only; omega) rfl ⟨⟨_, rfl, by simp [denO]⟩, ⟨_, rfl, by simp [denO]⟩, ⟨_, rfl, rfl⟩, ⟨_, rfl, rfl⟩, trivial⟩ ?_
      ·intro x hx
       rcases List.mem_append.1 hx with hx | hx
       ·exact hl1 x hx
       ·rw [List.mem_singleton.1 hx]; exact hwho
      ·simp only [List.length_append, List.length_singleton, intC_append, WV.cs]
       exact .hp (.hp (.blk J J (.hp .nil)))
     ·refine S_slice Tk ZT_ok J J J J (by decide) (by decide) J J J J fun b2 => ?_
      refine Va J J ?_;refine S_app1 Tk 5 61 J J J J J J J J J J J J J J (by intro u hu; simp at hu; rcases hu with rfl; rfl) rfl (fun _ _ => rfl) (by omega) (Nat.le_refl _) fun A6 c6 => ?_;refine Va J J ?_;refine S_subI J J J J (by omega) ?_;refine Va J J ?_;refine S_pick [20, 5, 6, 1] J ?_;refine S_rdLe 1 ((M + 5)) (by omega) J J ?_;refine S_again ⟨j, (M + 5), B1, V, ⟨bp1, bc1, br1, bs1, kp1, asd1, ksd1, kc1, kr1, ks1⟩, ts1, A6, c6, l1 ++ [who], _⟩ ⟨by simp only [List.length_append, List.length_singleton]; omega, by simp only; omega, hext.trans (((hx4).trans hxq9)), ⟨hI, by simp only; omega⟩, Tds_le (PH.ext.le (((hx4).trans hxq9))) ht, by simp only [List.length_append, List.length_singleton]; omega, ?_⟩ (by simp only; omega) rfl ⟨⟨_, rfl, by simp [denO]⟩, ⟨_, rfl, by simp [denO]⟩, ⟨_, rfl, rfl⟩, ⟨_, rfl, rfl⟩, trivial⟩ ?_
      ·intro x hx
       rcases List.mem_append.1 hx with hx | hx
       ·exact hl1 x hx
       ·rw [List.mem_singleton.1 hx]; exact hwho
      ·simp only [List.length_append, List.length_singleton, intC_append, WV.cs]
       exact .hp (.hp (.blk J J (.hp .nil)))
    ·have hwho : I64 (m4) := ⟨by omega, by omega⟩
     refine S_callM 20 Tryz.call35 (c_l3Code V (m4) _ ts1 _ hI.n1 hI.n3 (Tds_le (PH.ext.le (hx4)) ht) hI.head ⟨hI.m0, hI.m1⟩) J J J J (fun _ => J) ?_;rintro v G7 A' ⟨rfl, rfl, rfl⟩ _
     refine Va J J ?_
     refine S_condp J (fun h7 => ?_) (fun h7 => ?_) <;> refine Va J J ?_
     ·obtain ⟨k, hk, hkl⟩ := code0_who h7
      have h7' : codeOf V (k : Nat) = 0 := hk ▸ h7
      rw [hk] at hwho ⊢
      refine S_callM 20 Tryz.call37 (c_l3Step V k _ ts1 _ (hI.rdy (by omega)) (Tds_le (PH.ext.le (hx4)) ht) hkl (hI.go h7')) J J J J (fun _ => J) ?_;rintro v G8 A' ⟨cs8, ts8, rfl, rfl, ht8⟩ hext8
      refine S_csV 20 J ?_;rintro bp8 bc8 br8 bs8 kp8 asd8 ksd8 kc8 kr8 ks8 rfl
      refine Va J J ?_;refine S_slice Tk ZT_ok J J J J (by decide) (by decide) J J J J fun b2 => ?_;refine Va J J ?_;refine S_app1 Tk 5 61 J J J J J J J J J J J J J J (by intro u hu; simp at hu; rcases hu with rfl; rfl) rfl (fun _ _ => rfl) (by omega) (Nat.le_refl _) fun A6 c6 => ?_;refine Va J J ?_;refine S_subI J J J J (by omega) ?_;refine Va J J ?_;refine S_pick [20, 5, 6, 1] J ?_;refine S_rdLe 1 ((M + 5)) (by omega) J J ?_
      refine S_again ⟨j, (M + 5), B1 + 1, V.step k, ⟨bp8, bc8, br8, bs8, kp8, asd8, ksd8, kc8, kr8, ks8⟩, ts8, A6, c6, l1 ++ [(k : Int)], G8⟩ ⟨by simp only [List.length_append, List.length_singleton]; omega, by simp only; omega, (hext.trans (hx4)).trans hext8, ⟨hI.step hkl h7', by simp only; omega⟩, ht8, by simp only [List.length_append, List.length_singleton]; omega, ?_⟩ (by simp only; omega) rfl ⟨⟨_, rfl, by simp [denO]⟩, ⟨_, rfl, by simp [denO]⟩, ⟨_, rfl, rfl⟩, ⟨_, rfl, rfl⟩, trivial⟩ ?_
      ·intro x hx
       rcases List.mem_append.1 hx with hx | hx
       ·exact hl1 x hx
       ·rw [List.mem_singleton.1 hx]; exact hwho
      ·simp only [List.length_append, List.length_singleton, intC_append, WV.cs]
       exact .hp (.hp (.blk J J (.hp .nil)))
     ·refine S_slice Tk ZT_ok J J J J (by decide) (by decide) J J J J fun b2 => ?_
      refine Va J J ?_;refine S_app1 Tk 5 61 J J J J J J J J J J J J J J (by intro u hu; simp at hu; rcases hu with rfl; rfl) rfl (fun _ _ => rfl) (by omega) (Nat.le_refl _) fun A6 c6 => ?_;refine Va J J ?_;refine S_subI J J J J (by omega) ?_;refine Va J J ?_;refine S_pick [20, 5, 6, 1] J ?_;refine S_rdLe 1 ((M + 5)) (by omega) J J ?_;refine S_again ⟨j, (M + 5), B1, V, ⟨bp1, bc1, br1, bs1, kp1, asd1, ksd1, kc1, kr1, ks1⟩, ts1, A6, c6, l1 ++ [m4], _⟩ ⟨by simp only [List.length_append, List.length_singleton]; omega, by simp only; omega, hext.trans (hx4), ⟨hI, by simp only; omega⟩, Tds_le (PH.ext.le (hx4)) ht, by simp only [List.length_append, List.length_singleton]; omega, ?_⟩ (by simp only; omega) rfl ⟨⟨_, rfl, by simp [denO]⟩, ⟨_, rfl, by simp [denO]⟩, ⟨_, rfl, rfl⟩, ⟨_, rfl, rfl⟩, trivial⟩ ?_
      ·intro x hx
       rcases List.mem_append.1 hx with hx | hx
       ·exact hl1 x hx
       ·rw [List.mem_singleton.1 hx]; exact hwho
      ·simp only [List.length_append, List.length_singleton, intC_append, WV.cs]
       exact .hp (.hp (.blk J J (.hp .nil)))
  ·obtain rfl : i = 0 := by omega
   refine S_freezeR 5 J J (Nat.le_refl _) fun Gf hextf hncf hcmf hclf => ?_
   have hvf : Ints Gf l1 _ := frz (Cs_intC hl1) rfl (by omega) hncf hcmf hclf
   refine S_rdLe 1 (N + 2000) (by omega) J J ?_;exact S_retm 1 (Res.t1 Tryz.results24 J J) J (hext.trans hextf) ⟨J, l1, hvf, by omega⟩
 ·refine Va J J ?_
  refine AZ ZT_ok J J J J fun b6 => ?_;refine Va J J ?_;refine S_callM 1 Tryz.call22 (c_pick b l _ _ N G1 (Byts_le hext1.le hl) ⟨by omega, by omega⟩ (by omega)) J J J J (fun _ => J) ?_;rintro v G2 A' ⟨rfl, rfl, m, rfl, h0, h1⟩ _
  refine Va J J ?_;refine S_add J J J J (by omega) ?_;refine Va J J ?_;refine S_sliceG Tk ZT_ok J J J J (by decide) (by decide) J J J J (fun _ => J) fun bq Gq hxq hcq => ?_;refine Va J J ?_
  have hq7 : Ints Gq [10, 20, 35, 60, 5, 0, 200 + m] (.slice (some ⟨bq, 0, none⟩) 7 7) := ints_of hcq rfl (Nat.le_refl _) (by decide) (by decide) (by intro x hx; simp only [List.mem_cons, List.not_mem_nil, or_false] at hx; exact ⟨by omega, by omega⟩)
  refine S_callM 1 Tryz.call46 (c_num b l _ _ _ _ _ (Byts_le (hext1.trans hxq).le hl) hq7 (by simp) (by omega)) J J J J (fun _ => J) ?_;rintro v G' A' ⟨rfl, rfl, n7, hmem, rfl⟩ _
  have hn7 : 0 ≤ n7 ∧ n7 ≤ 201 := by (simp only [List.mem_cons, List.not_mem_nil, or_false] at hmem); omega
  obtain ⟨n7, rfl⟩ := Int.eq_ofNat_of_zero_le hn7.1
  refine Va J J ?_
  have hl0 := hl
  refine S_pick [5, 6, 1] J ?_;refine S_loop (α := Nat × Nat × Option Addr × Nat × List Int × PH) (fun y => y.1 + y.2.2.2.2.1.length ≤ 201 ∧ y.2.1 + y.1 * 5 ≤ N + 2000 ∧ PH.ext w.heap.size G y.2.2.2.2.2 ∧ ∀ x ∈ y.2.2.2.2.1, I64 x) (fun y => y.1) [(6, b6)]
   (fun y => [(7, .val (.int .i64 (y.1 : Nat))), (5, .val (.slice y.2.2.1 y.2.2.2.2.1.length y.2.2.2.1)), (6, .ptr 6 0), (0, .val (.pointer (some ⟨b, 0, none⟩)))])
   (fun y => [.hp 5 (rowO w.heap.size 3 1 y.2.2.1 y.2.2.2.2.1.length y.2.2.2.1 (intC y.2.2.2.2.1)), .blk 6 56 (vL [.slice none 0 0, .slice none 0 0, .slice none 0 0, .slice none 0 0, .slice none 0 0]), .hp 1 (rdHP b (.slice A l.length c) y.2.1)]) (fun y => y.2.2.2.2.2) (n7, N + 1 + 1, A0, 0, [], G') ⟨by simp only [List.length_nil]; omega, by simp only; omega, hext1.trans hxq, by simp⟩ rfl ?_ ?_ ?_
  ·exact ⟨⟨_, J, J⟩, ⟨_, J, J⟩, ⟨_, J, J⟩, ⟨_, J, J⟩, trivial⟩
  ·exact .hp (.blk J J (.hp .nil))
  rintro ⟨i, M, A1, c1, l1, G1⟩ ⟨hi, hM, hext, hl1⟩
  simp only at hi hM hext hl1 ⊢
  refine Va J J ?_
  refine S_condp J (fun h => ?_) (fun h => ?_) <;> refine Va J J ?_
  ·obtain ⟨j, rfl⟩ : ∃ j, i = j + 1 := ⟨i - 1, by omega⟩
   refine S_call Tryz.call49 (c_l1Max _ _ _) J J J ?_;rintro v G3 ⟨rfl, rfl⟩ _
   refine Va J J ?_;refine S_callM 1 Tryz.call22 (c_pick b l _ _ _ _ (Byts_le hext.le hl0) ⟨by omega, by omega⟩ (by omega)) J J J J (fun _ => J) ?_;rintro v G3 A' ⟨rfl, rfl, m4, rfl, hm40, hm41⟩ _
   refine Va J J ?_;refine S_call Tryz.call50 (c_l3CanZ _) J J J ?_;rintro v G4 ⟨Ac, rfl⟩ hx4
   refine Va J J ?_;refine GF J J J ?_;refine Va J J ?_;refine S_callM 1 Tryz.call22 (c_pick b l _ _ _ _ (Byts_le (hext.trans hx4).le hl0) ⟨by omega, by omega⟩ (by omega)) J J J J (fun _ => J) ?_;rintro v G9 A' ⟨rfl, rfl, m9, rfl, hm90, hm91⟩ _
   refine Va J J ?_
   refine S_condp J (fun h9 => ?_) (fun h9 => ?_) <;> refine Va J J ?_
   ·refine S_sliceG Tk ZT_ok J J J J (by decide) (by decide) J J J J (fun _ => J) fun bq9 Gq9 hxq9 hcq9 => ?_
    refine Va J J ?_;refine S_callM 1 Tryz.call46 (c_numL b [-1, 3, 9] (Byts_le ((hext.trans hx4).trans hxq9).le hl0) hcq9 J (Nat.le_refl _) (by decide) (by decide) (i64_small (by decide)) (by omega)) J J J J (fun _ => J) ?_;rintro v G' A' ⟨rfl, rfl, who, hmem9, rfl⟩ _
    have hwho : I64 who := i64_small (l := [-1, 3, 9]) (by decide) who hmem9
    refine Va J J ?_;refine S_call Tryz.call35 (c_l3CodeZ _ _) J J J ?_;rintro v G7 ⟨rfl, rfl⟩ _
    refine Va J J ?_;refine RF J J ?_;refine Va J J ?_;refine S_slice Tk ZT_ok J J J J (by decide) (by decide) J J J J fun b2 => ?_;refine Va J J ?_;refine S_app1 Tk 5 61 J J J J J J J J J J J J J J (by intro u hu; simp at hu; rcases hu with rfl; rfl) rfl (fun _ _ => rfl) (by omega) (Nat.le_refl _) fun A6 c6 => ?_;refine Va J J ?_;refine S_subI J J J J (by omega) ?_;refine Va J J ?_;refine S_pick [5, 6, 1] J ?_
    refine S_rdLe 1 ((M + 5)) (by omega) J J ?_;refine S_again (j, (M + 5), A6, c6, l1 ++ [who], _) ⟨by simp only [List.length_append, List.length_singleton]; omega, by simp only; omega, hext.trans ((hx4.trans hxq9)), ?_⟩ (by simp only; omega) rfl ⟨⟨_, rfl, by simp [denO]⟩, ⟨_, rfl, by simp [denO]⟩, ⟨_, rfl, rfl⟩, ⟨_, rfl, rfl⟩, trivial⟩ ?_
    ·intro x hx
     rcases List.mem_append.1 hx with hx | hx
     ·exact hl1 x hx
     ·rw [List.mem_singleton.1 hx]; exact hwho
    ·simp only [List.length_append, List.length_singleton, intC_append]
     exact .hp (.blk J J (.hp .nil))
   ·have hwho : I64 m4 := ⟨by omega, by omega⟩
    refine S_call Tryz.call35 (c_l3CodeZ _ _) J J J ?_;rintro v G7 ⟨rfl, rfl⟩ _
    refine Va J J ?_;refine RF J J ?_;refine Va J J ?_;refine S_slice Tk ZT_ok J J J J (by decide) (by decide) J J J J fun b2 => ?_;refine Va J J ?_;refine S_app1 Tk 5 61 J J J J J J J J J J J J J J (by intro u hu; simp at hu; rcases hu with rfl; rfl) rfl (fun _ _ => rfl) (by omega) (Nat.le_refl _) fun A6 c6 => ?_;refine Va J J ?_;refine S_subI J J J J (by omega) ?_;refine Va J J ?_;refine S_pick [5, 6, 1] J ?_
    refine S_rdLe 1 ((M + 5)) (by omega) J J ?_;refine S_again (j, (M + 5), A6, c6, l1 ++ [m4], _) ⟨by simp only [List.length_append, List.length_singleton]; omega, by simp only; omega, hext.trans (hx4), ?_⟩ (by simp only; omega) rfl ⟨⟨_, rfl, by simp [denO]⟩, ⟨_, rfl, by simp [denO]⟩, ⟨_, rfl, rfl⟩, ⟨_, rfl, rfl⟩, trivial⟩ ?_
    ·intro x hx
     rcases List.mem_append.1 hx with hx | hx
     ·exact hl1 x hx
     ·rw [List.mem_singleton.1 hx]; exact hwho
    ·simp only [List.length_append, List.length_singleton, intC_append]
     exact .hp (.blk J J (.hp .nil))
  ·obtain rfl : i = 0 := by omega
   refine S_freezeR 5 J J (Nat.le_refl _) fun Gf hextf hncf hcmf hclf => ?_
   have hvf : Ints Gf l1 _ := frz (Cs_intC hl1) rfl (by omega) hncf hcmf hclf
   refine S_rdLe 1 (N + 2000) (by omega) J J ?_;exact S_retm 1 (Res.t1 Tryz.results24 J J) J (hext.trans hextf) ⟨J, l1, hvf, by omega⟩
end
section
theorem run_appendIn {P : Program} (w : World) (base t ty e : Nat) (i : TypeInfo) (z : Value) (sz : Nat) (ht : P.underlying t = some (.slice e)) (hi : P.info? e = some i) (hz : i.zero = some z) (hsz : i.size = sz) (hpos : 0 < sz)
  {g off n c : Nat} {xs : List Value} {S : Nat → Prop} (hA : (rowO base e sz (some ⟨g, off, none⟩) n c xs).holds w S) {v : Value} {m : Nat} {news : List Value} (hs : SrcOk w sz v m news) (h1 : ∀ u ∈ news, u.oneCell' = true) (hroom : n + m ≤ c) :
  ∃ w', (Builtin.append_ #[t, t] ty #[.slice (some ⟨g, off, none⟩) n c, v]).run P w = .ok (.slice (some ⟨g, off, none⟩) (n + m) c) w' ∧ (rowO base e sz (some ⟨g, off, none⟩) (n + m) c (xs ++ news)).holds w' S ∧
   w'.os = w.os ∧ w'.tape = w.tape ∧ w'.output = w.output ∧ w.heap.size ≤ w'.heap.size ∧ (∀ b, b < w.heap.size → ¬ S b → w'.heap[b]? = w.heap[b]?) := by
 obtain ⟨hl, A2, c2, rfl, hsrc⟩ := hs
 obtain ⟨hxl, hcm, hnc, hcase⟩ := hA
 rcases hcase with ⟨h, _⟩ | ⟨g', off', cur, e', hbg, hg, hfit, htake, hS⟩
 ·cases h
 cases e'
 subst hsz
 by_cases hm : m = 0
 ·subst hm
  have hn : news = [] := List.eq_nil_of_length_eq_zero (by simpa using hl)
  subst hn
  refine ⟨w, ?_, by simp only [Nat.add_zero, List.append_nil]; exact ⟨hxl, hcm, hnc, .inr ⟨g, off, cur, rfl, hbg, hg, hfit, htake, hS⟩⟩, rfl, rfl, rfl, Nat.le_refl _, fun _ _ _ => rfl⟩
  have hf : ∀ w, (Builtin.firstCells i.size 0 (.slice A2 0 c2)).run P w = .ok #[] w := by
   intro w
   cases A2 with
   | none => exact run_firstCells_none (P := P) w i.size 0 0 c2
   | some a => exact run_firstCells_some (P := P) w i.size 0 a 0 c2 [] (by simp) (by simp)
  have hst : ∀ a, (storeCells a []).run P w = .ok () w := fun a => by simp [storeCells]
  simp [Builtin.append_, run_underlying ht, sizeOf, typeInfo, hi, Builtin.lenOf, hnc, hf, hst]
 ·rcases hsrc with h0 | ⟨a, rfl, hnews⟩
  ·exact absurd h0 hm
  have hf := run_firstCells_some (P := P) w i.size m a m c2 news hl hnews
  have hlen : off + n * i.size + news.length ≤ cur.size := by
   rw [hl, Nat.add_assoc, ← Nat.add_mul]
   exact Nat.le_trans (Nat.add_le_add_left (Nat.mul_le_mul_right _ hroom) _) hfit
  have hst := run_storeCells_at P g (off + n * i.size) e news 0 cur w hg (by simpa using hlen) h1
  simp only [Nat.add_zero] at hst
  refine ⟨w.setRow g (cur.toList.take (off + n * i.size) ++ news ++ cur.toList.drop (off + n * i.size + news.length)).toArray, ?_, ⟨by rw [List.length_append, hxl, hl, Nat.add_mul], hcm, hroom, .inr ⟨g, off, _, rfl, hbg, setRow_heap w g cur _ e _ hg, ?_, ?_, hS⟩⟩, rfl, rfl, rfl, by simp, fun b _ hb => setRow_other w g b _ (fun e => hb ((hS b).2 e))⟩
  ·simp [Builtin.append_, run_underlying ht, sizeOf, typeInfo, hi, Builtin.lenOf, hroom, hf, add_lit', hst]
  ·simp only [List.size_toArray, List.length_append, List.length_take, List.length_drop, Array.length_toList]
   omega
  ·have hlc : off + n * i.size ≤ cur.toList.length := by rw [Array.length_toList]; omega
   have e1 : List.take (off + n * i.size) cur.toList = List.take off cur.toList ++ xs := by
    rw [List.take_add, ← hxl, htake]
   show (List.drop off (List.take (off + n * i.size) cur.toList ++ news ++ List.drop (off + n * i.size + news.length) cur.toList)).take (xs ++ news).length = xs ++ news
   rw [e1]
   have hoff : (List.take off cur.toList).length = off := by rw [List.length_take]; omega
   rw [List.append_assoc, List.append_assoc]
   have hd : List.drop off (List.take off cur.toList ++ (xs ++ (news ++ List.drop (off + n * i.size + news.length) cur.toList))) = xs ++ (news ++ List.drop (off + n * i.size + news.length) cur.toList) := by
    have := List.drop_left (l₁ := List.take off cur.toList) (l₂ := xs ++ (news ++ List.drop (off + n * i.size + news.length) cur.toList))
    rw [hoff] at this
    exact this
   rw [hd, ← List.append_assoc]
   exact List.take_left
theorem run_appendOut {P : Program} (w : World) (base t ty e : Nat) (i : TypeInfo) (z : Value) (sz : Nat) (ht : P.underlying t = some (.slice e)) (hi : P.info? e = some i) (hz : i.zero = some z) (hsz : i.size = sz) (hzs : z.cells.size = sz) (hpos : 0 < sz)
  {g off n c : Nat} {xs : List Value} {S : Nat → Prop} (hA : (rowO base e sz (some ⟨g, off, none⟩) n c xs).holds w S) {v : Value} {m : Nat} {news : List Value} (hs : SrcOk w sz v m news) (h1 : ∀ u ∈ news, u.oneCell' = true)
  (h63 : n + m ≤ maxLen) (hby : (n + m) * i.bytes ≤ 140737488355328) (hbase : base ≤ w.heap.size) (hroom : c < n + m) :
  ∃ c' w', (Builtin.append_ #[t, t] ty #[.slice (some ⟨g, off, none⟩) n c, v]).run P w = .ok (.slice (some ⟨w.heap.size, 0, none⟩) (n + m) c') w' ∧ (rowO base e sz (some ⟨w.heap.size, 0, none⟩) (n + m) c' (xs ++ news)).holds w' (fun b => b = w.heap.size) ∧
   w'.os = w.os ∧ w'.tape = w.tape ∧ w'.output = w.output ∧ w.heap.size ≤ w'.heap.size ∧ (∀ b, b < w.heap.size → w'.heap[b]? = w.heap[b]?) := by
 obtain ⟨hl, A2, c2, rfl, hsrc⟩ := hs
 obtain ⟨hxl, hcm, hnc, hcase⟩ := hA
 have hsmall : n + m ≤ 9223372036854775807 := by simp only [maxLen] at h63; omega
 rcases hcase with ⟨h, _⟩ | ⟨g', off', cur, e', hbg, hg, hfit, htake, hS⟩
 ·cases h
 cases e'
 subst hsz
 rcases hsrc with h0 | ⟨a, rfl, hnews⟩
 ·omega
 have grown : ∀ (old : Nat), (rowO base e i.size (some ⟨w.heap.size, 0, none⟩) (n + m) (grownCap w (n + m) old e) (xs ++ news)).holds (w.drew.alloc (.cells (xs.toArray ++ news.toArray ++ Builtin.zeroCells z.cells (grownCap w (n + m) old e - (n + m))) e)) (fun b => b = w.heap.size) := by
  intro old
  have hge := grownCap_ge w (n + m) old e
  have hcm' : grownCap w (n + m) old e ≤ maxLen := grownCap_le_maxLen w (n + m) old e h63
  refine ⟨by rw [List.length_append, hxl, hl, Nat.add_mul], hcm', hge, .inr ⟨_, 0, _, rfl, hbase, heap_alloc_new w.drew _, ?_, ?_, fun b => Iff.rfl⟩⟩
  ·simp only [Array.size_append, List.size_toArray, size_zeroCells, hzs, hxl, hl, ← Nat.add_mul]
   rw [Nat.zero_add]
   exact Nat.mul_le_mul_right _ (by omega)
  ·simp only [Array.toList_append, List.drop_zero]
   exact List.take_left
 have hold : ∀ old b, b < w.heap.size → (w.drew.alloc (.cells (xs.toArray ++ news.toArray ++ Builtin.zeroCells z.cells (grownCap w (n + m) old e - (n + m))) e)).heap[b]? = w.heap[b]? := fun old b hb => heap_alloc_old w.drew _ hb
 have holds : ∀ j u, xs[j]? = some u → w.cell? ((⟨g, off, none⟩ : Addr).add j) = some u := cells_at hg htake
 have hr := run_append_grow (P := P) w t ty e i z ht hi hz ⟨g, off, none⟩ n c xs hxl holds a m c2 news hl hnews (by omega) (by omega) (growslice_fits (by omega) hby)
 exact ⟨_, _, hr, grown c, rfl, rfl, rfl, by simp, fun b hb => hold c b hb⟩
section
variable {C : Ctx} {k : List It} {E : Env} {ι : Ids} {L : List Ent} {G : PH} {all : Array Oper} {l : List Oper}
theorem S_appSplit {T : Tab} (hT : tabOk C.P T) (κ κ' : Nat) {d t e sz' sz : Nat} {os os' : List Nat} {tk : TK} {zi : ZI} {s x : Operand} {ss sx : Sym} {ty : Nat} {pos : String} {af : Array Edge} {g : Option (Nat × Bool)} {base base' gb off : Nat} {vx : Value} {n m c : Nat} {xs news : List Value} {L1 : List Ent} {L2 : Option Addr → Nat → List Ent}
  (ht : lookT t T = some ⟨.slc e, sz', os'⟩) (he : lookT e T = some ⟨tk, sz, os⟩) (hz : lookZ e T.zs = some zi) (hzs : zi.zs.length = sz) (hsz : Nat.ble 1 sz = true)
  (hg : guardOf all E g = .on) (hN : Nat.ble (d + 1) C.n = true) (hs : ev E s = some ss) (hds : denO ι ss = some (.slice (some ⟨gb, off, none⟩) n c)) (hx : ev E x = some sx) (hdx : denO ι sx = some vx)
  (hL : getH κ L = some (rowO base e sz (some ⟨gb, off, none⟩) n c xs)) (hL1 : setH κ (rowO base e sz (some ⟨gb, off, none⟩) (n + m) c (xs ++ news)) L = some L1)
  (hL0 : getH κ' L = some (rowO base' e sz none 0 0 [])) (hL2 : ∀ A' c', setH κ' (rowO base' e sz A' (n + m) c' (xs ++ news)) L = some (L2 A' c'))
  (hsrc : ∀ w, SatW C ι L G w → SrcOk w sz vx m news) (h1 : ∀ u ∈ news, u.oneCell' = true) (hby : (n + m) * zi.b ≤ 140737488355328) (h63 : n + m ≤ maxLen) (hbase : base' ≤ C.w0.heap.size) (hb0 : base = 0 ∨ base ≤ C.w0.heap.size)
  (hin : n + m ≤ c → X C (.ops all l :: k) ((d, .val (.slice (some ⟨gb, off, none⟩) (n + m) c)) :: E) ι L1 G)
  (hout : c < n + m → ∀ g' c', X C (.ops all l :: k) ((d, .val (.slice (some ⟨g', 0, none⟩) (n + m) c')) :: E) ι (L2 (some ⟨g', 0, none⟩) c') G) : X C (.ops all (⟨some d, .call ⟨.builtin .append, #[s, x], #[t, t]⟩, ty, pos, af, g⟩ :: l) :: k) E ι L G := by
 intro a w g1 g2 g3 g4
 have hdn : d < a.tmps.size := by rw [g2]; exact Nat.le_of_ble_eq_true hN
 have es := ev_sound g3 hs
 have ex := ev_sound g3 hx
 rw [hds] at es
 rw [hdx] at ex
 simp only [Option.some.injEq] at es ex
 have hu := tyOk_slice (hT _ _ ht) rfl
 obtain ⟨dsc, inf, _, hi, _, hsize, _⟩ := tyOk_parts (hT _ _ he)
 obtain ⟨inf', vz, hi', hv, hb, hc, _⟩ := viewZ_eq (hT.z _ _ hz)
 rw [hi] at hi'; cases hi'
 have hGlt : ∀ b o, G b = some o → b < w.heap.size := fun b o hb => (Array.getElem?_eq_some_iff.1 (g4.emb b o hb)).1
 obtain ⟨S2, hA, hS2G, hturn⟩ := g4.turn hL
 by_cases hroom : n + m ≤ c
 ·obtain ⟨w', hr, hA', q1, q2, q3, q4, q5⟩ := run_appendIn (P := C.P) w base t ty e inf vz sz hu hi hv hsize (Nat.le_of_ble_eq_true hsz) hA (hsrc w g4) h1 hroom
  have hrun : (execOp a.eval ⟨some d, .call ⟨.builtin .append, #[s, x], #[t, t]⟩, ty, pos, af, g⟩).run C.P w = .ok (.value (.slice (some ⟨gb, off, none⟩) (n + m) c)) w' := by
   simp only [execOp, resolve, invoke, List.map_toArray, List.map_cons, List.map_nil, ← es, ← ex]
   simp [builtin, hr]
  refine wpE_val (guardOf_on g3 hg) (by intro c h; cases h) hrun ?_;refine hin hroom _ _ g1 (by simp [Act.put, g2]) (g3.put hdn J) ?_;refine hturn _ _ G w' S2 hL1 hA' ?_ XR (fun b hb => ⟨hS2G b hb, .inl hb⟩) q1 q2 q3 q4 q5
  intro b o hb
  rw [q5 b (hGlt b o hb) (fun h => by rw [hS2G b h] at hb; cases hb)]
  exact g4.emb b o hb
 ·obtain ⟨S3, hA3, hS3G, hturn3⟩ := g4.turn hL0
  have hA0 : (rowO 0 e sz (some ⟨gb, off, none⟩) n c xs).holds w S2 := by
   obtain ⟨q1, q2, q3, q4⟩ := hA
   refine ⟨q1, q2, q3, ?_⟩
   rcases q4 with q4 | ⟨g', off', cur, e1, e2, e3⟩
   ·exact .inl q4
   ·exact .inr ⟨g', off', cur, e1, Nat.zero_le _, e3⟩
  obtain ⟨c', w', hr, hA', q1, q2, q3, q4, q5⟩ := run_appendOut (P := C.P) w 0 t ty e inf vz sz hu hi hv hsize (by rw [hc]; simpa using hzs) (Nat.le_of_ble_eq_true hsz) hA0 (hsrc w g4) h1 h63 (by rw [hb]; exact hby) (Nat.zero_le _) (by omega)
  have hrun : (execOp a.eval ⟨some d, .call ⟨.builtin .append, #[s, x], #[t, t]⟩, ty, pos, af, g⟩).run C.P w = .ok (.value (.slice (some ⟨w.heap.size, 0, none⟩) (n + m) c')) w' := by
   simp only [execOp, resolve, invoke, List.map_toArray, List.map_cons, List.map_nil, ← es, ← ex]
   simp [builtin, hr]
  refine wpE_val (guardOf_on g3 hg) (by intro c h; cases h) hrun ?_;refine hout (by omega) w.heap.size c' _ _ g1 (by simp [Act.put, g2]) (g3.put hdn J) ?_
  have hA4 : (rowO base' e sz (some ⟨w.heap.size, 0, none⟩) (n + m) c' (xs ++ news)).holds w' (fun b => b = w.heap.size) := by
   obtain ⟨r1, r2, r3, r4⟩ := hA'
   refine ⟨r1, r2, r3, ?_⟩
   rcases r4 with ⟨r4, _⟩ | ⟨g', off', cur, e1, e2, e3⟩
   ·cases r4
   ·cases e1
    exact .inr ⟨_, _, cur, J, Nat.le_trans hbase g4.size, e3⟩
  refine hturn3 _ _ G w' _ (hL2 _ _) hA4 ?_ XR ?_ q1 q2 q3 q4 (fun b hb _ => q5 b hb)
  ·intro b o hb
   rw [q5 b (hGlt b o hb)]
   exact g4.emb b o hb
  ·intro b hb
   subst hb
   refine ⟨?_, .inr (Nat.le_refl _)⟩
   cases hq : G w.heap.size with
   | none => rfl
   | some o => have := hGlt _ _ hq; omega
theorem src_pre (κ : Nat) {base e sz : Nat} {A : Option Addr} {n c m c' : Nat} {xs news : List Value} (hL : getH κ L = some (rowO base e sz A n c xs)) (hm : m ≤ n) (hn : xs.take (m * sz) = news) : ∀ w, SatW C ι L G w → SrcOk w sz (.slice A m c') m news := by
 intro w h
 obtain ⟨Ss, ho, _⟩ := h.own
 obtain ⟨S, ⟨q1, q2, q3, q4⟩, _⟩ := owns_split ho hL
 subst hn
 refine ⟨by rw [List.length_take, q1]; exact Nat.min_eq_left (Nat.mul_le_mul_right _ hm), A, c', J, ?_⟩
 rcases q4 with ⟨rfl, rfl, _⟩ | ⟨g, off, cur, rfl, _, hg, hfit, htake, _⟩
 ·exact .inl (by omega)
 ·refine .inr ⟨_, rfl, fun j u hj => cells_at hg htake j u ?_⟩
  rw [List.getElem?_take] at hj
  split at hj
  ·exact hj
  ·cases hj
end
end
section
attribute [local irreducible] X Pure Mod
theorem Cs_app {α : Type} {sz : Nat} {rep : α → List Value → Prop} {l l' : List α} {xs ys : List Value} (h : Cs sz rep l xs) (h' : Cs sz rep l' ys) : Cs sz rep (l ++ l') (xs ++ ys) := Cs_append2 h h'
def progV (v : Value) (G : PH) : Prop := ∃ p, PrgS G p v
def kG : Nat := 1 + 3 * kS + 1 + 12
theorem c_l2Progs (b : Nat) (l : List Int) (sv : Value) (N : Nat) (G : PH) (hl : Byts G l sv) (hN : N + kG ≤ 1000000000) : Drw 51 b sv [] N kG G progV := by
 obtain ⟨A, c, rfl, hl1, _⟩ := id hl
 have hkG : kG = 1 + 3 * kS + 1 + 12 := rfl
 refine Mod.intro Tryz.func51 Tryz.ntmps51 J J fun w S => ?_;refine Va J J ?_;refine S_callPr 1 7 Tryz.call44 (c_l2Prog b l _ _ G hl (by omega)) J J J J (fun _ => J) ?_;rintro v G3 A' B' ⟨rfl, A1, n1, c1, xs1, base1, rfl, rfl, p, rfl, hp1, hp3, hcs, hsh⟩ hext3
 refine S_newRow 7 J J ?_;refine S_capO 7 J fun hnc1 hcm1 _ => ?_;refine S_someO 7 J (by omega) fun gp offp eA => ?_
 subst eA
 refine Va J J ?_;refine S_callM 1 Tryz.call22 (c_pick b l _ _ _ _ (Byts_le hext3.le hl) ⟨by omega, by omega⟩ (by omega)) J J J J (fun _ => J) ?_;rintro v G2 A' ⟨rfl, rfl, m, rfl, hm0, hm1⟩ _
 refine Va J J ?_
 have hsh' : ∀ q ∈ p, Sh q := fun q hq => (hsh q hq).1
 have hxl := Cs_length hcs
 refine S_condp J (fun h0 => ?_) (fun h0 => ?_) <;> refine Va J J ?_
 ·have hx1 : ∀ u ∈ xs1, u.oneCell' = true := Cs_one stsRep_one hcs
  refine S_nilO (base := w.heap.size) (e := 40) (size := 1) 8 ?_
  refine S_appSplit Tk 7 8 J J J J J J J J J J J J J J (fun _ _ => J) (src_row 7 J) hx1 (by simp only; omega) (by simp only [maxLen]; omega) (Nat.le_refl _) (.inr (Nat.le_refl _)) (fun hroom => ?_) (fun hroom g8 c8 => ?_) <;> refine Va J J ?_
  ·refine S_appO Tk 7 J J J J J J J J J J J (fun _ _ => J) (src_pre 7 J (by omega) (by show List.take (p.length * 1) _ = _; rw [← hxl, List.take_left])) hx1 (by simp only; omega) (by simp only [maxLen]; omega) (Nat.le_refl _) fun A4 c4 => ?_
   refine Va J J ?_;refine S_freezeR 7 J J (Nat.le_refl _) fun G9 hext9 hnc9 hcm9 hcl9 => ?_
   have hP : Prg G9 ((p ++ p ++ p)) _ := frzL (newp_le _ _) (Cs_mono (fun _ _ _ h => stsRep_le hext9.le h) ((Cs_app (Cs_app hcs hcs) hcs))) (by simp <;> omega) (by omega) hnc9 hcm9 hcl9
   refine S_rdLe 1 (N + kG) (by omega) J J ?_;exact S_retm 1 (Res.t1 Tryz.results51 J J) J (hext3.trans hext9) ⟨J, p ++ p ++ p, by simpa using hP, by intro q hq; simp at hq; exact hsh' q hq, by simp; omega⟩
  ·refine S_appO Tk 8 J J J J J J J J J J J (fun _ _ => J) (src_row 7 J) hx1 (by simp only; omega) (by simp only [maxLen]; omega) (Nat.le_refl _) fun A4 c4 => ?_
   refine Va J J ?_;refine S_freezeR 8 J J (Nat.le_refl _) fun G9 hext9 hnc9 hcm9 hcl9 => ?_
   have hP : Prg G9 ((p ++ p ++ p)) _ := frzL (newp_le _ _) (Cs_mono (fun _ _ _ h => stsRep_le hext9.le h) ((Cs_app (Cs_app hcs hcs) hcs))) (by simp <;> omega) (by omega) hnc9 hcm9 hcl9
   refine S_rdLe 1 (N + kG) (by omega) J J ?_;exact S_retm 1 (Res.t1 Tryz.results51 J J) J (hext3.trans hext9) ⟨J, p ++ p ++ p, by simpa using hP, by intro q hq; simp at hq; exact hsh' q hq, by simp; omega⟩
 refine S_condp J (fun h1 => ?_) (fun h1 => ?_) <;> refine Va J J ?_
 ·refine S_emptyO Tk 8 J J J J fun A8 => ?_
  refine Va J J ?_;refine S_freezeR 8 J J (Nat.le_refl _) fun G9 hext9 hnc9 hcm9 hcl9 => ?_
  have hP : Prg G9 ([]) _ := frzL (newp_le _ _) (Cs_mono (fun _ _ _ h => stsRep_le hext9.le h) (rfl)) (by simp <;> omega) (by omega) hnc9 hcm9 hcl9
  refine S_rdLe 1 (N + kG) (by omega) J J ?_;exact S_retm 1 (Res.t1 Tryz.results51 J J) J (hext3.trans hext9) ⟨J, [], hP, by simp, by simp⟩
 refine S_condp J (fun h2 => ?_) (fun h2 => ?_) <;> refine Va J J ?_
 ·obtain ⟨pv0, e0, hv0, hset0⟩ := sts_at hcs (i := 0) (by omega)
  obtain ⟨Ap0, cp0, rfl, _⟩ := id hv0
  refine S_index Tk J J J J J J (by omega) (by omega) ?_;refine Va J J ?_;refine S_valV J J J (V_loadR' Tk 7 J J (by simp [add_lit']) J J e0) ?_;refine Va J J ?_;refine S_callM 1 Tryz.call47 (c_l2Bent b l _ _ _ _ _ (Byts_le hext3.le hl) hv0 (hsh' _ (List.getElem_mem _)) (by omega)) J J J J (fun _ => J) ?_;rintro v G11 A' ⟨rfl, l11, hv11, hs11⟩ hx11
  obtain ⟨Ap1, cp1, rfl, _⟩ := id hv11
  refine Va J J ?_;refine S_callM 1 Tryz.call47 (c_l2Bent b l _ _ _ _ _ (Byts_le (hext3.trans hx11).le hl) hv11 hs11 (by omega)) J J J J (fun _ => J) ?_;rintro v G12 A' ⟨rfl, l12, hv12, hs12⟩ hx12
  obtain ⟨Ap2, cp2, rfl, _⟩ := id hv12
  refine Va J J ?_;refine S_callM 1 Tryz.call47 (c_l2Bent b l _ _ _ _ _ (Byts_le ((hext3.trans hx11).trans hx12).le hl) hv12 hs12 (by omega)) J J J J (fun _ => J) ?_;rintro v G13 A' ⟨rfl, l13, hv13, hs13⟩ hx13
  obtain ⟨Ap3, cp3, rfl, _⟩ := id hv13
  refine Va J J ?_;refine S_callM 1 Tryz.call47 (c_l2Bent b l _ _ _ _ _ (Byts_le (((hext3.trans hx11).trans hx12).trans hx13).le hl) hv13 hs13 (by omega)) J J J J (fun _ => J) ?_;rintro v G14 A' ⟨rfl, l14, hv14, hs14⟩ hx14
  obtain ⟨Ap4, cp4, rfl, _⟩ := id hv14
  refine Va J J ?_;refine S_index Tk J J J J J J (by omega) (by omega) ?_;refine Va J J ?_;refine S_storeO Tk 7 (o := 0) J J J (by simp [add_lit']) J J J J J (by omega) J ?_;refine Va J J ?_
  have hxx := ((hx11.trans hx12).trans hx13).trans hx14
  have hcs14 := (sts_at (Cs_mono (fun _ _ _ h => stsRep_le hxx.le h) hcs) (i := 0) (by omega)).choose_spec.2.2 _ _ hv14
  have hsh14 : ∀ q ∈ List.set p 0 l14, Sh q := by
   intro q hq
   rcases List.mem_or_eq_of_mem_set hq with hq | rfl
   ·exact hsh' q hq
   ·exact hs14
  refine S_freezeR 7 J J (Nat.le_refl _) fun G9 hext9 hnc9 hcm9 hcl9 => ?_
  have hP : Prg G9 ((p.set 0 l14)) _ := frzL (newp_le _ _) (Cs_mono (fun _ _ _ h => stsRep_le hext9.le h) (hcs14)) (by simp <;> omega) (by omega) hnc9 hcm9 hcl9
  refine S_rdLe 1 (N + kG) (by omega) J J ?_;exact S_retm 1 (Res.t1 Tryz.results51 J J) J ((hext3.trans hxx).trans hext9) ⟨J, p.set 0 l14, by simpa using hP, hsh14, by simp; omega⟩
 ·refine S_freezeR 7 J J (Nat.le_refl _) fun G9 hext9 hnc9 hcm9 hcl9 => ?_
  have hP : Prg G9 (p) _ := frzL (newp_le _ _) (Cs_mono (fun _ _ _ h => stsRep_le hext9.le h) (hcs)) (by simp <;> omega) (by omega) hnc9 hcm9 hcl9
  refine S_rdLe 1 (N + kG) (by omega) J J ?_;exact S_retm 1 (Res.t1 Tryz.results51 J J) J (hext3.trans hext9) ⟨J, p, hP, hsh', by omega⟩
end
section
attribute [local irreducible] X Pure Mod
def ppV (v : Value) (G : PH) : Prop := ∃ p pv q qv, v = .tuple #[pv, qv] ∧ PrgS G p pv ∧ Ints G q qv ∧ q.length ≤ 201
theorem c_l3SomeK (K : Nat) (hK : K = kG) (b : Nat) (l : List Int) (sv : Value) (N : Nat) (G : PH) (hl : Byts G l sv) (hN : N + (K + 2000) ≤ 1000000000) : Drw 25 b sv [] N (K + 2000) G ppV := by
 have hP := c_l2Progs b l sv N G hl (by omega)
 rw [← hK] at hP
 clear hK
 obtain ⟨A, c, rfl, hl1, _⟩ := id hl
 refine Mod.intro Tryz.func25 Tryz.ntmps25 J J fun w S => ?_;refine Va J J ?_;refine S_callM 1 Tryz.call51 hP J J J J (fun _ => J) ?_;rintro v G2 A' ⟨rfl, p, hp⟩ hext2
 obtain ⟨Ap, cp, rfl, _⟩ := id hp.1
 refine Va J J ?_;refine S_callM 1 Tryz.call24 (c_l3Picks b l _ p _ (N + K) G2 (Byts_le hext2.le hl) hp (by omega)) J J J J (fun _ => J) ?_;rintro v3 G3 A3 ⟨rfl, q, hq, hq2⟩ hext3
 obtain ⟨Aq, cq, rfl, _⟩ := id hq
 refine Va J J ?_;refine S_rdLe 1 (N + (K + 2000)) (by omega) J J ?_;exact S_retm 1 (Res.t2 Tryz.results25 J J J J) J (hext2.trans hext3) ⟨J, p, _, q, _, J, PrgS_le hext3.le hp, hq, hq2⟩
theorem c_l3Some (b : Nat) (l : List Int) (sv : Value) (N : Nat) (G : PH) (hl : Byts G l sv) (hN : N + (kG + 2000) ≤ 1000000000) : Drw 25 b sv [] N (kG + 2000) G ppV := c_l3SomeK kG rfl b l sv N G hl hN
end
section
attribute [local irreducible] X Pure Mod
theorem Sr_take {α : Type} {G : PH} {sz : Nat} {rep : α → List Value → Prop} {l : List α} {A : Option Addr} {n c m : Nat} (h : Sr G sz rep l (.slice A n c)) (hm : m ≤ l.length) : Sr G sz rep (l.take m) (.slice (A.map (·.add 0)) m c) := by
  obtain ⟨A', c', e, h1, h2, h3, h4⟩ := h
  cases e
  refine ⟨_, _, by rw [List.length_take, Nat.min_eq_left hm], by rw [List.length_take]; omega, by rw [List.length_take]; omega, h3, ?_⟩
  rcases h4 with h4 | ⟨ad, rfl, h5⟩
  · left; rw [List.length_take]; omega
  · exact .inr ⟨ad, by simp [add_zero'], Rw_take m h5⟩
theorem Sh_take {l : List Stm} (h : Sh l) (m : Nat) : Sh (l.take m) := ⟨by rw [List.length_take]; have := h.1; omega, shL_iff.2 fun s hs => shL_iff.1 h.2 s (List.mem_of_mem_take hs)⟩
theorem Sts_one {G : PH} {b : Nat} {s : Stm} {cs : List Value} (hs : Stm.rep G s cs) (hle : G.le (G.add b (.cells cs.toArray 65 (0, 0)))) : Sts (G.add b (.cells cs.toArray 65 (0, 0))) [s] (.slice (some ⟨b, 0, none⟩) 1 1) := by
  have hg := gcells_add (G := G) (b := b) (ty := 65) (vs := cs) (pre := [])
  rw [List.nil_append] at hg
  exact Sx_Sr ⟨_, 1, J, by omega, Nat.le_refl _, by simp only [maxLen]; omega, by rw [Stm.rep_len hs], .inr ⟨_, rfl, hg⟩⟩ rfl ⟨cs, [], by simp, Stm.rep_len hs, Stm.rep_le hle s cs hs, rfl⟩
theorem one_len (L : List Stm) (d : Nat) : (oneL L d).length ≤ L.length := by
  cases d with
  | zero =>
    have : oneL L 0 = [] := by cases L <;> rfl
    rw [this]; exact Nat.zero_le _
  | succ d => rw [oneL_succ, List.length_map]; exact Nat.le_refl _
structure CS where
  i : Nat
  M : Nat
  A : Option Addr
  c : Nat
  xs : List Value
  ls : List (List Stm)
  G : PH
theorem c_l7ClashK (K : Nat) (b : Nat) (l : List Int) (sv : Value) (N : Nat) (G : PH) (hl : Byts G l sv) (hS : ∀ M G', Byts G' l sv → M + K ≤ 1000000000 → Drw 53 b sv [] M K G' someV) (hN : N + (2001 + 3 * (K + 3)) ≤ 1000000000) : Drw 26 b sv [] N (2001 + 3 * (K + 3)) G ppV := by
  obtain ⟨A, c, rfl, hl1, _⟩ := id hl
  refine Mod.intro Tryz.func26 Tryz.ntmps26 J J fun w S => ?_;refine Va J J ?_;refine S_emptyO Tk 4 J J J J fun A0 => ?_;refine Va J J ?_;refine S_callM 1 Tryz.call22 (c_pick b l _ _ N G hl ⟨by omega, by omega⟩ (by omega)) J J J J (fun _ => J) ?_;rintro v G2 A' ⟨rfl, rfl, m, rfl, hm0, hm1⟩ _
  refine Va J J ?_;refine S_add J J J J (by omega) ?_;refine Va J J ?_;obtain ⟨m, rfl⟩ := Int.eq_ofNat_of_zero_le hm0
  have hm2 : m ≤ 1 := by omega
  have hl0 := hl
  refine S_loop (α := CS) (fun y => y.i + y.ls.length ≤ 3 ∧ y.M + y.i * (K + 3) + 2000 ≤ N + (2001 + 3 * (K + 3)) ∧ PH.ext w.heap.size G2 y.G ∧ Cs 1 (stsRep y.G) y.ls y.xs ∧ ∀ q ∈ y.ls, Sh q) (fun y => y.i) []
    (fun y => [(5, .val (.int .i64 (y.i : Nat))), (4, .val (.slice y.A y.ls.length y.c)), (0, .val (.pointer (some ⟨b, 0, none⟩)))])
    (fun y => [.hp 4 (rowO w.heap.size 40 1 y.A y.ls.length y.c y.xs), .hp 1 (rdHP b (.slice A l.length c) y.M)]) (fun y => y.G) ⟨2 + m, N + 1, A0, 0, [], [], G2⟩ ⟨by simp only [List.length_nil]; omega, ?_, PH.ext.refl _ _, rfl, by simp⟩ rfl ?_ ?_ ?_
  · have := Nat.mul_le_mul_right (K + 3) (show 2 + m ≤ 3 by omega)
    simp only
    omega
  · exact ⟨⟨_, J, by simp [denO]⟩, ⟨_, J, J⟩, ⟨_, J, J⟩, trivial⟩
  · exact .hp (.hp .nil)
  rintro ⟨i, M, A1, c1, xs, ls, G1⟩ ⟨hi, hM, hext, hcs, hsh⟩
  simp only at hi hM hext hcs hsh ⊢
  refine Va J J ?_
  refine S_condp J (fun h => ?_) (fun h => ?_) <;> refine Va J J ?_
  · obtain ⟨j, rfl⟩ : ∃ j, i = j + 1 := ⟨i - 1, by omega⟩
    have hM' : M + (K + 3) + 2000 ≤ N + (2001 + 3 * (K + 3)) := by rw [Nat.succ_mul] at hM; omega
    refine S_sliceG Tk ZT_ok J J J J (by decide) (by decide) J J J J (fun _ => J) fun bq Gq hxq hcq => ?_;refine Va J J ?_;refine S_callM 1 Tryz.call46 (c_numL b [4, 3, 1] (Byts_le (hext.trans hxq).le hl) hcq J (Nat.le_refl _) (by decide) (by decide) (i64_small (by decide)) (by omega)) J J J J (fun _ => J) ?_;rintro v G' A' ⟨rfl, rfl, kk, hmem, rfl⟩ _
    have hik : I64 kk := i64_small (l := [4, 3, 1]) (by decide) kk hmem
    refine Va J J ?_;refine S_sliceB Tk ZT_ok J J J J (by decide) (by decide) J J J J fun b20 hb20 => ?_;refine Va J J ?_;refine S_callM 1 Tryz.call53 (hS (M + 1) _ (Byts_le (hext.trans hxq).le hl) (by omega)) J J J J (fun _ => J) ?_;rintro v G3 A' ⟨rfl, ls0, hst0, hsh0, hok0⟩ hext3
    obtain ⟨As, cs0, rfl, _⟩ := id hst0
    refine Va J J ?_;refine S_call Tryz.call52 (On_all ls0 3 _ _ hst0 (by omega)) J J J ?_;rintro v4 G4 hst4 hext4
    have hsh4 := one_sh 3 ls0 hsh0
    have hl14 := Nat.le_trans (one_len ls0 3) (Nat.le_trans (len_mx ls0) (mx_ok hok0 hsh0))
    generalize oneL ls0 3 = L1 at hst4 hsh4 hl14
    obtain ⟨A4, c4, xs4, e4, hxl4, hxg4, hcs4⟩ := sts_cells hst4
    subst e4
    have hl4 := hsh4.1
    refine Va J J ?_;refine S_blkO 20 70 (base := w.heap.size) (n := 1) (c := 1) (o := 0) (sz := 6) J J J J (.inl hb20) J J (Nat.le_refl _) (by simp [maxLen]) (Nat.le_refl _) ?_;refine S_nilO (base := w.heap.size) (e := 65) (size := 6) 71 ?_
    have i0 : I64 0 := ⟨by omega, by omega⟩
    have hs0 : ∀ H : PH, Cs 6 (Stm.rep H) [Stm.mk kk 0 0 0 [] []] [.int .i64 kk, .int .i64 0, .int .i64 0, .int .i64 0, .slice none 0 0, .slice none 0 0] := fun H => ⟨_, [], rfl, rfl, Stm.rep_iff.2 ⟨_, _, rfl, hik, i0, i0, i0, Sr_nil rfl, Sr_nil rfl⟩, rfl⟩
    have hshs : Sh [Stm.mk kk 0 0 0 [] []] := ⟨by simp, Stm.short_mk.2 ⟨Sh_nil, Sh_nil⟩, trivial⟩
    have hext34 := (hxq.trans hext3).trans hext4
    refine S_appSplit Tk 70 71 J J J J J J J J J J J J J J (fun _ _ => J) (src_G hxl4 hxg4) (Cs_one Stm.rep_one hcs4) (by simp only; omega) (by simp only [maxLen]; omega) (Nat.le_refl _) (.inr (Nat.le_refl _)) (fun hroom => ?_) (fun hroom g7 c7 => ?_) <;> refine Va J J ?_
    · obtain rfl : L1 = [] := List.eq_nil_of_length_eq_zero (by omega)
      obtain rfl : xs4 = [] := hcs4
      refine S_freezeR 70 J J (Nat.le_refl _) fun G5 hext5 hnc5 hcm5 hcl5 => ?_
      have hvm : Sts G5 [Stm.mk kk 0 0 0 [] []] (.slice (some ⟨b20, 0, none⟩) (1 + 0) 1) := frz (hs0 _) rfl (by omega) hnc5 hcm5 hcl5
      refine S_call Tryz.call32 (c_StmtsOk _ _ _ hvm) J J J ?_;rintro v6 G6 ⟨rfl, rfl⟩ _
      refine Va J J ?_
      refine S_cond J (fun hok => ?_) (fun hok => ?_) <;> refine Va J J ?_
      · refine S_callM 1 Tryz.call22 (c_pick b l _ _ _ _ (Byts_le (hext.trans ((hext34.trans hext5))).le hl0) ⟨by omega, by omega⟩ (by omega)) J J J J (fun _ => J) ?_
        rintro v Gp A' ⟨rfl, rfl, m9, rfl, hm90, hm91⟩ _
        refine Va J J ?_
        refine S_condp J (fun h9 => ?_) (fun h9 => ?_) <;> refine Va J J ?_
        · have hcur := hvm
          refine D_startK [6] (by exact MO) J J J (by kernel_rfl) ?_;refine Da J J ?_
          repeat' (first
            | exact trivial
            | (refine D_sole 6 J J (N_assign Tk 6 J J J J J J J J J (by kernel_rfl) ?_))
            | refine D_list J ?_
            | refine And.intro ?_ ?_
            | (refine N_turn Tk _ J J J J fun back => ?_
               first
                 | (refine S_callM 1 Tryz.call22 (c_pick b l _ _ _ _ (Byts_le (hext.trans ((hext34.trans hext5))).le hl0) ⟨by omega, by omega⟩ (by omega)) J J J J (fun _ => J) ?_
                    rintro v Gz A' ⟨rfl, rfl, ma, rfl, hma0, hma1⟩ _)
                 | refine S_valV J J J (V_sliceHi (m := 1) Tk J J J (by omega) (by omega) (by omega)) ?_
                 | refine S_sliceB Tk ZT_ok J J J J (by decide) (by decide) J J J J fun b37 hb37 => ?_
               refine back _ _ _ _ (by kernel_rfl) ?_
               clear back
               refine Da J J ?_)
            | fail)
          all_goals (refine DD ?_)
          all_goals refine S_adv Tk rfl 1000 rfl ?_
          all_goals (refine S_keepB 37 rfl rfl rfl rfl hb37 fun hextk => ?_)
          all_goals (have hwr : Stm.rep _ (.mk 8 ma 0 0 (List.take 1 ([Stm.mk kk 0 0 0 [] []])) []) _ := Stm.rep_iff.2 ⟨_, _, rfl, ⟨by omega, by omega⟩, ⟨by omega, by omega⟩, ⟨by omega, by omega⟩, ⟨by omega, by omega⟩, Sr_take hcur (by simp), Sr_nil rfl⟩)
          · refine S_slice Tk ZT_ok J J J J (by decide) (by decide) J J J J fun b40 => ?_
            refine Va J J ?_;refine S_app1 Tk 4 40 J J J J J J J J J J J J J J (by intro u hu; simp at hu; rcases hu with rfl; rfl) rfl (fun _ _ => rfl) (by omega) (Nat.le_refl _) fun A6 c6 => ?_;refine Va J J ?_;refine S_subI J J J J (by omega) ?_;refine Va J J ?_;refine S_pick [4, 1] J ?_;refine S_rdLe 1 (M + (K + 3)) (by omega) J J ?_;refine S_again ⟨j, M + (K + 3), A6, c6, _, ls ++ [[.mk 8 ma 0 0 (List.take 1 ([Stm.mk kk 0 0 0 [] []])) []]], _⟩ ⟨by simp only [List.length_append, List.length_singleton]; omega, by simp only; rw [Nat.succ_mul] at hM; omega, hext.trans ((PH.ext.trans ((hext34.trans hext5)) hextk)), Cs_append (Cs_mono (fun _ _ _ h => stsRep_le (PH.ext.le ((PH.ext.trans ((hext34.trans hext5)) hextk))) h) hcs) ⟨_, rfl, (Sts_one hwr hextk.le)⟩ rfl, ?_⟩ (by simp only; omega) rfl ⟨⟨_, rfl, by simp [denO]⟩, ⟨_, rfl, by simp [denO]⟩, ⟨_, rfl, rfl⟩, trivial⟩ ?_
            · intro q hq
              rcases List.mem_append.1 hq with hq | hq
              · exact hsh q hq
              · rw [List.mem_singleton.1 hq]; exact ⟨by simp, Stm.short_mk.2 ⟨Sh_take (hshs) 1, Sh_nil⟩, trivial⟩
            · simp only [List.length_append, List.length_singleton]
              exact .hp (.hp .nil)
          · refine S_slice Tk ZT_ok J J J J (by decide) (by decide) J J J J fun b40 => ?_
            refine Va J J ?_;refine S_app1 Tk 4 40 J J J J J J J J J J J J J J (by intro u hu; simp at hu; rcases hu with rfl; rfl) rfl (fun _ _ => rfl) (by omega) (Nat.le_refl _) fun A6 c6 => ?_;refine Va J J ?_;refine S_subI J J J J (by omega) ?_;refine Va J J ?_;refine S_pick [4, 1] J ?_;refine S_rdLe 1 (M + (K + 3)) (by omega) J J ?_;refine S_again ⟨j, M + (K + 3), A6, c6, _, ls ++ [[.mk 8 ma 0 0 (List.take 1 ([Stm.mk kk 0 0 0 [] []])) []]], _⟩ ⟨by simp only [List.length_append, List.length_singleton]; omega, by simp only; rw [Nat.succ_mul] at hM; omega, hext.trans ((PH.ext.trans ((hext34.trans hext5)) hextk)), Cs_append (Cs_mono (fun _ _ _ h => stsRep_le (PH.ext.le ((PH.ext.trans ((hext34.trans hext5)) hextk))) h) hcs) ⟨_, rfl, (Sts_one hwr hextk.le)⟩ rfl, ?_⟩ (by simp only; omega) rfl ⟨⟨_, rfl, by simp [denO]⟩, ⟨_, rfl, by simp [denO]⟩, ⟨_, rfl, rfl⟩, trivial⟩ ?_
            · intro q hq
              rcases List.mem_append.1 hq with hq | hq
              · exact hsh q hq
              · rw [List.mem_singleton.1 hq]; exact ⟨by simp, Stm.short_mk.2 ⟨Sh_take (hshs) 1, Sh_nil⟩, trivial⟩
            · simp only [List.length_append, List.length_singleton]
              exact .hp (.hp .nil)
        · refine S_slice Tk ZT_ok J J J J (by decide) (by decide) J J J J fun b40 => ?_
          refine Va J J ?_;refine S_app1 Tk 4 40 J J J J J J J J J J J J J J (by intro u hu; simp at hu; rcases hu with rfl; rfl) rfl (fun _ _ => rfl) (by omega) (Nat.le_refl _) fun A6 c6 => ?_;refine Va J J ?_;refine S_subI J J J J (by omega) ?_;refine Va J J ?_;refine S_pick [4, 1] J ?_;refine S_rdLe 1 (M + (K + 3)) (by omega) J J ?_;refine S_again ⟨j, M + (K + 3), A6, c6, _, ls ++ [([Stm.mk kk 0 0 0 [] []])], _⟩ ⟨by simp only [List.length_append, List.length_singleton]; omega, by simp only; rw [Nat.succ_mul] at hM; omega, hext.trans (((hext34.trans hext5))), Cs_append (Cs_mono (fun _ _ _ h => stsRep_le (PH.ext.le (((hext34.trans hext5)))) h) hcs) ⟨_, rfl, (hvm)⟩ rfl, ?_⟩ (by simp only; omega) rfl ⟨⟨_, rfl, by simp [denO]⟩, ⟨_, rfl, by simp [denO]⟩, ⟨_, rfl, rfl⟩, trivial⟩ ?_
          · intro q hq
            rcases List.mem_append.1 hq with hq | hq
            · exact hsh q hq
            · rw [List.mem_singleton.1 hq]; exact (hshs)
          · simp only [List.length_append, List.length_singleton]
            exact .hp (.hp .nil)
      · refine S_reE 6 (.val (.slice (some ⟨b20, 0, none⟩) 1 1)) J J ?_
        refine S_callM 1 Tryz.call22 (c_pick b l _ _ _ _ (Byts_le (hext.trans ((hext34.trans hext5))).le hl0) ⟨by omega, by omega⟩ (by omega)) J J J J (fun _ => J) ?_;rintro v Gp A' ⟨rfl, rfl, m9, rfl, hm90, hm91⟩ _
        refine Va J J ?_
        refine S_condp J (fun h9 => ?_) (fun h9 => ?_) <;> refine Va J J ?_
        · have hcur := hvm
          refine D_startK [6] (by exact MO) J J J (by kernel_rfl) ?_;refine Da J J ?_
          repeat' (first
            | exact trivial
            | (refine D_sole 6 J J (N_assign Tk 6 J J J J J J J J J (by kernel_rfl) ?_))
            | refine D_list J ?_
            | refine And.intro ?_ ?_
            | (refine N_turn Tk _ J J J J fun back => ?_
               first
                 | (refine S_callM 1 Tryz.call22 (c_pick b l _ _ _ _ (Byts_le (hext.trans ((hext34.trans hext5))).le hl0) ⟨by omega, by omega⟩ (by omega)) J J J J (fun _ => J) ?_
                    rintro v Gz A' ⟨rfl, rfl, ma, rfl, hma0, hma1⟩ _)
                 | refine S_valV J J J (V_sliceHi (m := 1) Tk J J J (by omega) (by omega) (by omega)) ?_
                 | refine S_sliceB Tk ZT_ok J J J J (by decide) (by decide) J J J J fun b37 hb37 => ?_
               refine back _ _ _ _ (by kernel_rfl) ?_
               clear back
               refine Da J J ?_)
            | fail)
          all_goals (refine DD ?_)
          all_goals refine S_adv Tk rfl 1000 rfl ?_
          all_goals (refine S_keepB 37 rfl rfl rfl rfl hb37 fun hextk => ?_)
          all_goals (have hwr : Stm.rep _ (.mk 8 ma 0 0 (List.take 1 ([Stm.mk kk 0 0 0 [] []])) []) _ := Stm.rep_iff.2 ⟨_, _, rfl, ⟨by omega, by omega⟩, ⟨by omega, by omega⟩, ⟨by omega, by omega⟩, ⟨by omega, by omega⟩, Sr_take hcur (by simp), Sr_nil rfl⟩)
          · refine S_slice Tk ZT_ok J J J J (by decide) (by decide) J J J J fun b40 => ?_
            refine Va J J ?_;refine S_app1 Tk 4 40 J J J J J J J J J J J J J J (by intro u hu; simp at hu; rcases hu with rfl; rfl) rfl (fun _ _ => rfl) (by omega) (Nat.le_refl _) fun A6 c6 => ?_;refine Va J J ?_;refine S_subI J J J J (by omega) ?_;refine Va J J ?_;refine S_pick [4, 1] J ?_;refine S_rdLe 1 (M + (K + 3)) (by omega) J J ?_;refine S_again ⟨j, M + (K + 3), A6, c6, _, ls ++ [[.mk 8 ma 0 0 (List.take 1 ([Stm.mk kk 0 0 0 [] []])) []]], _⟩ ⟨by simp only [List.length_append, List.length_singleton]; omega, by simp only; rw [Nat.succ_mul] at hM; omega, hext.trans ((PH.ext.trans ((hext34.trans hext5)) hextk)), Cs_append (Cs_mono (fun _ _ _ h => stsRep_le (PH.ext.le ((PH.ext.trans ((hext34.trans hext5)) hextk))) h) hcs) ⟨_, rfl, (Sts_one hwr hextk.le)⟩ rfl, ?_⟩ (by simp only; omega) rfl ⟨⟨_, rfl, by simp [denO]⟩, ⟨_, rfl, by simp [denO]⟩, ⟨_, rfl, rfl⟩, trivial⟩ ?_
            · intro q hq
              rcases List.mem_append.1 hq with hq | hq
              · exact hsh q hq
              · rw [List.mem_singleton.1 hq]; exact ⟨by simp, Stm.short_mk.2 ⟨Sh_take (hshs) 1, Sh_nil⟩, trivial⟩
            · simp only [List.length_append, List.length_singleton]
              exact .hp (.hp .nil)
          · refine S_slice Tk ZT_ok J J J J (by decide) (by decide) J J J J fun b40 => ?_
            refine Va J J ?_;refine S_app1 Tk 4 40 J J J J J J J J J J J J J J (by intro u hu; simp at hu; rcases hu with rfl; rfl) rfl (fun _ _ => rfl) (by omega) (Nat.le_refl _) fun A6 c6 => ?_;refine Va J J ?_;refine S_subI J J J J (by omega) ?_;refine Va J J ?_;refine S_pick [4, 1] J ?_;refine S_rdLe 1 (M + (K + 3)) (by omega) J J ?_;refine S_again ⟨j, M + (K + 3), A6, c6, _, ls ++ [[.mk 8 ma 0 0 (List.take 1 ([Stm.mk kk 0 0 0 [] []])) []]], _⟩ ⟨by simp only [List.length_append, List.length_singleton]; omega, by simp only; rw [Nat.succ_mul] at hM; omega, hext.trans ((PH.ext.trans ((hext34.trans hext5)) hextk)), Cs_append (Cs_mono (fun _ _ _ h => stsRep_le (PH.ext.le ((PH.ext.trans ((hext34.trans hext5)) hextk))) h) hcs) ⟨_, rfl, (Sts_one hwr hextk.le)⟩ rfl, ?_⟩ (by simp only; omega) rfl ⟨⟨_, rfl, by simp [denO]⟩, ⟨_, rfl, by simp [denO]⟩, ⟨_, rfl, rfl⟩, trivial⟩ ?_
            · intro q hq
              rcases List.mem_append.1 hq with hq | hq
              · exact hsh q hq
              · rw [List.mem_singleton.1 hq]; exact ⟨by simp, Stm.short_mk.2 ⟨Sh_take (hshs) 1, Sh_nil⟩, trivial⟩
            · simp only [List.length_append, List.length_singleton]
              exact .hp (.hp .nil)
        · refine S_slice Tk ZT_ok J J J J (by decide) (by decide) J J J J fun b40 => ?_
          refine Va J J ?_;refine S_app1 Tk 4 40 J J J J J J J J J J J J J J (by intro u hu; simp at hu; rcases hu with rfl; rfl) rfl (fun _ _ => rfl) (by omega) (Nat.le_refl _) fun A6 c6 => ?_;refine Va J J ?_;refine S_subI J J J J (by omega) ?_;refine Va J J ?_;refine S_pick [4, 1] J ?_;refine S_rdLe 1 (M + (K + 3)) (by omega) J J ?_;refine S_again ⟨j, M + (K + 3), A6, c6, _, ls ++ [([Stm.mk kk 0 0 0 [] []])], _⟩ ⟨by simp only [List.length_append, List.length_singleton]; omega, by simp only; rw [Nat.succ_mul] at hM; omega, hext.trans (((hext34.trans hext5))), Cs_append (Cs_mono (fun _ _ _ h => stsRep_le (PH.ext.le (((hext34.trans hext5)))) h) hcs) ⟨_, rfl, (hvm)⟩ rfl, ?_⟩ (by simp only; omega) rfl ⟨⟨_, rfl, by simp [denO]⟩, ⟨_, rfl, by simp [denO]⟩, ⟨_, rfl, rfl⟩, trivial⟩ ?_
          · intro q hq
            rcases List.mem_append.1 hq with hq | hq
            · exact hsh q hq
            · rw [List.mem_singleton.1 hq]; exact (hshs)
          · simp only [List.length_append, List.length_singleton]
            exact .hp (.hp .nil)
    · refine S_freezeR 70 J J (Nat.le_refl _) fun G5 hext5 hnc5 hcm5 hcl5 => ?_
      have hv1 : Sts G5 [Stm.mk kk 0 0 0 [] []] (.slice (some ⟨b20, 0, none⟩) 1 1) := frz (hs0 _) rfl (by omega) hnc5 hcm5 hcl5
      refine S_freezeR 71 J J (Nat.le_refl _) fun G6 hext6 hnc6 hcm6 hcl6 => ?_
      have hvm : Sts G6 ([Stm.mk kk 0 0 0 [] []] ++ L1) (.slice (some ⟨g7, 0, none⟩) (1 + L1.length) c7) := frz (Cs_append2 (hs0 _) (Cs_mono (Stm.reps_le (hext5.trans hext6).le L1) hcs4)) (by simp; omega) (by omega) hnc6 hcm6 hcl6
      have hshm : Sh ([Stm.mk kk 0 0 0 [] []] ++ L1) := ⟨by simp; omega, shL_append.2 ⟨hshs.2, hsh4.2⟩⟩
      have hv1' := Sts_le hext6.le hv1
      refine S_call Tryz.call32 (c_StmtsOk _ _ _ hvm) J J J ?_;rintro v7 G7 ⟨rfl, rfl⟩ _
      refine Va J J ?_
      refine S_cond J (fun hok => ?_) (fun hok => ?_) <;> refine Va J J ?_
      · refine S_callM 1 Tryz.call22 (c_pick b l _ _ _ _ (Byts_le (hext.trans (((hext34.trans hext5).trans hext6))).le hl0) ⟨by omega, by omega⟩ (by omega)) J J J J (fun _ => J) ?_
        rintro v Gp A' ⟨rfl, rfl, m9, rfl, hm90, hm91⟩ _
        refine Va J J ?_
        refine S_condp J (fun h9 => ?_) (fun h9 => ?_) <;> refine Va J J ?_
        · have hcur := hvm
          refine D_startK [6] (by exact MO) J J J (by kernel_rfl) ?_;refine Da J J ?_
          repeat' (first
            | exact trivial
            | (refine D_sole 6 J J (N_assign Tk 6 J J J J J J J J J (by kernel_rfl) ?_))
            | refine D_list J ?_
            | refine And.intro ?_ ?_
            | (refine N_turn Tk _ J J J J fun back => ?_
               first
                 | (refine S_callM 1 Tryz.call22 (c_pick b l _ _ _ _ (Byts_le (hext.trans (((hext34.trans hext5).trans hext6))).le hl0) ⟨by omega, by omega⟩ (by omega)) J J J J (fun _ => J) ?_
                    rintro v Gz A' ⟨rfl, rfl, ma, rfl, hma0, hma1⟩ _)
                 | refine S_valV J J J (V_sliceHi (m := 1) Tk J J J (by omega) (by omega) (by omega)) ?_
                 | refine S_sliceB Tk ZT_ok J J J J (by decide) (by decide) J J J J fun b37 hb37 => ?_
               refine back _ _ _ _ (by kernel_rfl) ?_
               clear back
               refine Da J J ?_)
            | fail)
          all_goals (refine DD ?_)
          all_goals refine S_adv Tk rfl 1000 rfl ?_
          all_goals (refine S_keepB 37 rfl rfl rfl rfl hb37 fun hextk => ?_)
          all_goals (have hwr : Stm.rep _ (.mk 8 ma 0 0 (List.take 1 (([Stm.mk kk 0 0 0 [] []] ++ L1))) []) _ := Stm.rep_iff.2 ⟨_, _, rfl, ⟨by omega, by omega⟩, ⟨by omega, by omega⟩, ⟨by omega, by omega⟩, ⟨by omega, by omega⟩, Sr_take hcur (by simp), Sr_nil rfl⟩)
          · refine S_slice Tk ZT_ok J J J J (by decide) (by decide) J J J J fun b40 => ?_
            refine Va J J ?_;refine S_app1 Tk 4 40 J J J J J J J J J J J J J J (by intro u hu; simp at hu; rcases hu with rfl; rfl) rfl (fun _ _ => rfl) (by omega) (Nat.le_refl _) fun A6 c6 => ?_;refine Va J J ?_;refine S_subI J J J J (by omega) ?_;refine Va J J ?_;refine S_pick [4, 1] J ?_;refine S_rdLe 1 (M + (K + 3)) (by omega) J J ?_;refine S_again ⟨j, M + (K + 3), A6, c6, _, ls ++ [[.mk 8 ma 0 0 (List.take 1 (([Stm.mk kk 0 0 0 [] []] ++ L1))) []]], _⟩ ⟨by simp only [List.length_append, List.length_singleton]; omega, by simp only; rw [Nat.succ_mul] at hM; omega, hext.trans ((PH.ext.trans (((hext34.trans hext5).trans hext6)) hextk)), Cs_append (Cs_mono (fun _ _ _ h => stsRep_le (PH.ext.le ((PH.ext.trans (((hext34.trans hext5).trans hext6)) hextk))) h) hcs) ⟨_, rfl, (Sts_one hwr hextk.le)⟩ rfl, ?_⟩ (by simp only; omega) rfl ⟨⟨_, rfl, by simp [denO]⟩, ⟨_, rfl, by simp [denO]⟩, ⟨_, rfl, rfl⟩, trivial⟩ ?_
            · intro q hq
              rcases List.mem_append.1 hq with hq | hq
              · exact hsh q hq
              · rw [List.mem_singleton.1 hq]; exact ⟨by simp, Stm.short_mk.2 ⟨Sh_take (hshm) 1, Sh_nil⟩, trivial⟩
            · simp only [List.length_append, List.length_singleton]
              exact .hp (.hp .nil)
          · refine S_slice Tk ZT_ok J J J J (by decide) (by decide) J J J J fun b40 => ?_
            refine Va J J ?_;refine S_app1 Tk 4 40 J J J J J J J J J J J J J J (by intro u hu; simp at hu; rcases hu with rfl; rfl) rfl (fun _ _ => rfl) (by omega) (Nat.le_refl _) fun A6 c6 => ?_;refine Va J J ?_;refine S_subI J J J J (by omega) ?_;refine Va J J ?_;refine S_pick [4, 1] J ?_;refine S_rdLe 1 (M + (K + 3)) (by omega) J J ?_;refine S_again ⟨j, M + (K + 3), A6, c6, _, ls ++ [[.mk 8 ma 0 0 (List.take 1 (([Stm.mk kk 0 0 0 [] []] ++ L1))) []]], _⟩ ⟨by simp only [List.length_append, List.length_singleton]; omega, by simp only; rw [Nat.succ_mul] at hM; omega, hext.trans ((PH.ext.trans (((hext34.trans hext5).trans hext6)) hextk)), Cs_append (Cs_mono (fun _ _ _ h => stsRep_le (PH.ext.le ((PH.ext.trans (((hext34.trans hext5).trans hext6)) hextk))) h) hcs) ⟨_, rfl, (Sts_one hwr hextk.le)⟩ rfl, ?_⟩ (by simp only; omega) rfl ⟨⟨_, rfl, by simp [denO]⟩, ⟨_, rfl, by simp [denO]⟩, ⟨_, rfl, rfl⟩, trivial⟩ ?_
            · intro q hq
              rcases List.mem_append.1 hq with hq | hq
              · exact hsh q hq
              · rw [List.mem_singleton.1 hq]; exact ⟨by simp, Stm.short_mk.2 ⟨Sh_take (hshm) 1, Sh_nil⟩, trivial⟩
            · simp only [List.length_append, List.length_singleton]
              exact .hp (.hp .nil)
        · refine S_slice Tk ZT_ok J J J J (by decide) (by decide) J J J J fun b40 => ?_
          refine Va J J ?_;refine S_app1 Tk 4 40 J J J J J J J J J J J J J J (by intro u hu; simp at hu; rcases hu with rfl; rfl) rfl (fun _ _ => rfl) (by omega) (Nat.le_refl _) fun A6 c6 => ?_;refine Va J J ?_;refine S_subI J J J J (by omega) ?_;refine Va J J ?_;refine S_pick [4, 1] J ?_;refine S_rdLe 1 (M + (K + 3)) (by omega) J J ?_;refine S_again ⟨j, M + (K + 3), A6, c6, _, ls ++ [(([Stm.mk kk 0 0 0 [] []] ++ L1))], _⟩ ⟨by simp only [List.length_append, List.length_singleton]; omega, by simp only; rw [Nat.succ_mul] at hM; omega, hext.trans ((((hext34.trans hext5).trans hext6))), Cs_append (Cs_mono (fun _ _ _ h => stsRep_le (PH.ext.le ((((hext34.trans hext5).trans hext6)))) h) hcs) ⟨_, rfl, (hvm)⟩ rfl, ?_⟩ (by simp only; omega) rfl ⟨⟨_, rfl, by simp [denO]⟩, ⟨_, rfl, by simp [denO]⟩, ⟨_, rfl, rfl⟩, trivial⟩ ?_
          · intro q hq
            rcases List.mem_append.1 hq with hq | hq
            · exact hsh q hq
            · rw [List.mem_singleton.1 hq]; exact (hshm)
          · simp only [List.length_append, List.length_singleton]
            exact .hp (.hp .nil)
      · refine S_reE 6 (.val (.slice (some ⟨b20, 0, none⟩) 1 1)) J J ?_
        refine S_callM 1 Tryz.call22 (c_pick b l _ _ _ _ (Byts_le (hext.trans (((hext34.trans hext5).trans hext6))).le hl0) ⟨by omega, by omega⟩ (by omega)) J J J J (fun _ => J) ?_;rintro v Gp A' ⟨rfl, rfl, m9, rfl, hm90, hm91⟩ _
        refine Va J J ?_
        refine S_condp J (fun h9 => ?_) (fun h9 => ?_) <;> refine Va J J ?_
        · have hcur := hv1'
          refine D_startK [6] (by exact MO) J J J (by kernel_rfl) ?_;refine Da J J ?_
          repeat' (first
            | exact trivial
            | (refine D_sole 6 J J (N_assign Tk 6 J J J J J J J J J (by kernel_rfl) ?_))
            | refine D_list J ?_
            | refine And.intro ?_ ?_
            | (refine N_turn Tk _ J J J J fun back => ?_
               first
                 | (refine S_callM 1 Tryz.call22 (c_pick b l _ _ _ _ (Byts_le (hext.trans (((hext34.trans hext5).trans hext6))).le hl0) ⟨by omega, by omega⟩ (by omega)) J J J J (fun _ => J) ?_
                    rintro v Gz A' ⟨rfl, rfl, ma, rfl, hma0, hma1⟩ _)
                 | refine S_valV J J J (V_sliceHi (m := 1) Tk J J J (by omega) (by omega) (by omega)) ?_
                 | refine S_sliceB Tk ZT_ok J J J J (by decide) (by decide) J J J J fun b37 hb37 => ?_
               refine back _ _ _ _ (by kernel_rfl) ?_
               clear back
               refine Da J J ?_)
            | fail)
          all_goals (refine DD ?_)
          all_goals refine S_adv Tk rfl 1000 rfl ?_
          all_goals (refine S_keepB 37 rfl rfl rfl rfl hb37 fun hextk => ?_)
          all_goals (have hwr : Stm.rep _ (.mk 8 ma 0 0 (List.take 1 ([Stm.mk kk 0 0 0 [] []])) []) _ := Stm.rep_iff.2 ⟨_, _, rfl, ⟨by omega, by omega⟩, ⟨by omega, by omega⟩, ⟨by omega, by omega⟩, ⟨by omega, by omega⟩, Sr_take hcur (by simp), Sr_nil rfl⟩)
          · refine S_slice Tk ZT_ok J J J J (by decide) (by decide) J J J J fun b40 => ?_
            refine Va J J ?_;refine S_app1 Tk 4 40 J J J J J J J J J J J J J J (by intro u hu; simp at hu; rcases hu with rfl; rfl) rfl (fun _ _ => rfl) (by omega) (Nat.le_refl _) fun A6 c6 => ?_;refine Va J J ?_;refine S_subI J J J J (by omega) ?_;refine Va J J ?_;refine S_pick [4, 1] J ?_;refine S_rdLe 1 (M + (K + 3)) (by omega) J J ?_;refine S_again ⟨j, M + (K + 3), A6, c6, _, ls ++ [[.mk 8 ma 0 0 (List.take 1 ([Stm.mk kk 0 0 0 [] []])) []]], _⟩ ⟨by simp only [List.length_append, List.length_singleton]; omega, by simp only; rw [Nat.succ_mul] at hM; omega, hext.trans ((PH.ext.trans (((hext34.trans hext5).trans hext6)) hextk)), Cs_append (Cs_mono (fun _ _ _ h => stsRep_le (PH.ext.le ((PH.ext.trans (((hext34.trans hext5).trans hext6)) hextk))) h) hcs) ⟨_, rfl, (Sts_one hwr hextk.le)⟩ rfl, ?_⟩ (by simp only; omega) rfl ⟨⟨_, rfl, by simp [denO]⟩, ⟨_, rfl, by simp [denO]⟩, ⟨_, rfl, rfl⟩, trivial⟩ ?_
            · intro q hq
              rcases List.mem_append.1 hq with hq | hq
              · exact hsh q hq
              · rw [List.mem_singleton.1 hq]; exact ⟨by simp, Stm.short_mk.2 ⟨Sh_take (hshs) 1, Sh_nil⟩, trivial⟩
            · simp only [List.length_append, List.length_singleton]
              exact .hp (.hp .nil)
          · refine S_slice Tk ZT_ok J J J J (by decide) (by decide) J J J J fun b40 => ?_
            refine Va J J ?_;refine S_app1 Tk 4 40 J J J J J J J J J J J J J J (by intro u hu; simp at hu; rcases hu with rfl; rfl) rfl (fun _ _ => rfl) (by omega) (Nat.le_refl _) fun A6 c6 => ?_;refine Va J J ?_;refine S_subI J J J J (by omega) ?_;refine Va J J ?_;refine S_pick [4, 1] J ?_;refine S_rdLe 1 (M + (K + 3)) (by omega) J J ?_;refine S_again ⟨j, M + (K + 3), A6, c6, _, ls ++ [[.mk 8 ma 0 0 (List.take 1 ([Stm.mk kk 0 0 0 [] []])) []]], _⟩ ⟨by simp only [List.length_append, List.length_singleton]; omega, by simp only; rw [Nat.succ_mul] at hM; omega, hext.trans ((PH.ext.trans (((hext34.trans hext5).trans hext6)) hextk)), Cs_append (Cs_mono (fun _ _ _ h => stsRep_le (PH.ext.le ((PH.ext.trans (((hext34.trans hext5).trans hext6)) hextk))) h) hcs) ⟨_, rfl, (Sts_one hwr hextk.le)⟩ rfl, ?_⟩ (by simp only; omega) rfl ⟨⟨_, rfl, by simp [denO]⟩, ⟨_, rfl, by simp [denO]⟩, ⟨_, rfl, rfl⟩, trivial⟩ ?_
            · intro q hq
              rcases List.mem_append.1 hq with hq | hq
              · exact hsh q hq
              · rw [List.mem_singleton.1 hq]; exact ⟨by simp, Stm.short_mk.2 ⟨Sh_take (hshs) 1, Sh_nil⟩, trivial⟩
            · simp only [List.length_append, List.length_singleton]
              exact .hp (.hp .nil)
        · refine S_slice Tk ZT_ok J J J J (by decide) (by decide) J J J J fun b40 => ?_
          refine Va J J ?_;refine S_app1 Tk 4 40 J J J J J J J J J J J J J J (by intro u hu; simp at hu; rcases hu with rfl; rfl) rfl (fun _ _ => rfl) (by omega) (Nat.le_refl _) fun A6 c6 => ?_;refine Va J J ?_;refine S_subI J J J J (by omega) ?_;refine Va J J ?_;refine S_pick [4, 1] J ?_;refine S_rdLe 1 (M + (K + 3)) (by omega) J J ?_;refine S_again ⟨j, M + (K + 3), A6, c6, _, ls ++ [([Stm.mk kk 0 0 0 [] []])], _⟩ ⟨by simp only [List.length_append, List.length_singleton]; omega, by simp only; rw [Nat.succ_mul] at hM; omega, hext.trans ((((hext34.trans hext5).trans hext6))), Cs_append (Cs_mono (fun _ _ _ h => stsRep_le (PH.ext.le ((((hext34.trans hext5).trans hext6)))) h) hcs) ⟨_, rfl, (hv1')⟩ rfl, ?_⟩ (by simp only; omega) rfl ⟨⟨_, rfl, by simp [denO]⟩, ⟨_, rfl, by simp [denO]⟩, ⟨_, rfl, rfl⟩, trivial⟩ ?_
          · intro q hq
            rcases List.mem_append.1 hq with hq | hq
            · exact hsh q hq
            · rw [List.mem_singleton.1 hq]; exact (hshs)
          · simp only [List.length_append, List.length_singleton]
            exact .hp (.hp .nil)
  · obtain rfl : i = 0 := by omega
    refine S_freezeR 4 J J (Nat.le_refl _) fun Gf hextf hncf hcmf hclf => ?_
    have hP : Prg Gf ls _ := frzL (newp_le _ _) (Cs_mono (fun _ _ _ h => stsRep_le hextf.le h) hcs) rfl (by omega) hncf hcmf hclf
    refine S_callM 1 Tryz.call24 (c_l3Picks b l _ ls _ M Gf (Byts_le (hext.trans hextf).le hl) ⟨hP, hsh, by omega⟩ (by omega)) J J J J (fun _ => J) ?_;rintro v3 G3 A3 ⟨rfl, q, hq, hq2⟩ hext3
    obtain ⟨Aq, cq, rfl, _⟩ := id hq
    refine Va J J ?_;refine S_rdLe 1 (N + (2001 + 3 * (K + 3))) (by omega) J J ?_;exact S_retm 1 (Res.t2 Tryz.results26 J J J J) J ((hext.trans hextf).trans hext3) ⟨J, ls, _, q, _, J, PrgS_le hext3.le ⟨hP, hsh, by omega⟩, hq, hq2⟩
end
section
attribute [local irreducible] X Pure Mod
theorem c_drawK (K1 K2 K3 : Nat) (hK1 : 1 + (K1 + 2000) ≤ 1000000000) (l : List Int) (cv : Value) (G : PH) (hl : Byts G l cv)
  (h1 : ∀ b l' sv G', Byts G' l' sv → Drw 23 b sv [] 1 K1 G' l6V) (h2 : ∀ b l' sv G', Byts G' l' sv → Drw 25 b sv [] 1 K2 G' ppV) (h3 : ∀ b l' sv G', Byts G' l' sv → Drw 26 b sv [] 1 K3 G' ppV) : Pure Tryz.prog 9 [cv] G ppV := by
 obtain ⟨Ac, cc, rfl, _⟩ := id hl
 refine Pure.intro Tryz.func9 Tryz.ntmps9 J J fun w => ?_; refine Va J J ?_;refine S_callN 1 Tryz.call21 (c_l11Open l _ G hl) J J J ?_;rintro v1 G1 A1 ⟨b, sv, l', rfl, rfl, hl', rfl⟩ hext1
 refine S_newHP 1 J J ?_;refine Va J J ?_;refine S_callM 1 Tryz.call22 (c_pick b l' _ _ 0 _ hl' ⟨by omega, by omega⟩ (by omega)) J J J J (fun _ => J) ?_;rintro v G3 A' ⟨rfl, rfl, m, rfl, hm0, hm1⟩ _
 refine Va J J ?_
 refine S_condp J (fun h => ?_) (fun h => ?_) <;> refine Va J J ?_
 ·refine S_callM 1 Tryz.call23 (h1 b l' sv _ hl') J J J J (fun _ => J) ?_
  rintro v2 G2 A2 ⟨rfl, p, pv, ow, ov, rfl, hp, hp1, hp3, how, hol⟩ hext2
  obtain ⟨Ap, cp, rfl, _⟩ := id hp.1
  obtain ⟨Ao, co, rfl, _⟩ := id how
  refine Va J J ?_;refine S_callM 1 Tryz.call24 (c_l3Picks b l' sv p _ (1 + K1) G2 (Byts_le hext2.le hl') hp (by omega)) J J J J (fun _ => J) ?_;rintro v3 G3 A3 ⟨rfl, q, hq, hq2⟩ hext3
  obtain ⟨Aq, cq, rfl, _⟩ := id hq
  refine Va J J ?_;exact S_retp (Res.t2 Tryz.results9 J J J J) ((hext1.trans hext2).trans hext3) ⟨p, _, q, _, J, PrgS_le hext3.le hp, hq, hq2⟩
 refine S_condp J (fun h => ?_) (fun h => ?_) <;> refine Va J J ?_
 ·refine S_callM 1 Tryz.call25 (h2 b l' sv _ hl') J J J J (fun _ => J) ?_
  rintro v2 G2 A2 ⟨rfl, p, pv, q, qv, rfl, hp, hq, hq2⟩ hext2
  obtain ⟨Ap, cp, rfl, _⟩ := id hp.1
  obtain ⟨Aq, cq, rfl, _⟩ := id hq
  refine Va J J ?_;exact S_retp (Res.t2 Tryz.results9 J J J J) (hext1.trans hext2) ⟨p, _, q, _, J, hp, hq, hq2⟩
 ·refine S_callM 1 Tryz.call26 (h3 b l' sv _ hl') J J J J (fun _ => J) ?_
  rintro v2 G2 A2 ⟨rfl, p, pv, q, qv, rfl, hp, hq, hq2⟩ hext2
  obtain ⟨Ap, cp, rfl, _⟩ := id hp.1
  obtain ⟨Aq, cq, rfl, _⟩ := id hq
  refine Va J J ?_;exact S_retp (Res.t2 Tryz.results9 J J J J) (hext1.trans hext2) ⟨p, _, q, _, J, hp, hq, hq2⟩
theorem c_DrawRacesOf (l : List Int) (cv : Value) (G : PH) (hl : Byts G l cv) : Pure Tryz.prog 9 [cv] G ppV :=
 c_drawK kP (kG + 2000) (2001 + 3 * ((1 + 6 * kD 3) + 3)) (by decide) l cv G hl (fun b l' sv G' h => c_l6Some b l' sv 1 G' h (by decide)) (fun b l' sv G' h => c_l3Some b l' sv 1 G' h (by decide))
  (fun b l' sv G' h => c_l7ClashK (1 + 6 * kD 3) b l' sv 1 G' h (fun M G2 h2 hM => c_l2Some b l' sv M G2 h2 hM) (by decide))
end
section
attribute [local irreducible] X Pure Mod
structure Ck where
 pr : Nat → Nat → Int
 rm : Nat → Nat → Int
def upF (f : Nat → Nat → Int) (i : Nat) (x : Nat → Int) : Nat → Nat → Int := fun j => if j = i then x else f j
def jn (x y : Nat → Int) : Nat → Int := fun k => max (x k) (y k)
def Ck.own (C : Ck) (who : Nat) : Nat → Int := fun k => if k = who then C.pr who k + 1 else C.pr who k
def Ck.zero : Ck := ⟨fun _ _ => 0, fun _ _ => 0⟩
def fstA (p : Prc) : Int := if p.mode = 2 then 0 else match p.todo with
 | [] => 0
 | s :: _ => s.a
def fstB (p : Prc) : Int := if p.mode = 2 then 0 else match p.todo with
 | [] => 0
 | s :: _ => s.b
def Ck.sig (C : Ck) (who : Nat) (o : Nat → Int) : List Int → Ck
 | [] => { C with pr := upF C.pr who o }
 | f :: _ => { C with pr := upF (upF C.pr f.toNat (jn (C.pr f.toNat) o)) who o }
def Ck.ahead (C : Ck) (W : Wld) (who : Nat) : Ck := match W.procs[who]? with
 | none => C
 | some p =>
  if p.mode = 2 then { C with pr := upF C.pr who (jn (C.own who) (C.rm p.room.toNat)) }
  else if fstP p = 8 then { C with pr := upF C.pr who (jn (C.own who) (C.rm (fstA p).toNat)) }
  else if fstP p = 12 then ⟨upF C.pr who (C.own who), upF C.rm (fstA p).toNat (C.own who)⟩
  else if fstP p = 9 then ⟨upF C.pr who (C.own who), upF C.rm p.room.toNat (C.own who)⟩
  else if fstP p = 10 then C.sig who (C.own who) (W.que (fstA p))
  else { C with pr := upF C.pr who (C.own who) }
structure Mk where
 who : Nat
 at_ : Nat
 store : Bool
 cell : Int
 clock : List Int
def clkL (n : Nat) (x : Nat → Int) : List Int := (List.range n).map x
def markP (n : Nat) (C : Ck) (W : Wld) (who i : Nat) : List Mk := match W.procs[who]? with
 | none => []
 | some p => if fstP p = 3 then [⟨who, i, false, fstB p, clkL n (C.pr who)⟩] else if fstP p = 4 then [⟨who, i, true, fstA p, clkL n (C.pr who)⟩] else []
def marksF (n : Nat) : List Int → Nat → Ck → Wld → List Mk
 | [], _, _, _ => []
 | q :: r, i, C, W => if codeOf W q = 0 then markP n (C.ahead W q.toNat) W q.toNat i ++ marksF n r (i + 1) (C.ahead W q.toNat) (W.step q.toNat) else marksF n r (i + 1) C W
def marksL (p : List (List Stm)) (q : List Int) : List Mk := if progOk p = true ∧ q.length ≤ 200 then marksF p.length q 0 Ck.zero (open0 p) else []
structure Ck.ok (C : Ck) (B : Int) : Prop where
 p : ∀ i k, 0 ≤ C.pr i k ∧ C.pr i k ≤ B
 r : ∀ i k, 0 ≤ C.rm i k ∧ C.rm i k ≤ B
theorem Ck.ok.zero : Ck.zero.ok 0 := ⟨fun _ _ => ⟨Int.le_refl _, Int.le_refl _⟩, fun _ _ => ⟨Int.le_refl _, Int.le_refl _⟩⟩
theorem Ck.ok.own {C : Ck} {B : Int} (h : C.ok B) (who k : Nat) : 0 ≤ C.own who k ∧ C.own who k ≤ B + 1 := by
 have := h.p who k
 unfold Ck.own
 split <;> omega
theorem upF_ok {f : Nat → Nat → Int} {x : Nat → Int} {B B' : Int} (hB : B ≤ B') (h : ∀ i k, 0 ≤ f i k ∧ f i k ≤ B) (hx : ∀ k, 0 ≤ x k ∧ x k ≤ B') (i : Nat) : ∀ j k, 0 ≤ upF f i x j k ∧ upF f i x j k ≤ B' := by
 intro j k
 unfold upF
 split
 ·exact hx k
 ·have := h j k; omega
theorem jn_ok {x y : Nat → Int} {B B' : Int} (hB : B' ≤ B) (hx : ∀ k, 0 ≤ x k ∧ x k ≤ B) (hy : ∀ k, 0 ≤ y k ∧ y k ≤ B') : ∀ k, 0 ≤ jn x y k ∧ jn x y k ≤ B := by
 intro k
 have := hx k
 have := hy k
 unfold jn
 omega
theorem Ck.ok.mono {C : Ck} {B B' : Int} (h : C.ok B) (hB : B ≤ B') : C.ok B' := ⟨fun i k => by have := h.p i k; omega, fun i k => by have := h.r i k; omega⟩
theorem Ck.ok.ahead {C : Ck} {B : Int} (h : C.ok B) (W : Wld) (who : Nat) : (C.ahead W who).ok (B + 1) := by
 have hm := h.mono (B' := B + 1) (by omega)
 have ho := h.own who
 unfold Ck.ahead
 split
 ·exact hm
 rename_i p _
 split
 ·exact ⟨upF_ok (by omega) h.p (jn_ok (B := B + 1) (B' := B) (by omega) ho (h.r _)) who, hm.r⟩
 split
 ·exact ⟨upF_ok (by omega) h.p (jn_ok (B := B + 1) (B' := B) (by omega) ho (h.r _)) who, hm.r⟩
 split
 ·exact ⟨upF_ok (by omega) h.p ho who, upF_ok (by omega) h.r ho _⟩
 split
 ·exact ⟨upF_ok (by omega) h.p ho who, upF_ok (by omega) h.r ho _⟩
 split
 ·unfold Ck.sig
  split
  ·exact ⟨upF_ok (by omega) h.p ho who, hm.r⟩
  ·refine ⟨upF_ok (Int.le_refl _) (upF_ok (B' := B + 1) (by omega) h.p (fun k => ?_) _) ho who, hm.r⟩
   have := ho k
   have := h.p ‹Int›.toNat k
   unfold jn; omega
 ·exact ⟨upF_ok (by omega) h.p ho who, hm.r⟩
def Mk.ahead (a b : Mk) : Bool := if a.who < a.clock.length ∧ a.who < b.clock.length then (if a.who = b.who then decide (a.clock[a.who]! < b.clock[a.who]!) else decide (a.clock[a.who]! ≤ b.clock[a.who]!)) else false
def Mk.race (a b : Mk) : Bool := decide (a.who ≠ b.who) && decide (a.cell = b.cell) && (a.store || b.store) && !a.ahead b
def rcAt (ms : List Mk) (i j : Nat) : Bool := match ms[i]?, ms[j]? with
 | some a, some b => a.race b
 | _, _ => false
def rowTo (ms : List Mk) (i j : Nat) : List (Nat × Nat) := ((List.range j).filter fun j' => decide (i < j') && rcAt ms i j').map fun j' => (i, j')
def racesTo (ms : List Mk) (i : Nat) : List (Nat × Nat) := (List.range i).flatMap fun i' => rowTo ms i' ms.length
def racesL (ms : List Mk) : List (Nat × Nat) := racesTo ms ms.length
theorem rowTo_start (ms : List Mk) (i : Nat) : rowTo ms i (i + 1) = [] := by
 unfold rowTo
 rw [List.map_eq_nil_iff, List.filter_eq_nil_iff]
 intro j hj
 have := List.mem_range.1 hj
 simp; omega
theorem rowTo_succ {ms : List Mk} {i j : Nat} (h : i < j) : rowTo ms i (j + 1) = rowTo ms i j ++ (if rcAt ms i j then [(i, j)] else []) := by
 unfold rowTo
 rw [List.range_succ, List.filter_append, List.map_append]
 cases hr : rcAt ms i j <;> simp [h, hr]
theorem racesTo_succ (ms : List Mk) (i : Nat) : racesTo ms (i + 1) = racesTo ms i ++ rowTo ms i ms.length := by
 unfold racesTo
 rw [List.range_succ, List.flatMap_append]; simp
theorem mem_rowTo {ms : List Mk} {i j : Nat} {x : Nat × Nat} : x ∈ rowTo ms i j ↔ x.1 = i ∧ i < x.2 ∧ x.2 < j ∧ rcAt ms i x.2 = true := by
 unfold rowTo
 simp only [List.mem_map, List.mem_filter, List.mem_range, Bool.and_eq_true, decide_eq_true_eq]
 constructor
 ·rintro ⟨k, ⟨h1, h2, h3⟩, rfl⟩; exact ⟨J, h2, h1, h3⟩
 ·rintro ⟨h1, h2, h3, h4⟩; exact ⟨x.2, ⟨h3, h2, h4⟩, by rw [← h1]⟩
theorem mem_racesTo {ms : List Mk} {i : Nat} {x : Nat × Nat} : x ∈ racesTo ms i ↔ x.1 < i ∧ x.1 < x.2 ∧ x.2 < ms.length ∧ rcAt ms x.1 x.2 = true := by
 unfold racesTo
 simp only [List.mem_flatMap, List.mem_range, mem_rowTo]
 constructor
 ·rintro ⟨k, h1, rfl, h2, h3, h4⟩; exact ⟨h1, h2, h3, h4⟩
 ·rintro ⟨h1, h2, h3, h4⟩; exact ⟨x.1, h1, J, h2, h3, h4⟩
theorem rowTo_len (ms : List Mk) (i : Nat) : ∀ j, (rowTo ms i j).length ≤ j - (i + 1) := by
 intro j
 induction j with
 | zero => simp [rowTo]
 | succ j ih =>
  by_cases h : i < j
  ·rw [rowTo_succ h, List.length_append]
   split <;> simp <;> omega
  ·have : rowTo ms i (j + 1) = [] := by
    unfold rowTo
    rw [List.map_eq_nil_iff, List.filter_eq_nil_iff]
    intro k hk
    have := List.mem_range.1 hk
    simp; omega
   rw [this]; simp
theorem racesTo_len (ms : List Mk) : ∀ i, i ≤ ms.length → 2 * (racesTo ms i).length + i * (i + 1) ≤ 2 * (i * ms.length) := by
 intro i
 induction i with
 | zero => intro _; simp [racesTo]
 | succ i ih =>
  intro h
  have h1 := ih (by omega)
  have h2 := rowTo_len ms i ms.length
  rw [racesTo_succ, List.length_append]
  have e : (i + 1) * ms.length = i * ms.length + ms.length := Nat.succ_mul ..
  have e2 : (i + 1) * (i + 1 + 1) = i * (i + 1) + 2 * (i + 1) := by rw [Nat.mul_add_one, Nat.add_mul]; omega
  omega
theorem racesL_len (ms : List Mk) : 2 * (racesL ms).length + ms.length * (ms.length + 1) ≤ 2 * (ms.length * ms.length) := racesTo_len ms ms.length (Nat.le_refl _)
theorem marksF_len (n : Nat) : ∀ (q : List Int) (i : Nat) (C : Ck) (W : Wld), (marksF n q i C W).length ≤ q.length := by
 intro q
 induction q with
 | nil => intro i C W; simp [marksF]
 | cons q r ih =>
  intro i C W
  have h1 : (markP n (C.ahead W q.toNat) W q.toNat i).length ≤ 1 := by
   unfold markP
   split
   ·simp
   ·split
    ·simp
    ·split <;> simp
  rw [marksF]
  split
  ·rw [List.length_append]
   have := ih (i + 1) (C.ahead W q.toNat) (W.step q.toNat)
   simp only [List.length_cons]; omega
  ·have := ih (i + 1) C W
   simp only [List.length_cons]; omega
theorem marksL_len (p : List (List Stm)) (q : List Int) : (marksL p q).length ≤ 200 := by
 unfold marksL
 split
 ·exact Nat.le_trans (marksF_len ..) (by omega)
 ·simp
end
section
attribute [local irreducible] X Pure Mod
theorem clkL_len (n : Nat) (x : Nat → Int) : (clkL n x).length = n := by simp [clkL]
theorem clkL_succ (n : Nat) (x : Nat → Int) : clkL (n + 1) x = clkL n x ++ [x n] := by simp [clkL, List.range_succ]
theorem clk_sl {G : PH} {n : Nat} {x : Nat → Int} {v : Value} (h : Ints G (clkL n x) v) : ∃ A c, v = .slice A n c := by
 obtain ⟨A, c, rfl, _⟩ := h
 exact ⟨A, c, by rw [clkL_len]⟩
theorem clk_at {G : PH} {n k c : Nat} {x : Nat → Int} {A : Option Addr} (h : Ints G (clkL n x) (.slice A n c)) (hk : k < n) : ∃ ad, A = some ad ∧ gcell G (ad.add (k * 1)) = some (.int .i64 (x k)) ∧ I64 (x k) := by
 obtain ⟨ad, cs, rfl, hcs, rfl, hi⟩ := Sr_at (A := A) (n := n) (c := c) h (k := k) (by rw [clkL_len]; exact hk)
 have e : (clkL n x)[k]'(by rw [clkL_len]; exact hk) = x k := by simp [clkL]
 rw [e] at hcs hi
 exact ⟨ad, J, by simpa using hcs.1, hi⟩
theorem clk_i64 {n : Nat} {x : Nat → Int} (h : ∀ k, 0 ≤ x k ∧ x k ≤ 1000000) : ∀ y ∈ clkL n x, I64 y := by
 intro y hy
 simp only [clkL, List.mem_map, List.mem_range] at hy
 obtain ⟨k, _, rfl⟩ := hy
 have := h k
 exact ⟨by omega, by omega⟩
theorem c_ClockJoin (n : Nat) (x y : Nat → Int) (vx vy : Value) (G : PH) (hn : n ≤ 3) (hx : Ints G (clkL n x) vx) (hy : Ints G (clkL n y) vy) (h0 : ∀ k, 0 ≤ x k ∧ x k ≤ 1000000) (h1 : ∀ k, 0 ≤ y k ∧ y k ≤ 1000000) : Pure Tryz.prog 64 [vx, vy] G fun v G' => Ints G' (clkL n (jn x y)) v := by
 obtain ⟨Ax, cx, rfl⟩ := clk_sl hx
 obtain ⟨Ay, cy, rfl⟩ := clk_sl hy
 have hj : ∀ k, 0 ≤ jn x y k ∧ jn x y k ≤ 1000000 := jn_ok (Int.le_refl _) h0 h1
 refine Pure.intro Tryz.func64 Tryz.ntmps64 J J fun w => ?_;refine Va J J ?_;refine S_emptyO Tk 5 J J J J fun A0 => ?_;refine Va J J ?_;refine S_loop (α := Nat × Option Addr × Nat) (fun z => z.1 ≤ n) (fun z => n - z.1) []
  (fun z => [(6, .val (.int .i64 (z.1 : Nat))), (5, .val (.slice z.2.1 z.1 z.2.2)), (0, .val (.slice Ax n cx)), (1, .val (.slice Ay n cy))])
  (fun z => [.hp 5 (rowO w.heap.size 3 1 z.2.1 z.1 z.2.2 (intC (clkL z.1 (jn x y))))]) (fun _ => G) (0, A0, 0) (Nat.zero_le _) rfl ?_ ?_ ?_
 ·exact ⟨⟨_, J, J⟩, ⟨_, J, J⟩, ⟨_, J, J⟩, ⟨_, J, J⟩, trivial⟩
 ·exact .hp .nil
 rintro ⟨i, A1, c1⟩ hi
 simp only at hi ⊢
 refine Va J J ?_
 by_cases h : i < n
 ·refine RT J (by simp; omega) ?_
  refine Va J J ?_;refine RT J (by simp; omega) ?_;refine Va J J ?_;obtain ⟨ad, rfl, hcx, hix⟩ := clk_at hx h
  refine S_index Tk J J J J J J (by omega) (by omega) ?_;refine Va J J ?_;refine S_load Tk J J J J J (by simpa using hcx) ?_;refine Va J J ?_;refine RT J (by simp; omega) ?_;refine Va J J ?_;obtain ⟨ad2, rfl, hcy, hiy⟩ := clk_at hy h
  refine S_index Tk J J J J J J (by omega) (by omega) ?_;refine Va J J ?_;refine S_load Tk J J J J J (by simpa using hcy) ?_;refine Va J J ?_;refine S_call Tryz.call49 (c_l1Max _ _ _) J J J ?_;rintro v G3 ⟨rfl, rfl⟩ _
  refine Va J J ?_;refine S_call Tryz.call49 (c_l1Max _ _ _) J J J ?_;rintro v G3 ⟨rfl, rfl⟩ _
  refine Va J J ?_
  have hji := hj i
  rw [show max (max (x i) (y i)) 0 = jn x y i from by unfold jn at hji ⊢; omega]
  refine S_slice Tk ZT_ok J J J J (by decide) (by decide) J J J J fun b2 => ?_;refine Va J J ?_;refine S_app1 Tk 5 42 J J J J J J J J J J J J J J (by intro u hu; simp at hu; rcases hu with rfl; rfl) rfl (fun _ _ => rfl) (by omega) (Nat.le_refl _) fun A6 c6 => ?_;refine Va J J ?_;refine S_add J J J J (by omega) ?_;refine Va J J ?_;refine S_again (i + 1, A6, c6) (by simp only; omega) (by simp only; omega) rfl ⟨⟨_, rfl, by simp [denO]⟩, ⟨_, rfl, by simp [denO]⟩, ⟨_, rfl, rfl⟩, ⟨_, rfl, rfl⟩, trivial⟩ ?_
  simp only [clkL_succ, intC_append]
  exact .drop (.hp .nil)
 ·refine RF J (by simp; omega) ?_
  refine Va J J ?_;obtain rfl : i = n := by omega
  refine S_freezeR 5 J J (Nat.le_refl _) fun Gf hextf hncf hcmf hclf => ?_;exact S_retp (Res.t1 Tryz.results64 J J) hextf (frz (Cs_intC (clk_i64 hj)) (clkL_len _ _).symm (by omega) hncf hcmf hclf)
end
section
attribute [local irreducible] X Pure Mod
theorem denL_cons' {ι : Ids} {c : Cel} {l : List Cel} {vs : List Value} (h : denL ι (c :: l) = some vs) : ∃ v r, denC ι c = some v ∧ denL ι l = some r ∧ vs = v :: r := by
 simp only [denL] at h
 cases h1 : denC ι c with
 | none => simp [h1] at h
 | some v => cases h2 : denL ι l with
  | none => simp [h1, h2] at h
  | some r => exact ⟨v, r, rfl, rfl, by simpa [h1, h2] using h.symm⟩
theorem procCs_todo {ι : Ids} {kg : Nat → Nat} {sp : List Value} : ∀ {ps : List Prc} {ts : List Value} {j i : Nat} {t : Value} {vs : List Value}, denL ι (procCs kg sp j ps ts) = some vs → ts[i]? = some t → i < ps.length → vs[5 * i + 1]? = some t
 | [], _, _, i, _, _, _, _, hi => by simp at hi
 | p :: ps, [], _, i, _, _, _, h, _ => by simp at h
 | p :: ps, t0 :: ts, j, i, t, vs, h, ht, hi => by
  simp only [procCs] at h
  obtain ⟨v1, r1, _, h1, rfl⟩ := denL_cons' h
  obtain ⟨v2, r2, e2, h2, rfl⟩ := denL_cons' h1
  obtain ⟨v3, r3, _, h3, rfl⟩ := denL_cons' h2
  obtain ⟨v4, r4, _, h4, rfl⟩ := denL_cons' h3
  obtain ⟨v5, r5, _, h5, rfl⟩ := denL_cons' h4
  cases i with
  | zero =>
   simp only [List.getElem?_cons_zero, Option.some.injEq] at ht
   simp only [denC, Option.some.injEq] at e2
   simp [← e2, ht]
  | succ i =>
   have := procCs_todo h5 (i := i) (by simpa using ht) (by simpa using hi)
   rw [show 5 * (i + 1) + 1 = (5 * i + 1) + 1 + 1 + 1 + 1 + 1 by omega]
   simpa using this
theorem V_todoW {C : Ctx} {ι : Ids} {E : Env} {L : List Ent} {G : PH} {W : Wld} {ts : List Value} {d : Option Nat} {ty : Nat} {pos : String} {af : Array Edge} {g : Option (Nat × Bool)} {T : Tab} (hT : tabOk C.P T) (κ : Nat) {t : Nat} {i : TyI} {x : Operand} {bp nn kp n : Nat} {c2 c3 c4 c5 v : Value} {a : Addr}
  (hL : getH κ L = some (worldV [.slice (some ⟨bp, 0, none⟩) nn kp, c2, c3, c4, c5] W ts)) (hx : ev E x = some (.val (.pointer (some a)))) (ha : a = ⟨bp, 5 * n + 1, none⟩) (ht : lookT t T = some i) (hk0 : i.k.isAgg = false) (hv : ts[n]? = some v) (hn : n < W.procs.length) : Vl C ι E L G ⟨d, .load t x, ty, pos, af, g⟩ v := by
 intro act w hE hw
 obtain ⟨Ss, ho, _⟩ := hw.own
 obtain ⟨S, ⟨ι0, L0, Ss0, ⟨bp', bc, br, bs, bg, m, x', hl, hmk, hx', rfl, rfl, hcs⟩, hown, _⟩, _⟩ := owns_split ho hL
 have ex := ev_sound hE hx
 simp only [denO, Option.some.injEq] at ex
 subst ha
 have hb : bp' = bp := by
  obtain ⟨v1, r1, e1, _, e2⟩ := denL_cons' hcs
  simp only [List.cons.injEq] at e2
  rw [← e2.1] at e1
  simp [denC, wIds, lookI] at e1
  exact e1.1
 subst hb
 cases Ss0 with
 | nil => exact absurd hown id
 | cons S1 Ss1 =>
  obtain ⟨⟨b, vs, h1, h2, h3, _⟩, _⟩ := hown
  have hbb : b = bp' := by simpa [wIds, lookI] using h1.symm
  subst hbb
  have := procCs_todo h2 hv hn
  have hc : w.cell? ⟨b, 5 * n + 1, none⟩ = some v := by simp [World.cell?, h3, this]
  simp only [execOp, ← ex]
  simp [Instr.loadAt, loadVar, Instr.sureAddr, tyOk_agg (hT _ _ ht), hk0, hc]
end
end Go.Proofs.YtphbcboejmhaoaaGreat
