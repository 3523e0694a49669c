/- Walks of the program's functions, one after the other (part 7); without conditions of their own. -/
import Derived.Test.YtbecgghgcglafaaGreatDoorWM3
import Derived.Test.YtbecgghgcglafaaGreatDoorWM6
import Derived.Test.YtbecgghgcglafaaGreatDoorWM2
set_option linter.unusedVariables false
set_option linter.unusedSimpArgs false
set_option maxRecDepth 100000
set_option maxHeartbeats 4000000
open Go.RowKit
namespace Go.Proofs.YtbecgghgcglafaaGreatDoor
section
attribute [local irreducible] X Pure Mod
theorem updL_updL {α : Type} {f g : α → α} : ∀ (l : List α) (i : Nat), updL f i (updL g i l) = updL (fun x => f (g x)) i l
 | [], i => by cases i <;> rfl
 | x :: l, 0 => rfl
 | x :: l, i + 1 => by simp [updL, updL_updL l i]
theorem updL_congr {α : Type} {f g : α → α} : ∀ (l : List α) (i : Nat), (∀ x, l[i]? = some x → f x = g x) → updL f i l = updL g i l
 | [], i, _ => by cases i <;> rfl
 | x :: l, 0, h => by simp [updL, h x rfl]
 | x :: l, i + 1, h => by simp only [updL]; rw [updL_congr l i (fun y hy => h y (by simpa using hy))]
theorem updL_get {α : Type} {f : α → α} : ∀ (l : List α) (i : Nat), (updL f i l)[i]? = l[i]?.map f
 | [], i => by cases i <;> rfl
 | x :: l, 0 => rfl
 | x :: l, i + 1 => by simp [updL, updL_get l i]
theorem goes_eq {W : Wld} {who : Nat} {p : Prc} {s : Stm} {r : List Stm} (hp : W.procs[who]? = some p) (hm : p.mode ≠ 2) (ht : p.todo = s :: r) (hk : s.kind = 6 ∨ s.kind = 7) :
  W.upd who (fun p => { p with todo := goesL W who s ++ r }) = W.step who := by
 rw [step_eq hp hm ht]
 have hreg : ∀ k, (W.upd who pop).reg who k = W.reg who k := by
  intro k
  unfold Wld.reg
  rw [show (W.upd who pop).procs[who]? = W.procs[who]?.map pop from updL_get _ _, hp]
  rfl
 have key : ∀ (L : List Stm), L = goesL W who s → W.upd who (fun p => { p with todo := goesL W who s ++ r }) = (W.upd who pop).upd who (fun p => { p with todo := L ++ p.todo }) := by
  intro L hL
  subst hL
  show Wld.mk _ _ _ _ _ _ _ _ _ = Wld.mk _ _ _ _ _ _ _ _ _
  rw [Wld.mk.injEq]
  refine ⟨?_, J, J, J, J, J, J, J, J⟩
  show updL _ _ _ = updL _ _ (updL _ _ _)
  rw [updL_updL]
  refine updL_congr _ _ fun x hx => ?_
  rw [hp] at hx
  cases hx
  simp [pop, ht]
 rcases hk with hk | hk
 ·rw [show (W.upd who pop).stepS who s = (W.upd who pop).upd who (fun p => { p with todo := (if (W.upd who pop).reg who s.a = 0 then s.els else s.body) ++ p.todo }) by simp [Wld.stepS, hk]]
  exact key _ (by rw [hreg]; simp [goesL, hk])
 ·rw [show (W.upd who pop).stepS who s = (W.upd who pop).upd who (fun p => { p with todo := (if (W.upd who pop).reg who s.a = 0 then [] else s.body ++ [s]) ++ p.todo }) by simp [Wld.stepS, hk]]
  exact key _ (by rw [hreg]; simp [goesL, hk])
theorem em2 {p q r : Prop} (h : (p → q) ∧ (¬ p → r)) : (p ∧ q) ∨ (¬ p ∧ r) := by
 by_cases hp : p
 ·exact .inl ⟨hp, h.1 hp⟩
 ·exact .inr ⟨hp, h.2 hp⟩
theorem leaf_eq (W : Wld) (who : Nat) (s : Stm) (h6 : s.kind ≠ 6) (h7 : s.kind ≠ 7) (h8 : s.kind ≠ 8) (h9 : s.kind ≠ 9) (h10 : s.kind ≠ 10) (h12 : s.kind ≠ 12) : W.leaf who s = W.stepS who s := by
 simp [Wld.leaf, Wld.stepS, h6, h7, h8, h9, h10, h12]
theorem c_l3Step (W : Wld) (who : Nat) (cs : List Value) (ts : List Value) (G : PH) (hr : Rdy W) (ht : Tds G W.procs ts) (hw : who < W.procs.length) (hc : ∀ p, W.procs[who]? = some p → (p.mode = 2 → is2 p.room) ∧ (p.mode ≠ 2 → ∃ s r, p.todo = s :: r ∧ SOk s p.room)) :
  Mod Tryz.prog 47 [.agg cs.toArray, .int .i64 (who : Nat)] G (worldV cs W ts) (VPost (W.step who)) := by
 have hste : ∀ p s r, W.procs[who]? = some p → p.mode ≠ 2 → p.todo = s :: r → W.step who = (W.upd who pop).stepS who s := fun p s r h1 h2 h3 => step_eq h1 h2 h3
 have hgoe : ∀ p s r, W.procs[who]? = some p → p.mode ≠ 2 → p.todo = s :: r → (s.kind = 6 ∨ s.kind = 7) → W.upd who (fun p => { p with todo := goesL W who s ++ r }) = W.step who := fun p s r h1 h2 h3 h4 => goes_eq h1 h2 h3 h4
 refine Mod.intro Tryz.func47 Tryz.ntmps47 J J fun w S => ?_
 have h1 := hr.n1
 have h3 := hr.n3
 have hq0 := hr.q0
 have hq1 := hr.q1
 have hf0 := hr.f0
 have hf1 := hr.f1
 have hsd := hr.sd
 obtain ⟨ps, x0, x1, x2, m0, m1, q0, q1, sd⟩ := W
 rcases shape hr.n1 hr.n3 ht with ⟨⟨a0, a1, a2, td0, mo0, on0, ro0⟩, A0, k0, rfl, rfl, s0⟩ | ⟨⟨a0, a1, a2, td0, mo0, on0, ro0⟩, A0, k0, ⟨b0, b1, b2, td1, mo1, on1, ro1⟩, A1, k1, rfl, rfl, s0, s1⟩ | ⟨⟨a0, a1, a2, td0, mo0, on0, ro0⟩, A0, k0, ⟨b0, b1, b2, td1, mo1, on1, ro1⟩, A1, k1, ⟨d0, d1, d2, td2, mo2, on2, ro2⟩, A2, k2, rfl, rfl, s0, s1, s2⟩
 obtain rfl : who = 0 := by simpa using hw
 rotate_left
 rcases (by simp at hw; omega : who = 0 ∨ who = 1) with rfl | rfl
 rotate_left 2
 rcases (by simp at hw; omega : who = 0 ∨ who = 1 ∨ who = 2) with rfl | rfl | rfl
 all_goals
  have hc' := hc _ rfl
  simp only at hc'
  rcases em2 hc' with ⟨hm, hro⟩ | ⟨hm, s, r, htd, hs⟩
  ·subst hm
   refine OvV 1 0 J J J J fun bp bc br bs bg kp sp asd ksd aq0 kq0 aq1 kq1 kc spc kr spr ks sps kg spg hbg hmk hce => ?_; subst hce; (first | obtain ⟨g0, rfl⟩ := len1 hbg | obtain ⟨g0, g1, rfl⟩ := len2 hbg | obtain ⟨g0, g1, g2, rfl⟩ := len3 hbg); clear hbg; refine NM J J ?_; dsimp only [wEnts, wCels, procCs, regEs, WX.of, vi]
   refine Va J J ?_;refine S_box J J J J J fun b2 => ?_;refine Va J J ?_;refine AZ ZT_ok J J J J fun b4 => ?_;refine Va J J ?_;refine AZ ZT_ok J J J J fun b5 => ?_;refine Va J J ?_
   rcases hro with rfl | rfl <;>
   ·refine RT J J ?_
    refine Va J J ?_;refine S_add J J J J (by omega) ?_;refine Va J J ?_
    first | (exact RK (wKeys 1) (Res.c1 Tk Tryz.results47 J J) ⟨_, [_], J, J, ht⟩ (Wvp [_] kg spg J ‹_› J J J J J J J J J) J (Wsub 5 J J J J J J J J J J J J J J J J (Bs 3 J J J J .nil)) XR) | (exact RK (wKeys 2) (Res.c1 Tk Tryz.results47 J J) ⟨_, [_,_], J, J, ht⟩ (Wvp [_, _] kg spg J ‹_› J J J J J J J J J) J (Wsub 10 J J J J J J J J J J J J J J J J (Bs 3 J J J J (Bs 3 J J J J .nil))) XR) | (exact RK (wKeys 3) (Res.c1 Tk Tryz.results47 J J) ⟨_, [_,_,_], J, J, ht⟩ (Wvp [_, _, _] kg spg J ‹_› J J J J J J J J J) J (Wsub 15 J J J J J J J J J J J J J J J J (Bs 3 J J J J (Bs 3 J J J J (Bs 3 J J J J .nil)))) XR)
  ·subst htd
   have hst := hste _ s r rfl hm rfl
   have hgo := fun hk => hgoe _ s r rfl hm rfl hk
   first | (obtain ⟨ad, vx, vy, rfl, hcs, hx, hy, i1, i2, i3, i4⟩ := Sts_head s0) | (obtain ⟨ad, vx, vy, rfl, hcs, hx, hy, i1, i2, i3, i4⟩ := Sts_head s1) | (obtain ⟨ad, vx, vy, rfl, hcs, hx, hy, i1, i2, i3, i4⟩ := Sts_head s2)
   obtain ⟨kk, a, bb, n, x, y⟩ := s
   simp only [Stm.kind, Stm.a, Stm.b, Stm.n, Stm.body, Stm.els] at hcs hx hy i1 i2 i3 i4
   have hrl : r.length ≤ 1000000 := by
    have := hr.tl _ (List.getElem_mem hw)
    simp at this
    omega
   first | (have htail := Sts_tail s0) | (have htail := Sts_tail s1) | (have htail := Sts_tail s2)
   obtain ⟨Ax, cx, rfl, _⟩ := id hx
   obtain ⟨Ay, cy, rfl, _⟩ := id hy
   obtain ⟨xs, hxs, hcx⟩ := Sr_Sx (fun s cs h => Stm.rep_len h) htail
   obtain ⟨_, _, heq, hn1, hnc1, hcm1, hlen1, hrow1⟩ := hxs
   cases heq
   refine OvV 1 0 J J J J fun bp bc br bs bg kp sp asd ksd aq0 kq0 aq1 kq1 kc spc kr spr ks sps kg spg hbg hmk hce => ?_; subst hce; (first | obtain ⟨g0, rfl⟩ := len1 hbg | obtain ⟨g0, g1, rfl⟩ := len2 hbg | obtain ⟨g0, g1, g2, rfl⟩ := len3 hbg); clear hbg; refine NM J J ?_; dsimp only [wEnts, wCels, procCs, regEs, WX.of, vi]
   refine Va J J ?_;refine S_box J J J J J fun b2 => ?_;refine Va J J ?_;refine AZ ZT_ok J J J J fun b4 => ?_;refine Va J J ?_;refine AZ ZT_ok J J J J fun b5 => ?_;refine Va J J ?_;refine RF J (by simp [hm]) ?_;refine Va J J ?_
   refine S_index Tk J J J J J J (by omega) (by simp <;> omega) ?_
   refine S_loadA Tk J J J J J (by simpa [add_zero'] using hcs) ?_;refine Va J J ?_;refine AZ ZT_ok J J J J fun b6 => ?_;refine Va J J ?_;refine S_emptyO Tk 33 J J J J fun A33 => ?_;refine Va J J ?_;refine S_valV J J J (V_slice1 Tk J J J) ?_;refine Va J J ?_;refine S_appO Tk 33 J J J J J J J J J J J (fun _ _ => J) (src_G hlen1 hrow1) (Cs_one Stm.rep_one hcx) (by simp only; omega) (by simp only [maxLen]; omega) (Nat.le_refl _) fun A1' c1' => ?_
   rw [Nat.zero_add r.length]
   refine Va J J ?_;refine S_freezeR 33 J J (Nat.le_refl _) fun G1 hext1 hnc' hcm' hcl => ?_
   have hle1 := hext1.le
   have hr1 : Sts G1 r (.slice A1' r.length c1') := Sx_Sr (Sx_le (newp_le _ _) ⟨A1', c1', rfl, hn1, by simpa using hnc', hcm', hlen1, by simpa using hcl⟩) rfl (Cs_mono (Stm.reps_le hle1 r) hcx)
   refine Va J J ?_
   by_cases e6 : kk = 6
   ·subst e6
    refine RT J J ?_;refine Va J J ?_;refine RT J J ?_;refine Va J J ?_
    first | (refine S_callPk 9 (wKeys 1) Tryz.call70 (c_l3Goes ⟨_, _, _, _, _, _, _, _, _⟩ 0 _ _ G1 h1 h3 (Tds_le hle1 ht) hw 6 a bb n x y r _ _ _ (Sts_le hle1 hx) (Sts_le hle1 hy) hr1 ⟨i1, i2, i3, i4⟩ (hs.r6 (by simp [Stm.kind])).2.1 (hs.r6 (by simp [Stm.kind])).2.2 hrl (hs.r6 (by simp [Stm.kind])).1 (by simp)) (Wvp [_] kg spg J ‹_› J J J J J J J J J) J (Wsub 5 J J J J J J J J J J J J J J J J (Bs 3 J J J J .nil)) J J J ?_) | (refine S_callPk 9 (wKeys 2) Tryz.call70 (c_l3Goes ⟨_, _, _, _, _, _, _, _, _⟩ 0 _ _ G1 h1 h3 (Tds_le hle1 ht) hw 6 a bb n x y r _ _ _ (Sts_le hle1 hx) (Sts_le hle1 hy) hr1 ⟨i1, i2, i3, i4⟩ (hs.r6 (by simp [Stm.kind])).2.1 (hs.r6 (by simp [Stm.kind])).2.2 hrl (hs.r6 (by simp [Stm.kind])).1 (by simp)) (Wvp [_, _] kg spg J ‹_› J J J J J J J J J) J (Wsub 10 J J J J J J J J J J J J J J J J (Bs 3 J J J J (Bs 3 J J J J .nil))) J J J ?_) | (refine S_callPk 9 (wKeys 2) Tryz.call70 (c_l3Goes ⟨_, _, _, _, _, _, _, _, _⟩ 1 _ _ G1 h1 h3 (Tds_le hle1 ht) hw 6 a bb n x y r _ _ _ (Sts_le hle1 hx) (Sts_le hle1 hy) hr1 ⟨i1, i2, i3, i4⟩ (hs.r6 (by simp [Stm.kind])).2.1 (hs.r6 (by simp [Stm.kind])).2.2 hrl (hs.r6 (by simp [Stm.kind])).1 (by simp)) (Wvp [_, _] kg spg J ‹_› J J J J J J J J J) J (Wsub 10 J J J J J J J J J J J J J J J J (Bs 3 J J J J (Bs 3 J J J J .nil))) J J J ?_) | (refine S_callPk 9 (wKeys 3) Tryz.call70 (c_l3Goes ⟨_, _, _, _, _, _, _, _, _⟩ 0 _ _ G1 h1 h3 (Tds_le hle1 ht) hw 6 a bb n x y r _ _ _ (Sts_le hle1 hx) (Sts_le hle1 hy) hr1 ⟨i1, i2, i3, i4⟩ (hs.r6 (by simp [Stm.kind])).2.1 (hs.r6 (by simp [Stm.kind])).2.2 hrl (hs.r6 (by simp [Stm.kind])).1 (by simp)) (Wvp [_, _, _] kg spg J ‹_› J J J J J J J J J) J (Wsub 15 J J J J J J J J J J J J J J J J (Bs 3 J J J J (Bs 3 J J J J (Bs 3 J J J J .nil)))) J J J ?_) | (refine S_callPk 9 (wKeys 3) Tryz.call70 (c_l3Goes ⟨_, _, _, _, _, _, _, _, _⟩ 1 _ _ G1 h1 h3 (Tds_le hle1 ht) hw 6 a bb n x y r _ _ _ (Sts_le hle1 hx) (Sts_le hle1 hy) hr1 ⟨i1, i2, i3, i4⟩ (hs.r6 (by simp [Stm.kind])).2.1 (hs.r6 (by simp [Stm.kind])).2.2 hrl (hs.r6 (by simp [Stm.kind])).1 (by simp)) (Wvp [_, _, _] kg spg J ‹_› J J J J J J J J J) J (Wsub 15 J J J J J J J J J J J J J J J J (Bs 3 J J J J (Bs 3 J J J J (Bs 3 J J J J .nil)))) J J J ?_) | (refine S_callPk 9 (wKeys 3) Tryz.call70 (c_l3Goes ⟨_, _, _, _, _, _, _, _, _⟩ 2 _ _ G1 h1 h3 (Tds_le hle1 ht) hw 6 a bb n x y r _ _ _ (Sts_le hle1 hx) (Sts_le hle1 hy) hr1 ⟨i1, i2, i3, i4⟩ (hs.r6 (by simp [Stm.kind])).2.1 (hs.r6 (by simp [Stm.kind])).2.2 hrl (hs.r6 (by simp [Stm.kind])).1 (by simp)) (Wvp [_, _, _] kg spg J ‹_› J J J J J J J J J) J (Wsub 15 J J J J J J J J J J J J J J J J (Bs 3 J J J J (Bs 3 J J J J (Bs 3 J J J J .nil)))) J J J ?_)
    rintro v G2 A' ⟨cs', ts', rfl, rfl, ht'⟩ hext
    refine S_csV 9 J ?_;rintro bp bc br bs kp asd ksd kc kr ks rfl
    refine Va J J ?_;exact S_retm 9 (Res.c1 Tk Tryz.results47 J J) J (hext1.trans hext) ⟨_, _, J, by rw [← hgo (by simp [Stm.kind])], by rw [← hgo (by simp [Stm.kind])]; exact ht'⟩
   by_cases e7 : kk = 7
   ·subst e7
    refine RF J J ?_;refine Va J J ?_;refine RT J J ?_;refine Va J J ?_
    first | (refine S_callPk 9 (wKeys 1) Tryz.call70 (c_l3Goes ⟨_, _, _, _, _, _, _, _, _⟩ 0 _ _ G1 h1 h3 (Tds_le hle1 ht) hw 7 a bb n x y r _ _ _ (Sts_le hle1 hx) (Sts_le hle1 hy) hr1 ⟨i1, i2, i3, i4⟩ (hs.r6 (by simp [Stm.kind])).2.1 (hs.r6 (by simp [Stm.kind])).2.2 hrl (hs.r6 (by simp [Stm.kind])).1 (by simp)) (Wvp [_] kg spg J ‹_› J J J J J J J J J) J (Wsub 5 J J J J J J J J J J J J J J J J (Bs 3 J J J J .nil)) J J J ?_) | (refine S_callPk 9 (wKeys 2) Tryz.call70 (c_l3Goes ⟨_, _, _, _, _, _, _, _, _⟩ 0 _ _ G1 h1 h3 (Tds_le hle1 ht) hw 7 a bb n x y r _ _ _ (Sts_le hle1 hx) (Sts_le hle1 hy) hr1 ⟨i1, i2, i3, i4⟩ (hs.r6 (by simp [Stm.kind])).2.1 (hs.r6 (by simp [Stm.kind])).2.2 hrl (hs.r6 (by simp [Stm.kind])).1 (by simp)) (Wvp [_, _] kg spg J ‹_› J J J J J J J J J) J (Wsub 10 J J J J J J J J J J J J J J J J (Bs 3 J J J J (Bs 3 J J J J .nil))) J J J ?_) | (refine S_callPk 9 (wKeys 2) Tryz.call70 (c_l3Goes ⟨_, _, _, _, _, _, _, _, _⟩ 1 _ _ G1 h1 h3 (Tds_le hle1 ht) hw 7 a bb n x y r _ _ _ (Sts_le hle1 hx) (Sts_le hle1 hy) hr1 ⟨i1, i2, i3, i4⟩ (hs.r6 (by simp [Stm.kind])).2.1 (hs.r6 (by simp [Stm.kind])).2.2 hrl (hs.r6 (by simp [Stm.kind])).1 (by simp)) (Wvp [_, _] kg spg J ‹_› J J J J J J J J J) J (Wsub 10 J J J J J J J J J J J J J J J J (Bs 3 J J J J (Bs 3 J J J J .nil))) J J J ?_) | (refine S_callPk 9 (wKeys 3) Tryz.call70 (c_l3Goes ⟨_, _, _, _, _, _, _, _, _⟩ 0 _ _ G1 h1 h3 (Tds_le hle1 ht) hw 7 a bb n x y r _ _ _ (Sts_le hle1 hx) (Sts_le hle1 hy) hr1 ⟨i1, i2, i3, i4⟩ (hs.r6 (by simp [Stm.kind])).2.1 (hs.r6 (by simp [Stm.kind])).2.2 hrl (hs.r6 (by simp [Stm.kind])).1 (by simp)) (Wvp [_, _, _] kg spg J ‹_› J J J J J J J J J) J (Wsub 15 J J J J J J J J J J J J J J J J (Bs 3 J J J J (Bs 3 J J J J (Bs 3 J J J J .nil)))) J J J ?_) | (refine S_callPk 9 (wKeys 3) Tryz.call70 (c_l3Goes ⟨_, _, _, _, _, _, _, _, _⟩ 1 _ _ G1 h1 h3 (Tds_le hle1 ht) hw 7 a bb n x y r _ _ _ (Sts_le hle1 hx) (Sts_le hle1 hy) hr1 ⟨i1, i2, i3, i4⟩ (hs.r6 (by simp [Stm.kind])).2.1 (hs.r6 (by simp [Stm.kind])).2.2 hrl (hs.r6 (by simp [Stm.kind])).1 (by simp)) (Wvp [_, _, _] kg spg J ‹_› J J J J J J J J J) J (Wsub 15 J J J J J J J J J J J J J J J J (Bs 3 J J J J (Bs 3 J J J J (Bs 3 J J J J .nil)))) J J J ?_) | (refine S_callPk 9 (wKeys 3) Tryz.call70 (c_l3Goes ⟨_, _, _, _, _, _, _, _, _⟩ 2 _ _ G1 h1 h3 (Tds_le hle1 ht) hw 7 a bb n x y r _ _ _ (Sts_le hle1 hx) (Sts_le hle1 hy) hr1 ⟨i1, i2, i3, i4⟩ (hs.r6 (by simp [Stm.kind])).2.1 (hs.r6 (by simp [Stm.kind])).2.2 hrl (hs.r6 (by simp [Stm.kind])).1 (by simp)) (Wvp [_, _, _] kg spg J ‹_› J J J J J J J J J) J (Wsub 15 J J J J J J J J J J J J J J J J (Bs 3 J J J J (Bs 3 J J J J (Bs 3 J J J J .nil)))) J J J ?_)
    rintro v G2 A' ⟨cs', ts', rfl, rfl, ht'⟩ hext
    refine S_csV 9 J ?_;rintro bp bc br bs kp asd ksd kc kr ks rfl
    refine Va J J ?_;exact S_retm 9 (Res.c1 Tk Tryz.results47 J J) J (hext1.trans hext) ⟨_, _, J, by rw [← hgo (by simp [Stm.kind])], by rw [← hgo (by simp [Stm.kind])]; exact ht'⟩
   by_cases e8 : kk = 8
   ·subst e8
    refine RF J J ?_;refine Va J J ?_;refine RF J J ?_;refine Va J J ?_;refine RT J J ?_;refine Va J J ?_;refine RT J J ?_;refine Va J J ?_
    first | (refine S_callPk 9 (wKeys 1) Tryz.call71 (c_l3Room ⟨_, _, _, _, _, _, _, _, _⟩ 0 _ _ G1 h1 h3 (Tds_le hle1 ht) hw hq0 hq1 hf0 hf1 8 a bb n x y r _ _ _ _ _ (Sts_le hle1 hx) hr1 hrl (by simp) (fun h => hs.r8 h) (fun h => hs.r9 h) (fun h => hs.r10 h)) (Wvp [_] kg spg J ‹_› J J J J J J J J J) J (Wsub 5 J J J J J J J J J J J J J J J J (Bs 3 J J J J .nil)) J J J ?_) | (refine S_callPk 9 (wKeys 2) Tryz.call71 (c_l3Room ⟨_, _, _, _, _, _, _, _, _⟩ 0 _ _ G1 h1 h3 (Tds_le hle1 ht) hw hq0 hq1 hf0 hf1 8 a bb n x y r _ _ _ _ _ (Sts_le hle1 hx) hr1 hrl (by simp) (fun h => hs.r8 h) (fun h => hs.r9 h) (fun h => hs.r10 h)) (Wvp [_, _] kg spg J ‹_› J J J J J J J J J) J (Wsub 10 J J J J J J J J J J J J J J J J (Bs 3 J J J J (Bs 3 J J J J .nil))) J J J ?_) | (refine S_callPk 9 (wKeys 2) Tryz.call71 (c_l3Room ⟨_, _, _, _, _, _, _, _, _⟩ 1 _ _ G1 h1 h3 (Tds_le hle1 ht) hw hq0 hq1 hf0 hf1 8 a bb n x y r _ _ _ _ _ (Sts_le hle1 hx) hr1 hrl (by simp) (fun h => hs.r8 h) (fun h => hs.r9 h) (fun h => hs.r10 h)) (Wvp [_, _] kg spg J ‹_› J J J J J J J J J) J (Wsub 10 J J J J J J J J J J J J J J J J (Bs 3 J J J J (Bs 3 J J J J .nil))) J J J ?_) | (refine S_callPk 9 (wKeys 3) Tryz.call71 (c_l3Room ⟨_, _, _, _, _, _, _, _, _⟩ 0 _ _ G1 h1 h3 (Tds_le hle1 ht) hw hq0 hq1 hf0 hf1 8 a bb n x y r _ _ _ _ _ (Sts_le hle1 hx) hr1 hrl (by simp) (fun h => hs.r8 h) (fun h => hs.r9 h) (fun h => hs.r10 h)) (Wvp [_, _, _] kg spg J ‹_› J J J J J J J J J) J (Wsub 15 J J J J J J J J J J J J J J J J (Bs 3 J J J J (Bs 3 J J J J (Bs 3 J J J J .nil)))) J J J ?_) | (refine S_callPk 9 (wKeys 3) Tryz.call71 (c_l3Room ⟨_, _, _, _, _, _, _, _, _⟩ 1 _ _ G1 h1 h3 (Tds_le hle1 ht) hw hq0 hq1 hf0 hf1 8 a bb n x y r _ _ _ _ _ (Sts_le hle1 hx) hr1 hrl (by simp) (fun h => hs.r8 h) (fun h => hs.r9 h) (fun h => hs.r10 h)) (Wvp [_, _, _] kg spg J ‹_› J J J J J J J J J) J (Wsub 15 J J J J J J J J J J J J J J J J (Bs 3 J J J J (Bs 3 J J J J (Bs 3 J J J J .nil)))) J J J ?_) | (refine S_callPk 9 (wKeys 3) Tryz.call71 (c_l3Room ⟨_, _, _, _, _, _, _, _, _⟩ 2 _ _ G1 h1 h3 (Tds_le hle1 ht) hw hq0 hq1 hf0 hf1 8 a bb n x y r _ _ _ _ _ (Sts_le hle1 hx) hr1 hrl (by simp) (fun h => hs.r8 h) (fun h => hs.r9 h) (fun h => hs.r10 h)) (Wvp [_, _, _] kg spg J ‹_› J J J J J J J J J) J (Wsub 15 J J J J J J J J J J J J J J J J (Bs 3 J J J J (Bs 3 J J J J (Bs 3 J J J J .nil)))) J J J ?_)
    rintro v G2 A' ⟨cs', ts', rfl, rfl, ht'⟩ hext
    refine S_csV 9 J ?_;rintro bp bc br bs kp asd ksd kc kr ks rfl
    refine Va J J ?_;exact S_retm 9 (Res.c1 Tk Tryz.results47 J J) J (hext1.trans hext) ⟨_, _, J, by rw [hst]; rfl, by rw [hst]; exact ht'⟩
   by_cases e12 : kk = 12
   ·subst e12
    refine RF J J ?_;refine Va J J ?_;refine RF J J ?_;refine Va J J ?_;refine RF J J ?_;refine Va J J ?_;refine RT J J ?_;refine Va J J ?_;refine RT J J ?_;refine Va J J ?_
    first | (refine S_callPk 9 (wKeys 1) Tryz.call71 (c_l3Room ⟨_, _, _, _, _, _, _, _, _⟩ 0 _ _ G1 h1 h3 (Tds_le hle1 ht) hw hq0 hq1 hf0 hf1 12 a bb n x y r _ _ _ _ _ (Sts_le hle1 hx) hr1 hrl (by simp) (fun h => hs.r8 h) (fun h => hs.r9 h) (fun h => hs.r10 h)) (Wvp [_] kg spg J ‹_› J J J J J J J J J) J (Wsub 5 J J J J J J J J J J J J J J J J (Bs 3 J J J J .nil)) J J J ?_) | (refine S_callPk 9 (wKeys 2) Tryz.call71 (c_l3Room ⟨_, _, _, _, _, _, _, _, _⟩ 0 _ _ G1 h1 h3 (Tds_le hle1 ht) hw hq0 hq1 hf0 hf1 12 a bb n x y r _ _ _ _ _ (Sts_le hle1 hx) hr1 hrl (by simp) (fun h => hs.r8 h) (fun h => hs.r9 h) (fun h => hs.r10 h)) (Wvp [_, _] kg spg J ‹_› J J J J J J J J J) J (Wsub 10 J J J J J J J J J J J J J J J J (Bs 3 J J J J (Bs 3 J J J J .nil))) J J J ?_) | (refine S_callPk 9 (wKeys 2) Tryz.call71 (c_l3Room ⟨_, _, _, _, _, _, _, _, _⟩ 1 _ _ G1 h1 h3 (Tds_le hle1 ht) hw hq0 hq1 hf0 hf1 12 a bb n x y r _ _ _ _ _ (Sts_le hle1 hx) hr1 hrl (by simp) (fun h => hs.r8 h) (fun h => hs.r9 h) (fun h => hs.r10 h)) (Wvp [_, _] kg spg J ‹_› J J J J J J J J J) J (Wsub 10 J J J J J J J J J J J J J J J J (Bs 3 J J J J (Bs 3 J J J J .nil))) J J J ?_) | (refine S_callPk 9 (wKeys 3) Tryz.call71 (c_l3Room ⟨_, _, _, _, _, _, _, _, _⟩ 0 _ _ G1 h1 h3 (Tds_le hle1 ht) hw hq0 hq1 hf0 hf1 12 a bb n x y r _ _ _ _ _ (Sts_le hle1 hx) hr1 hrl (by simp) (fun h => hs.r8 h) (fun h => hs.r9 h) (fun h => hs.r10 h)) (Wvp [_, _, _] kg spg J ‹_› J J J J J J J J J) J (Wsub 15 J J J J J J J J J J J J J J J J (Bs 3 J J J J (Bs 3 J J J J (Bs 3 J J J J .nil)))) J J J ?_) | (refine S_callPk 9 (wKeys 3) Tryz.call71 (c_l3Room ⟨_, _, _, _, _, _, _, _, _⟩ 1 _ _ G1 h1 h3 (Tds_le hle1 ht) hw hq0 hq1 hf0 hf1 12 a bb n x y r _ _ _ _ _ (Sts_le hle1 hx) hr1 hrl (by simp) (fun h => hs.r8 h) (fun h => hs.r9 h) (fun h => hs.r10 h)) (Wvp [_, _, _] kg spg J ‹_› J J J J J J J J J) J (Wsub 15 J J J J J J J J J J J J J J J J (Bs 3 J J J J (Bs 3 J J J J (Bs 3 J J J J .nil)))) J J J ?_) | (refine S_callPk 9 (wKeys 3) Tryz.call71 (c_l3Room ⟨_, _, _, _, _, _, _, _, _⟩ 2 _ _ G1 h1 h3 (Tds_le hle1 ht) hw hq0 hq1 hf0 hf1 12 a bb n x y r _ _ _ _ _ (Sts_le hle1 hx) hr1 hrl (by simp) (fun h => hs.r8 h) (fun h => hs.r9 h) (fun h => hs.r10 h)) (Wvp [_, _, _] kg spg J ‹_› J J J J J J J J J) J (Wsub 15 J J J J J J J J J J J J J J J J (Bs 3 J J J J (Bs 3 J J J J (Bs 3 J J J J .nil)))) J J J ?_)
    rintro v G2 A' ⟨cs', ts', rfl, rfl, ht'⟩ hext
    refine S_csV 9 J ?_;rintro bp bc br bs kp asd ksd kc kr ks rfl
    refine Va J J ?_;exact S_retm 9 (Res.c1 Tk Tryz.results47 J J) J (hext1.trans hext) ⟨_, _, J, by rw [hst]; rfl, by rw [hst]; exact ht'⟩
   by_cases e9 : kk = 9
   ·subst e9
    refine RF J J ?_;refine Va J J ?_;refine RF J J ?_;refine Va J J ?_;refine RF J J ?_;refine Va J J ?_;refine RF J J ?_;refine Va J J ?_;refine RT J J ?_;refine Va J J ?_;refine RT J J ?_;refine Va J J ?_
    first | (refine S_callPk 9 (wKeys 1) Tryz.call71 (c_l3Room ⟨_, _, _, _, _, _, _, _, _⟩ 0 _ _ G1 h1 h3 (Tds_le hle1 ht) hw hq0 hq1 hf0 hf1 9 a bb n x y r _ _ _ _ _ (Sts_le hle1 hx) hr1 hrl (by simp) (fun h => hs.r8 h) (fun h => hs.r9 h) (fun h => hs.r10 h)) (Wvp [_] kg spg J ‹_› J J J J J J J J J) J (Wsub 5 J J J J J J J J J J J J J J J J (Bs 3 J J J J .nil)) J J J ?_) | (refine S_callPk 9 (wKeys 2) Tryz.call71 (c_l3Room ⟨_, _, _, _, _, _, _, _, _⟩ 0 _ _ G1 h1 h3 (Tds_le hle1 ht) hw hq0 hq1 hf0 hf1 9 a bb n x y r _ _ _ _ _ (Sts_le hle1 hx) hr1 hrl (by simp) (fun h => hs.r8 h) (fun h => hs.r9 h) (fun h => hs.r10 h)) (Wvp [_, _] kg spg J ‹_› J J J J J J J J J) J (Wsub 10 J J J J J J J J J J J J J J J J (Bs 3 J J J J (Bs 3 J J J J .nil))) J J J ?_) | (refine S_callPk 9 (wKeys 2) Tryz.call71 (c_l3Room ⟨_, _, _, _, _, _, _, _, _⟩ 1 _ _ G1 h1 h3 (Tds_le hle1 ht) hw hq0 hq1 hf0 hf1 9 a bb n x y r _ _ _ _ _ (Sts_le hle1 hx) hr1 hrl (by simp) (fun h => hs.r8 h) (fun h => hs.r9 h) (fun h => hs.r10 h)) (Wvp [_, _] kg spg J ‹_› J J J J J J J J J) J (Wsub 10 J J J J J J J J J J J J J J J J (Bs 3 J J J J (Bs 3 J J J J .nil))) J J J ?_) | (refine S_callPk 9 (wKeys 3) Tryz.call71 (c_l3Room ⟨_, _, _, _, _, _, _, _, _⟩ 0 _ _ G1 h1 h3 (Tds_le hle1 ht) hw hq0 hq1 hf0 hf1 9 a bb n x y r _ _ _ _ _ (Sts_le hle1 hx) hr1 hrl (by simp) (fun h => hs.r8 h) (fun h => hs.r9 h) (fun h => hs.r10 h)) (Wvp [_, _, _] kg spg J ‹_› J J J J J J J J J) J (Wsub 15 J J J J J J J J J J J J J J J J (Bs 3 J J J J (Bs 3 J J J J (Bs 3 J J J J .nil)))) J J J ?_) | (refine S_callPk 9 (wKeys 3) Tryz.call71 (c_l3Room ⟨_, _, _, _, _, _, _, _, _⟩ 1 _ _ G1 h1 h3 (Tds_le hle1 ht) hw hq0 hq1 hf0 hf1 9 a bb n x y r _ _ _ _ _ (Sts_le hle1 hx) hr1 hrl (by simp) (fun h => hs.r8 h) (fun h => hs.r9 h) (fun h => hs.r10 h)) (Wvp [_, _, _] kg spg J ‹_› J J J J J J J J J) J (Wsub 15 J J J J J J J J J J J J J J J J (Bs 3 J J J J (Bs 3 J J J J (Bs 3 J J J J .nil)))) J J J ?_) | (refine S_callPk 9 (wKeys 3) Tryz.call71 (c_l3Room ⟨_, _, _, _, _, _, _, _, _⟩ 2 _ _ G1 h1 h3 (Tds_le hle1 ht) hw hq0 hq1 hf0 hf1 9 a bb n x y r _ _ _ _ _ (Sts_le hle1 hx) hr1 hrl (by simp) (fun h => hs.r8 h) (fun h => hs.r9 h) (fun h => hs.r10 h)) (Wvp [_, _, _] kg spg J ‹_› J J J J J J J J J) J (Wsub 15 J J J J J J J J J J J J J J J J (Bs 3 J J J J (Bs 3 J J J J (Bs 3 J J J J .nil)))) J J J ?_)
    rintro v G2 A' ⟨cs', ts', rfl, rfl, ht'⟩ hext
    refine S_csV 9 J ?_;rintro bp bc br bs kp asd ksd kc kr ks rfl
    refine Va J J ?_;exact S_retm 9 (Res.c1 Tk Tryz.results47 J J) J (hext1.trans hext) ⟨_, _, J, by rw [hst]; rfl, by rw [hst]; exact ht'⟩
   by_cases e10 : kk = 10
   ·subst e10
    refine RF J J ?_;refine Va J J ?_;refine RF J J ?_;refine Va J J ?_;refine RF J J ?_;refine Va J J ?_;refine RF J J ?_;refine Va J J ?_;refine RF J J ?_;refine Va J J ?_;refine RT J J ?_;refine Va J J ?_
    first | (refine S_callPk 9 (wKeys 1) Tryz.call71 (c_l3Room ⟨_, _, _, _, _, _, _, _, _⟩ 0 _ _ G1 h1 h3 (Tds_le hle1 ht) hw hq0 hq1 hf0 hf1 10 a bb n x y r _ _ _ _ _ (Sts_le hle1 hx) hr1 hrl (by simp) (fun h => hs.r8 h) (fun h => hs.r9 h) (fun h => hs.r10 h)) (Wvp [_] kg spg J ‹_› J J J J J J J J J) J (Wsub 5 J J J J J J J J J J J J J J J J (Bs 3 J J J J .nil)) J J J ?_) | (refine S_callPk 9 (wKeys 2) Tryz.call71 (c_l3Room ⟨_, _, _, _, _, _, _, _, _⟩ 0 _ _ G1 h1 h3 (Tds_le hle1 ht) hw hq0 hq1 hf0 hf1 10 a bb n x y r _ _ _ _ _ (Sts_le hle1 hx) hr1 hrl (by simp) (fun h => hs.r8 h) (fun h => hs.r9 h) (fun h => hs.r10 h)) (Wvp [_, _] kg spg J ‹_› J J J J J J J J J) J (Wsub 10 J J J J J J J J J J J J J J J J (Bs 3 J J J J (Bs 3 J J J J .nil))) J J J ?_) | (refine S_callPk 9 (wKeys 2) Tryz.call71 (c_l3Room ⟨_, _, _, _, _, _, _, _, _⟩ 1 _ _ G1 h1 h3 (Tds_le hle1 ht) hw hq0 hq1 hf0 hf1 10 a bb n x y r _ _ _ _ _ (Sts_le hle1 hx) hr1 hrl (by simp) (fun h => hs.r8 h) (fun h => hs.r9 h) (fun h => hs.r10 h)) (Wvp [_, _] kg spg J ‹_› J J J J J J J J J) J (Wsub 10 J J J J J J J J J J J J J J J J (Bs 3 J J J J (Bs 3 J J J J .nil))) J J J ?_) | (refine S_callPk 9 (wKeys 3) Tryz.call71 (c_l3Room ⟨_, _, _, _, _, _, _, _, _⟩ 0 _ _ G1 h1 h3 (Tds_le hle1 ht) hw hq0 hq1 hf0 hf1 10 a bb n x y r _ _ _ _ _ (Sts_le hle1 hx) hr1 hrl (by simp) (fun h => hs.r8 h) (fun h => hs.r9 h) (fun h => hs.r10 h)) (Wvp [_, _, _] kg spg J ‹_› J J J J J J J J J) J (Wsub 15 J J J J J J J J J J J J J J J J (Bs 3 J J J J (Bs 3 J J J J (Bs 3 J J J J .nil)))) J J J ?_) | (refine S_callPk 9 (wKeys 3) Tryz.call71 (c_l3Room ⟨_, _, _, _, _, _, _, _, _⟩ 1 _ _ G1 h1 h3 (Tds_le hle1 ht) hw hq0 hq1 hf0 hf1 10 a bb n x y r _ _ _ _ _ (Sts_le hle1 hx) hr1 hrl (by simp) (fun h => hs.r8 h) (fun h => hs.r9 h) (fun h => hs.r10 h)) (Wvp [_, _, _] kg spg J ‹_› J J J J J J J J J) J (Wsub 15 J J J J J J J J J J J J J J J J (Bs 3 J J J J (Bs 3 J J J J (Bs 3 J J J J .nil)))) J J J ?_) | (refine S_callPk 9 (wKeys 3) Tryz.call71 (c_l3Room ⟨_, _, _, _, _, _, _, _, _⟩ 2 _ _ G1 h1 h3 (Tds_le hle1 ht) hw hq0 hq1 hf0 hf1 10 a bb n x y r _ _ _ _ _ (Sts_le hle1 hx) hr1 hrl (by simp) (fun h => hs.r8 h) (fun h => hs.r9 h) (fun h => hs.r10 h)) (Wvp [_, _, _] kg spg J ‹_› J J J J J J J J J) J (Wsub 15 J J J J J J J J J J J J J J J J (Bs 3 J J J J (Bs 3 J J J J (Bs 3 J J J J .nil)))) J J J ?_)
    rintro v G2 A' ⟨cs', ts', rfl, rfl, ht'⟩ hext
    refine S_csV 9 J ?_;rintro bp bc br bs kp asd ksd kc kr ks rfl
    refine Va J J ?_;exact S_retm 9 (Res.c1 Tk Tryz.results47 J J) J (hext1.trans hext) ⟨_, _, J, by rw [hst]; rfl, by rw [hst]; exact ht'⟩
   refine RF J (by simp [e6]) ?_;refine Va J J ?_;refine RF J (by simp [e7]) ?_;refine Va J J ?_;refine RF J (by simp [e8]) ?_;refine Va J J ?_;refine RF J (by simp [e12]) ?_;refine Va J J ?_;refine RF J (by simp [e9]) ?_;refine Va J J ?_;refine RF J (by simp [e10]) ?_;refine Va J J ?_
   first | (refine S_callPk 9 (wKeys 1) Tryz.call72 (c_l3Leaf (Wld.upd ⟨_, _, _, _, _, _, _, _, _⟩ 0 (fun p => { p with todo := r })) 0 _ _ G1 (by rw [upd_len]; exact h1) (by rw [upd_len]; exact h3) (Tds_upd hle1 (fun p => { p with todo := r }) hw ht hr1) (by rw [upd_len]; exact hw) hsd kk a bb n x y _ _ _ _ _ _ (fun h => hs.r1 h) (fun h => hs.r2 h)) (Wvp [_] kg spg J ‹_› J J J J J J J J J) J (Wsub 5 J J J J J J J J J J J J J J J J (Bs 3 J J J J .nil)) J J J ?_) | (refine S_callPk 9 (wKeys 2) Tryz.call72 (c_l3Leaf (Wld.upd ⟨_, _, _, _, _, _, _, _, _⟩ 0 (fun p => { p with todo := r })) 0 _ _ G1 (by rw [upd_len]; exact h1) (by rw [upd_len]; exact h3) (Tds_upd hle1 (fun p => { p with todo := r }) hw ht hr1) (by rw [upd_len]; exact hw) hsd kk a bb n x y _ _ _ _ _ _ (fun h => hs.r1 h) (fun h => hs.r2 h)) (Wvp [_, _] kg spg J ‹_› J J J J J J J J J) J (Wsub 10 J J J J J J J J J J J J J J J J (Bs 3 J J J J (Bs 3 J J J J .nil))) J J J ?_) | (refine S_callPk 9 (wKeys 2) Tryz.call72 (c_l3Leaf (Wld.upd ⟨_, _, _, _, _, _, _, _, _⟩ 1 (fun p => { p with todo := r })) 1 _ _ G1 (by rw [upd_len]; exact h1) (by rw [upd_len]; exact h3) (Tds_upd hle1 (fun p => { p with todo := r }) hw ht hr1) (by rw [upd_len]; exact hw) hsd kk a bb n x y _ _ _ _ _ _ (fun h => hs.r1 h) (fun h => hs.r2 h)) (Wvp [_, _] kg spg J ‹_› J J J J J J J J J) J (Wsub 10 J J J J J J J J J J J J J J J J (Bs 3 J J J J (Bs 3 J J J J .nil))) J J J ?_) | (refine S_callPk 9 (wKeys 3) Tryz.call72 (c_l3Leaf (Wld.upd ⟨_, _, _, _, _, _, _, _, _⟩ 0 (fun p => { p with todo := r })) 0 _ _ G1 (by rw [upd_len]; exact h1) (by rw [upd_len]; exact h3) (Tds_upd hle1 (fun p => { p with todo := r }) hw ht hr1) (by rw [upd_len]; exact hw) hsd kk a bb n x y _ _ _ _ _ _ (fun h => hs.r1 h) (fun h => hs.r2 h)) (Wvp [_, _, _] kg spg J ‹_› J J J J J J J J J) J (Wsub 15 J J J J J J J J J J J J J J J J (Bs 3 J J J J (Bs 3 J J J J (Bs 3 J J J J .nil)))) J J J ?_) | (refine S_callPk 9 (wKeys 3) Tryz.call72 (c_l3Leaf (Wld.upd ⟨_, _, _, _, _, _, _, _, _⟩ 1 (fun p => { p with todo := r })) 1 _ _ G1 (by rw [upd_len]; exact h1) (by rw [upd_len]; exact h3) (Tds_upd hle1 (fun p => { p with todo := r }) hw ht hr1) (by rw [upd_len]; exact hw) hsd kk a bb n x y _ _ _ _ _ _ (fun h => hs.r1 h) (fun h => hs.r2 h)) (Wvp [_, _, _] kg spg J ‹_› J J J J J J J J J) J (Wsub 15 J J J J J J J J J J J J J J J J (Bs 3 J J J J (Bs 3 J J J J (Bs 3 J J J J .nil)))) J J J ?_) | (refine S_callPk 9 (wKeys 3) Tryz.call72 (c_l3Leaf (Wld.upd ⟨_, _, _, _, _, _, _, _, _⟩ 2 (fun p => { p with todo := r })) 2 _ _ G1 (by rw [upd_len]; exact h1) (by rw [upd_len]; exact h3) (Tds_upd hle1 (fun p => { p with todo := r }) hw ht hr1) (by rw [upd_len]; exact hw) hsd kk a bb n x y _ _ _ _ _ _ (fun h => hs.r1 h) (fun h => hs.r2 h)) (Wvp [_, _, _] kg spg J ‹_› J J J J J J J J J) J (Wsub 15 J J J J J J J J J J J J J J J J (Bs 3 J J J J (Bs 3 J J J J (Bs 3 J J J J .nil)))) J J J ?_)
   rintro v G2 A' ⟨cs', ts', rfl, rfl, ht'⟩ hext
   refine S_csV 9 J ?_;rintro bp bc br bs kp asd ksd kc kr ks rfl
   refine Va J J ?_
   have hlf : ∀ (V : Wld) (z : Nat), V.leaf z (.mk kk a bb n x y) = V.stepS z (.mk kk a bb n x y) := fun V z => leaf_eq V z _ e6 e7 e8 e9 e10 e12
   exact S_retm 9 (Res.c1 Tk Tryz.results47 J J) J (hext1.trans hext) ⟨_, ts', J, by rw [hst, ← hlf]; rfl, by rw [hst, ← hlf]; exact ht'⟩
end
section
attribute [local irreducible] X Pure Mod
end
section
attribute [local irreducible] X Pure Mod
theorem Stm.row_at {G : PH} {L : List Stm} {ad : Addr} (h : Stm.row G L ad) {k : Nat} (hk : k < L.length) : ∃ cs, gcells G (ad.add (k * 6)) cs ∧ Stm.rep G L[k] cs := by
 induction L generalizing ad k with
 | nil => simp at hk
 | cons s r ih =>
  obtain ⟨h1, h2⟩ := (show (∃ cs, gcells G ad cs ∧ Stm.rep G s cs) ∧ Stm.row G r (ad.add 6) from by simpa [Stm.row] using h)
  cases k with
  | zero => simpa [add_zero'] using h1
  | succ k =>
   obtain ⟨cs, h3, h4⟩ := ih h2 (k := k) (by simpa using hk)
   rw [add_add'] at h3
   exact ⟨cs, by rw [show (k + 1) * 6 = 6 + k * 6 by omega]; exact h3, by simpa using h4⟩
mutual
def stmtOk : Stm → Int → Int → Bool
 | .mk k a b n x y, deep, room =>
  if (decide (k ≠ 6) && decide (0 < y.length)) || decide (deep < 1) then false
  else if k = 6 ∨ k = 7 then decide (0 ≤ a) && decide (a < 3) && decide (b = 0) && decide (n = 0) && listOk x (deep - 1) room && listOk y (deep - 1) room
  else if k = 8 then decide (room < 0) && decide (0 ≤ a) && decide (a < 2) && decide (b = 0) && decide (n = 0) && listOk x (deep - 1) a
  else decide (x.length = 0) && leafOk k a b n room
def listOk : List Stm → Int → Int → Bool
 | [], _, _ => true
 | s :: r, deep, room => stmtOk s deep room && listOk r deep room
end
theorem listOk_all (L : List Stm) (d r : Int) : listOk L d r = L.all (stmtOk · d r) := by
 induction L with
 | nil => simp [listOk]
 | cons s L ih => simp [listOk, ih]
theorem listOk_false {L : List Stm} {d r : Int} {k : Nat} (hk : k < L.length) (h : stmtOk L[k] d r = false) : listOk L d r = false := by
 rw [listOk_all, List.all_eq_false]
 exact ⟨L[k], List.getElem_mem hk, by simp [h]⟩
theorem listOk_true {L : List Stm} {d r : Int} (h : ∀ k (hk : k < L.length), stmtOk L[k] d r = true) : listOk L d r = true := by
 rw [listOk_all, List.all_eq_true]
 intro s hs
 obtain ⟨k, hk, rfl⟩ := List.getElem_of_mem hs
 exact h k hk
theorem c_l2List_of (L : List Stm) (deep room : Int) (v : Value) (G : PH) (hL : Sl G (Stm.row G L) L.length v) (h1 : ∀ k (hk : k < L.length) cs, Stm.rep G L[k] cs → Pure Tryz.prog 82 [.agg cs.toArray, .int .i64 deep, .int .i64 room] G fun v G' => v = .bool (stmtOk L[k] deep room) ∧ G' = G) :
  Pure Tryz.prog 66 [v, .int .i64 deep, .int .i64 room] G fun v G' => v = .bool (listOk L deep room) ∧ G' = G := by
 obtain ⟨A, c, rfl, hn, hc1, hc2, hr⟩ := hL
 refine Pure.intro Tryz.func66 Tryz.ntmps66 J J fun w => ?_;refine Va J J ?_;refine S_loop (α := Nat) (fun k => k ≤ L.length ∧ ∀ j (hj : j < L.length), j < k → stmtOk L[j] deep room = true) (fun k => L.length - k) []
  (fun k => [(7, .val (.int .i64 k)), (0, .val (.slice A L.length c)), (1, .val (.int .i64 deep)), (2, .val (.int .i64 room))]) (fun _ => []) (fun _ => G) 0 ⟨Nat.zero_le _, fun j _ h => by omega⟩ rfl ⟨⟨_, rfl, rfl⟩, ⟨_, rfl, rfl⟩, ⟨_, rfl, rfl⟩, ⟨_, rfl, rfl⟩, trivial⟩ .nil ?_
 rintro k ⟨hk, hall⟩
 refine Va J J ?_
 refine S_condp J (fun h => ?_) (fun h => ?_) <;> refine Va J J ?_
 ·have hkl : k < L.length := by omega
  obtain ⟨ad, rfl, hrow⟩ : ∃ ad, A = some ad ∧ Stm.row G L ad := by
   rcases hr with h0 | h0
   ·omega
   ·exact h0
  obtain ⟨cs, hcs, hrep⟩ := Stm.row_at hrow hkl
  have hlen : cs.length = 6 := by
   cases hs : L[k]; rw [hs] at hrep; obtain ⟨vx, vy, e, _⟩ := (by simpa [Stm.rep] using hrep); simp [e]
  refine S_index Tk J J J J J J (by omega) (by omega) ?_;refine Va J J ?_;refine S_loadA Tk J J J J hlen hcs ?_;refine Va J J ?_;refine S_call Tryz.call82 (h1 k hkl cs hrep) J J J ?_;rintro v G' ⟨rfl, rfl⟩ _
  refine Va J J ?_
  refine S_cond J (fun h => ?_) (fun h => ?_) <;> refine Va J J ?_
  ·refine S_retP Tryz.results66 J J XR ⟨?_, J⟩
   rw [listOk_false hkl (by simpa using h)]
  ·refine S_add J J J J (by omega) ?_
   refine Va J J ?_;refine S_again (k + 1) ⟨by omega, fun j hj hjk => ?_⟩ (by omega) J ⟨⟨_, J, J⟩, ⟨_, J, J⟩, ⟨_, J, J⟩, ⟨_, J, J⟩, trivial⟩ .nil
   rcases Nat.lt_or_ge j k with h' | h'
   ·exact hall j hj h'
   ·obtain rfl : j = k := by omega
    simpa using h
 ·refine S_retP Tryz.results66 J J XR ⟨?_, J⟩
  rw [listOk_true fun j hj => hall j hj (by omega)]
end
section
attribute [local irreducible] X Pure Mod
def L2ok (L : List Stm) : Prop := ∀ (deep room : Int) (v : Value) (G : PH), I64 deep → Sts G L v → Pure Tryz.prog 66 [v, .int .i64 deep, .int .i64 room] G fun v G' => v = .bool (listOk L deep room) ∧ G' = G
theorem c_l2Stmt_of (s : Stm) (hx : L2ok s.body) (hy : L2ok s.els) (deep room : Int) (hd : I64 deep) (cs : List Value) (G : PH) (hs : Stm.rep G s cs) :
  Pure Tryz.prog 82 [.agg cs.toArray, .int .i64 deep, .int .i64 room] G fun v G' => v = .bool (stmtOk s deep room) ∧ G' = G := by
 obtain ⟨k, a, b, n, x, y⟩ := s
 obtain ⟨vx, vy, rfl, hk, ha, hb, hn, h1, h2⟩ := Stm.rep_iff.1 hs
 have gx := hx
 have gy := hy
 simp only [Stm.body, Stm.els] at gx gy
 obtain ⟨Ax, cx, rfl, _⟩ := id h1
 obtain ⟨Ay, cy, rfl, _⟩ := id h2
 unfold I64 at hd ha
 refine Pure.intro Tryz.func82 Tryz.ntmps82 J J fun w => ?_; refine Va J J ?_
 repeat' (first
  | (refine S_condp J (fun h => ?_) (fun h => ?_) <;> refine Va J J ?_) | (refine S_cond J (fun h => ?_) (fun h => ?_) <;> refine Va J J ?_) | (refine S_box J J J J J fun b => ?_; refine Va J J ?_) | (refine AZ ZT_ok J J J J fun b => ?_; refine Va J J ?_) | (refine S_guardp J J (fun h => ?_) (fun h => ?_) <;> refine Va J J ?_) | (refine S_guard J J (fun h => ?_) (fun h => ?_) <;> refine Va J J ?_)
  | (refine S_subI J J J J (by simp_all; omega) ?_; refine Va J J ?_)
  | (refine S_call Tryz.call66 (gx _ _ _ _ (by unfold I64; simp_all; omega) h1) rfl rfl rfl ?_; rintro v G' ⟨rfl, rfl⟩ _; refine Va J J ?_)
  | (refine S_call Tryz.call66 (gy _ _ _ _ (by unfold I64; simp_all; omega) h2) rfl rfl rfl ?_; rintro v G' ⟨rfl, rfl⟩ _; refine Va J J ?_)
  | (refine S_call Tryz.call94 (c_l2Leaf _ _ _ _ _ _ _ _) J J J ?_; rintro v G' ⟨rfl, rfl⟩ _; refine Va J J ?_)
  | (refine S_retP Tryz.results82 J J XR ⟨?_, J⟩))
 all_goals (try simp_all [stmtOk, Stm.body, Stm.els])
 all_goals (try omega)
end
section
attribute [local irreducible] X Pure Mod
theorem L2ok_of (L : List Stm) (h : ∀ k (hk : k < L.length), L2ok L[k].body ∧ L2ok L[k].els) : L2ok L := by
 intro deep room v G hd hv
 refine c_l2List_of L deep room v G (Sts_Sl.1 hv) fun k hk cs hs => ?_;exact c_l2Stmt_of L[k] (h k hk).1 (h k hk).2 deep room hd cs G hs
mutual
theorem L2ok_stm : ∀ (s : Stm), L2ok s.body ∧ L2ok s.els
 | .mk k a b n x y => ⟨L2ok_all x, L2ok_all y⟩
theorem L2ok_at : ∀ (L : List Stm) (k : Nat) (hk : k < L.length), L2ok L[k].body ∧ L2ok L[k].els
 | [], k, hk => absurd hk (by simp)
 | s :: L, 0, _ => L2ok_stm s
 | s :: L, k + 1, hk => L2ok_at L k (by simpa using hk)
theorem L2ok_all : ∀ (L : List Stm), L2ok L
 | L => L2ok_of L (L2ok_at L)
end
mutual
def manyS : Stm → Int → Int
 | .mk _ _ _ _ x y, d => 1 + many x (d - 1) + many y (d - 1)
def many : List Stm → Int → Int
 | [], _ => 0
 | s :: r, d => (if 0 < d then manyS s d else 0) + many r d
end
theorem many_append (L M : List Stm) (d : Int) : many (L ++ M) d = many L d + many M d := by
 induction L with
 | nil => simp [many]
 | cons s L ih => simp only [List.cons_append, many, ih]; omega
theorem many_zero (L : List Stm) {d : Int} (h : ¬ 0 < d) : many L d = 0 := by
 induction L with
 | nil => simp [many]
 | cons s L ih => simp only [many, ih, if_neg h]; omega
theorem manyS_eq (s : Stm) (d : Int) : manyS s d = 1 + many s.body (d - 1) + many s.els (d - 1) := by cases s; simp [manyS, Stm.body, Stm.els]
def L2many (L : List Stm) : Prop := ∀ (deep : Int) (v : Value) (G : PH), I64 deep → Sts G L v → Pure Tryz.prog 67 [v, .int .i64 deep] G fun v G' => v = .int .i64 (w64 (many L deep)) ∧ G' = G
theorem L2many_of (L : List Stm) (h : ∀ k (hk : k < L.length), L2many L[k].body ∧ L2many L[k].els) : L2many L := by
 intro deep v G hd hv
 obtain ⟨A, c, rfl, hn, hc1, hc2, hr⟩ := id hv
 unfold I64 at hd
 refine Pure.intro Tryz.func67 Tryz.ntmps67 J J fun w => ?_; refine Va J J ?_;refine S_loop (α := Nat) (fun k => k ≤ L.length) (fun k => L.length - k) []
  (fun k => [(6, .val (.int .i64 k)), (5, .val (.int .i64 (w64 (many (L.take k) deep)))), (0, .val (.slice A L.length c)), (1, .val (.int .i64 deep))]) (fun _ => []) (fun _ => G) 0 (Nat.zero_le _) rfl
  ⟨⟨_, rfl, rfl⟩, ⟨_, rfl, rfl⟩, ⟨_, rfl, rfl⟩, ⟨_, rfl, rfl⟩, trivial⟩ .nil ?_
 intro k hk
 refine Va J J ?_
 refine S_cond J (fun h0 => ?_) (fun h0 => ?_) <;> refine Va J J ?_
 ·obtain ⟨h1, h2⟩ : k < L.length ∧ 0 < deep := by simpa using h0
  have hkl : k < L.length := by omega
  obtain ⟨ad, cs, rfl, hcs1, hrep⟩ := Sr_at hv hkl
  obtain ⟨hbk, hek⟩ := h k hkl
  have hmk := manyS_eq L[k] deep
  rcases hs : L[k] with ⟨q1, q2, q3, q4, x, y⟩
  rw [hs] at hrep hbk hek hmk
  obtain ⟨vx, vy, rfl, i1, i2, i3, i4, hx, hy⟩ := Stm.rep_iff.1 hrep
  obtain ⟨Ax, cx, rfl, _⟩ := id hx
  obtain ⟨Ay, cy, rfl, _⟩ := id hy
  have hdx : I64 (deep - 1) := by unfold I64; omega
  refine D_startK [5] (by exact MO) J J J (by kernel_rfl) ?_;refine Da J J ?_;refine D_val 1 J J J J J J J J J (V_addW J J) ?_;refine D_val 4 J J J J J J J J J (V_index Tk J J J J (by omega) (by omega)) ?_;refine D_val 13 J J J J J J J J J (V_index Tk J J J J (by omega) (by omega)) ?_;refine D_val 8 J J J J J J J J J (V_sub J J (by omega)) ?_;refine D_val 17 J J J J J J J J J (V_sub J J (by omega)) ?_
  refine Da J J ?_;refine D_val 6 J J J J J J J J J (V_load Tk J J J (by simpa using gcells_at hcs1 4 _ J)) ?_;refine D_val 15 J J J J J J J J J (V_load Tk J J J (by simpa using gcells_at hcs1 5 _ J)) ?_;refine D_sole 9 J J (N_call 9 Tryz.call67 (hbk _ _ _ hdx hx) J J J J J J J J J J ?_)
  rintro v1 G1 ⟨rfl, rfl⟩ _
  refine D_val 10 J J J J J J J J J (V_addW J J) ?_;refine D_sole 18 J J (N_call 18 Tryz.call67 (hek _ _ _ hdx hy) J J J J J J J J J J ?_)
  rintro v1 G1 ⟨rfl, rfl⟩ _
  refine D_val 19 J J J J J J J J J (V_addW J J) ?_;refine D_sole 20 J J (N_assign Tk 20 J J J J J J J J J (by kernel_rfl) ?_)
  refine DD ?_;refine Va J J ?_;refine S_add J J J J (by omega) ?_;refine Va J J ?_;refine S_again (k + 1) (by omega) (by omega) J ⟨⟨_, J, J⟩, ⟨_, J, ?_⟩, ⟨_, J, J⟩, ⟨_, J, J⟩, trivial⟩ .nil
  simp only [denO]
  congr 2
  rw [List.take_succ_eq_append_getElem hkl, many_append, hs]
  simp only [many, if_pos h2, hmk, Stm.body, Stm.els, w64_l, w64_r]
  simp only [w64_l, w64_r, Int.add_assoc]
  simp only [Int.add_zero]
 ·refine S_retP Tryz.results67 J J XR ⟨?_, J⟩
  congr 2
  by_cases hd0 : 0 < deep
  ·have hk' : k = L.length := by
    rcases Nat.lt_or_ge k L.length with h1 | h1
    ·simp [hd0, h1] at h0
    ·omega
   rw [hk', List.take_length]
  ·rw [many_zero _ hd0, many_zero _ hd0]
mutual
theorem L2many_stm : ∀ (s : Stm), L2many s.body ∧ L2many s.els
 | .mk k a b n x y => ⟨L2many_all x, L2many_all y⟩
theorem L2many_at : ∀ (L : List Stm) (k : Nat) (hk : k < L.length), L2many L[k].body ∧ L2many L[k].els
 | [], k, hk => absurd hk (by simp)
 | s :: L, 0, _ => L2many_stm s
 | s :: L, k + 1, hk => L2many_at L k (by simpa using hk)
theorem L2many_all : ∀ (L : List Stm), L2many L
 | L => L2many_of L (L2many_at L)
end
def stmtsOk (L : List Stm) : Bool := listOk L 3 (-1) && decide (w64 (many L 3) ≤ 14)
theorem c_StmtsOk (L : List Stm) (v : Value) (G : PH) (hv : Sts G L v) : Pure Tryz.prog 44 [v] G fun v G' => v = .bool (stmtsOk L) ∧ G' = G := by
 obtain ⟨A, c, rfl, _⟩ := id hv
 have i3 : I64 3 := by unfold I64; omega
 refine Pure.intro Tryz.func44 Tryz.ntmps44 J J fun w => ?_; refine Va J J ?_;refine S_call Tryz.call66 (L2ok_all L _ _ _ _ i3 hv) J J J ?_;rintro v1 G1 ⟨rfl, rfl⟩ _
 refine Va J J ?_
 refine S_guard J J (fun h => ?_) (fun h => ?_) <;> refine Va J J ?_
 ·refine S_call Tryz.call67 (L2many_all L _ _ _ i3 hv) J J J ?_
  rintro v1 G1 ⟨rfl, rfl⟩ _
  refine Va J J ?_;refine S_retP Tryz.results44 J J XR ⟨?_, J⟩
  simp [stmtsOk, h]
 ·refine S_retP Tryz.results44 J J XR ⟨?_, J⟩
  simp [stmtsOk, h]
def progOk (p : List (List Stm)) : Bool := p.all stmtsOk && decide (1 ≤ p.length) && decide (p.length ≤ 3)
theorem c_ProgOk (p : List (List Stm)) (v : Value) (G : PH) (hv : Prg G p v) : Pure Tryz.prog 25 [v] G fun v G' => v = .bool (progOk p) ∧ G' = G := by
 obtain ⟨A, c, rfl, hn, hc1, hc2, hr⟩ := id hv
 refine Pure.intro Tryz.func25 Tryz.ntmps25 J J fun w => ?_; refine Va J J ?_;refine S_loop (α := Nat) (fun k => k ≤ p.length ∧ ∀ j (hj : j < p.length), j < k → stmtsOk p[j] = true) (fun k => p.length - k) []
  (fun k => [(3, .val (.int .i64 k)), (0, .val (.slice A p.length c))]) (fun _ => []) (fun _ => G) 0 ⟨Nat.zero_le _, fun j _ h => by omega⟩ rfl ⟨⟨_, rfl, rfl⟩, ⟨_, rfl, rfl⟩, trivial⟩ .nil ?_
 rintro k ⟨hk, hall⟩
 refine Va J J ?_
 refine S_condp J (fun h => ?_) (fun h => ?_) <;> refine Va J J ?_
 ·have hkl : k < p.length := by omega
  obtain ⟨ad, cs, rfl, hcs, v1, rfl, hv1⟩ := Sr_at hv hkl
  obtain ⟨A1, c1, rfl, _⟩ := id hv1
  refine S_index Tk J J J J J J (by omega) (by omega) ?_;refine Va J J ?_;refine S_load Tk J J J J J (by simpa using hcs.1) ?_;refine Va J J ?_;refine S_call Tryz.call44 (c_StmtsOk _ _ _ hv1) J J J ?_;rintro v1 G1 ⟨rfl, rfl⟩ _
  refine Va J J ?_
  refine S_cond J (fun h => ?_) (fun h => ?_) <;> refine Va J J ?_
  ·refine S_retP Tryz.results25 J J XR ⟨?_, J⟩
   have : p.all stmtsOk = false := by
    rw [List.all_eq_false]
    exact ⟨_, List.getElem_mem hkl, by simpa using h⟩
   simp [progOk, this]
  ·refine S_add J J J J (by omega) ?_
   refine Va J J ?_;refine S_again (k + 1) ⟨by omega, fun j hj hjk => ?_⟩ (by omega) J ⟨⟨_, J, J⟩, ⟨_, J, J⟩, trivial⟩ .nil
   rcases Nat.lt_or_ge j k with h' | h'
   ·exact hall j hj h'
   ·obtain rfl : j = k := by omega
    simpa using h
 ·have hall' : p.all stmtsOk = true := by
   rw [List.all_eq_true]
   intro s hs
   obtain ⟨j, hj, rfl⟩ := List.getElem_of_mem hs
   exact hall j hj (by omega)
  refine S_retP Tryz.results25 J J XR ⟨?_, J⟩
  simp only [progOk, hall', Bool.true_and]
  congr 2
  ·exact decide_eq_decide.2 (by omega)
  ·exact decide_eq_decide.2 (by omega)
end
section
attribute [local irreducible] X Pure Mod
mutual
/-- how long what is left to do can get -/
def mxS : Stm → Nat
 | .mk _ _ _ _ x y => 1 + max (mx x) (mx y)
def mx : List Stm → Nat
 | [] => 0
 | s :: r => max (mxS s + r.length) (mx r)
end
theorem mxS_eq (s : Stm) : mxS s = 1 + max (mx s.body) (mx s.els) := by cases s; simp [mxS, Stm.body, Stm.els]
theorem mxS_pos (s : Stm) : 1 ≤ mxS s := by rw [mxS_eq]; omega
theorem len_mx (L : List Stm) : L.length ≤ mx L := by
 induction L with
 | nil => simp
 | cons s r ih => have := mxS_pos s; simp only [List.length_cons, mx]; omega
theorem mx_append (L r : List Stm) {k : Nat} (h1 : mx L + r.length ≤ k) (h2 : mx r ≤ k) : mx (L ++ r) ≤ k := by
 induction L with
 | nil => simpa using h2
 | cons s L ih =>
  simp only [mx, List.cons_append, List.length_append] at h1 ⊢
  have := ih (by omega)
  omega
inductive TOk : Int → List Stm → Prop
 | nil : TOk (-1) []
 | leave {a : Int} {r : List Stm} : is2 a → TOk (-1) r → TOk a (leaveS a :: r)
 | stm {s : Stm} {d room : Int} {r : List Stm} : stmtOk s d room = true → TOk room r → TOk room (s :: r)
theorem TOk.app {L : List Stm} {d room : Int} {r : List Stm} (h : listOk L d room = true) (hr : TOk room r) : TOk room (L ++ r) := by
 induction L with
 | nil => exact hr
 | cons s L ih =>
  simp only [listOk, Bool.and_eq_true] at h
  exact .stm h.1 (ih h.2)
structure POk (p : Prc) : Prop where
 td : TOk p.room p.todo
 mx : mx p.todo ≤ 1000
 md : p.mode = 0 ∨ p.mode = 1 ∨ p.mode = 2
 rm : p.mode ≠ 0 → is2 p.room
 ro : p.room = -1 ∨ is2 p.room
structure Inv (W : Wld) (B : Nat) : Prop where
 n1 : 1 ≤ W.procs.length
 n3 : W.procs.length ≤ 3
 pr : ∀ p ∈ W.procs, POk p
 m0 : 0 ≤ W.m0
 m1 : 0 ≤ W.m1
 sd : W.said.length ≤ B
 ql : W.q0.length + W.q1.length ≤ B
 qf : ∀ f ∈ W.q0 ++ W.q1, 0 ≤ f ∧ ∃ p, W.procs[f.toNat]? = some p ∧ p.mode = 1
 nd : (W.q0 ++ W.q1).Nodup
theorem sok_of {s : Stm} {d room : Int} (h : stmtOk s d room = true) (hm : mxS s ≤ 1000) (hr : room = -1 ∨ is2 room) : SOk s room := by
 have hb := len_mx s.body
 have he := len_mx s.els
 rw [mxS_eq] at hm
 obtain ⟨k, a, b, n, x, y⟩ := s
 simp only [Stm.body, Stm.els] at hb he hm
 simp only [stmtOk] at h
 split at h
 ·cases h
 refine ⟨?_, ?_, ?_, ?_, ?_, ?_⟩ <;> simp only [Stm.kind, Stm.a, Stm.b, Stm.body, Stm.els, is2, is3]
 ·rintro (rfl | rfl) <;> simp [leafOk] at h <;> omega
 ·rintro (rfl | rfl | rfl) <;> simp [leafOk] at h <;> omega
 ·rintro (rfl | rfl) <;> simp at h <;> omega
 ·rintro rfl; simp at h; omega
 ·rintro rfl
  simp [leafOk] at h
  rcases hr with rfl | hr
  ·omega
  ·exact ⟨by omega, hr⟩
 ·rintro (rfl | rfl) <;> simp [leafOk] at h <;> omega
end
section
attribute [local irreducible] X Pure Mod
theorem updL_ne {α : Type} {f : α → α} : ∀ (l : List α) (i j : Nat), i ≠ j → (updL f i l)[j]? = l[j]?
 | [], i, j, _ => by cases i <;> rfl
 | x :: l, 0, 0, h => absurd rfl h
 | x :: l, 0, j + 1, _ => by simp [updL]
 | x :: l, i + 1, 0, _ => by simp [updL]
 | x :: l, i + 1, j + 1, h => by simp only [updL, List.getElem?_cons_succ]; exact updL_ne l i j (by omega)
theorem mem_updL' {α : Type} {f : α → α} {y : α} : ∀ (l : List α) (i : Nat), y ∈ updL f i l → y ∈ l ∨ ∃ x, l[i]? = some x ∧ y = f x
 | [], i, h => by cases i <;> simp [updL] at h
 | x :: l, 0, h => by
  simp only [updL, List.mem_cons] at h
  rcases h with h | h
  ·exact .inr ⟨x, J, h⟩
  ·exact .inl (List.mem_cons_of_mem _ h)
 | x :: l, i + 1, h => by
  simp only [updL, List.mem_cons] at h
  rcases h with h | h
  ·exact .inl (by simp [h])
  ·rcases mem_updL' l i h with h | h
   ·exact .inl (List.mem_cons_of_mem _ h)
   ·exact .inr (by simpa using h)
theorem leave_sok {a : Int} (h : is2 a) : SOk (leaveS a) a := by
 refine ⟨?_, ?_, ?_, ?_, ?_, ?_⟩ <;> simp [leaveS, Stm.kind, Stm.a, h]
theorem Inv.sok {W : Wld} {B : Nat} (h : Inv W B) {p : Prc} (hp : p ∈ W.procs) {s : Stm} {r : List Stm} (ht : p.todo = s :: r) : SOk s p.room := by
 have q := h.pr p hp
 have htd := q.td
 have hmx := q.mx
 rw [ht] at htd hmx
 simp only [mx] at hmx
 have hro := q.ro
 generalize p.room = ro at *
 cases htd with
 | leave ha hr => exact leave_sok ha
 | stm hs hr => exact sok_of hs (by omega) hro
theorem Inv.head {W : Wld} {B : Nat} (h : Inv W B) : ∀ p ∈ W.procs, HeadOk p := fun p hp =>
 ⟨fun hm => (h.pr p hp).rm (by omega), fun s r ht hk => ((h.sok hp ht).r8 hk).1⟩
theorem Inv.rdy {W : Wld} {B : Nat} (h : Inv W B) (hB : B ≤ 1000000) : Rdy W where
 n1 := h.n1
 n3 := h.n3
 sd := Nat.le_trans h.sd hB
 q0 := by have := h.ql; omega
 q1 := by have := h.ql; omega
 f0 := fun f hf => by
  obtain ⟨h0, p, hp, _⟩ := h.qf f (List.mem_append_left _ hf)
  have := (List.getElem?_eq_some_iff.1 hp).1
  omega
 f1 := fun f hf => by
  obtain ⟨h0, p, hp, _⟩ := h.qf f (List.mem_append_right _ hf)
  have := (List.getElem?_eq_some_iff.1 hp).1
  omega
 tl := fun p hp => by have := len_mx p.todo; have := (h.pr p hp).mx; omega
theorem code0 {W : Wld} {who : Nat} {p : Prc} (hp : W.procs[who]? = some p) (h : codeOf W (who : Nat) = 0) : p.mode ≠ 1 ∧ (p.mode ≠ 2 → p.todo ≠ []) := by
 have hl := (List.getElem?_eq_some_iff.1 hp).1
 unfold codeOf at h
 rw [if_neg (by omega)] at h
 simp only [Int.toNat_natCast, hp, codeP] at h
 refine ⟨fun hm => by simp [hm] at h, fun hm ht => ?_⟩
 simp [hm, ht] at h
 split at h <;> simp at h
theorem Inv.go {W : Wld} {B : Nat} (h : Inv W B) {who : Nat} (hc : codeOf W (who : Nat) = 0) : ∀ p, W.procs[who]? = some p → (p.mode = 2 → is2 p.room) ∧ (p.mode ≠ 2 → ∃ s r, p.todo = s :: r ∧ SOk s p.room) := by
 intro p hp
 have hm : p ∈ W.procs := List.mem_of_getElem? hp
 refine ⟨fun h2 => (h.pr p hm).rm (by omega), fun h2 => ?_⟩
 have ht := (code0 hp hc).2 h2
 rcases hT : p.todo with _ | ⟨s, r⟩
 ·exact absurd hT ht
 ·exact ⟨s, r, J, h.sok hm hT⟩
end
section
attribute [local irreducible] X Pure Mod
theorem Inv.mono {W : Wld} {B B' : Nat} (h : Inv W B) (hB : B ≤ B') : Inv W B' :=
 ⟨h.n1, h.n3, h.pr, h.m0, h.m1, Nat.le_trans h.sd hB, Nat.le_trans h.ql hB, h.qf, h.nd⟩
theorem Inv.upd {W : Wld} {B who : Nat} {f : Prc → Prc} {p : Prc} (h : Inv W B) (hp : W.procs[who]? = some p) (hm : p.mode ≠ 1) (hf : POk (f p)) : Inv (W.upd who f) B := by
 refine ⟨by rw [upd_len]; exact h.n1, by rw [upd_len]; exact h.n3, fun q hq => ?_, h.m0, h.m1, h.sd, h.ql, fun g hg => ?_, h.nd⟩
 ·rcases mem_updL' _ _ hq with hq | ⟨x, hx, rfl⟩
  ·exact h.pr q hq
  ·rw [hp] at hx; cases hx; exact hf
 ·obtain ⟨h0, q, hq, hqm⟩ := h.qf g hg
  refine ⟨h0, q, ?_, hqm⟩
  show (updL f who W.procs)[g.toNat]? = some q
  rw [updL_ne _ _ _ (by rintro rfl; rw [hp] at hq; cases hq; exact hm hqm)]
  exact hq
theorem Inv.setRm {W : Wld} {B : Nat} (h : Inv W B) (a v : Int) (hv : 0 ≤ v) : Inv (W.setRm a v) B := by
 unfold Wld.setRm
 split
 ·exact ⟨h.n1, h.n3, h.pr, hv, h.m1, h.sd, h.ql, h.qf, h.nd⟩
 ·exact ⟨h.n1, h.n3, h.pr, h.m0, hv, h.sd, h.ql, h.qf, h.nd⟩
theorem Inv.setCell {W : Wld} {B : Nat} (h : Inv W B) (a v : Int) : Inv (W.setCell a v) B := by
 unfold Wld.setCell
 split
 ·exact ⟨h.n1, h.n3, h.pr, h.m0, h.m1, h.sd, h.ql, h.qf, h.nd⟩
 split
 ·exact ⟨h.n1, h.n3, h.pr, h.m0, h.m1, h.sd, h.ql, h.qf, h.nd⟩
 ·exact ⟨h.n1, h.n3, h.pr, h.m0, h.m1, h.sd, h.ql, h.qf, h.nd⟩
theorem Inv.say {W : Wld} {B : Nat} (h : Inv W B) (v : Int × Int) : Inv { W with said := W.said ++ [v] } (B + 1) :=
 ⟨h.n1, h.n3, h.pr, h.m0, h.m1, by have := h.sd; simp only [List.length_append, List.length_singleton]; omega, Nat.le_succ_of_le h.ql, h.qf, h.nd⟩
theorem Inv.wait {W : Wld} {B who : Nat} {p : Prc} (h : Inv W B) (hp : W.procs[who]? = some p) (hm : p.mode ≠ 1) (hr : is2 p.room) (a : Int) : Inv ((W.upd who (fun p => { p with mode := 1, on := a })).setQue a (W.que a ++ [(who : Int)])) (B + 1) := by
 have hpm : p ∈ W.procs := List.mem_of_getElem? hp
 have q := h.pr p hpm
 have hu : Inv (W.upd who (fun p => { p with mode := 1, on := a })) B := h.upd hp hm ⟨q.td, q.mx, .inr (.inl rfl), fun _ => hr, q.ro⟩
 have hnot : (who : Int) ∉ W.q0 ++ W.q1 := fun hw => by
  obtain ⟨_, q, hq, hqm⟩ := h.qf _ hw
  simp only [Int.toNat_natCast] at hq
  rw [hp] at hq; cases hq; exact hm hqm
 have hself : ∃ q, (updL (fun p : Prc => { p with mode := 1, on := a }) who W.procs)[((who : Int)).toNat]? = some q ∧ q.mode = 1 := by
  refine ⟨{ p with mode := 1, on := a }, ?_, J⟩
  rw [Int.toNat_natCast, updL_get, hp]; rfl
 have hql := h.ql
 have hnd := h.nd
 unfold Wld.setQue Wld.que
 split
 ·refine ⟨hu.n1, hu.n3, hu.pr, hu.m0, hu.m1, Nat.le_succ_of_le hu.sd, ?_, fun g hg => ?_, ?_⟩
  ·show (W.q0 ++ [(who : Int)]).length + W.q1.length ≤ _
   simp only [List.length_append, List.length_singleton]; omega
  ·have hg' : g ∈ W.q0 ++ W.q1 ∨ g = (who : Int) := by
    replace hg : g ∈ (W.q0 ++ [(who : Int)]) ++ W.q1 := hg
    simp only [List.mem_append, List.mem_singleton] at hg ⊢
    rcases hg with (hg | hg) | hg <;> simp [hg]
   rcases hg' with hg' | rfl
   ·exact hu.qf g hg'
   ·exact ⟨by omega, hself⟩
  ·show ((W.q0 ++ [(who : Int)]) ++ W.q1).Nodup
   simp only [List.mem_append, not_or] at hnot
   rw [List.nodup_append] at hnd ⊢
   rw [List.nodup_append]
   refine ⟨⟨hnd.1, by simp, fun x hx y hy => ?_⟩, hnd.2.1, fun x hx y hy => ?_⟩
   ·simp only [List.mem_singleton] at hy
    rintro rfl
    exact hnot.1 (hy ▸ hx)
   ·simp only [List.mem_append, List.mem_singleton] at hx
    rcases hx with hx | rfl
    ·exact hnd.2.2 x hx y hy
    ·rintro rfl
     exact hnot.2 hy
 ·refine ⟨hu.n1, hu.n3, hu.pr, hu.m0, hu.m1, Nat.le_succ_of_le hu.sd, ?_, fun g hg => ?_, ?_⟩
  ·show W.q0.length + (W.q1 ++ [(who : Int)]).length ≤ _
   simp only [List.length_append, List.length_singleton]; omega
  ·have hg' : g ∈ W.q0 ++ W.q1 ∨ g = (who : Int) := by
    replace hg : g ∈ W.q0 ++ (W.q1 ++ [(who : Int)]) := hg
    simp only [List.mem_append, List.mem_singleton] at hg ⊢
    rcases hg with hg | hg | hg <;> simp [hg]
   rcases hg' with hg' | rfl
   ·exact hu.qf g hg'
   ·exact ⟨by omega, hself⟩
  ·show (W.q0 ++ (W.q1 ++ [(who : Int)])).Nodup
   rw [← List.append_assoc, List.nodup_append]
   refine ⟨hnd, by simp, fun x hx y hy => ?_⟩
   simp only [List.mem_singleton] at hy
   rintro rfl
   exact hnot (hy ▸ hx)
end
section
attribute [local irreducible] X Pure Mod
theorem Inv.woken {W : Wld} {B : Nat} {f : Int} (h : Inv W B) {Q0 Q1 : List Int} (hf : f ∈ W.q0 ++ W.q1) (hnf : f ∉ Q0 ++ Q1) (hnd : (Q0 ++ Q1).Nodup) (hl : Q0.length + Q1.length ≤ B) (hsub : ∀ g ∈ Q0 ++ Q1, g ∈ W.q0 ++ W.q1) :
  Inv { W.upd f.toNat (fun p => { p with mode := 2, on := 0 }) with q0 := Q0, q1 := Q1 } B := by
 obtain ⟨h0, p, hp, hpm⟩ := h.qf f hf
 have q := h.pr p (List.mem_of_getElem? hp)
 refine ⟨by show 1 ≤ (updL _ _ _).length; rw [length_updL]; exact h.n1, by show (updL _ _ _).length ≤ 3; rw [length_updL]; exact h.n3, fun x hx => ?_, h.m0, h.m1, h.sd, hl, fun g hg => ?_, hnd⟩
 ·rcases mem_updL' _ _ hx with hx | ⟨y, hy, rfl⟩
  ·exact h.pr x hx
  ·rw [hp] at hy; cases hy
   exact ⟨q.td, q.mx, .inr (.inr J), fun _ => q.rm (by omega), q.ro⟩
 ·obtain ⟨g0, x, hx, hxm⟩ := h.qf g (hsub g hg)
  refine ⟨g0, x, ?_, hxm⟩
  show (updL _ _ W.procs)[g.toNat]? = some x
  have hgf : f.toNat ≠ g.toNat := fun e => hnf ((show g = f by omega) ▸ hg)
  rw [updL_ne _ _ _ hgf]
  exact hx
theorem Inv.signal {W : Wld} {B : Nat} (h : Inv W B) (a : Int) : Inv (W.signal a) B := by
 have hnd := h.nd
 have hql := h.ql
 unfold Wld.signal Wld.que
 by_cases ha : a = 0
 ·simp only [ha, if_true]
  rcases hq : W.q0 with _ | ⟨f, r⟩
  ·exact h
  ·rw [hq] at hnd hql
   simp only [List.cons_append, List.nodup_cons, List.length_cons] at hnd hql
   have := h.woken (f := f) (Q0 := r) (Q1 := W.q1) (by rw [hq]; simp) hnd.1 hnd.2 (by omega) (fun g hg => by rw [hq]; exact List.mem_cons_of_mem _ hg)
   show Inv ((W.upd f.toNat (fun p => { p with mode := 2, on := 0 })).setQue 0 r) B
   unfold Wld.setQue
   rw [if_pos rfl]
   exact this
 ·simp only [ha, if_false]
  rcases hq : W.q1 with _ | ⟨f, r⟩
  ·exact h
  ·rw [hq] at hnd hql
   simp only [List.length_cons] at hql
   have hnd2 := hnd
   rw [List.nodup_append] at hnd2
   have hcn := List.nodup_cons.1 hnd2.2.1
   have := h.woken (f := f) (Q0 := W.q0) (Q1 := r) (by rw [hq]; simp) (by
     simp only [List.mem_append, not_or]
     exact ⟨fun hx => hnd2.2.2 f hx f (by simp) J, hcn.1⟩) (by
     rw [List.nodup_append]
     exact ⟨hnd2.1, hcn.2, fun x hx y hy => hnd2.2.2 x hx y (List.mem_cons_of_mem _ hy)⟩) (by omega) (fun g hg => by
     rw [hq]
     simp only [List.mem_append, List.mem_cons] at hg ⊢
     rcases hg with hg | hg <;> simp [hg])
   show Inv ((W.upd f.toNat (fun p => { p with mode := 2, on := 0 })).setQue a r) B
   unfold Wld.setQue
   rw [if_neg ha]
   exact this
theorem upd_upd (W : Wld) (who : Nat) (f g : Prc → Prc) : (W.upd who g).upd who f = W.upd who (fun p => f (g p)) := by
 simp [Wld.upd, updL_updL]
theorem setRm_upd (W : Wld) (who : Nat) (f : Prc → Prc) (a v : Int) : (W.upd who f).setRm a v = (W.setRm a v).upd who f := by
 unfold Wld.setRm; split <;> rfl
theorem que_setRm (W : Wld) (a v b : Int) : (W.setRm a v).que b = W.que b := by
 unfold Wld.setRm; split <;> rfl
theorem POk.set {p : Prc} (h : POk p) (k v : Int) : POk (p.set k v) := by
 unfold Prc.set
 split
 ·exact ⟨h.td, h.mx, h.md, h.rm, h.ro⟩
 split
 ·exact ⟨h.td, h.mx, h.md, h.rm, h.ro⟩
 ·exact ⟨h.td, h.mx, h.md, h.rm, h.ro⟩
theorem Inv.step {W : Wld} {B who : Nat} (h : Inv W B) (hw : who < W.procs.length) (hc : codeOf W (who : Nat) = 0) : Inv (W.step who) (B + 1) := by
 obtain ⟨p, hp⟩ : ∃ p, W.procs[who]? = some p := ⟨W.procs[who], by simp [hw]⟩
 obtain ⟨hm1, hne⟩ := code0 hp hc
 have hpm : p ∈ W.procs := List.mem_of_getElem? hp
 have q := h.pr p hpm
 by_cases hm : p.mode = 2
 ·have e : W.step who = (W.setRm p.room ((who : Int) + 1)).upd who (fun p => { p with mode := 0 }) := by simp [Wld.step, hp, hm]
  rw [e]
  refine Inv.mono ((h.setRm _ _ (by omega)).upd (p := p) (by rw [setRm_procs]; exact hp) (by omega) ?_) (Nat.le_succ _)
  exact ⟨q.td, q.mx, .inl rfl, fun hx => absurd rfl hx, q.ro⟩
 rcases hT : p.todo with _ | ⟨s, r⟩
 ·exact absurd hT (hne hm)
 rw [step_eq hp hm hT]
 have hm0 : p.mode = 0 := by rcases q.md with h | h | h <;> simp_all
 have hsok := h.sok hpm hT
 have htd := q.td
 have hmx := q.mx
 rw [hT] at htd hmx
 simp only [Go.Proofs.YtbecgghgcglafaaGreatDoor.mx] at hmx
 have hro := q.ro
 have hpt : (pop p).todo = r := by simp [pop, hT]
 generalize hR : p.room = ro at htd hro
 cases htd with
 | leave ha hr =>
  have e : (W.upd who pop).stepS who (leaveS ro) = (W.setRm ro 0).upd who (fun p => { pop p with room := -1 }) := by
   rw [show (W.upd who pop).stepS who (leaveS ro) = ((W.upd who pop).setRm ro 0).upd who (fun p => { p with room := -1 }) by simp [Wld.stepS, leaveS, Stm.kind, Stm.a], setRm_upd, upd_upd]
  rw [e]
  refine Inv.mono ((h.setRm _ _ (by omega)).upd (p := p) (by rw [setRm_procs]; exact hp) hm1 ?_) (Nat.le_succ _)
  exact ⟨by show TOk (-1) (pop p).todo; rw [hpt]; exact hr, by show Go.Proofs.YtbecgghgcglafaaGreatDoor.mx (pop p).todo ≤ _; rw [hpt]; omega, .inl hm0, fun hx => absurd hm0 hx, .inl rfl⟩
 | stm hs hr =>
  rename_i d
  have hpop : POk (pop p) := ⟨by show TOk p.room (pop p).todo; rw [hpt, hR]; exact hr, by rw [hpt]; omega, .inl hm0, fun hx => absurd hm0 hx, q.ro⟩
  have hP := h.upd hp hm1 hpop
  have hPp : (W.upd who pop).procs[who]? = some (pop p) := by
   show (updL _ _ _)[who]? = _
   rw [updL_get, hp]; rfl
  obtain ⟨k, a, b, n, x, y⟩ := s
  simp only [mxS] at hmx
  have hs0 := hs
  simp only [stmtOk] at hs
  split at hs
  ·cases hs
  have pm1 : (pop p).mode ≠ 1 := hm1
  have pm0 : (pop p).mode = 0 := hm0
  have app : ∀ L : List Stm, ∀ d', listOk L d' ro = true → Go.Proofs.YtbecgghgcglafaaGreatDoor.mx L + r.length ≤ 1000 → POk { pop p with todo := L ++ (pop p).todo } := fun L d' h1 h2 =>
   ⟨by show TOk p.room (L ++ (pop p).todo); rw [hpt, hR]; exact hr.app h1, by show Go.Proofs.YtbecgghgcglafaaGreatDoor.mx (L ++ (pop p).todo) ≤ _; rw [hpt]; exact mx_append _ _ h2 (by omega), .inl hm0, fun hx => absurd hm0 hx, q.ro⟩
  unfold Wld.stepS
  have hkd : (Stm.mk k a b n x y).kind = k := rfl
  simp only [hkd]
  by_cases e1 : k = 1
  ·rw [if_pos e1]
   exact (hP.upd hPp pm1 (hpop.set _ _)).mono (Nat.le_succ _)
  rw [if_neg e1]
  by_cases e2 : k = 2
  ·rw [if_pos e2]
   exact (hP.upd hPp pm1 (hpop.set _ _)).mono (Nat.le_succ _)
  rw [if_neg e2]
  by_cases e3 : k = 3
  ·rw [if_pos e3]
   exact (hP.upd hPp pm1 (hpop.set _ _)).mono (Nat.le_succ _)
  rw [if_neg e3]
  by_cases e4 : k = 4
  ·rw [if_pos e4]
   exact (hP.setCell _ _).mono (Nat.le_succ _)
  rw [if_neg e4]
  by_cases e5 : k = 5
  ·rw [if_pos e5]
   exact hP.say _
  rw [if_neg e5]
  by_cases e6 : k = 6
  ·rw [if_pos e6]
   subst e6
   simp at hs
   refine (hP.upd hPp pm1 (app _ (d - 1) ?_ ?_)).mono (Nat.le_succ _)
   ·by_cases hz : (W.upd who pop).reg who (Stm.mk 6 a b n x y).a = 0
    ·rw [if_pos hz]; exact hs.2
    ·rw [if_neg hz]; exact hs.1.2
   ·by_cases hz : (W.upd who pop).reg who (Stm.mk 6 a b n x y).a = 0
    ·rw [if_pos hz]; simp only [Stm.els]; omega
    ·rw [if_neg hz]; simp only [Stm.body]; omega
  rw [if_neg e6]
  by_cases e7 : k = 7
  ·rw [if_pos e7]
   subst e7
   simp at hs
   refine (hP.upd hPp pm1 ?_).mono (Nat.le_succ _)
   by_cases hz : (W.upd who pop).reg who (Stm.mk 7 a b n x y).a = 0
   ·rw [if_pos hz]
    exact app [] 3 J (by simp only [Go.Proofs.YtbecgghgcglafaaGreatDoor.mx]; omega)
   ·rw [if_neg hz]
    refine ⟨?_, ?_, .inl hm0, fun hx => absurd hm0 hx, q.ro⟩
    ·show TOk p.room ((x ++ [.mk 7 a b n x y]) ++ (pop p).todo)
     rw [hpt, hR, List.append_assoc]
     exact TOk.app hs.1.2 (.stm hs0 hr)
    ·show Go.Proofs.YtbecgghgcglafaaGreatDoor.mx ((x ++ [.mk 7 a b n x y]) ++ (pop p).todo) ≤ 1000
     rw [hpt, List.append_assoc]
     refine mx_append _ _ (by simp only [List.length_append, List.length_singleton]; omega) ?_
     simp only [List.singleton_append, Go.Proofs.YtbecgghgcglafaaGreatDoor.mx, mxS]; omega
  rw [if_neg e7]
  by_cases e8 : k = 8
  ·rw [if_pos e8]
   subst e8
   simp at hs
   obtain ⟨⟨⟨⟨hro1, ha0⟩, hb⟩, hn⟩, hx⟩ := hs
   have hro2 : ro = -1 := by rcases hro with h | h | h <;> omega
   have ha2 : is2 a := by unfold is2; omega
   refine Inv.mono ((hP.setRm _ _ (by omega)).upd (p := pop p) (by rw [setRm_procs]; exact hPp) pm1 ?_) (Nat.le_succ _)
   refine ⟨?_, ?_, .inl hm0, fun hx => absurd hm0 hx, .inr ha2⟩
   ·show TOk a ((x ++ [leaveS a]) ++ (pop p).todo)
    rw [hpt, List.append_assoc]
    exact TOk.app hx (.leave ha2 (hro2 ▸ hr))
   ·show Go.Proofs.YtbecgghgcglafaaGreatDoor.mx ((x ++ [leaveS a]) ++ (pop p).todo) ≤ 1000
    rw [hpt, List.append_assoc]
    refine mx_append _ _ (by simp only [List.length_append, List.length_singleton]; omega) ?_
    simp only [List.singleton_append, Go.Proofs.YtbecgghgcglafaaGreatDoor.mx, mxS, leaveS]; omega
  rw [if_neg e8]
  by_cases e9 : k = 9
  ·rw [if_pos e9]
   subst e9
   simp [leafOk] at hs
   have hr2 : is2 ro := by
    rcases hro with h | h
    ·omega
    ·exact h
   have := (hP.setRm ((W.upd who pop).room who) 0 (by omega)).wait (p := pop p) (by rw [setRm_procs]; exact hPp) pm1 (by show is2 p.room; rw [hR]; exact hr2) a
   rw [que_setRm] at this
   exact this
  rw [if_neg e9]
  by_cases e10 : k = 10
  ·rw [if_pos e10]
   exact (hP.signal _).mono (Nat.le_succ _)
  rw [if_neg e10]
  by_cases e12 : k = 12
  ·subst e12
   simp [leafOk] at hs
  ·rw [if_neg e12]
   exact hP.mono (Nat.le_succ _)
end
section
attribute [local irreducible] X Pure Mod
theorem Wld.step_len (W : Wld) (who : Nat) : (W.step who).procs.length = W.procs.length := by
 have hs : ∀ (V : Wld) a v, (V.setRm a v).procs.length = V.procs.length := fun V a v => by rw [setRm_procs]
 have hq : ∀ (V : Wld) a v, (V.setQue a v).procs.length = V.procs.length := fun V a v => by rw [setQue_procs]
 have hc : ∀ (V : Wld) a v, (V.setCell a v).procs.length = V.procs.length := fun V a v => by rw [setCell_procs]
 have hu := upd_len
 unfold Wld.step
 rcases W.procs[who]? with _ | p
 ·rfl
 by_cases hm : p.mode = 2
 ·simp only [hm, if_true, hu, hs]
 ·simp only [hm, if_false]
  rcases p.todo with _ | ⟨s, r⟩
  ·rfl
  ·simp only [Wld.stepS]
   have hg : ∀ (V : Wld) a, (V.signal a).procs.length = V.procs.length := fun V a => by
    unfold Wld.signal
    split
    ·rfl
    ·rw [hq, hu]
   have ite : ∀ {c : Prop} [Decidable c] {A B : Wld} {n : Nat}, A.procs.length = n → B.procs.length = n → (if c then A else B).procs.length = n := by
    intro c _ A B n h1 h2
    by_cases h : c
    ·rw [if_pos h]; exact h1
    ·rw [if_neg h]; exact h2
   repeat' (first | refine ite ?_ ?_)
   all_goals (simp only [hu, hs, hq, hc, hg])
end
section
attribute [local irreducible] X Pure Mod
section
variable {C : Ctx} {ι : Ids} {E : Env} {L : List Ent} {G : PH} {d : Option Nat} {ty : Nat} {pos : String} {af : Array Edge} {g : Option (Nat × Bool)}
theorem V_rem {x y : Operand} {t t' : Nat} {p q : Int} (hx : ev E x = some (.val (.int .i64 p))) (hy : ev E y = some (.val (.int .i64 q))) (hp : 0 ≤ p) (hq : 0 < q) : Vl C ι E L G ⟨d, .binOp .rem t x y t', ty, pos, af, g⟩ (.int .i64 (p % q)) := by
 intro a w hE _
 have ex := ev_sound hE hx
 have ey := ev_sound hE hy
 simp only [denO, Option.some.injEq] at ex ey
 simp only [execOp, ← ex, ← ey]
 have hne : ¬ q = 0 := by omega
 simp [eqGuard, binOp, Op.intDiv, hne, Int.tmod_eq_emod_of_nonneg hp]
theorem V_quo {x y : Operand} {t t' : Nat} {p q : Int} (hx : ev E x = some (.val (.int .i64 p))) (hy : ev E y = some (.val (.int .i64 q))) (hp : 0 ≤ p) (hp' : p ≤ 9223372036854775807) (hq : 0 < q) : Vl C ι E L G ⟨d, .binOp .quo t x y t', ty, pos, af, g⟩ (.int .i64 (p / q)) := by
 intro a w hE _
 have ex := ev_sound hE hx
 have ey := ev_sound hE hy
 simp only [denO, Option.some.injEq] at ex ey
 simp only [execOp, ← ex, ← ey]
 have hne : ¬ q = 0 := by omega
 have h1 : 0 ≤ p / q := Int.ediv_nonneg hp (by omega)
 have h2 : p / q ≤ p := Int.ediv_le_self _ hp
 have hwr : IntKind.i64.wrap (p / q) = p / q := by rw [IntKind.wrap_i64]; omega
 simp [eqGuard, binOp, Op.intDiv, hne, Int.tdiv_eq_ediv_of_nonneg hp, hwr]
theorem V_xor {x y : Operand} {t t' : Nat} {p q : Int} (hx : ev E x = some (.val (.int .i64 p))) (hy : ev E y = some (.val (.int .i64 q))) (hp : 0 ≤ p ∧ p ≤ 9223372036854775807) (hq : 0 ≤ q ∧ q ≤ 9223372036854775807) : Vl C ι E L G ⟨d, .binOp .xor t x y t', ty, pos, af, g⟩ (.int .i64 ((p.toNat ^^^ q.toNat : Nat) : Int)) := by
 intro a w hE _
 have ex := ev_sound hE hx
 have ey := ev_sound hE hy
 simp only [denO, Option.some.injEq] at ex ey
 simp only [execOp, ← ex, ← ey]
 obtain ⟨m, rfl⟩ := Int.eq_ofNat_of_zero_le hp.1
 obtain ⟨n, rfl⟩ := Int.eq_ofNat_of_zero_le hq.1
 have hm : m < 2 ^ 63 := by omega
 have hn : n < 2 ^ 63 := by omega
 have hx := Nat.xor_lt_two_pow hm hn
 have e1 : (BitVec.ofInt 64 (m : Int) ^^^ BitVec.ofInt 64 (n : Int)).toNat = m ^^^ n := by
  rw [BitVec.ofInt_natCast, BitVec.ofInt_natCast, BitVec.toNat_xor, BitVec.toNat_ofNat, BitVec.toNat_ofNat, Nat.mod_eq_of_lt (by omega), Nat.mod_eq_of_lt (by omega)]
 have hwr : IntKind.i64.wrap ((m ^^^ n : Nat) : Int) = ((m ^^^ n : Nat) : Int) := by rw [IntKind.wrap_i64]; omega
 have e2 : IntKind.i64.wrap ((BitVec.ofInt IntKind.i64.bits (m : Int) ^^^ BitVec.ofInt IntKind.i64.bits (n : Int)).toNat : Int) = ((m ^^^ n : Nat) : Int) := by
  show IntKind.i64.wrap ((BitVec.ofInt 64 (m : Int) ^^^ BitVec.ofInt 64 (n : Int)).toNat : Int) = _
  rw [e1, hwr]
 simp only [Int.toNat_natCast]
 simp [eqGuard, binOp, Op.intBits]
 exact e2
theorem V_conv {x : Operand} {t t' : Nat} {k k' : IntKind} {p : Int} (hx : ev E x = some (.val (.int k p))) (hu : C.P.underlying t = some (.int k)) (hu' : C.P.underlying t' = some (.int k')) (hp : k'.wrap p = p) : Vl C ι E L G ⟨d, .convert t t' x, ty, pos, af, g⟩ (.int k' p) := by
 intro a w hE _
 have ex := ev_sound hE hx
 simp only [denO, Option.some.injEq] at ex
 simp only [execOp, ← ex]
 simp [convert, run_underlying hu, run_underlying hu', Conv.intToInt, hp]
end
end
section
attribute [local irreducible] X Pure Mod
def byteRep (n : Int) (cs : List Value) : Prop := cs = [.int .u8 n] ∧ 0 ≤ n ∧ n ≤ 255
abbrev Byts (G : PH) (l : List Int) (v : Value) : Prop := Sr G 1 byteRep l v
theorem Byts_le {G G' : PH} (hl : G.le G') {l : List Int} {v : Value} (h : Byts G l v) : Byts G' l v := Sr_mono hl (fun _ _ _ h => h) h
def rdHP (b : Nat) (sv : Value) (N : Nat) : HP := packHP fun ι L => ∃ p : Nat, p ≤ N ∧ ι = [(900, b)] ∧ L = [.blk 900 74 [.v sv, .v (.int .i64 (p : Nat))]]
def Drw (f : Nat) (b : Nat) (sv : Value) (args : List Value) (N K : Nat) (G : PH) (Post : Value → PH → Prop) : Prop :=
 Mod Tryz.prog f (.pointer (some ⟨b, 0, none⟩) :: args) G (rdHP b sv N) fun v G' A' => A' = rdHP b sv (N + K) ∧ Post v G'
theorem u_u8 : Tryz.prog.underlying 5 = some (.int .u8) := by kernel_rfl
theorem rem_bnd {a n : Int} (h : 0 < n) : 0 ≤ a % n ∧ a % n < n := ⟨Int.emod_nonneg _ (by omega), Int.emod_lt_of_pos _ h⟩
section
variable {C : Ctx} {k : List It} {E : Env} {ι : Ids} {L : List Ent} {G : PH}
theorem S_openR (κ d : Nat) {b N : Nat} {sv : Value} {L' : List Ent} (hL : getH κ L = some (rdHP b sv N)) (hL' : delH κ L = some L') (hf : freshB [900] ι = true) (hE : look d E = some (.val (.pointer (some ⟨b, 0, none⟩))))
  (hk : ∀ p : Nat, p ≤ N → X C k ((d, .ptr 900 0) :: E) ((900, b) :: ι) (.blk 900 74 [.v sv, .v (.int .i64 (p : Nat))] :: L') G) : X C k E ι L G := by
 refine S_unpack κ [900] hL hL' ?_ hf ?_
 ·rintro ι0 L0 ⟨p, _, rfl, rfl⟩; rfl
 ·rintro ι0 L0 ⟨p, hp, rfl, rfl⟩
  refine S_reE d (.ptr 900 0) hE ?_ (hk p hp)
  rfl
end
theorem byte_at {G : PH} {l : List Int} {A : Option Addr} {n c : Nat} (h : Byts G l (.slice A n c)) {i : Int} (h0 : 0 ≤ i) (h1 : i < l.length) : ∃ ad x, A = some ad ∧ gcell G (ad.add (i.toNat * 1)) = some (.int .u8 x) ∧ 0 ≤ x ∧ x ≤ 255 := by
 obtain ⟨ad, cs, rfl, hcs, rfl, hx0, hx1⟩ := Sr_at h (k := i.toNat) (by omega)
 exact ⟨ad, _, J, hcs.1, hx0, hx1⟩
theorem c_pick (b : Nat) (l : List Int) (sv : Value) (n : Int) (N : Nat) (G : PH) (hl : Byts G l sv) (hn : I64 n) (hN : N + 1 ≤ 1000000000) : Drw 22 b sv [.int .i64 n] N 1 G fun v G' => G' = G ∧ ∃ m : Int, v = .int .i64 m ∧ 0 ≤ m ∧ (m < n ∨ m = 0) := by
 obtain ⟨A, c, rfl, _⟩ := id hl
 refine Mod.intro Tryz.func22 Tryz.ntmps22 J J fun w S => ?_;refine S_openR 1 0 J J J J fun p hp => ?_;refine Va J J ?_;refine S_add J J J J (by omega) ?_;refine Va J J ?_
 have hb : ∀ b0 : Bool, b0 = (decide (n < 1) || decide ((l.length : Int) = 0)) → b0 = false → 1 ≤ n ∧ 0 < l.length := by
  intro b0 h1 h2
  rw [h1] at h2
  simp only [Bool.or_eq_false_iff, decide_eq_false_iff_not] at h2
  omega
 refine S_cond J (fun h => ?_) (fun h => ?_) <;> refine Va J J ?_
 ·exact RK [900] (Res.t1 Tryz.results22 J J) ⟨J, J, 0, J, by omega, .inr J⟩ ⟨p + 1, by omega, J, J⟩ J (.blk J J .nil) XR
 obtain ⟨hn1, hl0⟩ := hb _ rfl h
 refine S_subI J J J J (by omega) ?_;refine Va J J ?_
 have ep : ((p : Int) + 1 - 1) = p := by omega
 rw [ep]
 refine S_condp J (fun h2 => ?_) (fun h2 => ?_) <;> refine Va J J ?_
 ·have hpl : p < l.length := by omega
  obtain ⟨ad, x, rfl, hcs, hx0, hx1⟩ := byte_at hl (i := p) (by omega) (by omega)
  refine S_index Tk J J J J J J (by omega) (by omega) ?_;refine Va J J ?_;refine S_load Tk J J J J J (by simpa using hcs) ?_;refine Va J J ?_;refine S_valV J J J (V_conv J u_u8 u_int (by rw [IntKind.wrap_i64]; omega)) ?_;refine Va J J ?_;refine S_valV J J J (V_rem J J hx0 (by omega)) ?_;refine Va J J ?_
  have hr := rem_bnd (a := x) (n := n) (by omega)
  exact RK [900] (Res.t1 Tryz.results22 J J) ⟨J, J, _, J, hr.1, .inl hr.2⟩ ⟨p + 1, by omega, J, J⟩ J (.blk J J .nil) XR
 ·have r1 := rem_bnd (a := (p : Int)) (n := (l.length : Int)) (by omega)
  have r2 := rem_bnd (a := (p : Int) * 7 + 3) (n := (l.length : Int)) (by omega)
  obtain ⟨ad, x, rfl, hcs, hx0, hx1⟩ := byte_at hl r1.1 r1.2
  obtain ⟨ad2, y, e2, hcs2, hy0, hy1⟩ := byte_at hl r2.1 r2.2
  cases e2
  have hq : 0 ≤ (p : Int) / l.length ∧ (p : Int) / l.length ≤ p := ⟨Int.ediv_nonneg (by omega) (by omega), Int.ediv_le_self _ (by omega)⟩
  refine Ds J J J ?_;refine Da J J ?_;refine D_val 10 J J J J J J J J J (V_rem J J (by omega) (by omega)) ?_;refine Da J J ?_;refine D_val 11 J J J J J J J J J (V_index Tk J J J J (by omega) (by omega)) ?_;refine Da J J ?_;refine D_val 12 J J J J J J J J J (V_load Tk J J J hcs) ?_;refine Da J J ?_;refine D_val 13 J J J J J J J J J (V_conv J u_u8 u_int (by rw [IntKind.wrap_i64]; omega)) ?_;refine Da J J ?_
  refine D_val 14 J J J J J J J J J (V_mul J J (by omega)) ?_;refine Da J J ?_;refine D_val 20 J J J J J J J J J (V_mul J J (by omega)) ?_;refine Da J J ?_;refine D_val 21 J J J J J J J J J (V_add J J (by omega)) ?_;refine Da J J ?_;refine D_val 27 J J J J J J J J J (V_rem J J (by omega) (by omega)) ?_;refine Da J J ?_;refine D_val 28 J J J J J J J J J (V_index Tk J J J J (by omega) (by omega)) ?_
  refine Da J J ?_;refine D_val 29 J J J J J J J J J (V_load Tk J J J hcs2) ?_;refine Da J J ?_;refine D_val 30 J J J J J J J J J (V_conv J u_u8 u_int (by rw [IntKind.wrap_i64]; omega)) ?_;refine Da J J ?_;refine D_val 31 J J J J J J J J J (V_mul J J (by omega)) ?_;refine Da J J ?_;refine D_val 32 J J J J J J J J J (V_add J J (by omega)) ?_;refine Da J J ?_;refine D_val 34 J J J J J J J J J (V_mul J J (by omega)) ?_
  refine Da J J ?_;refine D_val 35 J J J J J J J J J (V_add J J (by omega)) ?_;refine Da J J ?_;refine D_val 42 J J J J J J J J J (V_quo J J (by omega) (by omega) (by omega)) ?_;refine Da J J ?_;refine D_val 43 J J J J J J J J J (V_mul J J (by omega)) ?_;refine Da J J ?_;refine D_val 44 J J J J J J J J J (V_add J J (by omega)) ?_;refine Da J J ?_;refine DD ?_;refine Va J J ?_
  generalize hz : x * 131 + y * 1117 + (p : Int) * 29 + (p : Int) / l.length * 53 = z
  have hz0 : 0 ≤ z ∧ z ≤ 9223372036854775807 := by omega
  have hz1 : 0 ≤ z / 64 ∧ z / 64 ≤ z := by omega
  refine S_valV J J J (V_quo J J hz0.1 hz0.2 (by omega)) ?_;refine Va J J ?_;refine S_valV J J J (V_xor J J hz0 (by omega)) ?_;refine Va J J ?_;refine S_valV J J J (V_rem J J (by omega) (by omega)) ?_;refine Va J J ?_
  have hr := rem_bnd (a := ((z.toNat ^^^ (z / 64).toNat : Nat) : Int)) (n := n) (by omega)
  exact RK [900] (Res.t1 Tryz.results22 J J) ⟨J, J, _, J, hr.1, .inl hr.2⟩ ⟨p + 1, by omega, J, J⟩ J (.blk J J .nil) XR
theorem c_num (b : Nat) (l : List Int) (sv : Value) (q : List Int) (qv : Value) (N : Nat) (G : PH) (hl : Byts G l sv) (hq : Ints G q qv) (hn : 0 < q.length) (hN : N + 1 ≤ 1000000000) : Drw 64 b sv [qv] N 1 G fun v G' => G' = G ∧ ∃ m ∈ q, v = .int .i64 m := by
 obtain ⟨A, c, rfl, hq1, _⟩ := id hq
 refine Mod.intro Tryz.func64 Tryz.ntmps64 J J fun w S => ?_;refine Va J J ?_;refine S_callM 1 Tryz.call22 (c_pick b l sv q.length N G hl ⟨by omega, by omega⟩ hN) J J J J (fun _ => J) ?_;rintro v G2 A' ⟨rfl, rfl, m, rfl, h0, h1⟩ _
 refine Va J J ?_;obtain ⟨ad, cs, rfl, hcs, rfl, hi⟩ := Sr_at hq (k := m.toNat) (by omega)
 refine S_index Tk J J J J J J (by omega) (by omega) ?_;refine Va J J ?_;refine S_load Tk J J J J J hcs.1 ?_;refine Va J J ?_;exact S_retm 1 (Res.t1 Tryz.results64 J J) J XR ⟨J, J, _, List.getElem_mem _, J⟩
end
section
section
variable {C : Ctx} {k : List It} {E : Env} {ι : Ids} {L : List Ent} {G : PH}
theorem S_rdLe (κ : Nat) {b N : Nat} {sv : Value} (N' : Nat) {L' : List Ent} (hN : N ≤ N') (hL : getH κ L = some (rdHP b sv N)) (hL' : setH κ (rdHP b sv N') L = some L') (hx : X C k E ι L' G) : X C k E ι L G := by
 intro a w h1 h2 h3 h4
 refine hx a w h1 h2 h3 ?_;obtain ⟨S, hA, hSG, hturn⟩ := h4.turn hL
 refine hturn _ _ G w S hL' ?_ h4.emb XR (fun b hb => ⟨hSG b hb, .inl hb⟩) J J J (Nat.le_refl _) fun _ _ _ => J
 obtain ⟨ι0, L0, Ss0, ⟨p, hp, q1, q2⟩, q3⟩ := hA
 exact ⟨ι0, L0, Ss0, ⟨p, Nat.le_trans hp hN, q1, q2⟩, q3⟩
end
attribute [local irreducible] X Pure Mod
mutual
/-- no list within is long -/
def Stm.short : Stm → Prop
 | .mk _ _ _ _ x y => (x.length ≤ 1000000 ∧ shL x) ∧ y.length ≤ 1000000 ∧ shL y
def shL : List Stm → Prop
 | [] => True
 | s :: r => Stm.short s ∧ shL r
end
def Sh (l : List Stm) : Prop := l.length ≤ 1000000 ∧ shL l
theorem Stm.short_mk {k a b n : Int} {x y : List Stm} : Stm.short (.mk k a b n x y) ↔ Sh x ∧ Sh y := by simp [Stm.short, Sh]
theorem shL_iff : ∀ {l : List Stm}, shL l ↔ ∀ s ∈ l, Stm.short s
 | [] => by simp [shL]
 | s :: r => by simp [shL, shL_iff (l := r)]
theorem shL_append {l l' : List Stm} : shL (l ++ l') ↔ shL l ∧ shL l' := by
 rw [shL_iff, shL_iff, shL_iff]
 constructor
 ·exact fun h => ⟨fun s hs => h s (List.mem_append.2 (.inl hs)), fun s hs => h s (List.mem_append.2 (.inr hs))⟩
 ·rintro ⟨h1, h2⟩ s hs
  rcases List.mem_append.1 hs with hs | hs
  ·exact h1 s hs
  ·exact h2 s hs
theorem Sh_nil : Sh [] := ⟨by simp, trivial⟩
theorem rd_covers (b : Nat) (sv : Value) (N N' : Nat) : Covers (rdHP b sv N) (rdHP b sv N') := by
 rintro w w' S S' ⟨ι0, L0, Ss, ⟨p, _, rfl, rfl⟩, ho, hS⟩ ⟨ι1, L1, Ss', ⟨p', _, rfl, rfl⟩, ho', hS'⟩ x hx
 obtain ⟨T, hT, hTx⟩ := (hS x).1 hx
 cases Ss with
 | nil => cases hT
 | cons U Us =>
  cases Us with
  | cons => simp [owns] at ho
  | nil =>
   cases Ss' with
   | nil => simp [owns] at ho'
   | cons U' Us' =>
    obtain ⟨⟨c, _, hc, _, _, hU⟩, _⟩ := ho
    obtain ⟨⟨c', _, hc', _, _, hU'⟩, _⟩ := ho'
    simp [lookI] at hc hc'
    rw [List.mem_singleton.1 hT] at hTx
    exact (hS' x).2 ⟨U', List.mem_cons_self .., (hU' x).2 (by rw [(hU x).1 hTx, ← hc, ← hc'])⟩
def DrwL (f : Nat) (b : Nat) (sv : Value) (args : List Value) (N K : Nat) (G : PH) (e sz : Nat) (Post : Nat → List Value → PH → Prop) : Prop :=
 Mod Tryz.prog f (.pointer (some ⟨b, 0, none⟩) :: args) G (rdHP b sv N) fun v G' R => ∃ A' B', R = pairHP A' B' ∧ Covers (rdHP b sv N) A' ∧ A' = rdHP b sv (N + K) ∧ ∃ A n c xs base, v = .slice A n c ∧ B' = rowO base e sz A n c xs ∧ Post n xs G'
def stmL (most : Nat) (n : Nat) (xs : List Value) (G : PH) : Prop := ∃ l : List Stm, n = l.length ∧ l.length ≤ most ∧ Cs 6 (Stm.rep G) l xs ∧ shL l
def stmV (v : Value) (G : PH) : Prop := ∃ s cs, v = .agg cs.toArray ∧ Stm.rep G s cs ∧ Stm.short s
def kD : Nat → Nat
 | 0 => 10
 | d + 1 => 10 + 2 * (1 + 3 * kD d)
theorem c_l2Draws (b : Nat) (l : List Int) (sv : Value) (d N most : Nat) (room : Int) (G : PH) (hl : Byts G l sv) (hm : most ≤ 3) (hN : N + (1 + most * kD d) ≤ 1000000000)
  (hd : ∀ M G, Byts G l sv → M + kD d ≤ 1000000000 → Drw 81 b sv [.int .i64 (d : Nat), .int .i64 room] M (kD d) G stmV) :
  DrwL 93 b sv [.int .i64 (d : Nat), .int .i64 room, .int .i64 (most : Nat)] N (1 + most * kD d) G 94 6 (stmL most) := by
 obtain ⟨A, c, rfl, hl1, _⟩ := id hl
 refine Mod.intro Tryz.func93 Tryz.ntmps93 J J fun w S => ?_;refine Va J J ?_;refine S_emptyO Tk 5 J J J J fun A0 => ?_;refine Va J J ?_;refine S_add J J J J (by omega) ?_;refine Va J J ?_;refine S_callM 1 Tryz.call22 (c_pick b l _ _ N G hl ⟨by omega, by omega⟩ (by omega)) J J J J (fun _ => J) ?_;rintro v G2 A' ⟨rfl, rfl, m, rfl, h0, h1⟩ _
 refine Va J J ?_;obtain ⟨m, rfl⟩ := Int.eq_ofNat_of_zero_le h0
 have hmm : m ≤ most := by omega
 refine S_loop (α := Nat × Nat × Option Addr × Nat × List Value × List Stm × PH) (fun y => y.1 + y.2.2.2.2.2.1.length ≤ most ∧ y.2.1 + y.1 * kD d ≤ N + (1 + most * kD d) ∧ PH.ext w.heap.size G2 y.2.2.2.2.2.2 ∧ Cs 6 (Stm.rep y.2.2.2.2.2.2) y.2.2.2.2.2.1 y.2.2.2.2.1 ∧ shL y.2.2.2.2.2.1) (fun y => y.1) []
  (fun y => [(10, .val (.int .i64 (y.1 : Nat))), (9, .val (.slice y.2.2.1 y.2.2.2.2.2.1.length y.2.2.2.1)), (0, .val (.pointer (some ⟨b, 0, none⟩))), (1, .val (.int .i64 (d : Nat))), (2, .val (.int .i64 room))])
  (fun y => [.hp 5 (rowO w.heap.size 94 6 y.2.2.1 y.2.2.2.2.2.1.length y.2.2.2.1 y.2.2.2.2.1), .hp 1 (rdHP b (.slice A l.length c) y.2.1)]) (fun y => y.2.2.2.2.2.2) (m, N + 1, A0, 0, [], [], G2) ⟨by simpa using hmm, ?_, PH.ext.refl _ _, rfl, trivial⟩ rfl ?_ ?_ ?_
 ·have := Nat.mul_le_mul_right (kD d) hmm
  simp only
  omega
 ·exact ⟨⟨_, J, J⟩, ⟨_, J, J⟩, ⟨_, J, J⟩, ⟨_, J, J⟩, ⟨_, J, J⟩, trivial⟩
 ·exact .hp (.hp .nil)
 rintro ⟨i, M, A1, c1, xs, ls, G1⟩ ⟨hi, hM, hext, hcs, hsh⟩
 simp only at hi hM hext hcs hsh ⊢
 refine Va J J ?_
 refine S_condp J (fun h => ?_) (fun h => ?_) <;> refine Va J J ?_
 ·obtain ⟨j, rfl⟩ : ∃ j, i = j + 1 := ⟨i - 1, by omega⟩
  rw [Nat.succ_mul] at hM
  refine S_callM 1 Tryz.call81 (hd M G1 (Byts_le hext.le hl) (by omega)) J J J J (fun _ => J) ?_;rintro v G3 A' ⟨rfl, s, cs, rfl, hrep, hss⟩ hext3
  have hlen := Stm.rep_len hrep
  have hone := Stm.rep_one s cs hrep
  obtain ⟨c0, c1', c2', c3', c4', c5', rfl⟩ : ∃ c0 c1 c2 c3 c4 c5, cs = [c0, c1, c2, c3, c4, c5] := by
   match cs, hlen with
   | [a0, a1, a2, a3, a4, a5], _ => exact ⟨a0, a1, a2, a3, a4, a5, rfl⟩
  refine Va J J ?_;refine S_slice Tk ZT_ok J J J J (by decide) (by decide) J J J J fun b2 => ?_;refine Va J J ?_;refine S_app1 Tk 5 25 J J J J J J J J J J J J J J hone J (fun _ _ => J) (by omega) (Nat.le_refl _) fun A2 c2 => ?_;refine Va J J ?_;refine S_subI J J J J (by omega) ?_;refine Va J J ?_;refine S_again (j, M + kD d, A2, c2, _, ls ++ [s], G3) ⟨by simp; omega, by simp only; omega, hext.trans hext3, Cs_append (Cs_mono (Stm.reps_le hext3.le ls) hcs) hrep rfl, shL_append.2 ⟨hsh, hss, trivial⟩⟩ (by simp only; omega) rfl ⟨⟨_, rfl, by simp [denO]⟩, ⟨_, rfl, by simp [denO]⟩, ⟨_, rfl, rfl⟩, ⟨_, rfl, rfl⟩, ⟨_, rfl, rfl⟩, trivial⟩ ?_
  simp only [List.length_append, List.length_singleton]
  exact .drop (.hp (.hp .nil))
 ·obtain rfl : i = 0 := by omega
  refine S_rdLe 1 (N + (1 + most * kD d)) (by omega) J J ?_;refine S_pair 1 5 6 J J J J ?_;exact S_retm 6 (Res.t1 Tryz.results93 J J) J hext ⟨_, _, J, rd_covers _ _ _ _, J, _, _, _, _, _, J, J, ls, J, by omega, hcs, hsh⟩
theorem ints_of {G : PH} {a : Addr} {l : List Int} {n c : Nat} (h : gcells G a (intC l)) (hn : n = l.length) (hc : n ≤ c) (hcm : c ≤ maxLen) (hb : n ≤ 1000000000) (hi : ∀ x ∈ l, I64 x) : Ints G l (.slice (some a) n c) :=
 Sx_Ints ⟨some a, c, rfl, hb, hc, hcm, by rw [intC_length, hn]; omega, .inr ⟨a, rfl, h⟩⟩ hn hi
theorem c_numL (b : Nat) {l : List Int} {sv : Value} (q : List Int) {a : Addr} {n c N : Nat} {G : PH} (hl : Byts G l sv) (h : gcells G a (intC q)) (hn : (n : Int) = q.length) (hc : n ≤ c) (hcm : c ≤ maxLen) (hb : 0 < q.length ∧ n ≤ 1000000000) (hi : ∀ x ∈ q, I64 x) (hN : N + 1 ≤ 1000000000) :
  Drw 64 b sv [.slice (some a) n c] N 1 G fun v G' => G' = G ∧ ∃ m ∈ q, v = .int .i64 m :=
 c_num b l sv q _ N G hl (ints_of h (by omega) hc hcm hb.2 hi) hb.1 hN
theorem i64_small {l : List Int} (h : (l.all fun x => decide (-9223372036854775808 ≤ x ∧ x ≤ 9223372036854775807)) = true) : ∀ x ∈ l, I64 x := by
 intro x hx
 have := List.all_eq_true.1 h x hx
 simp only [decide_eq_true_eq] at this
 exact ⟨by omega, by omega⟩
theorem frz {α : Type} {G G' : PH} {sz : Nat} {rep : α → List Value → Prop} {L : List α} {A : Option Addr} {n c : Nat} {xs : List Value} (hcs : Cs sz rep L xs) (hn : n = L.length) (hb : n ≤ 1000000000) (hnc : n ≤ c) (hcm : c ≤ maxLen) (hcl : n = 0 ∨ ∃ a, A = some a ∧ gcells (newp G G') a xs) : Sr G' sz rep L (.slice A n c) := by
 subst hn
 refine Sx_Sr ⟨A, c, J, hb, hnc, hcm, Cs_length hcs, ?_⟩ J hcs
 rcases hcl with hcl | ⟨a, h1, h2⟩
 ·exact .inl hcl
 ·exact .inr ⟨a, h1, gcells_le (newp_le _ _) h2⟩
theorem c_l2Draw (b : Nat) (l : List Int) (sv : Value) (d N : Nat) (room : Int) (G : PH) (hl : Byts G l sv) (h3 : d ≤ 100) (hN : N + kD d ≤ 1000000000)
  (hd : 2 ≤ d → ∀ (most M : Nat) (room : Int) G, most ≤ 3 → Byts G l sv → M + (1 + most * kD (d - 1)) ≤ 1000000000 → DrwL 93 b sv [.int .i64 ((d : Int) - 1), .int .i64 room, .int .i64 (most : Nat)] M (1 + most * kD (d - 1)) G 94 6 (stmL most)) :
  Drw 81 b sv [.int .i64 (d : Nat), .int .i64 room] N (kD d) G stmV := by
 obtain ⟨A, c, rfl, hl1, _⟩ := id hl
 have hk : 10 ≤ kD d := by cases d <;> simp only [kD] <;> omega
 refine Mod.intro Tryz.func81 Tryz.ntmps81 J J fun w S => ?_;refine Va J J ?_;refine AZ ZT_ok J J J J fun b6 => ?_;refine Va J J ?_;refine S_callM 1 Tryz.call22 (c_pick b l _ _ N G hl ⟨by omega, by omega⟩ (by omega)) J J J J (fun _ => J) ?_;rintro v G2 A' ⟨rfl, rfl, a, rfl, ha0, ha1⟩ _
 refine Va J J ?_;refine S_callM 1 Tryz.call22 (c_pick b l _ _ _ _ hl ⟨by omega, by omega⟩ (by omega)) J J J J (fun _ => J) ?_;rintro v G2 A' ⟨rfl, rfl, bb, rfl, hb0, hb1⟩ _
 refine Va J J ?_;refine S_sliceG Tk ZT_ok J J J J (by decide) (by decide) J J J J (fun _ => J) fun bq Gq hxq hcq => ?_;refine Va J J ?_;refine S_callM 1 Tryz.call64 (c_numL b [1, 2, 3, 4, 5, 3, 4, 2, 8, 6, 7, 10, 9, 11, 8, 5] (Byts_le hxq.le hl) hcq J (Nat.le_refl _) (by decide) (by decide) (i64_small (by decide)) (by omega)) J J J J (fun _ => J) ?_;rintro v G' A' ⟨rfl, rfl, kind, hmem, rfl⟩ _
 refine Va J J ?_
 simp only [List.mem_cons, List.not_mem_nil, or_false] at hmem
 have hmem2 : kind = 1 ∨ kind = 2 ∨ kind = 3 ∨ kind = 4 ∨ kind = 5 ∨ kind = 6 ∨ kind = 7 ∨ kind = 8 ∨ kind = 9 ∨ kind = 10 ∨ kind = 11 := by omega
 clear hmem
 have hx2 := hxq
 rcases hmem2 with rfl | rfl | rfl | rfl | rfl | rfl | rfl | rfl | rfl | rfl | rfl
 all_goals
  repeat' (first
   | (refine GT J J J ?_; refine Va J J ?_)
   | (refine GF J J J ?_; refine Va J J ?_)
   | (refine S_guardp J J (fun h => ?_) (fun h => ?_) <;> refine Va J J ?_)
   | (refine S_guard J J (fun h => ?_) (fun h => ?_) <;> refine Va J J ?_)
   | (refine RT J J ?_; refine Va J J ?_)
   | (refine RF J J ?_; refine Va J J ?_))
 all_goals (try (simp at h; done))
 all_goals first
  |refine S_rdLe 1 (N + kD d) (by omega) J J ?_
   refine S_retm 1 (Res.c1 Tk Tryz.results81 J J) J (hxq) ⟨J, .mk _ _ _ _ [] [], _, J, Stm.rep_iff.2 ⟨_, _, J, ?_, ?_, ?_, ?_, Sr_nil J, Sr_nil J⟩, Stm.short_mk.2 ⟨Sh_nil, Sh_nil⟩⟩ <;> exact ⟨by omega, by omega⟩
  |refine S_sliceG Tk ZT_ok J J J J (by decide) (by decide) J J J J (fun _ => J) fun bq3 Gq3 hxq3 hcq3 => ?_
   refine Va J J ?_;refine S_callM 1 Tryz.call64 (c_numL b [1, 2, 3, 4, 5] (Byts_le (PH.ext.trans hxq hxq3).le hl) hcq3 J (Nat.le_refl _) (by decide) (by decide) (i64_small (by decide)) (by omega)) J J J J (fun _ => J) ?_;rintro v G' A' ⟨rfl, rfl, kind, hmem, rfl⟩ _
   refine Va J J ?_
   simp only [List.mem_cons, List.not_mem_nil, or_false] at hmem
   rcases hmem with rfl | rfl | rfl | rfl | rfl
   all_goals
    repeat' (first
     | (refine GT J J J ?_; refine Va J J ?_)
     | (refine GF J J J ?_; refine Va J J ?_)
     | (refine S_guardp J J (fun h => ?_) (fun h => ?_) <;> refine Va J J ?_)
     | (refine S_guard J J (fun h => ?_) (fun h => ?_) <;> refine Va J J ?_)
     | (refine RT J J ?_; refine Va J J ?_)
     | (refine RF J J ?_; refine Va J J ?_))
   all_goals first
    |refine S_rdLe 1 (N + kD d) (by omega) J J ?_
     refine S_retm 1 (Res.c1 Tk Tryz.results81 J J) J ((hxq.trans hxq3)) ⟨J, .mk _ _ _ _ [] [], _, J, Stm.rep_iff.2 ⟨_, _, J, ?_, ?_, ?_, ?_, Sr_nil J, Sr_nil J⟩, Stm.short_mk.2 ⟨Sh_nil, Sh_nil⟩⟩ <;> exact ⟨by omega, by omega⟩
    |refine S_sliceG Tk ZT_ok J J J J (by decide) (by decide) J J J J (fun _ => J) fun bq1 Gq1 hxq1 hcq1 => ?_
     refine Va J J ?_;refine S_callM 1 Tryz.call64 (c_numL b [0, 1, 2, 3, -1, 5] (Byts_le (PH.ext.trans ((hxq.trans hxq3)) hxq1).le hl) hcq1 J (Nat.le_refl _) (by decide) (by decide) (i64_small (by decide)) (by omega)) J J J J (fun _ => J) ?_;rintro v G' A' ⟨rfl, rfl, m1, hmem1, rfl⟩ _
     have hm1 : -1 ≤ m1 ∧ m1 ≤ 5 := by (simp only [List.mem_cons, List.not_mem_nil, or_false] at hmem1); omega
     refine Va J J ?_;refine S_rdLe 1 (N + kD d) (by omega) J J ?_
     refine S_retm 1 (Res.c1 Tk Tryz.results81 J J) J ((PH.ext.trans ((hxq.trans hxq3)) hxq1)) ⟨J, .mk _ _ _ _ [] [], _, J, Stm.rep_iff.2 ⟨_, _, J, ?_, ?_, ?_, ?_, Sr_nil J, Sr_nil J⟩, Stm.short_mk.2 ⟨Sh_nil, Sh_nil⟩⟩ <;> exact ⟨by omega, by omega⟩
    |refine S_callM 1 Tryz.call22 (c_pick b l _ _ _ _ (Byts_le (PH.ext.le ((hxq.trans hxq3))) hl) ⟨by omega, by omega⟩ (by omega)) J J J J (fun _ => J) ?_
     rintro v G2 A' ⟨rfl, rfl, m1, rfl, hm0, hm1⟩ _
     refine Va J J ?_;refine S_add J J J J (by omega) ?_;refine Va J J ?_;refine S_rdLe 1 (N + kD d) (by omega) J J ?_
     refine S_retm 1 (Res.c1 Tk Tryz.results81 J J) J ((hxq.trans hxq3)) ⟨J, .mk _ _ _ _ [] [], _, J, Stm.rep_iff.2 ⟨_, _, J, ?_, ?_, ?_, ?_, Sr_nil J, Sr_nil J⟩, Stm.short_mk.2 ⟨Sh_nil, Sh_nil⟩⟩ <;> exact ⟨by omega, by omega⟩
  |refine S_sliceG Tk ZT_ok J J J J (by decide) (by decide) J J J J (fun _ => J) fun bq1 Gq1 hxq1 hcq1 => ?_
   refine Va J J ?_;refine S_callM 1 Tryz.call64 (c_numL b [0, 1, 2, 3, -1, 5] (Byts_le (PH.ext.trans (hxq) hxq1).le hl) hcq1 J (Nat.le_refl _) (by decide) (by decide) (i64_small (by decide)) (by omega)) J J J J (fun _ => J) ?_;rintro v G' A' ⟨rfl, rfl, m1, hmem1, rfl⟩ _
   have hm1 : -1 ≤ m1 ∧ m1 ≤ 5 := by (simp only [List.mem_cons, List.not_mem_nil, or_false] at hmem1); omega
   refine Va J J ?_;refine S_rdLe 1 (N + kD d) (by omega) J J ?_
   refine S_retm 1 (Res.c1 Tk Tryz.results81 J J) J ((PH.ext.trans (hxq) hxq1)) ⟨J, .mk _ _ _ _ [] [], _, J, Stm.rep_iff.2 ⟨_, _, J, ?_, ?_, ?_, ?_, Sr_nil J, Sr_nil J⟩, Stm.short_mk.2 ⟨Sh_nil, Sh_nil⟩⟩ <;> exact ⟨by omega, by omega⟩
  |refine S_callM 1 Tryz.call22 (c_pick b l _ _ _ _ (Byts_le (PH.ext.le (hxq)) hl) ⟨by omega, by omega⟩ (by omega)) J J J J (fun _ => J) ?_
   rintro v G2 A' ⟨rfl, rfl, m1, rfl, hm0, hm1⟩ _
   refine Va J J ?_;refine S_add J J J J (by omega) ?_;refine Va J J ?_;refine S_rdLe 1 (N + kD d) (by omega) J J ?_
   refine S_retm 1 (Res.c1 Tk Tryz.results81 J J) J (hxq) ⟨J, .mk _ _ _ _ [] [], _, J, Stm.rep_iff.2 ⟨_, _, J, ?_, ?_, ?_, ?_, Sr_nil J, Sr_nil J⟩, Stm.short_mk.2 ⟨Sh_nil, Sh_nil⟩⟩ <;> exact ⟨by omega, by omega⟩
  |refine S_callM 1 Tryz.call22 (c_pick b l _ _ _ _ (Byts_le (PH.ext.le (hxq)) hl) ⟨by omega, by omega⟩ (by omega)) J J J J (fun _ => J) ?_
   rintro v G2 A' ⟨rfl, rfl, m1, rfl, hm0, hm1⟩ _
   refine Va J J ?_;refine S_rdLe 1 (N + kD d) (by omega) J J ?_
   refine S_retm 1 (Res.c1 Tk Tryz.results81 J J) J (hxq) ⟨J, .mk _ _ _ _ [] [], _, J, Stm.rep_iff.2 ⟨_, _, J, ?_, ?_, ?_, ?_, Sr_nil J, Sr_nil J⟩, Stm.short_mk.2 ⟨Sh_nil, Sh_nil⟩⟩ <;> exact ⟨by omega, by omega⟩
  | skip
 -- an if
 ·have h2 : 2 ≤ d := by simp at h; omega
  have hkd : kD d = 10 + 2 * (1 + 3 * kD (d - 1)) := by
   cases d
   ·omega
   ·rfl
  refine S_subI J J J J (by omega) ?_;refine Va J J ?_;refine S_callPr 1 300 Tryz.call93 (hd h2 2 _ room _ (by omega) (Byts_le hxq.le hl) (by omega)) J J J J (fun _ => J) ?_;rintro v G3 A' B' ⟨rfl, A1, n1, c1, xs1, base1, rfl, rfl, l1, rfl, hle1, hcs1, hsh1⟩ hext1
  refine S_newRow 300 J J ?_;refine S_freezeR 300 J J (Nat.le_refl _) fun G4 hext2 hnc1 hcm1 hcl1 => ?_
  have hv1 : Sts G4 l1 _ := frz (Cs_mono (Stm.reps_le hext2.le l1) hcs1) rfl (by omega) hnc1 hcm1 hcl1
  refine Va J J ?_;refine S_subI J J J J (by omega) ?_;refine Va J J ?_
  have e1 := (hxq.trans hext1).trans hext2
  refine S_callPr 1 301 Tryz.call93 (hd h2 2 _ room _ (by omega) (Byts_le e1.le hl) (by omega)) J J J J (fun _ => J) ?_;rintro v G5 A' B' ⟨rfl, A2, n2, c2, xs2, base2, rfl, rfl, l2, rfl, hle2, hcs2, hsh2⟩ hext3
  refine S_newRow 301 J J ?_;refine S_freezeR 301 J J (Nat.le_refl _) fun G6 hext4 hnc2 hcm2 hcl2 => ?_
  have hv2 : Sts G6 l2 _ := frz (Cs_mono (Stm.reps_le hext4.le l2) hcs2) rfl (by omega) hnc2 hcm2 hcl2
  refine Va J J ?_
  have e2 := (e1.trans hext3).trans hext4
  refine S_rdLe 1 (N + kD d) (by omega) J J ?_;refine S_retm 1 (Res.c1 Tk Tryz.results81 J J) J e2 ⟨J, .mk _ _ _ _ l1 l2, _, J, Stm.rep_iff.2 ⟨_, _, J, ⟨by omega, by omega⟩, ⟨by omega, by omega⟩, ⟨by omega, by omega⟩, ⟨by omega, by omega⟩, Sts_le (hext3.trans hext4).le hv1, hv2⟩, Stm.short_mk.2 ⟨⟨by omega, hsh1⟩, by omega, hsh2⟩⟩
 -- a while
 ·have h2 : 2 ≤ d := by simp at h; omega
  have hkd : kD d = 10 + 2 * (1 + 3 * kD (d - 1)) := by
   cases d
   ·omega
   ·rfl
  refine S_subI J J J J (by omega) ?_;refine Va J J ?_;refine S_callPr 1 300 Tryz.call93 (hd h2 2 _ room _ (by omega) (Byts_le hxq.le hl) (by omega)) J J J J (fun _ => J) ?_;rintro v G3 A' B' ⟨rfl, A1, n1, c1, xs1, base1, rfl, rfl, l1, rfl, hle1, hcs1, hsh1⟩ hext1
  refine S_newRow 300 J J ?_;refine Va J J ?_
  have e1 := hxq.trans hext1
  refine S_sliceG Tk ZT_ok J J J J (by decide) (by decide) J J J J (fun _ => J) fun bq1 Gq1 hxq1 hcq1 => ?_;refine Va J J ?_;refine S_callM 1 Tryz.call64 (c_numL b [0, 0, 0, 0, 0, 1] (Byts_le (e1.trans hxq1).le hl) hcq1 J (Nat.le_refl _) (by decide) (by decide) (i64_small (by decide)) (by omega)) J J J J (fun _ => J) ?_;rintro v G' A' ⟨rfl, rfl, m1, hmem1, rfl⟩ _
  have hm1 : 0 ≤ m1 ∧ m1 ≤ 1 := by (simp only [List.mem_cons, List.not_mem_nil, or_false] at hmem1); omega
  refine Va J J ?_;refine S_slice Tk ZT_ok J J J J (by decide) (by decide) J J J J fun b2 => ?_;refine Va J J ?_
  refine S_app1 Tk 300 105 J J J J J J J J J J J J J J (by intro u hu; simp at hu; rcases hu with rfl | rfl | rfl | rfl | rfl | rfl <;> rfl) rfl (fun _ _ => rfl) (by omega) (Nat.le_refl _) fun A2 c2 => ?_
  refine Va J J ?_;refine S_freezeR 300 J J (Nat.le_refl _) fun G4 hext2 hnc1 hcm1 hcl1 => ?_;refine Va J J ?_
  have hcs2 := Cs_append (x := Stm.mk 1 a 0 m1 [] []) hcs1 (Stm.rep_iff.2 ⟨_, _, rfl, ⟨by omega, by omega⟩, ⟨by omega, by omega⟩, ⟨by omega, by omega⟩, ⟨by omega, by omega⟩, Sr_nil rfl, Sr_nil rfl⟩) rfl
  have hv1 : Sts G4 (l1 ++ [Stm.mk 1 a 0 m1 [] []]) _ := frz (Cs_mono (Stm.reps_le (hxq1.trans hext2).le _) hcs2) (by simp) (by omega) hnc1 hcm1 hcl1
  refine S_rdLe 1 (N + kD d) (by omega) J J ?_;exact S_retm 1 (Res.c1 Tk Tryz.results81 J J) J ((e1.trans hxq1).trans hext2) ⟨J, .mk _ _ _ _ _ _, _, J, Stm.rep_iff.2 ⟨_, _, J, ⟨by omega, by omega⟩, ⟨by omega, by omega⟩, ⟨by omega, by omega⟩, ⟨by omega, by omega⟩, hv1, Sr_nil J⟩, Stm.short_mk.2 ⟨⟨by simp; omega, shL_append.2 ⟨hsh1, Stm.short_mk.2 ⟨Sh_nil, Sh_nil⟩, trivial⟩⟩, Sh_nil⟩⟩
 -- in a room
 ·have h2 : 2 ≤ d := by
   rename_i h9 h8
   simp at h8 h9
   omega
  have hkd : kD d = 10 + 2 * (1 + 3 * kD (d - 1)) := by
   cases d
   ·omega
   ·rfl
  refine S_callM 1 Tryz.call22 (c_pick b l _ _ _ _ (Byts_le hxq.le hl) ⟨by omega, by omega⟩ (by omega)) J J J J (fun _ => J) ?_;rintro v G2 A' ⟨rfl, rfl, m1, rfl, hm0, hm1⟩ _
  refine Va J J ?_;refine S_subI J J J J (by omega) ?_;refine Va J J ?_;refine S_callPr 1 300 Tryz.call93 (hd h2 3 _ m1 _ (by omega) (Byts_le hxq.le hl) (by omega)) J J J J (fun _ => J) ?_;rintro v G3 A' B' ⟨rfl, A1, n1, c1, xs1, base1, rfl, rfl, l1, rfl, hle1, hcs1, hsh1⟩ hext1
  refine S_newRow 300 J J ?_;refine S_freezeR 300 J J (Nat.le_refl _) fun G4 hext2 hnc1 hcm1 hcl1 => ?_
  have hv1 : Sts G4 l1 _ := frz (Cs_mono (Stm.reps_le hext2.le l1) hcs1) rfl (by omega) hnc1 hcm1 hcl1
  refine Va J J ?_;refine S_rdLe 1 (N + kD d) (by omega) J J ?_;exact S_retm 1 (Res.c1 Tk Tryz.results81 J J) J ((hxq.trans hext1).trans hext2) ⟨J, .mk _ _ _ _ _ _, _, J, Stm.rep_iff.2 ⟨_, _, J, ⟨by omega, by omega⟩, ⟨by omega, by omega⟩, ⟨by omega, by omega⟩, ⟨by omega, by omega⟩, hv1, Sr_nil J⟩, Stm.short_mk.2 ⟨⟨by omega, hsh1⟩, Sh_nil⟩⟩
 -- a wait
 ·refine S_cond J (fun h => ?_) (fun h => ?_) <;> refine Va J J ?_
  ·refine S_sliceG Tk ZT_ok J J J J (by decide) (by decide) J J J J (fun _ => J) fun bq3 Gq3 hxq3 hcq3 => ?_
   refine Va J J ?_;refine S_callM 1 Tryz.call64 (c_numL b [1, 2, 3, 4, 5] (Byts_le (PH.ext.trans hxq hxq3).le hl) hcq3 J (Nat.le_refl _) (by decide) (by decide) (i64_small (by decide)) (by omega)) J J J J (fun _ => J) ?_;rintro v G' A' ⟨rfl, rfl, kind, hmem, rfl⟩ _
   refine Va J J ?_
   simp only [List.mem_cons, List.not_mem_nil, or_false] at hmem
   rcases hmem with rfl | rfl | rfl | rfl | rfl
   all_goals
    repeat' (first
     | (refine GT J J J ?_; refine Va J J ?_)
     | (refine GF J J J ?_; refine Va J J ?_)
     | (refine S_guardp J J (fun h => ?_) (fun h => ?_) <;> refine Va J J ?_)
     | (refine S_guard J J (fun h => ?_) (fun h => ?_) <;> refine Va J J ?_)
     | (refine RT J J ?_; refine Va J J ?_)
     | (refine RF J J ?_; refine Va J J ?_))
   all_goals first
    |refine S_rdLe 1 (N + kD d) (by omega) J J ?_
     refine S_retm 1 (Res.c1 Tk Tryz.results81 J J) J ((hxq.trans hxq3)) ⟨J, .mk _ _ _ _ [] [], _, J, Stm.rep_iff.2 ⟨_, _, J, ?_, ?_, ?_, ?_, Sr_nil J, Sr_nil J⟩, Stm.short_mk.2 ⟨Sh_nil, Sh_nil⟩⟩ <;> exact ⟨by omega, by omega⟩
    |refine S_sliceG Tk ZT_ok J J J J (by decide) (by decide) J J J J (fun _ => J) fun bq1 Gq1 hxq1 hcq1 => ?_
     refine Va J J ?_;refine S_callM 1 Tryz.call64 (c_numL b [0, 1, 2, 3, -1, 5] (Byts_le (PH.ext.trans ((hxq.trans hxq3)) hxq1).le hl) hcq1 J (Nat.le_refl _) (by decide) (by decide) (i64_small (by decide)) (by omega)) J J J J (fun _ => J) ?_;rintro v G' A' ⟨rfl, rfl, m1, hmem1, rfl⟩ _
     have hm1 : -1 ≤ m1 ∧ m1 ≤ 5 := by (simp only [List.mem_cons, List.not_mem_nil, or_false] at hmem1); omega
     refine Va J J ?_;refine S_rdLe 1 (N + kD d) (by omega) J J ?_
     refine S_retm 1 (Res.c1 Tk Tryz.results81 J J) J ((PH.ext.trans ((hxq.trans hxq3)) hxq1)) ⟨J, .mk _ _ _ _ [] [], _, J, Stm.rep_iff.2 ⟨_, _, J, ?_, ?_, ?_, ?_, Sr_nil J, Sr_nil J⟩, Stm.short_mk.2 ⟨Sh_nil, Sh_nil⟩⟩ <;> exact ⟨by omega, by omega⟩
    |refine S_callM 1 Tryz.call22 (c_pick b l _ _ _ _ (Byts_le (PH.ext.le ((hxq.trans hxq3))) hl) ⟨by omega, by omega⟩ (by omega)) J J J J (fun _ => J) ?_
     rintro v G2 A' ⟨rfl, rfl, m1, rfl, hm0, hm1⟩ _
     refine Va J J ?_;refine S_add J J J J (by omega) ?_;refine Va J J ?_;refine S_rdLe 1 (N + kD d) (by omega) J J ?_
     refine S_retm 1 (Res.c1 Tk Tryz.results81 J J) J ((hxq.trans hxq3)) ⟨J, .mk _ _ _ _ [] [], _, J, Stm.rep_iff.2 ⟨_, _, J, ?_, ?_, ?_, ?_, Sr_nil J, Sr_nil J⟩, Stm.short_mk.2 ⟨Sh_nil, Sh_nil⟩⟩ <;> exact ⟨by omega, by omega⟩
  ·repeat' (first
    | (refine GT J J J ?_; refine Va J J ?_)
    | (refine GF J J J ?_; refine Va J J ?_)
    | (refine S_guardp J J (fun h => ?_) (fun h => ?_) <;> refine Va J J ?_)
    | (refine S_guard J J (fun h => ?_) (fun h => ?_) <;> refine Va J J ?_)
    | (refine RT J J ?_; refine Va J J ?_)
    | (refine RF J J ?_; refine Va J J ?_))
   refine S_callM 1 Tryz.call22 (c_pick b l _ _ _ _ (Byts_le (PH.ext.le (hxq)) hl) ⟨by omega, by omega⟩ (by omega)) J J J J (fun _ => J) ?_;rintro v G2 A' ⟨rfl, rfl, m1, rfl, hm0, hm1⟩ _
   refine Va J J ?_;refine S_rdLe 1 (N + kD d) (by omega) J J ?_
   refine S_retm 1 (Res.c1 Tk Tryz.results81 J J) J (hxq) ⟨J, .mk _ _ _ _ [] [], _, J, Stm.rep_iff.2 ⟨_, _, J, ?_, ?_, ?_, ?_, Sr_nil J, Sr_nil J⟩, Stm.short_mk.2 ⟨Sh_nil, Sh_nil⟩⟩ <;> exact ⟨by omega, by omega⟩
theorem c_l2Draws_all (b : Nat) (l : List Int) (sv : Value) : ∀ (d : Nat), d ≤ 100 → (∀ N (room : Int) G, Byts G l sv → N + kD d ≤ 1000000000 → Drw 81 b sv [.int .i64 (d : Nat), .int .i64 room] N (kD d) G stmV) ∧
  ∀ (most N : Nat) (room : Int) G, most ≤ 3 → Byts G l sv → N + (1 + most * kD d) ≤ 1000000000 → DrwL 93 b sv [.int .i64 (d : Nat), .int .i64 room, .int .i64 (most : Nat)] N (1 + most * kD d) G 94 6 (stmL most)
 | 0, h3 => by
  have h1 : ∀ N (room : Int) G, Byts G l sv → N + kD 0 ≤ 1000000000 → Drw 81 b sv [.int .i64 (0 : Nat), .int .i64 room] N (kD 0) G stmV := fun N room G hl hN => c_l2Draw b l sv 0 N room G hl h3 hN (fun h => by omega)
  exact ⟨h1, fun most N room G hm hl hN => c_l2Draws b l sv 0 N most room G hl hm hN fun M G hl hM => h1 M room G hl hM⟩
 | d + 1, h3 => by
  have ih := (c_l2Draws_all b l sv d (by omega)).2
  have h1 : ∀ N (room : Int) G, Byts G l sv → N + kD (d + 1) ≤ 1000000000 → Drw 81 b sv [.int .i64 (d + 1 : Nat), .int .i64 room] N (kD (d + 1)) G stmV := fun N room G hl hN => c_l2Draw b l sv (d + 1) N room G hl h3 hN (fun h most M room G hm hl hM => by
   have := ih most M room G hm hl hM
   rw [show (((d + 1 : Nat) : Int) - 1) = ((d : Nat) : Int) by omega]
   exact this)
  exact ⟨h1, fun most N room G hm hl hN => c_l2Draws b l sv (d + 1) N most room G hl hm hN fun M G hl hM => h1 M room G hl hM⟩
end
section
attribute [local irreducible] X Pure Mod
def someV (v : Value) (G : PH) : Prop := ∃ l, Sts G l v ∧ Sh l ∧ stmtsOk l = true
theorem stmtsOk_nil : stmtsOk [] = true := by decide
theorem sts_cells {G : PH} {l : List Stm} {v : Value} (h : Sts G l v) : ∃ A c xs, v = .slice A l.length c ∧ xs.length = l.length * 6 ∧ (l.length = 0 ∨ ∃ a, A = some a ∧ gcells G a xs) ∧ Cs 6 (Stm.rep G) l xs := by
 obtain ⟨xs, hx, hc⟩ := Sr_Sx (fun s cs h => Stm.rep_len h) h
 obtain ⟨A, c, rfl, _, _, _, hl, hr⟩ := hx
 exact ⟨A, c, xs, J, hl, hr, hc⟩
theorem six {cs : List Value} (h : cs.length = 6) : ∃ c0 c1 c2 c3 c4 c5, cs = [c0, c1, c2, c3, c4, c5] := by
 match cs, h with
 | [a0, a1, a2, a3, a4, a5], _ => exact ⟨a0, a1, a2, a3, a4, a5, rfl⟩
theorem c_l2Some (b : Nat) (l : List Int) (sv : Value) (N : Nat) (G : PH) (hl : Byts G l sv) (hN : N + (1 + 6 * kD 3) ≤ 1000000000) : Drw 63 b sv [] N (1 + 6 * kD 3) G someV := by
 obtain ⟨A, c, rfl, hl1, _⟩ := id hl
 refine Mod.intro Tryz.func63 Tryz.ntmps63 J J fun w S => ?_;refine Va J J ?_;refine S_emptyO Tk 5 J J J J fun A0 => ?_;refine S_freezeR 5 J J (Nat.le_refl _) fun G1 hext1 _ _ _ => ?_
 have hout : Sts G1 [] (.slice A0 0 0) := ⟨A0, 0, rfl, by simp, Nat.le_refl _, by simp [maxLen], .inl rfl⟩
 refine Va J J ?_;refine S_sliceG Tk ZT_ok J J J J (by decide) (by decide) J J J J (fun _ => J) fun bq Gq hxq hcq => ?_;refine Va J J ?_;refine S_callM 1 Tryz.call64 (c_numL b [3, 4, 5, 6, 2, 0] (Byts_le (hext1.trans hxq).le hl) hcq J (Nat.le_refl _) (by decide) (by decide) (i64_small (by decide)) (by omega)) J J J J (fun _ => J) ?_;rintro v G' A' ⟨rfl, rfl, m, hmem, rfl⟩ _
 have hm : 0 ≤ m ∧ m ≤ 6 := by (simp only [List.mem_cons, List.not_mem_nil, or_false] at hmem); omega
 obtain ⟨m, rfl⟩ := Int.eq_ofNat_of_zero_le hm.1
 refine Va J J ?_;refine S_loop (α := Nat × Nat × Option Addr × Nat × List Stm × PH) (fun y => y.1 ≤ 6 ∧ y.2.1 + y.1 * kD 3 ≤ N + (1 + 6 * kD 3) ∧ PH.ext w.heap.size G y.2.2.2.2.2 ∧ Sts y.2.2.2.2.2 y.2.2.2.2.1 (.slice y.2.2.1 y.2.2.2.2.1.length y.2.2.2.1) ∧ Sh y.2.2.2.2.1 ∧ stmtsOk y.2.2.2.2.1 = true ∧ y.2.2.2.2.1.length + y.1 ≤ 6) (fun y => y.1) []
  (fun y => [(4, .val (.int .i64 (y.1 : Nat))), (3, .val (.slice y.2.2.1 y.2.2.2.2.1.length y.2.2.2.1)), (0, .val (.pointer (some ⟨b, 0, none⟩)))])
  (fun y => [.hp 1 (rdHP b (.slice A l.length c) y.2.1)]) (fun y => y.2.2.2.2.2) (m, N + 1, A0, 0, [], G') ⟨by simp only; omega, ?_, hext1.trans hxq, Sts_le hxq.le hout, Sh_nil, stmtsOk_nil, by simp only [List.length_nil]; omega⟩ rfl ?_ ?_ ?_
 ·have := Nat.mul_le_mul_right (kD 3) (show m ≤ 6 by omega)
  simp only
  omega
 ·exact ⟨⟨_, J, J⟩, ⟨_, J, J⟩, ⟨_, J, J⟩, trivial⟩
 ·exact .hp .nil
 rintro ⟨i, M, A1, c1, ls, G2⟩ ⟨hi, hM, hext, hst, hsh, hok, hlen⟩
 simp only at hi hM hext hst hsh hok hlen ⊢
 refine Va J J ?_
 refine S_condp J (fun h => ?_) (fun h => ?_) <;> refine Va J J ?_
 ·obtain ⟨j, rfl⟩ : ∃ j, i = j + 1 := ⟨i - 1, by omega⟩
  rw [Nat.succ_mul] at hM
  obtain ⟨A2, c2, xs, e, hxl, hxg, hcs⟩ := sts_cells hst
  cases e
  refine S_emptyO Tk 5 J J J J fun A3 => ?_;refine Va J J ?_;refine S_appO Tk 5 J J J J J J J J J J J (fun _ _ => J) (src_G hxl hxg) (Cs_one Stm.rep_one hcs) (by simp only; omega) (by simp only [maxLen]; omega) (Nat.le_refl _) fun A4 c4 => ?_;refine Va J J ?_;refine S_callM 1 Tryz.call81 ((c_l2Draws_all b l _ 3 (by omega)).1 M (-1) G2 (Byts_le hext.le hl) (by omega)) J J J J (fun _ => J) ?_;rintro v G3 A' ⟨rfl, s, cs, rfl, hrep, hss⟩ hext3
  have hone := Stm.rep_one s cs hrep
  obtain ⟨c0, c1', c2', c3', c4', c5', rfl⟩ := six (Stm.rep_len hrep)
  refine Va J J ?_;refine S_slice Tk ZT_ok J J J J (by decide) (by decide) J J J J fun b2 => ?_;refine Va J J ?_;refine S_app1 Tk 5 19 J J J J J J J J J J J J J J hone J (fun _ _ => J) (by omega) (Nat.le_refl _) fun A5 c5 => ?_;refine Va J J ?_;refine S_freezeR 5 J J (Nat.le_refl _) fun G4 hext4 hnc hcm hcl => ?_
  have hcs2 : Cs 6 (Stm.rep G4) (ls ++ [s]) ([] ++ xs ++ [c0, c1', c2', c3', c4', c5']) := Cs_append (Cs_mono (Stm.reps_le (hext3.trans hext4).le ls) (by simpa using hcs)) (Stm.rep_le hext4.le s _ hrep) rfl
  have hv : Sts G4 (ls ++ [s]) _ := frz hcs2 (by simp) (by omega) hnc hcm hcl
  have hsh2 : Sh (ls ++ [s]) := ⟨by simp; omega, shL_append.2 ⟨hsh.2, hss, trivial⟩⟩
  refine Va J J ?_;refine S_call Tryz.call44 (c_StmtsOk (ls ++ [s]) _ G4 hv) J J J ?_;rintro v G5 ⟨rfl, rfl⟩ _
  refine Va J J ?_
  have hxx := (hext.trans hext3).trans hext4
  refine S_cond J (fun h => ?_) (fun h => ?_) <;> refine Va J J ?_
  ·refine S_subI J J J J (by omega) ?_
   refine Va J J ?_;refine S_again (j, M + kD 3, A5, c5, ls ++ [s], G5) ⟨by simp only; omega, by simp only; omega, hxx, by simpa using hv, hsh2, h, by simp; omega⟩ (by simp only; omega) rfl ⟨⟨_, rfl, by simp [denO]⟩, ⟨_, rfl, by simp [denO]⟩, ⟨_, rfl, rfl⟩, trivial⟩ ?_;exact .drop (.hp .nil)
  ·refine S_subI J J J J (by omega) ?_
   refine Va J J ?_;refine S_again (j, M + kD 3, A1, c1, ls, G5) ⟨by simp only; omega, by simp only; omega, hxx, Sts_le (hext3.trans hext4).le hst, hsh, hok, by simp only; omega⟩ (by simp only; omega) rfl ⟨⟨_, rfl, by simp [denO]⟩, ⟨_, rfl, by simp [denO]⟩, ⟨_, rfl, rfl⟩, trivial⟩ ?_;exact .drop (.hp .nil)
 ·obtain rfl : i = 0 := by omega
  refine S_rdLe 1 (N + (1 + 6 * kD 3)) (by omega) J J ?_;exact S_retm 1 (Res.t1 Tryz.results63 J J) J hext ⟨J, ls, hst, hsh, hok⟩
def prgL (n : Nat) (xs : List Value) (G : PH) : Prop := ∃ p : List (List Stm), n = p.length ∧ 1 ≤ p.length ∧ p.length ≤ 3 ∧ Cs 1 (stsRep G) p xs ∧ ∀ l ∈ p, Sh l ∧ stmtsOk l = true
theorem stsRep_one {G : PH} (l : List Stm) (cs : List Value) (h : stsRep G l cs) : ∀ u ∈ cs, u.oneCell' = true := by
 obtain ⟨v, rfl, A, c, rfl, _⟩ := h
 intro u hu
 rw [List.mem_singleton.1 hu]; rfl
def kS : Nat := 1 + 6 * kD 3
theorem c_l2Prog (b : Nat) (l : List Int) (sv : Value) (N : Nat) (G : PH) (hl : Byts G l sv) (hN : N + (1 + 3 * kS) ≤ 1000000000) : DrwL 41 b sv [] N (1 + 3 * kS) G 36 1 prgL := by
 obtain ⟨A, c, rfl, hl1, _⟩ := id hl
 refine Mod.intro Tryz.func41 Tryz.ntmps41 J J fun w S => ?_;refine Va J J ?_;refine S_emptyO Tk 5 J J J J fun A0 => ?_;refine Va J J ?_;refine S_callM 1 Tryz.call22 (c_pick b l _ _ N G hl ⟨by omega, by omega⟩ (by omega)) J J J J (fun _ => J) ?_;rintro v G2 A' ⟨rfl, rfl, m, rfl, h0, h1⟩ _
 refine Va J J ?_;refine S_add J J J J (by omega) ?_;refine Va J J ?_;obtain ⟨m, rfl⟩ := Int.eq_ofNat_of_zero_le h0
 have hmm : m ≤ 2 := by omega
 refine S_loop (α := Nat × Nat × Option Addr × Nat × List Value × List (List Stm) × PH) (fun y => y.1 + y.2.2.2.2.2.1.length = m + 1 ∧ y.2.1 + y.1 * kS ≤ N + (1 + 3 * kS) ∧ PH.ext w.heap.size G2 y.2.2.2.2.2.2 ∧ Cs 1 (stsRep y.2.2.2.2.2.2) y.2.2.2.2.2.1 y.2.2.2.2.1 ∧ ∀ l ∈ y.2.2.2.2.2.1, Sh l ∧ stmtsOk l = true) (fun y => y.1) []
  (fun y => [(4, .val (.int .i64 (y.1 : Nat))), (3, .val (.slice y.2.2.1 y.2.2.2.2.2.1.length y.2.2.2.1)), (0, .val (.pointer (some ⟨b, 0, none⟩)))])
  (fun y => [.hp 5 (rowO w.heap.size 36 1 y.2.2.1 y.2.2.2.2.2.1.length y.2.2.2.1 y.2.2.2.2.1), .hp 1 (rdHP b (.slice A l.length c) y.2.1)]) (fun y => y.2.2.2.2.2.2) (m + 1, N + 1, A0, 0, [], [], G2) ⟨rfl, ?_, PH.ext.refl _ _, rfl, by simp⟩ rfl ?_ ?_ ?_
 ·have := Nat.mul_le_mul_right kS (show m + 1 ≤ 3 by omega)
  simp only
  omega
 ·exact ⟨⟨_, J, by simp [denO]; omega⟩, ⟨_, rfl, rfl⟩, ⟨_, rfl, rfl⟩, trivial⟩
 ·exact .hp (.hp .nil)
 rintro ⟨i, M, A1, c1, xs, ls, G1⟩ ⟨hi, hM, hext, hcs, hsh⟩
 simp only at hi hM hext hcs hsh ⊢
 refine Va J J ?_
 refine S_condp J (fun h => ?_) (fun h => ?_) <;> refine Va J J ?_
 ·obtain ⟨j, rfl⟩ : ∃ j, i = j + 1 := ⟨i - 1, by omega⟩
  rw [Nat.succ_mul] at hM
  refine S_callM 1 Tryz.call63 (c_l2Some b l _ M G1 (Byts_le hext.le hl) (by have hks : kS = 1 + 6 * kD 3 := J; omega)) rfl rfl rfl rfl (fun _ => rfl) ?_;rintro v G3 A' ⟨rfl, s, hst, hss, hok⟩ hext3
  obtain ⟨As, cS, rfl, _⟩ := id hst
  refine Va J J ?_;refine S_slice Tk ZT_ok J J J J (by decide) (by decide) J J J J fun b2 => ?_;refine Va J J ?_;refine S_app1 Tk 5 16 J J J J J J J J J J J J J J (by intro u hu; rw [List.mem_singleton.1 hu]; rfl) rfl (fun _ _ => rfl) (by omega) (Nat.le_refl _) fun A2 c2 => ?_;refine Va J J ?_;refine S_subI J J J J (by omega) ?_;refine Va J J ?_;refine S_again (j, M + kS, A2, c2, _, ls ++ [s], G3) ⟨by simp; omega, by simp only; omega, hext.trans hext3, Cs_append (Cs_mono (fun _ _ _ h => stsRep_le hext3.le h) hcs) ⟨_, rfl, hst⟩ rfl, ?_⟩ (by simp only; omega) rfl ⟨⟨_, rfl, by simp [denO]⟩, ⟨_, rfl, by simp [denO]⟩, ⟨_, rfl, rfl⟩, trivial⟩ ?_
  ·intro q hq
   rcases List.mem_append.1 hq with hq | hq
   ·exact hsh q hq
   ·rw [List.mem_singleton.1 hq]; exact ⟨hss, hok⟩
  simp only [List.length_append, List.length_singleton]
  exact .drop (.hp (.hp .nil))
 ·obtain rfl : i = 0 := by omega
  refine S_rdLe 1 (N + (1 + 3 * kS)) (by omega) J J ?_;refine S_pair 1 5 6 J J J J ?_;exact S_retm 6 (Res.t1 Tryz.results41 J J) J hext ⟨_, _, J, rd_covers _ _ _ _, J, _, _, _, _, _, J, J, ls, J, by omega, by omega, hcs, hsh⟩
end
end Go.Proofs.YtbecgghgcglafaaGreatDoor
