/- Walks of the program's functions, one after the other (part 9); without conditions of their own. -/
import Derived.Test.YtphbcboejmhaoaaGreatWM3
import Derived.Test.YtphbcboejmhaoaaGreatWM4
import Derived.Test.YtphbcboejmhaoaaGreatWM5
import Derived.Test.YtphbcboejmhaoaaGreatWM8
import Derived.Test.YtphbcboejmhaoaaGreatWM2
set_option linter.unusedVariables false
set_option linter.unusedSimpArgs false
set_option maxRecDepth 100000
set_option maxHeartbeats 4000000
open Go.RowKit
namespace Go.Proofs.YtphbcboejmhaoaaGreat
section
attribute [local irreducible] X Pure Mod
theorem updL_updL {α : Type} {f g : α → α} : ∀ (l : List α) (i : Nat), updL f i (updL g i l) = updL (fun x => f (g x)) i l
 | [], i => by cases i <;> rfl
 | x :: l, 0 => rfl
 | x :: l, i + 1 => by simp [updL, updL_updL l i]
theorem updL_congr {α : Type} {f g : α → α} : ∀ (l : List α) (i : Nat), (∀ x, l[i]? = some x → f x = g x) → updL f i l = updL g i l
 | [], i, _ => by cases i <;> rfl
 | x :: l, 0, h => by simp [updL, h x rfl]
 | x :: l, i + 1, h => by simp only [updL]; rw [updL_congr l i (fun y hy => h y (by simpa using hy))]
theorem updL_get {α : Type} {f : α → α} : ∀ (l : List α) (i : Nat), (updL f i l)[i]? = l[i]?.map f
 | [], i => by cases i <;> rfl
 | x :: l, 0 => rfl
 | x :: l, i + 1 => by simp [updL, updL_get l i]
theorem goes_eq {W : Wld} {who : Nat} {p : Prc} {s : Stm} {r : List Stm} (hp : W.procs[who]? = some p) (hm : p.mode ≠ 2) (ht : p.todo = s :: r) (hk : s.kind = 6 ∨ s.kind = 7) :
  W.upd who (fun p => { p with todo := goesL W who s ++ r }) = W.step who := by
 rw [step_eq hp hm ht]
 have hreg : ∀ k, (W.upd who pop).reg who k = W.reg who k := by
  intro k
  unfold Wld.reg
  rw [show (W.upd who pop).procs[who]? = W.procs[who]?.map pop from updL_get _ _, hp]
  rfl
 have key : ∀ (L : List Stm), L = goesL W who s → W.upd who (fun p => { p with todo := goesL W who s ++ r }) = (W.upd who pop).upd who (fun p => { p with todo := L ++ p.todo }) := by
  intro L hL
  subst hL
  show Wld.mk _ _ _ _ _ _ _ _ _ = Wld.mk _ _ _ _ _ _ _ _ _
  rw [Wld.mk.injEq]
  refine ⟨?_, J, J, J, J, J, J, J, J⟩
  show updL _ _ _ = updL _ _ (updL _ _ _)
  rw [updL_updL]
  refine updL_congr _ _ fun x hx => ?_
  rw [hp] at hx
  cases hx
  simp [pop, ht]
 rcases hk with hk | hk
 ·rw [show (W.upd who pop).stepS who s = (W.upd who pop).upd who (fun p => { p with todo := (if (W.upd who pop).reg who s.a = 0 then s.els else s.body) ++ p.todo }) by simp [Wld.stepS, hk]]
  exact key _ (by rw [hreg]; simp [goesL, hk])
 ·rw [show (W.upd who pop).stepS who s = (W.upd who pop).upd who (fun p => { p with todo := (if (W.upd who pop).reg who s.a = 0 then [] else s.body ++ [s]) ++ p.todo }) by simp [Wld.stepS, hk]]
  exact key _ (by rw [hreg]; simp [goesL, hk])
theorem em2 {p q r : Prop} (h : (p → q) ∧ (¬ p → r)) : (p ∧ q) ∨ (¬ p ∧ r) := by
 by_cases hp : p
 ·exact .inl ⟨hp, h.1 hp⟩
 ·exact .inr ⟨hp, h.2 hp⟩
theorem leaf_eq (W : Wld) (who : Nat) (s : Stm) (h6 : s.kind ≠ 6) (h7 : s.kind ≠ 7) (h8 : s.kind ≠ 8) (h9 : s.kind ≠ 9) (h10 : s.kind ≠ 10) (h12 : s.kind ≠ 12) : W.leaf who s = W.stepS who s := by
 simp [Wld.leaf, Wld.stepS, h6, h7, h8, h9, h10, h12]
theorem c_l3Step (W : Wld) (who : Nat) (cs : List Value) (ts : List Value) (G : PH) (hr : Rdy W) (ht : Tds G W.procs ts) (hw : who < W.procs.length) (hc : ∀ p, W.procs[who]? = some p → (p.mode = 2 → is2 p.room) ∧ (p.mode ≠ 2 → ∃ s r, p.todo = s :: r ∧ SOk s p.room)) :
  Mod Tryz.prog 37 [.agg cs.toArray, .int .i64 (who : Nat)] G (worldV cs W ts) (VPost (W.step who)) := by
 have hste : ∀ p s r, W.procs[who]? = some p → p.mode ≠ 2 → p.todo = s :: r → W.step who = (W.upd who pop).stepS who s := fun p s r h1 h2 h3 => step_eq h1 h2 h3
 have hgoe : ∀ p s r, W.procs[who]? = some p → p.mode ≠ 2 → p.todo = s :: r → (s.kind = 6 ∨ s.kind = 7) → W.upd who (fun p => { p with todo := goesL W who s ++ r }) = W.step who := fun p s r h1 h2 h3 h4 => goes_eq h1 h2 h3 h4
 refine Mod.intro Tryz.func37 Tryz.ntmps37 J J fun w S => ?_
 have h1 := hr.n1
 have h3 := hr.n3
 have hq0 := hr.q0
 have hq1 := hr.q1
 have hf0 := hr.f0
 have hf1 := hr.f1
 have hsd := hr.sd
 obtain ⟨ps, x0, x1, x2, m0, m1, q0, q1, sd⟩ := W
 rcases shape hr.n1 hr.n3 ht with ⟨⟨a0, a1, a2, td0, mo0, on0, ro0⟩, A0, k0, rfl, rfl, s0⟩ | ⟨⟨a0, a1, a2, td0, mo0, on0, ro0⟩, A0, k0, ⟨b0, b1, b2, td1, mo1, on1, ro1⟩, A1, k1, rfl, rfl, s0, s1⟩ | ⟨⟨a0, a1, a2, td0, mo0, on0, ro0⟩, A0, k0, ⟨b0, b1, b2, td1, mo1, on1, ro1⟩, A1, k1, ⟨d0, d1, d2, td2, mo2, on2, ro2⟩, A2, k2, rfl, rfl, s0, s1, s2⟩
 obtain rfl : who = 0 := by simpa using hw
 rotate_left
 rcases (by simp at hw; omega : who = 0 ∨ who = 1) with rfl | rfl
 rotate_left 2
 rcases (by simp at hw; omega : who = 0 ∨ who = 1 ∨ who = 2) with rfl | rfl | rfl
 all_goals
  have hc' := hc _ rfl
  simp only at hc'
  rcases em2 hc' with ⟨hm, hro⟩ | ⟨hm, s, r, htd, hs⟩
  ·subst hm
   refine OvV 1 0 J J J J fun bp bc br bs bg kp sp asd ksd aq0 kq0 aq1 kq1 kc spc kr spr ks sps kg spg hbg hmk hce => ?_; subst hce; (first | obtain ⟨g0, rfl⟩ := len1 hbg | obtain ⟨g0, g1, rfl⟩ := len2 hbg | obtain ⟨g0, g1, g2, rfl⟩ := len3 hbg); clear hbg; refine NM J J ?_; dsimp only [wEnts, wCels, procCs, regEs, WX.of, vi]
   refine Va J J ?_;refine S_box J J J J J fun b2 => ?_;refine Va J J ?_;refine AZ ZT_ok J J J J fun b4 => ?_;refine Va J J ?_;refine AZ ZT_ok J J J J fun b5 => ?_;refine Va J J ?_
   rcases hro with rfl | rfl <;>
   ·refine RT J J ?_
    refine Va J J ?_;refine S_add J J J J (by omega) ?_;refine Va J J ?_
    first | (exact RK (wKeys 1) (Res.c1 Tk Tryz.results37 J J) ⟨_, [_], J, J, ht⟩ (Wvp [_] kg spg J ‹_› J J J J J J J J J) J (Wsub 5 J J J J J J J J J J J J J J J J (Bs 3 J J J J .nil)) XR) | (exact RK (wKeys 2) (Res.c1 Tk Tryz.results37 J J) ⟨_, [_,_], J, J, ht⟩ (Wvp [_, _] kg spg J ‹_› J J J J J J J J J) J (Wsub 10 J J J J J J J J J J J J J J J J (Bs 3 J J J J (Bs 3 J J J J .nil))) XR) | (exact RK (wKeys 3) (Res.c1 Tk Tryz.results37 J J) ⟨_, [_,_,_], J, J, ht⟩ (Wvp [_, _, _] kg spg J ‹_› J J J J J J J J J) J (Wsub 15 J J J J J J J J J J J J J J J J (Bs 3 J J J J (Bs 3 J J J J (Bs 3 J J J J .nil)))) XR)
  ·subst htd
   have hst := hste _ s r rfl hm rfl
   have hgo := fun hk => hgoe _ s r rfl hm rfl hk
   first | (obtain ⟨ad, vx, vy, rfl, hcs, hx, hy, i1, i2, i3, i4⟩ := Sts_head s0) | (obtain ⟨ad, vx, vy, rfl, hcs, hx, hy, i1, i2, i3, i4⟩ := Sts_head s1) | (obtain ⟨ad, vx, vy, rfl, hcs, hx, hy, i1, i2, i3, i4⟩ := Sts_head s2)
   obtain ⟨kk, a, bb, n, x, y⟩ := s
   simp only [Stm.kind, Stm.a, Stm.b, Stm.n, Stm.body, Stm.els] at hcs hx hy i1 i2 i3 i4
   have hrl : r.length ≤ 1000000 := by
    have := hr.tl _ (List.getElem_mem hw)
    simp at this
    omega
   first | (have htail := Sts_tail s0) | (have htail := Sts_tail s1) | (have htail := Sts_tail s2)
   obtain ⟨Ax, cx, rfl, _⟩ := id hx
   obtain ⟨Ay, cy, rfl, _⟩ := id hy
   obtain ⟨xs, hxs, hcx⟩ := Sr_Sx (fun s cs h => Stm.rep_len h) htail
   obtain ⟨_, _, heq, hn1, hnc1, hcm1, hlen1, hrow1⟩ := hxs
   cases heq
   refine OvV 1 0 J J J J fun bp bc br bs bg kp sp asd ksd aq0 kq0 aq1 kq1 kc spc kr spr ks sps kg spg hbg hmk hce => ?_; subst hce; (first | obtain ⟨g0, rfl⟩ := len1 hbg | obtain ⟨g0, g1, rfl⟩ := len2 hbg | obtain ⟨g0, g1, g2, rfl⟩ := len3 hbg); clear hbg; refine NM J J ?_; dsimp only [wEnts, wCels, procCs, regEs, WX.of, vi]
   refine Va J J ?_;refine S_box J J J J J fun b2 => ?_;refine Va J J ?_;refine AZ ZT_ok J J J J fun b4 => ?_;refine Va J J ?_;refine AZ ZT_ok J J J J fun b5 => ?_;refine Va J J ?_;refine RF J (by simp [hm]) ?_;refine Va J J ?_
   refine S_index Tk J J J J J J (by omega) (by simp <;> omega) ?_
   refine S_loadA Tk J J J J J (by simpa [add_zero'] using hcs) ?_;refine Va J J ?_;refine AZ ZT_ok J J J J fun b6 => ?_;refine Va J J ?_;refine S_emptyO Tk 33 J J J J fun A33 => ?_;refine Va J J ?_;refine S_valV J J J (V_slice1 Tk J J J) ?_;refine Va J J ?_;refine S_appO Tk 33 J J J J J J J J J J J (fun _ _ => J) (src_G hlen1 hrow1) (Cs_one Stm.rep_one hcx) (by simp only; omega) (by simp only [maxLen]; omega) (Nat.le_refl _) fun A1' c1' => ?_
   rw [Nat.zero_add r.length]
   refine Va J J ?_;refine S_freezeR 33 J J (Nat.le_refl _) fun G1 hext1 hnc' hcm' hcl => ?_
   have hle1 := hext1.le
   have hr1 : Sts G1 r (.slice A1' r.length c1') := Sx_Sr (Sx_le (newp_le _ _) ⟨A1', c1', rfl, hn1, by simpa using hnc', hcm', hlen1, by simpa using hcl⟩) rfl (Cs_mono (Stm.reps_le hle1 r) hcx)
   refine Va J J ?_
   by_cases e6 : kk = 6
   ·subst e6
    refine RT J J ?_;refine Va J J ?_;refine RT J J ?_;refine Va J J ?_
    first | (refine S_callPk 9 (wKeys 1) Tryz.call65 (c_l3Goes ⟨_, _, _, _, _, _, _, _, _⟩ 0 _ _ G1 h1 h3 (Tds_le hle1 ht) hw 6 a bb n x y r _ _ _ (Sts_le hle1 hx) (Sts_le hle1 hy) hr1 ⟨i1, i2, i3, i4⟩ (hs.r6 (by simp [Stm.kind])).2.1 (hs.r6 (by simp [Stm.kind])).2.2 hrl (hs.r6 (by simp [Stm.kind])).1 (by simp)) (Wvp [_] kg spg J ‹_› J J J J J J J J J) J (Wsub 5 J J J J J J J J J J J J J J J J (Bs 3 J J J J .nil)) J J J ?_) | (refine S_callPk 9 (wKeys 2) Tryz.call65 (c_l3Goes ⟨_, _, _, _, _, _, _, _, _⟩ 0 _ _ G1 h1 h3 (Tds_le hle1 ht) hw 6 a bb n x y r _ _ _ (Sts_le hle1 hx) (Sts_le hle1 hy) hr1 ⟨i1, i2, i3, i4⟩ (hs.r6 (by simp [Stm.kind])).2.1 (hs.r6 (by simp [Stm.kind])).2.2 hrl (hs.r6 (by simp [Stm.kind])).1 (by simp)) (Wvp [_, _] kg spg J ‹_› J J J J J J J J J) J (Wsub 10 J J J J J J J J J J J J J J J J (Bs 3 J J J J (Bs 3 J J J J .nil))) J J J ?_) | (refine S_callPk 9 (wKeys 2) Tryz.call65 (c_l3Goes ⟨_, _, _, _, _, _, _, _, _⟩ 1 _ _ G1 h1 h3 (Tds_le hle1 ht) hw 6 a bb n x y r _ _ _ (Sts_le hle1 hx) (Sts_le hle1 hy) hr1 ⟨i1, i2, i3, i4⟩ (hs.r6 (by simp [Stm.kind])).2.1 (hs.r6 (by simp [Stm.kind])).2.2 hrl (hs.r6 (by simp [Stm.kind])).1 (by simp)) (Wvp [_, _] kg spg J ‹_› J J J J J J J J J) J (Wsub 10 J J J J J J J J J J J J J J J J (Bs 3 J J J J (Bs 3 J J J J .nil))) J J J ?_) | (refine S_callPk 9 (wKeys 3) Tryz.call65 (c_l3Goes ⟨_, _, _, _, _, _, _, _, _⟩ 0 _ _ G1 h1 h3 (Tds_le hle1 ht) hw 6 a bb n x y r _ _ _ (Sts_le hle1 hx) (Sts_le hle1 hy) hr1 ⟨i1, i2, i3, i4⟩ (hs.r6 (by simp [Stm.kind])).2.1 (hs.r6 (by simp [Stm.kind])).2.2 hrl (hs.r6 (by simp [Stm.kind])).1 (by simp)) (Wvp [_, _, _] kg spg J ‹_› J J J J J J J J J) J (Wsub 15 J J J J J J J J J J J J J J J J (Bs 3 J J J J (Bs 3 J J J J (Bs 3 J J J J .nil)))) J J J ?_) | (refine S_callPk 9 (wKeys 3) Tryz.call65 (c_l3Goes ⟨_, _, _, _, _, _, _, _, _⟩ 1 _ _ G1 h1 h3 (Tds_le hle1 ht) hw 6 a bb n x y r _ _ _ (Sts_le hle1 hx) (Sts_le hle1 hy) hr1 ⟨i1, i2, i3, i4⟩ (hs.r6 (by simp [Stm.kind])).2.1 (hs.r6 (by simp [Stm.kind])).2.2 hrl (hs.r6 (by simp [Stm.kind])).1 (by simp)) (Wvp [_, _, _] kg spg J ‹_› J J J J J J J J J) J (Wsub 15 J J J J J J J J J J J J J J J J (Bs 3 J J J J (Bs 3 J J J J (Bs 3 J J J J .nil)))) J J J ?_) | (refine S_callPk 9 (wKeys 3) Tryz.call65 (c_l3Goes ⟨_, _, _, _, _, _, _, _, _⟩ 2 _ _ G1 h1 h3 (Tds_le hle1 ht) hw 6 a bb n x y r _ _ _ (Sts_le hle1 hx) (Sts_le hle1 hy) hr1 ⟨i1, i2, i3, i4⟩ (hs.r6 (by simp [Stm.kind])).2.1 (hs.r6 (by simp [Stm.kind])).2.2 hrl (hs.r6 (by simp [Stm.kind])).1 (by simp)) (Wvp [_, _, _] kg spg J ‹_› J J J J J J J J J) J (Wsub 15 J J J J J J J J J J J J J J J J (Bs 3 J J J J (Bs 3 J J J J (Bs 3 J J J J .nil)))) J J J ?_)
    rintro v G2 A' ⟨cs', ts', rfl, rfl, ht'⟩ hext
    refine S_csV 9 J ?_;rintro bp bc br bs kp asd ksd kc kr ks rfl
    refine Va J J ?_;exact S_retm 9 (Res.c1 Tk Tryz.results37 J J) J (hext1.trans hext) ⟨_, _, J, by rw [← hgo (by simp [Stm.kind])], by rw [← hgo (by simp [Stm.kind])]; exact ht'⟩
   by_cases e7 : kk = 7
   ·subst e7
    refine RF J J ?_;refine Va J J ?_;refine RT J J ?_;refine Va J J ?_
    first | (refine S_callPk 9 (wKeys 1) Tryz.call65 (c_l3Goes ⟨_, _, _, _, _, _, _, _, _⟩ 0 _ _ G1 h1 h3 (Tds_le hle1 ht) hw 7 a bb n x y r _ _ _ (Sts_le hle1 hx) (Sts_le hle1 hy) hr1 ⟨i1, i2, i3, i4⟩ (hs.r6 (by simp [Stm.kind])).2.1 (hs.r6 (by simp [Stm.kind])).2.2 hrl (hs.r6 (by simp [Stm.kind])).1 (by simp)) (Wvp [_] kg spg J ‹_› J J J J J J J J J) J (Wsub 5 J J J J J J J J J J J J J J J J (Bs 3 J J J J .nil)) J J J ?_) | (refine S_callPk 9 (wKeys 2) Tryz.call65 (c_l3Goes ⟨_, _, _, _, _, _, _, _, _⟩ 0 _ _ G1 h1 h3 (Tds_le hle1 ht) hw 7 a bb n x y r _ _ _ (Sts_le hle1 hx) (Sts_le hle1 hy) hr1 ⟨i1, i2, i3, i4⟩ (hs.r6 (by simp [Stm.kind])).2.1 (hs.r6 (by simp [Stm.kind])).2.2 hrl (hs.r6 (by simp [Stm.kind])).1 (by simp)) (Wvp [_, _] kg spg J ‹_› J J J J J J J J J) J (Wsub 10 J J J J J J J J J J J J J J J J (Bs 3 J J J J (Bs 3 J J J J .nil))) J J J ?_) | (refine S_callPk 9 (wKeys 2) Tryz.call65 (c_l3Goes ⟨_, _, _, _, _, _, _, _, _⟩ 1 _ _ G1 h1 h3 (Tds_le hle1 ht) hw 7 a bb n x y r _ _ _ (Sts_le hle1 hx) (Sts_le hle1 hy) hr1 ⟨i1, i2, i3, i4⟩ (hs.r6 (by simp [Stm.kind])).2.1 (hs.r6 (by simp [Stm.kind])).2.2 hrl (hs.r6 (by simp [Stm.kind])).1 (by simp)) (Wvp [_, _] kg spg J ‹_› J J J J J J J J J) J (Wsub 10 J J J J J J J J J J J J J J J J (Bs 3 J J J J (Bs 3 J J J J .nil))) J J J ?_) | (refine S_callPk 9 (wKeys 3) Tryz.call65 (c_l3Goes ⟨_, _, _, _, _, _, _, _, _⟩ 0 _ _ G1 h1 h3 (Tds_le hle1 ht) hw 7 a bb n x y r _ _ _ (Sts_le hle1 hx) (Sts_le hle1 hy) hr1 ⟨i1, i2, i3, i4⟩ (hs.r6 (by simp [Stm.kind])).2.1 (hs.r6 (by simp [Stm.kind])).2.2 hrl (hs.r6 (by simp [Stm.kind])).1 (by simp)) (Wvp [_, _, _] kg spg J ‹_› J J J J J J J J J) J (Wsub 15 J J J J J J J J J J J J J J J J (Bs 3 J J J J (Bs 3 J J J J (Bs 3 J J J J .nil)))) J J J ?_) | (refine S_callPk 9 (wKeys 3) Tryz.call65 (c_l3Goes ⟨_, _, _, _, _, _, _, _, _⟩ 1 _ _ G1 h1 h3 (Tds_le hle1 ht) hw 7 a bb n x y r _ _ _ (Sts_le hle1 hx) (Sts_le hle1 hy) hr1 ⟨i1, i2, i3, i4⟩ (hs.r6 (by simp [Stm.kind])).2.1 (hs.r6 (by simp [Stm.kind])).2.2 hrl (hs.r6 (by simp [Stm.kind])).1 (by simp)) (Wvp [_, _, _] kg spg J ‹_› J J J J J J J J J) J (Wsub 15 J J J J J J J J J J J J J J J J (Bs 3 J J J J (Bs 3 J J J J (Bs 3 J J J J .nil)))) J J J ?_) | (refine S_callPk 9 (wKeys 3) Tryz.call65 (c_l3Goes ⟨_, _, _, _, _, _, _, _, _⟩ 2 _ _ G1 h1 h3 (Tds_le hle1 ht) hw 7 a bb n x y r _ _ _ (Sts_le hle1 hx) (Sts_le hle1 hy) hr1 ⟨i1, i2, i3, i4⟩ (hs.r6 (by simp [Stm.kind])).2.1 (hs.r6 (by simp [Stm.kind])).2.2 hrl (hs.r6 (by simp [Stm.kind])).1 (by simp)) (Wvp [_, _, _] kg spg J ‹_› J J J J J J J J J) J (Wsub 15 J J J J J J J J J J J J J J J J (Bs 3 J J J J (Bs 3 J J J J (Bs 3 J J J J .nil)))) J J J ?_)
    rintro v G2 A' ⟨cs', ts', rfl, rfl, ht'⟩ hext
    refine S_csV 9 J ?_;rintro bp bc br bs kp asd ksd kc kr ks rfl
    refine Va J J ?_;exact S_retm 9 (Res.c1 Tk Tryz.results37 J J) J (hext1.trans hext) ⟨_, _, J, by rw [← hgo (by simp [Stm.kind])], by rw [← hgo (by simp [Stm.kind])]; exact ht'⟩
   by_cases e8 : kk = 8
   ·subst e8
    refine RF J J ?_;refine Va J J ?_;refine RF J J ?_;refine Va J J ?_;refine RT J J ?_;refine Va J J ?_;refine RT J J ?_;refine Va J J ?_
    first | (refine S_callPk 9 (wKeys 1) Tryz.call66 (c_l3Room ⟨_, _, _, _, _, _, _, _, _⟩ 0 _ _ G1 h1 h3 (Tds_le hle1 ht) hw hq0 hq1 hf0 hf1 8 a bb n x y r _ _ _ _ _ (Sts_le hle1 hx) hr1 hrl (by simp) (fun h => hs.r8 h) (fun h => hs.r9 h) (fun h => hs.r10 h)) (Wvp [_] kg spg J ‹_› J J J J J J J J J) J (Wsub 5 J J J J J J J J J J J J J J J J (Bs 3 J J J J .nil)) J J J ?_) | (refine S_callPk 9 (wKeys 2) Tryz.call66 (c_l3Room ⟨_, _, _, _, _, _, _, _, _⟩ 0 _ _ G1 h1 h3 (Tds_le hle1 ht) hw hq0 hq1 hf0 hf1 8 a bb n x y r _ _ _ _ _ (Sts_le hle1 hx) hr1 hrl (by simp) (fun h => hs.r8 h) (fun h => hs.r9 h) (fun h => hs.r10 h)) (Wvp [_, _] kg spg J ‹_› J J J J J J J J J) J (Wsub 10 J J J J J J J J J J J J J J J J (Bs 3 J J J J (Bs 3 J J J J .nil))) J J J ?_) | (refine S_callPk 9 (wKeys 2) Tryz.call66 (c_l3Room ⟨_, _, _, _, _, _, _, _, _⟩ 1 _ _ G1 h1 h3 (Tds_le hle1 ht) hw hq0 hq1 hf0 hf1 8 a bb n x y r _ _ _ _ _ (Sts_le hle1 hx) hr1 hrl (by simp) (fun h => hs.r8 h) (fun h => hs.r9 h) (fun h => hs.r10 h)) (Wvp [_, _] kg spg J ‹_› J J J J J J J J J) J (Wsub 10 J J J J J J J J J J J J J J J J (Bs 3 J J J J (Bs 3 J J J J .nil))) J J J ?_) | (refine S_callPk 9 (wKeys 3) Tryz.call66 (c_l3Room ⟨_, _, _, _, _, _, _, _, _⟩ 0 _ _ G1 h1 h3 (Tds_le hle1 ht) hw hq0 hq1 hf0 hf1 8 a bb n x y r _ _ _ _ _ (Sts_le hle1 hx) hr1 hrl (by simp) (fun h => hs.r8 h) (fun h => hs.r9 h) (fun h => hs.r10 h)) (Wvp [_, _, _] kg spg J ‹_› J J J J J J J J J) J (Wsub 15 J J J J J J J J J J J J J J J J (Bs 3 J J J J (Bs 3 J J J J (Bs 3 J J J J .nil)))) J J J ?_) | (refine S_callPk 9 (wKeys 3) Tryz.call66 (c_l3Room ⟨_, _, _, _, _, _, _, _, _⟩ 1 _ _ G1 h1 h3 (Tds_le hle1 ht) hw hq0 hq1 hf0 hf1 8 a bb n x y r _ _ _ _ _ (Sts_le hle1 hx) hr1 hrl (by simp) (fun h => hs.r8 h) (fun h => hs.r9 h) (fun h => hs.r10 h)) (Wvp [_, _, _] kg spg J ‹_› J J J J J J J J J) J (Wsub 15 J J J J J J J J J J J J J J J J (Bs 3 J J J J (Bs 3 J J J J (Bs 3 J J J J .nil)))) J J J ?_) | (refine S_callPk 9 (wKeys 3) Tryz.call66 (c_l3Room ⟨_, _, _, _, _, _, _, _, _⟩ 2 _ _ G1 h1 h3 (Tds_le hle1 ht) hw hq0 hq1 hf0 hf1 8 a bb n x y r _ _ _ _ _ (Sts_le hle1 hx) hr1 hrl (by simp) (fun h => hs.r8 h) (fun h => hs.r9 h) (fun h => hs.r10 h)) (Wvp [_, _, _] kg spg J ‹_› J J J J J J J J J) J (Wsub 15 J J J J J J J J J J J J J J J J (Bs 3 J J J J (Bs 3 J J J J (Bs 3 J J J J .nil)))) J J J ?_)
    rintro v G2 A' ⟨cs', ts', rfl, rfl, ht'⟩ hext
    refine S_csV 9 J ?_;rintro bp bc br bs kp asd ksd kc kr ks rfl
    refine Va J J ?_;exact S_retm 9 (Res.c1 Tk Tryz.results37 J J) J (hext1.trans hext) ⟨_, _, J, by rw [hst]; rfl, by rw [hst]; exact ht'⟩
   by_cases e12 : kk = 12
   ·subst e12
    refine RF J J ?_;refine Va J J ?_;refine RF J J ?_;refine Va J J ?_;refine RF J J ?_;refine Va J J ?_;refine RT J J ?_;refine Va J J ?_;refine RT J J ?_;refine Va J J ?_
    first | (refine S_callPk 9 (wKeys 1) Tryz.call66 (c_l3Room ⟨_, _, _, _, _, _, _, _, _⟩ 0 _ _ G1 h1 h3 (Tds_le hle1 ht) hw hq0 hq1 hf0 hf1 12 a bb n x y r _ _ _ _ _ (Sts_le hle1 hx) hr1 hrl (by simp) (fun h => hs.r8 h) (fun h => hs.r9 h) (fun h => hs.r10 h)) (Wvp [_] kg spg J ‹_› J J J J J J J J J) J (Wsub 5 J J J J J J J J J J J J J J J J (Bs 3 J J J J .nil)) J J J ?_) | (refine S_callPk 9 (wKeys 2) Tryz.call66 (c_l3Room ⟨_, _, _, _, _, _, _, _, _⟩ 0 _ _ G1 h1 h3 (Tds_le hle1 ht) hw hq0 hq1 hf0 hf1 12 a bb n x y r _ _ _ _ _ (Sts_le hle1 hx) hr1 hrl (by simp) (fun h => hs.r8 h) (fun h => hs.r9 h) (fun h => hs.r10 h)) (Wvp [_, _] kg spg J ‹_› J J J J J J J J J) J (Wsub 10 J J J J J J J J J J J J J J J J (Bs 3 J J J J (Bs 3 J J J J .nil))) J J J ?_) | (refine S_callPk 9 (wKeys 2) Tryz.call66 (c_l3Room ⟨_, _, _, _, _, _, _, _, _⟩ 1 _ _ G1 h1 h3 (Tds_le hle1 ht) hw hq0 hq1 hf0 hf1 12 a bb n x y r _ _ _ _ _ (Sts_le hle1 hx) hr1 hrl (by simp) (fun h => hs.r8 h) (fun h => hs.r9 h) (fun h => hs.r10 h)) (Wvp [_, _] kg spg J ‹_› J J J J J J J J J) J (Wsub 10 J J J J J J J J J J J J J J J J (Bs 3 J J J J (Bs 3 J J J J .nil))) J J J ?_) | (refine S_callPk 9 (wKeys 3) Tryz.call66 (c_l3Room ⟨_, _, _, _, _, _, _, _, _⟩ 0 _ _ G1 h1 h3 (Tds_le hle1 ht) hw hq0 hq1 hf0 hf1 12 a bb n x y r _ _ _ _ _ (Sts_le hle1 hx) hr1 hrl (by simp) (fun h => hs.r8 h) (fun h => hs.r9 h) (fun h => hs.r10 h)) (Wvp [_, _, _] kg spg J ‹_› J J J J J J J J J) J (Wsub 15 J J J J J J J J J J J J J J J J (Bs 3 J J J J (Bs 3 J J J J (Bs 3 J J J J .nil)))) J J J ?_) | (refine S_callPk 9 (wKeys 3) Tryz.call66 (c_l3Room ⟨_, _, _, _, _, _, _, _, _⟩ 1 _ _ G1 h1 h3 (Tds_le hle1 ht) hw hq0 hq1 hf0 hf1 12 a bb n x y r _ _ _ _ _ (Sts_le hle1 hx) hr1 hrl (by simp) (fun h => hs.r8 h) (fun h => hs.r9 h) (fun h => hs.r10 h)) (Wvp [_, _, _] kg spg J ‹_› J J J J J J J J J) J (Wsub 15 J J J J J J J J J J J J J J J J (Bs 3 J J J J (Bs 3 J J J J (Bs 3 J J J J .nil)))) J J J ?_) | (refine S_callPk 9 (wKeys 3) Tryz.call66 (c_l3Room ⟨_, _, _, _, _, _, _, _, _⟩ 2 _ _ G1 h1 h3 (Tds_le hle1 ht) hw hq0 hq1 hf0 hf1 12 a bb n x y r _ _ _ _ _ (Sts_le hle1 hx) hr1 hrl (by simp) (fun h => hs.r8 h) (fun h => hs.r9 h) (fun h => hs.r10 h)) (Wvp [_, _, _] kg spg J ‹_› J J J J J J J J J) J (Wsub 15 J J J J J J J J J J J J J J J J (Bs 3 J J J J (Bs 3 J J J J (Bs 3 J J J J .nil)))) J J J ?_)
    rintro v G2 A' ⟨cs', ts', rfl, rfl, ht'⟩ hext
    refine S_csV 9 J ?_;rintro bp bc br bs kp asd ksd kc kr ks rfl
    refine Va J J ?_;exact S_retm 9 (Res.c1 Tk Tryz.results37 J J) J (hext1.trans hext) ⟨_, _, J, by rw [hst]; rfl, by rw [hst]; exact ht'⟩
   by_cases e9 : kk = 9
   ·subst e9
    refine RF J J ?_;refine Va J J ?_;refine RF J J ?_;refine Va J J ?_;refine RF J J ?_;refine Va J J ?_;refine RF J J ?_;refine Va J J ?_;refine RT J J ?_;refine Va J J ?_;refine RT J J ?_;refine Va J J ?_
    first | (refine S_callPk 9 (wKeys 1) Tryz.call66 (c_l3Room ⟨_, _, _, _, _, _, _, _, _⟩ 0 _ _ G1 h1 h3 (Tds_le hle1 ht) hw hq0 hq1 hf0 hf1 9 a bb n x y r _ _ _ _ _ (Sts_le hle1 hx) hr1 hrl (by simp) (fun h => hs.r8 h) (fun h => hs.r9 h) (fun h => hs.r10 h)) (Wvp [_] kg spg J ‹_› J J J J J J J J J) J (Wsub 5 J J J J J J J J J J J J J J J J (Bs 3 J J J J .nil)) J J J ?_) | (refine S_callPk 9 (wKeys 2) Tryz.call66 (c_l3Room ⟨_, _, _, _, _, _, _, _, _⟩ 0 _ _ G1 h1 h3 (Tds_le hle1 ht) hw hq0 hq1 hf0 hf1 9 a bb n x y r _ _ _ _ _ (Sts_le hle1 hx) hr1 hrl (by simp) (fun h => hs.r8 h) (fun h => hs.r9 h) (fun h => hs.r10 h)) (Wvp [_, _] kg spg J ‹_› J J J J J J J J J) J (Wsub 10 J J J J J J J J J J J J J J J J (Bs 3 J J J J (Bs 3 J J J J .nil))) J J J ?_) | (refine S_callPk 9 (wKeys 2) Tryz.call66 (c_l3Room ⟨_, _, _, _, _, _, _, _, _⟩ 1 _ _ G1 h1 h3 (Tds_le hle1 ht) hw hq0 hq1 hf0 hf1 9 a bb n x y r _ _ _ _ _ (Sts_le hle1 hx) hr1 hrl (by simp) (fun h => hs.r8 h) (fun h => hs.r9 h) (fun h => hs.r10 h)) (Wvp [_, _] kg spg J ‹_› J J J J J J J J J) J (Wsub 10 J J J J J J J J J J J J J J J J (Bs 3 J J J J (Bs 3 J J J J .nil))) J J J ?_) | (refine S_callPk 9 (wKeys 3) Tryz.call66 (c_l3Room ⟨_, _, _, _, _, _, _, _, _⟩ 0 _ _ G1 h1 h3 (Tds_le hle1 ht) hw hq0 hq1 hf0 hf1 9 a bb n x y r _ _ _ _ _ (Sts_le hle1 hx) hr1 hrl (by simp) (fun h => hs.r8 h) (fun h => hs.r9 h) (fun h => hs.r10 h)) (Wvp [_, _, _] kg spg J ‹_› J J J J J J J J J) J (Wsub 15 J J J J J J J J J J J J J J J J (Bs 3 J J J J (Bs 3 J J J J (Bs 3 J J J J .nil)))) J J J ?_) | (refine S_callPk 9 (wKeys 3) Tryz.call66 (c_l3Room ⟨_, _, _, _, _, _, _, _, _⟩ 1 _ _ G1 h1 h3 (Tds_le hle1 ht) hw hq0 hq1 hf0 hf1 9 a bb n x y r _ _ _ _ _ (Sts_le hle1 hx) hr1 hrl (by simp) (fun h => hs.r8 h) (fun h => hs.r9 h) (fun h => hs.r10 h)) (Wvp [_, _, _] kg spg J ‹_› J J J J J J J J J) J (Wsub 15 J J J J J J J J J J J J J J J J (Bs 3 J J J J (Bs 3 J J J J (Bs 3 J J J J .nil)))) J J J ?_) | (refine S_callPk 9 (wKeys 3) Tryz.call66 (c_l3Room ⟨_, _, _, _, _, _, _, _, _⟩ 2 _ _ G1 h1 h3 (Tds_le hle1 ht) hw hq0 hq1 hf0 hf1 9 a bb n x y r _ _ _ _ _ (Sts_le hle1 hx) hr1 hrl (by simp) (fun h => hs.r8 h) (fun h => hs.r9 h) (fun h => hs.r10 h)) (Wvp [_, _, _] kg spg J ‹_› J J J J J J J J J) J (Wsub 15 J J J J J J J J J J J J J J J J (Bs 3 J J J J (Bs 3 J J J J (Bs 3 J J J J .nil)))) J J J ?_)
    rintro v G2 A' ⟨cs', ts', rfl, rfl, ht'⟩ hext
    refine S_csV 9 J ?_;rintro bp bc br bs kp asd ksd kc kr ks rfl
    refine Va J J ?_;exact S_retm 9 (Res.c1 Tk Tryz.results37 J J) J (hext1.trans hext) ⟨_, _, J, by rw [hst]; rfl, by rw [hst]; exact ht'⟩
   by_cases e10 : kk = 10
   ·subst e10
    refine RF J J ?_;refine Va J J ?_;refine RF J J ?_;refine Va J J ?_;refine RF J J ?_;refine Va J J ?_;refine RF J J ?_;refine Va J J ?_;refine RF J J ?_;refine Va J J ?_;refine RT J J ?_;refine Va J J ?_
    first | (refine S_callPk 9 (wKeys 1) Tryz.call66 (c_l3Room ⟨_, _, _, _, _, _, _, _, _⟩ 0 _ _ G1 h1 h3 (Tds_le hle1 ht) hw hq0 hq1 hf0 hf1 10 a bb n x y r _ _ _ _ _ (Sts_le hle1 hx) hr1 hrl (by simp) (fun h => hs.r8 h) (fun h => hs.r9 h) (fun h => hs.r10 h)) (Wvp [_] kg spg J ‹_› J J J J J J J J J) J (Wsub 5 J J J J J J J J J J J J J J J J (Bs 3 J J J J .nil)) J J J ?_) | (refine S_callPk 9 (wKeys 2) Tryz.call66 (c_l3Room ⟨_, _, _, _, _, _, _, _, _⟩ 0 _ _ G1 h1 h3 (Tds_le hle1 ht) hw hq0 hq1 hf0 hf1 10 a bb n x y r _ _ _ _ _ (Sts_le hle1 hx) hr1 hrl (by simp) (fun h => hs.r8 h) (fun h => hs.r9 h) (fun h => hs.r10 h)) (Wvp [_, _] kg spg J ‹_› J J J J J J J J J) J (Wsub 10 J J J J J J J J J J J J J J J J (Bs 3 J J J J (Bs 3 J J J J .nil))) J J J ?_) | (refine S_callPk 9 (wKeys 2) Tryz.call66 (c_l3Room ⟨_, _, _, _, _, _, _, _, _⟩ 1 _ _ G1 h1 h3 (Tds_le hle1 ht) hw hq0 hq1 hf0 hf1 10 a bb n x y r _ _ _ _ _ (Sts_le hle1 hx) hr1 hrl (by simp) (fun h => hs.r8 h) (fun h => hs.r9 h) (fun h => hs.r10 h)) (Wvp [_, _] kg spg J ‹_› J J J J J J J J J) J (Wsub 10 J J J J J J J J J J J J J J J J (Bs 3 J J J J (Bs 3 J J J J .nil))) J J J ?_) | (refine S_callPk 9 (wKeys 3) Tryz.call66 (c_l3Room ⟨_, _, _, _, _, _, _, _, _⟩ 0 _ _ G1 h1 h3 (Tds_le hle1 ht) hw hq0 hq1 hf0 hf1 10 a bb n x y r _ _ _ _ _ (Sts_le hle1 hx) hr1 hrl (by simp) (fun h => hs.r8 h) (fun h => hs.r9 h) (fun h => hs.r10 h)) (Wvp [_, _, _] kg spg J ‹_› J J J J J J J J J) J (Wsub 15 J J J J J J J J J J J J J J J J (Bs 3 J J J J (Bs 3 J J J J (Bs 3 J J J J .nil)))) J J J ?_) | (refine S_callPk 9 (wKeys 3) Tryz.call66 (c_l3Room ⟨_, _, _, _, _, _, _, _, _⟩ 1 _ _ G1 h1 h3 (Tds_le hle1 ht) hw hq0 hq1 hf0 hf1 10 a bb n x y r _ _ _ _ _ (Sts_le hle1 hx) hr1 hrl (by simp) (fun h => hs.r8 h) (fun h => hs.r9 h) (fun h => hs.r10 h)) (Wvp [_, _, _] kg spg J ‹_› J J J J J J J J J) J (Wsub 15 J J J J J J J J J J J J J J J J (Bs 3 J J J J (Bs 3 J J J J (Bs 3 J J J J .nil)))) J J J ?_) | (refine S_callPk 9 (wKeys 3) Tryz.call66 (c_l3Room ⟨_, _, _, _, _, _, _, _, _⟩ 2 _ _ G1 h1 h3 (Tds_le hle1 ht) hw hq0 hq1 hf0 hf1 10 a bb n x y r _ _ _ _ _ (Sts_le hle1 hx) hr1 hrl (by simp) (fun h => hs.r8 h) (fun h => hs.r9 h) (fun h => hs.r10 h)) (Wvp [_, _, _] kg spg J ‹_› J J J J J J J J J) J (Wsub 15 J J J J J J J J J J J J J J J J (Bs 3 J J J J (Bs 3 J J J J (Bs 3 J J J J .nil)))) J J J ?_)
    rintro v G2 A' ⟨cs', ts', rfl, rfl, ht'⟩ hext
    refine S_csV 9 J ?_;rintro bp bc br bs kp asd ksd kc kr ks rfl
    refine Va J J ?_;exact S_retm 9 (Res.c1 Tk Tryz.results37 J J) J (hext1.trans hext) ⟨_, _, J, by rw [hst]; rfl, by rw [hst]; exact ht'⟩
   refine RF J (by simp [e6]) ?_;refine Va J J ?_;refine RF J (by simp [e7]) ?_;refine Va J J ?_;refine RF J (by simp [e8]) ?_;refine Va J J ?_;refine RF J (by simp [e12]) ?_;refine Va J J ?_;refine RF J (by simp [e9]) ?_;refine Va J J ?_;refine RF J (by simp [e10]) ?_;refine Va J J ?_
   first | (refine S_callPk 9 (wKeys 1) Tryz.call67 (c_l3Leaf (Wld.upd ⟨_, _, _, _, _, _, _, _, _⟩ 0 (fun p => { p with todo := r })) 0 _ _ G1 (by rw [upd_len]; exact h1) (by rw [upd_len]; exact h3) (Tds_upd hle1 (fun p => { p with todo := r }) hw ht hr1) (by rw [upd_len]; exact hw) hsd kk a bb n x y _ _ _ _ _ _ (fun h => hs.r1 h) (fun h => hs.r2 h)) (Wvp [_] kg spg J ‹_› J J J J J J J J J) J (Wsub 5 J J J J J J J J J J J J J J J J (Bs 3 J J J J .nil)) J J J ?_) | (refine S_callPk 9 (wKeys 2) Tryz.call67 (c_l3Leaf (Wld.upd ⟨_, _, _, _, _, _, _, _, _⟩ 0 (fun p => { p with todo := r })) 0 _ _ G1 (by rw [upd_len]; exact h1) (by rw [upd_len]; exact h3) (Tds_upd hle1 (fun p => { p with todo := r }) hw ht hr1) (by rw [upd_len]; exact hw) hsd kk a bb n x y _ _ _ _ _ _ (fun h => hs.r1 h) (fun h => hs.r2 h)) (Wvp [_, _] kg spg J ‹_› J J J J J J J J J) J (Wsub 10 J J J J J J J J J J J J J J J J (Bs 3 J J J J (Bs 3 J J J J .nil))) J J J ?_) | (refine S_callPk 9 (wKeys 2) Tryz.call67 (c_l3Leaf (Wld.upd ⟨_, _, _, _, _, _, _, _, _⟩ 1 (fun p => { p with todo := r })) 1 _ _ G1 (by rw [upd_len]; exact h1) (by rw [upd_len]; exact h3) (Tds_upd hle1 (fun p => { p with todo := r }) hw ht hr1) (by rw [upd_len]; exact hw) hsd kk a bb n x y _ _ _ _ _ _ (fun h => hs.r1 h) (fun h => hs.r2 h)) (Wvp [_, _] kg spg J ‹_› J J J J J J J J J) J (Wsub 10 J J J J J J J J J J J J J J J J (Bs 3 J J J J (Bs 3 J J J J .nil))) J J J ?_) | (refine S_callPk 9 (wKeys 3) Tryz.call67 (c_l3Leaf (Wld.upd ⟨_, _, _, _, _, _, _, _, _⟩ 0 (fun p => { p with todo := r })) 0 _ _ G1 (by rw [upd_len]; exact h1) (by rw [upd_len]; exact h3) (Tds_upd hle1 (fun p => { p with todo := r }) hw ht hr1) (by rw [upd_len]; exact hw) hsd kk a bb n x y _ _ _ _ _ _ (fun h => hs.r1 h) (fun h => hs.r2 h)) (Wvp [_, _, _] kg spg J ‹_› J J J J J J J J J) J (Wsub 15 J J J J J J J J J J J J J J J J (Bs 3 J J J J (Bs 3 J J J J (Bs 3 J J J J .nil)))) J J J ?_) | (refine S_callPk 9 (wKeys 3) Tryz.call67 (c_l3Leaf (Wld.upd ⟨_, _, _, _, _, _, _, _, _⟩ 1 (fun p => { p with todo := r })) 1 _ _ G1 (by rw [upd_len]; exact h1) (by rw [upd_len]; exact h3) (Tds_upd hle1 (fun p => { p with todo := r }) hw ht hr1) (by rw [upd_len]; exact hw) hsd kk a bb n x y _ _ _ _ _ _ (fun h => hs.r1 h) (fun h => hs.r2 h)) (Wvp [_, _, _] kg spg J ‹_› J J J J J J J J J) J (Wsub 15 J J J J J J J J J J J J J J J J (Bs 3 J J J J (Bs 3 J J J J (Bs 3 J J J J .nil)))) J J J ?_) | (refine S_callPk 9 (wKeys 3) Tryz.call67 (c_l3Leaf (Wld.upd ⟨_, _, _, _, _, _, _, _, _⟩ 2 (fun p => { p with todo := r })) 2 _ _ G1 (by rw [upd_len]; exact h1) (by rw [upd_len]; exact h3) (Tds_upd hle1 (fun p => { p with todo := r }) hw ht hr1) (by rw [upd_len]; exact hw) hsd kk a bb n x y _ _ _ _ _ _ (fun h => hs.r1 h) (fun h => hs.r2 h)) (Wvp [_, _, _] kg spg J ‹_› J J J J J J J J J) J (Wsub 15 J J J J J J J J J J J J J J J J (Bs 3 J J J J (Bs 3 J J J J (Bs 3 J J J J .nil)))) J J J ?_)
   rintro v G2 A' ⟨cs', ts', rfl, rfl, ht'⟩ hext
   refine S_csV 9 J ?_;rintro bp bc br bs kp asd ksd kc kr ks rfl
   refine Va J J ?_
   have hlf : ∀ (V : Wld) (z : Nat), V.leaf z (.mk kk a bb n x y) = V.stepS z (.mk kk a bb n x y) := fun V z => leaf_eq V z _ e6 e7 e8 e9 e10 e12
   exact S_retm 9 (Res.c1 Tk Tryz.results37 J J) J (hext1.trans hext) ⟨_, ts', J, by rw [hst, ← hlf]; rfl, by rw [hst, ← hlf]; exact ht'⟩
end
section
attribute [local irreducible] X Pure Mod
def fstP (p : Prc) : Int := if p.mode = 2 then 0 else match p.todo with
 | [] => 0
 | s :: _ => s.kind
def fstK (W : Wld) (who : Nat) : Int := match W.procs[who]? with
 | some p => fstP p
 | none => 0
end
section
attribute [local irreducible] X Pure Mod
mutual
/-- how long what is left to do can get -/
def mxS : Stm → Nat
 | .mk _ _ _ _ x y => 1 + max (mx x) (mx y)
def mx : List Stm → Nat
 | [] => 0
 | s :: r => max (mxS s + r.length) (mx r)
end
theorem mxS_eq (s : Stm) : mxS s = 1 + max (mx s.body) (mx s.els) := by cases s; simp [mxS, Stm.body, Stm.els]
theorem mxS_pos (s : Stm) : 1 ≤ mxS s := by rw [mxS_eq]; omega
theorem len_mx (L : List Stm) : L.length ≤ mx L := by
 induction L with
 | nil => simp
 | cons s r ih => have := mxS_pos s; simp only [List.length_cons, mx]; omega
theorem mx_append (L r : List Stm) {k : Nat} (h1 : mx L + r.length ≤ k) (h2 : mx r ≤ k) : mx (L ++ r) ≤ k := by
 induction L with
 | nil => simpa using h2
 | cons s L ih =>
  simp only [mx, List.cons_append, List.length_append] at h1 ⊢
  have := ih (by omega)
  omega
inductive TOk : Int → List Stm → Prop
 | nil : TOk (-1) []
 | leave {a : Int} {r : List Stm} : is2 a → TOk (-1) r → TOk a (leaveS a :: r)
 | stm {s : Stm} {d room : Int} {r : List Stm} : stmtOk s d room = true → TOk room r → TOk room (s :: r)
theorem TOk.app {L : List Stm} {d room : Int} {r : List Stm} (h : listOk L d room = true) (hr : TOk room r) : TOk room (L ++ r) := by
 induction L with
 | nil => exact hr
 | cons s L ih =>
  simp only [listOk, Bool.and_eq_true] at h
  exact .stm h.1 (ih h.2)
structure POk (p : Prc) : Prop where
 td : TOk p.room p.todo
 mx : mx p.todo ≤ 1000
 md : p.mode = 0 ∨ p.mode = 1 ∨ p.mode = 2
 rm : p.mode ≠ 0 → is2 p.room
 ro : p.room = -1 ∨ is2 p.room
structure Inv (W : Wld) (B : Nat) : Prop where
 n1 : 1 ≤ W.procs.length
 n3 : W.procs.length ≤ 3
 pr : ∀ p ∈ W.procs, POk p
 m0 : 0 ≤ W.m0
 m1 : 0 ≤ W.m1
 sd : W.said.length ≤ B
 ql : W.q0.length + W.q1.length ≤ B
 qf : ∀ f ∈ W.q0 ++ W.q1, 0 ≤ f ∧ ∃ p, W.procs[f.toNat]? = some p ∧ p.mode = 1
 nd : (W.q0 ++ W.q1).Nodup
theorem sok_of {s : Stm} {d room : Int} (h : stmtOk s d room = true) (hm : mxS s ≤ 1000) (hr : room = -1 ∨ is2 room) : SOk s room := by
 have hb := len_mx s.body
 have he := len_mx s.els
 rw [mxS_eq] at hm
 obtain ⟨k, a, b, n, x, y⟩ := s
 simp only [Stm.body, Stm.els] at hb he hm
 simp only [stmtOk] at h
 split at h
 ·cases h
 refine ⟨?_, ?_, ?_, ?_, ?_, ?_⟩ <;> simp only [Stm.kind, Stm.a, Stm.b, Stm.body, Stm.els, is2, is3]
 ·rintro (rfl | rfl) <;> simp [leafOk] at h <;> omega
 ·rintro (rfl | rfl | rfl) <;> simp [leafOk] at h <;> omega
 ·rintro (rfl | rfl) <;> simp at h <;> omega
 ·rintro rfl; simp at h; omega
 ·rintro rfl
  simp [leafOk] at h
  rcases hr with rfl | hr
  ·omega
  ·exact ⟨by omega, hr⟩
 ·rintro (rfl | rfl) <;> simp [leafOk] at h <;> omega
end
section
attribute [local irreducible] X Pure Mod
theorem updL_ne {α : Type} {f : α → α} : ∀ (l : List α) (i j : Nat), i ≠ j → (updL f i l)[j]? = l[j]?
 | [], i, j, _ => by cases i <;> rfl
 | x :: l, 0, 0, h => absurd rfl h
 | x :: l, 0, j + 1, _ => by simp [updL]
 | x :: l, i + 1, 0, _ => by simp [updL]
 | x :: l, i + 1, j + 1, h => by simp only [updL, List.getElem?_cons_succ]; exact updL_ne l i j (by omega)
theorem mem_updL' {α : Type} {f : α → α} {y : α} : ∀ (l : List α) (i : Nat), y ∈ updL f i l → y ∈ l ∨ ∃ x, l[i]? = some x ∧ y = f x
 | [], i, h => by cases i <;> simp [updL] at h
 | x :: l, 0, h => by
  simp only [updL, List.mem_cons] at h
  rcases h with h | h
  ·exact .inr ⟨x, J, h⟩
  ·exact .inl (List.mem_cons_of_mem _ h)
 | x :: l, i + 1, h => by
  simp only [updL, List.mem_cons] at h
  rcases h with h | h
  ·exact .inl (by simp [h])
  ·rcases mem_updL' l i h with h | h
   ·exact .inl (List.mem_cons_of_mem _ h)
   ·exact .inr (by simpa using h)
theorem leave_sok {a : Int} (h : is2 a) : SOk (leaveS a) a := by
 refine ⟨?_, ?_, ?_, ?_, ?_, ?_⟩ <;> simp [leaveS, Stm.kind, Stm.a, h]
theorem Inv.sok {W : Wld} {B : Nat} (h : Inv W B) {p : Prc} (hp : p ∈ W.procs) {s : Stm} {r : List Stm} (ht : p.todo = s :: r) : SOk s p.room := by
 have q := h.pr p hp
 have htd := q.td
 have hmx := q.mx
 rw [ht] at htd hmx
 simp only [mx] at hmx
 have hro := q.ro
 generalize p.room = ro at *
 cases htd with
 | leave ha hr => exact leave_sok ha
 | stm hs hr => exact sok_of hs (by omega) hro
theorem Inv.head {W : Wld} {B : Nat} (h : Inv W B) : ∀ p ∈ W.procs, HeadOk p := fun p hp =>
 ⟨fun hm => (h.pr p hp).rm (by omega), fun s r ht hk => ((h.sok hp ht).r8 hk).1⟩
theorem Inv.rdy {W : Wld} {B : Nat} (h : Inv W B) (hB : B ≤ 1000000) : Rdy W where
 n1 := h.n1
 n3 := h.n3
 sd := Nat.le_trans h.sd hB
 q0 := by have := h.ql; omega
 q1 := by have := h.ql; omega
 f0 := fun f hf => by
  obtain ⟨h0, p, hp, _⟩ := h.qf f (List.mem_append_left _ hf)
  have := (List.getElem?_eq_some_iff.1 hp).1
  omega
 f1 := fun f hf => by
  obtain ⟨h0, p, hp, _⟩ := h.qf f (List.mem_append_right _ hf)
  have := (List.getElem?_eq_some_iff.1 hp).1
  omega
 tl := fun p hp => by have := len_mx p.todo; have := (h.pr p hp).mx; omega
theorem code0 {W : Wld} {who : Nat} {p : Prc} (hp : W.procs[who]? = some p) (h : codeOf W (who : Nat) = 0) : p.mode ≠ 1 ∧ (p.mode ≠ 2 → p.todo ≠ []) := by
 have hl := (List.getElem?_eq_some_iff.1 hp).1
 unfold codeOf at h
 rw [if_neg (by omega)] at h
 simp only [Int.toNat_natCast, hp, codeP] at h
 refine ⟨fun hm => by simp [hm] at h, fun hm ht => ?_⟩
 simp [hm, ht] at h
 split at h <;> simp at h
theorem Inv.go {W : Wld} {B : Nat} (h : Inv W B) {who : Nat} (hc : codeOf W (who : Nat) = 0) : ∀ p, W.procs[who]? = some p → (p.mode = 2 → is2 p.room) ∧ (p.mode ≠ 2 → ∃ s r, p.todo = s :: r ∧ SOk s p.room) := by
 intro p hp
 have hm : p ∈ W.procs := List.mem_of_getElem? hp
 refine ⟨fun h2 => (h.pr p hm).rm (by omega), fun h2 => ?_⟩
 have ht := (code0 hp hc).2 h2
 rcases hT : p.todo with _ | ⟨s, r⟩
 ·exact absurd hT ht
 ·exact ⟨s, r, J, h.sok hm hT⟩
end
section
attribute [local irreducible] X Pure Mod
theorem Inv.mono {W : Wld} {B B' : Nat} (h : Inv W B) (hB : B ≤ B') : Inv W B' :=
 ⟨h.n1, h.n3, h.pr, h.m0, h.m1, Nat.le_trans h.sd hB, Nat.le_trans h.ql hB, h.qf, h.nd⟩
theorem Inv.upd {W : Wld} {B who : Nat} {f : Prc → Prc} {p : Prc} (h : Inv W B) (hp : W.procs[who]? = some p) (hm : p.mode ≠ 1) (hf : POk (f p)) : Inv (W.upd who f) B := by
 refine ⟨by rw [upd_len]; exact h.n1, by rw [upd_len]; exact h.n3, fun q hq => ?_, h.m0, h.m1, h.sd, h.ql, fun g hg => ?_, h.nd⟩
 ·rcases mem_updL' _ _ hq with hq | ⟨x, hx, rfl⟩
  ·exact h.pr q hq
  ·rw [hp] at hx; cases hx; exact hf
 ·obtain ⟨h0, q, hq, hqm⟩ := h.qf g hg
  refine ⟨h0, q, ?_, hqm⟩
  show (updL f who W.procs)[g.toNat]? = some q
  rw [updL_ne _ _ _ (by rintro rfl; rw [hp] at hq; cases hq; exact hm hqm)]
  exact hq
theorem Inv.setRm {W : Wld} {B : Nat} (h : Inv W B) (a v : Int) (hv : 0 ≤ v) : Inv (W.setRm a v) B := by
 unfold Wld.setRm
 split
 ·exact ⟨h.n1, h.n3, h.pr, hv, h.m1, h.sd, h.ql, h.qf, h.nd⟩
 ·exact ⟨h.n1, h.n3, h.pr, h.m0, hv, h.sd, h.ql, h.qf, h.nd⟩
theorem Inv.setCell {W : Wld} {B : Nat} (h : Inv W B) (a v : Int) : Inv (W.setCell a v) B := by
 unfold Wld.setCell
 split
 ·exact ⟨h.n1, h.n3, h.pr, h.m0, h.m1, h.sd, h.ql, h.qf, h.nd⟩
 split
 ·exact ⟨h.n1, h.n3, h.pr, h.m0, h.m1, h.sd, h.ql, h.qf, h.nd⟩
 ·exact ⟨h.n1, h.n3, h.pr, h.m0, h.m1, h.sd, h.ql, h.qf, h.nd⟩
theorem Inv.say {W : Wld} {B : Nat} (h : Inv W B) (v : Int × Int) : Inv { W with said := W.said ++ [v] } (B + 1) :=
 ⟨h.n1, h.n3, h.pr, h.m0, h.m1, by have := h.sd; simp only [List.length_append, List.length_singleton]; omega, Nat.le_succ_of_le h.ql, h.qf, h.nd⟩
theorem Inv.wait {W : Wld} {B who : Nat} {p : Prc} (h : Inv W B) (hp : W.procs[who]? = some p) (hm : p.mode ≠ 1) (hr : is2 p.room) (a : Int) : Inv ((W.upd who (fun p => { p with mode := 1, on := a })).setQue a (W.que a ++ [(who : Int)])) (B + 1) := by
 have hpm : p ∈ W.procs := List.mem_of_getElem? hp
 have q := h.pr p hpm
 have hu : Inv (W.upd who (fun p => { p with mode := 1, on := a })) B := h.upd hp hm ⟨q.td, q.mx, .inr (.inl rfl), fun _ => hr, q.ro⟩
 have hnot : (who : Int) ∉ W.q0 ++ W.q1 := fun hw => by
  obtain ⟨_, q, hq, hqm⟩ := h.qf _ hw
  simp only [Int.toNat_natCast] at hq
  rw [hp] at hq; cases hq; exact hm hqm
 have hself : ∃ q, (updL (fun p : Prc => { p with mode := 1, on := a }) who W.procs)[((who : Int)).toNat]? = some q ∧ q.mode = 1 := by
  refine ⟨{ p with mode := 1, on := a }, ?_, J⟩
  rw [Int.toNat_natCast, updL_get, hp]; rfl
 have hql := h.ql
 have hnd := h.nd
 unfold Wld.setQue Wld.que
 split
 ·refine ⟨hu.n1, hu.n3, hu.pr, hu.m0, hu.m1, Nat.le_succ_of_le hu.sd, ?_, fun g hg => ?_, ?_⟩
  ·show (W.q0 ++ [(who : Int)]).length + W.q1.length ≤ _
   simp only [List.length_append, List.length_singleton]; omega
  ·have hg' : g ∈ W.q0 ++ W.q1 ∨ g = (who : Int) := by
    replace hg : g ∈ (W.q0 ++ [(who : Int)]) ++ W.q1 := hg
    simp only [List.mem_append, List.mem_singleton] at hg ⊢
    rcases hg with (hg | hg) | hg <;> simp [hg]
   rcases hg' with hg' | rfl
   ·exact hu.qf g hg'
   ·exact ⟨by omega, hself⟩
  ·show ((W.q0 ++ [(who : Int)]) ++ W.q1).Nodup
   simp only [List.mem_append, not_or] at hnot
   rw [List.nodup_append] at hnd ⊢
   rw [List.nodup_append]
   refine ⟨⟨hnd.1, by simp, fun x hx y hy => ?_⟩, hnd.2.1, fun x hx y hy => ?_⟩
   ·simp only [List.mem_singleton] at hy
    rintro rfl
    exact hnot.1 (hy ▸ hx)
   ·simp only [List.mem_append, List.mem_singleton] at hx
    rcases hx with hx | rfl
    ·exact hnd.2.2 x hx y hy
    ·rintro rfl
     exact hnot.2 hy
 ·refine ⟨hu.n1, hu.n3, hu.pr, hu.m0, hu.m1, Nat.le_succ_of_le hu.sd, ?_, fun g hg => ?_, ?_⟩
  ·show W.q0.length + (W.q1 ++ [(who : Int)]).length ≤ _
   simp only [List.length_append, List.length_singleton]; omega
  ·have hg' : g ∈ W.q0 ++ W.q1 ∨ g = (who : Int) := by
    replace hg : g ∈ W.q0 ++ (W.q1 ++ [(who : Int)]) := hg
    simp only [List.mem_append, List.mem_singleton] at hg ⊢
    rcases hg with hg | hg | hg <;> simp [hg]
   rcases hg' with hg' | rfl
   ·exact hu.qf g hg'
   ·exact ⟨by omega, hself⟩
  ·show (W.q0 ++ (W.q1 ++ [(who : Int)])).Nodup
   rw [← List.append_assoc, List.nodup_append]
   refine ⟨hnd, by simp, fun x hx y hy => ?_⟩
   simp only [List.mem_singleton] at hy
   rintro rfl
   exact hnot (hy ▸ hx)
end
section
attribute [local irreducible] X Pure Mod
theorem Inv.woken {W : Wld} {B : Nat} {f : Int} (h : Inv W B) {Q0 Q1 : List Int} (hf : f ∈ W.q0 ++ W.q1) (hnf : f ∉ Q0 ++ Q1) (hnd : (Q0 ++ Q1).Nodup) (hl : Q0.length + Q1.length ≤ B) (hsub : ∀ g ∈ Q0 ++ Q1, g ∈ W.q0 ++ W.q1) :
  Inv { W.upd f.toNat (fun p => { p with mode := 2, on := 0 }) with q0 := Q0, q1 := Q1 } B := by
 obtain ⟨h0, p, hp, hpm⟩ := h.qf f hf
 have q := h.pr p (List.mem_of_getElem? hp)
 refine ⟨by show 1 ≤ (updL _ _ _).length; rw [length_updL]; exact h.n1, by show (updL _ _ _).length ≤ 3; rw [length_updL]; exact h.n3, fun x hx => ?_, h.m0, h.m1, h.sd, hl, fun g hg => ?_, hnd⟩
 ·rcases mem_updL' _ _ hx with hx | ⟨y, hy, rfl⟩
  ·exact h.pr x hx
  ·rw [hp] at hy; cases hy
   exact ⟨q.td, q.mx, .inr (.inr J), fun _ => q.rm (by omega), q.ro⟩
 ·obtain ⟨g0, x, hx, hxm⟩ := h.qf g (hsub g hg)
  refine ⟨g0, x, ?_, hxm⟩
  show (updL _ _ W.procs)[g.toNat]? = some x
  have hgf : f.toNat ≠ g.toNat := fun e => hnf ((show g = f by omega) ▸ hg)
  rw [updL_ne _ _ _ hgf]
  exact hx
theorem Inv.signal {W : Wld} {B : Nat} (h : Inv W B) (a : Int) : Inv (W.signal a) B := by
 have hnd := h.nd
 have hql := h.ql
 unfold Wld.signal Wld.que
 by_cases ha : a = 0
 ·simp only [ha, if_true]
  rcases hq : W.q0 with _ | ⟨f, r⟩
  ·exact h
  ·rw [hq] at hnd hql
   simp only [List.cons_append, List.nodup_cons, List.length_cons] at hnd hql
   have := h.woken (f := f) (Q0 := r) (Q1 := W.q1) (by rw [hq]; simp) hnd.1 hnd.2 (by omega) (fun g hg => by rw [hq]; exact List.mem_cons_of_mem _ hg)
   show Inv ((W.upd f.toNat (fun p => { p with mode := 2, on := 0 })).setQue 0 r) B
   unfold Wld.setQue
   rw [if_pos rfl]
   exact this
 ·simp only [ha, if_false]
  rcases hq : W.q1 with _ | ⟨f, r⟩
  ·exact h
  ·rw [hq] at hnd hql
   simp only [List.length_cons] at hql
   have hnd2 := hnd
   rw [List.nodup_append] at hnd2
   have hcn := List.nodup_cons.1 hnd2.2.1
   have := h.woken (f := f) (Q0 := W.q0) (Q1 := r) (by rw [hq]; simp) (by
     simp only [List.mem_append, not_or]
     exact ⟨fun hx => hnd2.2.2 f hx f (by simp) J, hcn.1⟩) (by
     rw [List.nodup_append]
     exact ⟨hnd2.1, hcn.2, fun x hx y hy => hnd2.2.2 x hx y (List.mem_cons_of_mem _ hy)⟩) (by omega) (fun g hg => by
     rw [hq]
     simp only [List.mem_append, List.mem_cons] at hg ⊢
     rcases hg with hg | hg <;> simp [hg])
   show Inv ((W.upd f.toNat (fun p => { p with mode := 2, on := 0 })).setQue a r) B
   unfold Wld.setQue
   rw [if_neg ha]
   exact this
theorem upd_upd (W : Wld) (who : Nat) (f g : Prc → Prc) : (W.upd who g).upd who f = W.upd who (fun p => f (g p)) := by
 simp [Wld.upd, updL_updL]
theorem setRm_upd (W : Wld) (who : Nat) (f : Prc → Prc) (a v : Int) : (W.upd who f).setRm a v = (W.setRm a v).upd who f := by
 unfold Wld.setRm; split <;> rfl
theorem que_setRm (W : Wld) (a v b : Int) : (W.setRm a v).que b = W.que b := by
 unfold Wld.setRm; split <;> rfl
theorem POk.set {p : Prc} (h : POk p) (k v : Int) : POk (p.set k v) := by
 unfold Prc.set
 split
 ·exact ⟨h.td, h.mx, h.md, h.rm, h.ro⟩
 split
 ·exact ⟨h.td, h.mx, h.md, h.rm, h.ro⟩
 ·exact ⟨h.td, h.mx, h.md, h.rm, h.ro⟩
theorem Inv.step {W : Wld} {B who : Nat} (h : Inv W B) (hw : who < W.procs.length) (hc : codeOf W (who : Nat) = 0) : Inv (W.step who) (B + 1) := by
 obtain ⟨p, hp⟩ : ∃ p, W.procs[who]? = some p := ⟨W.procs[who], by simp [hw]⟩
 obtain ⟨hm1, hne⟩ := code0 hp hc
 have hpm : p ∈ W.procs := List.mem_of_getElem? hp
 have q := h.pr p hpm
 by_cases hm : p.mode = 2
 ·have e : W.step who = (W.setRm p.room ((who : Int) + 1)).upd who (fun p => { p with mode := 0 }) := by simp [Wld.step, hp, hm]
  rw [e]
  refine Inv.mono ((h.setRm _ _ (by omega)).upd (p := p) (by rw [setRm_procs]; exact hp) (by omega) ?_) (Nat.le_succ _)
  exact ⟨q.td, q.mx, .inl rfl, fun hx => absurd rfl hx, q.ro⟩
 rcases hT : p.todo with _ | ⟨s, r⟩
 ·exact absurd hT (hne hm)
 rw [step_eq hp hm hT]
 have hm0 : p.mode = 0 := by rcases q.md with h | h | h <;> simp_all
 have hsok := h.sok hpm hT
 have htd := q.td
 have hmx := q.mx
 rw [hT] at htd hmx
 simp only [Go.Proofs.YtphbcboejmhaoaaGreat.mx] at hmx
 have hro := q.ro
 have hpt : (pop p).todo = r := by simp [pop, hT]
 generalize hR : p.room = ro at htd hro
 cases htd with
 | leave ha hr =>
  have e : (W.upd who pop).stepS who (leaveS ro) = (W.setRm ro 0).upd who (fun p => { pop p with room := -1 }) := by
   rw [show (W.upd who pop).stepS who (leaveS ro) = ((W.upd who pop).setRm ro 0).upd who (fun p => { p with room := -1 }) by simp [Wld.stepS, leaveS, Stm.kind, Stm.a], setRm_upd, upd_upd]
  rw [e]
  refine Inv.mono ((h.setRm _ _ (by omega)).upd (p := p) (by rw [setRm_procs]; exact hp) hm1 ?_) (Nat.le_succ _)
  exact ⟨by show TOk (-1) (pop p).todo; rw [hpt]; exact hr, by show Go.Proofs.YtphbcboejmhaoaaGreat.mx (pop p).todo ≤ _; rw [hpt]; omega, .inl hm0, fun hx => absurd hm0 hx, .inl rfl⟩
 | stm hs hr =>
  rename_i d
  have hpop : POk (pop p) := ⟨by show TOk p.room (pop p).todo; rw [hpt, hR]; exact hr, by rw [hpt]; omega, .inl hm0, fun hx => absurd hm0 hx, q.ro⟩
  have hP := h.upd hp hm1 hpop
  have hPp : (W.upd who pop).procs[who]? = some (pop p) := by
   show (updL _ _ _)[who]? = _
   rw [updL_get, hp]; rfl
  obtain ⟨k, a, b, n, x, y⟩ := s
  simp only [mxS] at hmx
  have hs0 := hs
  simp only [stmtOk] at hs
  split at hs
  ·cases hs
  have pm1 : (pop p).mode ≠ 1 := hm1
  have pm0 : (pop p).mode = 0 := hm0
  have app : ∀ L : List Stm, ∀ d', listOk L d' ro = true → Go.Proofs.YtphbcboejmhaoaaGreat.mx L + r.length ≤ 1000 → POk { pop p with todo := L ++ (pop p).todo } := fun L d' h1 h2 =>
   ⟨by show TOk p.room (L ++ (pop p).todo); rw [hpt, hR]; exact hr.app h1, by show Go.Proofs.YtphbcboejmhaoaaGreat.mx (L ++ (pop p).todo) ≤ _; rw [hpt]; exact mx_append _ _ h2 (by omega), .inl hm0, fun hx => absurd hm0 hx, q.ro⟩
  unfold Wld.stepS
  have hkd : (Stm.mk k a b n x y).kind = k := rfl
  simp only [hkd]
  by_cases e1 : k = 1
  ·rw [if_pos e1]
   exact (hP.upd hPp pm1 (hpop.set _ _)).mono (Nat.le_succ _)
  rw [if_neg e1]
  by_cases e2 : k = 2
  ·rw [if_pos e2]
   exact (hP.upd hPp pm1 (hpop.set _ _)).mono (Nat.le_succ _)
  rw [if_neg e2]
  by_cases e3 : k = 3
  ·rw [if_pos e3]
   exact (hP.upd hPp pm1 (hpop.set _ _)).mono (Nat.le_succ _)
  rw [if_neg e3]
  by_cases e4 : k = 4
  ·rw [if_pos e4]
   exact (hP.setCell _ _).mono (Nat.le_succ _)
  rw [if_neg e4]
  by_cases e5 : k = 5
  ·rw [if_pos e5]
   exact hP.say _
  rw [if_neg e5]
  by_cases e6 : k = 6
  ·rw [if_pos e6]
   subst e6
   simp at hs
   refine (hP.upd hPp pm1 (app _ (d - 1) ?_ ?_)).mono (Nat.le_succ _)
   ·by_cases hz : (W.upd who pop).reg who (Stm.mk 6 a b n x y).a = 0
    ·rw [if_pos hz]; exact hs.2
    ·rw [if_neg hz]; exact hs.1.2
   ·by_cases hz : (W.upd who pop).reg who (Stm.mk 6 a b n x y).a = 0
    ·rw [if_pos hz]; simp only [Stm.els]; omega
    ·rw [if_neg hz]; simp only [Stm.body]; omega
  rw [if_neg e6]
  by_cases e7 : k = 7
  ·rw [if_pos e7]
   subst e7
   simp at hs
   refine (hP.upd hPp pm1 ?_).mono (Nat.le_succ _)
   by_cases hz : (W.upd who pop).reg who (Stm.mk 7 a b n x y).a = 0
   ·rw [if_pos hz]
    exact app [] 3 J (by simp only [Go.Proofs.YtphbcboejmhaoaaGreat.mx]; omega)
   ·rw [if_neg hz]
    refine ⟨?_, ?_, .inl hm0, fun hx => absurd hm0 hx, q.ro⟩
    ·show TOk p.room ((x ++ [.mk 7 a b n x y]) ++ (pop p).todo)
     rw [hpt, hR, List.append_assoc]
     exact TOk.app hs.1.2 (.stm hs0 hr)
    ·show Go.Proofs.YtphbcboejmhaoaaGreat.mx ((x ++ [.mk 7 a b n x y]) ++ (pop p).todo) ≤ 1000
     rw [hpt, List.append_assoc]
     refine mx_append _ _ (by simp only [List.length_append, List.length_singleton]; omega) ?_
     simp only [List.singleton_append, Go.Proofs.YtphbcboejmhaoaaGreat.mx, mxS]; omega
  rw [if_neg e7]
  by_cases e8 : k = 8
  ·rw [if_pos e8]
   subst e8
   simp at hs
   obtain ⟨⟨⟨⟨hro1, ha0⟩, hb⟩, hn⟩, hx⟩ := hs
   have hro2 : ro = -1 := by rcases hro with h | h | h <;> omega
   have ha2 : is2 a := by unfold is2; omega
   refine Inv.mono ((hP.setRm _ _ (by omega)).upd (p := pop p) (by rw [setRm_procs]; exact hPp) pm1 ?_) (Nat.le_succ _)
   refine ⟨?_, ?_, .inl hm0, fun hx => absurd hm0 hx, .inr ha2⟩
   ·show TOk a ((x ++ [leaveS a]) ++ (pop p).todo)
    rw [hpt, List.append_assoc]
    exact TOk.app hx (.leave ha2 (hro2 ▸ hr))
   ·show Go.Proofs.YtphbcboejmhaoaaGreat.mx ((x ++ [leaveS a]) ++ (pop p).todo) ≤ 1000
    rw [hpt, List.append_assoc]
    refine mx_append _ _ (by simp only [List.length_append, List.length_singleton]; omega) ?_
    simp only [List.singleton_append, Go.Proofs.YtphbcboejmhaoaaGreat.mx, mxS, leaveS]; omega
  rw [if_neg e8]
  by_cases e9 : k = 9
  ·rw [if_pos e9]
   subst e9
   simp [leafOk] at hs
   have hr2 : is2 ro := by
    rcases hro with h | h
    ·omega
    ·exact h
   have := (hP.setRm ((W.upd who pop).room who) 0 (by omega)).wait (p := pop p) (by rw [setRm_procs]; exact hPp) pm1 (by show is2 p.room; rw [hR]; exact hr2) a
   rw [que_setRm] at this
   exact this
  rw [if_neg e9]
  by_cases e10 : k = 10
  ·rw [if_pos e10]
   exact (hP.signal _).mono (Nat.le_succ _)
  rw [if_neg e10]
  by_cases e12 : k = 12
  ·subst e12
   simp [leafOk] at hs
  ·rw [if_neg e12]
   exact hP.mono (Nat.le_succ _)
end
section
attribute [local irreducible] X Pure Mod
theorem Wld.step_len (W : Wld) (who : Nat) : (W.step who).procs.length = W.procs.length := by
 have hs : ∀ (V : Wld) a v, (V.setRm a v).procs.length = V.procs.length := fun V a v => by rw [setRm_procs]
 have hq : ∀ (V : Wld) a v, (V.setQue a v).procs.length = V.procs.length := fun V a v => by rw [setQue_procs]
 have hc : ∀ (V : Wld) a v, (V.setCell a v).procs.length = V.procs.length := fun V a v => by rw [setCell_procs]
 have hu := upd_len
 unfold Wld.step
 rcases W.procs[who]? with _ | p
 ·rfl
 by_cases hm : p.mode = 2
 ·simp only [hm, if_true, hu, hs]
 ·simp only [hm, if_false]
  rcases p.todo with _ | ⟨s, r⟩
  ·rfl
  ·simp only [Wld.stepS]
   have hg : ∀ (V : Wld) a, (V.signal a).procs.length = V.procs.length := fun V a => by
    unfold Wld.signal
    split
    ·rfl
    ·rw [hq, hu]
   have ite : ∀ {c : Prop} [Decidable c] {A B : Wld} {n : Nat}, A.procs.length = n → B.procs.length = n → (if c then A else B).procs.length = n := by
    intro c _ A B n h1 h2
    by_cases h : c
    ·rw [if_pos h]; exact h1
    ·rw [if_neg h]; exact h2
   repeat' (first | refine ite ?_ ?_)
   all_goals (simp only [hu, hs, hq, hc, hg])
end
section
def intU (n : Int) (cs : List Value) : Prop := cs = [.int .i64 n]
abbrev IntsU (G : PH) (l : List Int) (v : Value) : Prop := Sr G 1 intU l v
theorem IntsU_le {G G' : PH} (hl : G.le G') {l : List Int} {v : Value} (h : IntsU G l v) : IntsU G' l v := Sr_mono hl (fun _ _ _ h => h) h
def sayU (x : Int × Int) (cs : List Value) : Prop := cs = [.int .i64 x.1, .int .i64 x.2]
abbrev SaysU (G : PH) (l : List (Int × Int)) (v : Value) : Prop := Sr G 2 sayU l v
def intsRep (G : PH) (l : List Int) (cs : List Value) : Prop := ∃ v, cs = [v] ∧ IntsU G l v
def prcRep (G : PH) (p : Prc) (cs : List Value) : Prop := ∃ vr vt, cs = [vr, vt, .int .i64 p.mode, .int .i64 p.on, .int .i64 p.room] ∧ IntsU G [p.r0, p.r1, p.r2] vr ∧ Sts G p.todo vt
theorem prcRep_le {G G' : PH} (hl : G.le G') {p : Prc} {cs : List Value} (h : prcRep G p cs) : prcRep G' p cs := let ⟨v, u, h1, h2, h3⟩ := h; ⟨v, u, h1, IntsU_le hl h2, Sts_le hl h3⟩
structure WGr (G : PH) (W : Wld) (vp vc vr vs vd : Value) : Prop where
 pr : Sr G 5 (prcRep G) W.procs vp
 ce : IntsU G [W.c0, W.c1, W.c2] vc
 ro : IntsU G [W.m0, W.m1] vr
 sg : Sr G 1 (intsRep G) [W.q0, W.q1] vs
 sd : SaysU G W.said vd
def WG (G : PH) (W : Wld) (v : Value) : Prop := ∃ vp vc vr vs vd, v = .agg #[vp, vc, vr, vs, vd] ∧ WGr G W vp vc vr vs vd
section
variable {C : Ctx} {k : List It} {E : Env} {ι : Ids} {L : List Ent} {G : PH}
theorem SatW.frz {a : Act} {w : World} (h : SatW C ι L G w) {κ : Nat} {A : HP} {L' : List Ent} (hL : getH κ L = some A) (hL' : delH κ L = some L') (hS0 : ∀ b, ¬ C.S0 b) :
  ∃ S G', A.holds w S ∧ (∀ b, S b → G' b = w.heap[b]?) ∧ PH.ext C.w0.heap.size G G' ∧ SatW C ι L' G' w := by
 obtain ⟨Ss, ho, hS⟩ := h.own
 obtain ⟨S, Ss', hA, hm, ho', hT⟩ := owns_del ho hL hL'
 have hlt := A.lt w S hA
 classical
 refine ⟨S, fun b => if S b then w.heap[b]? else G b, hA, fun b hb => by simp [hb], ⟨fun b o hb => ?_, fun b o hb hn => ?_⟩, ⟨h.os, h.tape, h.output, h.size, h.keep, fun b o hb => ?_, Ss', ho', fun T hT' b hb => ⟨?_, (hS T (hT T hT').1 b hb).2⟩⟩⟩
 ·have : ¬ S b := fun hs => by rw [(hS S hm b hs).1] at hb; cases hb
  simp [this, hb]
 ·by_cases hs : S b
  ·rcases (hS S hm b hs).2 with h1 | h1
   ·exact absurd h1 (hS0 b)
   ·exact h1
  ·simp only [hs, if_false] at hb
   rw [hn] at hb; cases hb
 ·by_cases hs : S b
  ·simpa [hs] using hb
  ·simp only [hs, if_false] at hb
   exact h.emb b o hb
 ·have : ¬ S b := fun hs => (hT T hT').2 b hb hs
  simp [this, (hS T (hT T hT').1 b hb).1]
end
theorem blk_frz {ι : Ids} {w : World} {key ty : Nat} {cs : List Cel} {T S : Nat → Prop} {G' : PH} (h : Ent.holds ι w (.blk key ty cs) T) (hT : ∀ x, T x → S x) (hG : ∀ b, S b → G' b = w.heap[b]?) : ∃ b vs, lookI key ι = some b ∧ denL ι cs = some vs ∧ gcells G' ⟨b, 0, none⟩ vs := by
 obtain ⟨b, vs, h1, h2, h3, h4⟩ := h
 refine ⟨b, vs, h1, h2, ?_⟩
 have hb : G' b = some (.cells vs.toArray ty (0, 0)) := by rw [hG b (hT b ((h4 b).2 rfl)), h3]
 refine gcells_row (cur := vs.toArray) (e := ty) (fr := (0, 0)) hb vs 0 ?_
 simp
theorem row_frz {w : World} {base e sz n c : Nat} {A : Option Addr} {xs : List Value} {T S : Nat → Prop} {G' : PH} (h : (rowO base e sz A n c xs).holds w T) (hT : ∀ x, T x → S x) (hG : ∀ b, S b → G' b = w.heap[b]?) : n ≤ c ∧ c ≤ maxLen ∧ xs.length = n * sz ∧ (n = 0 ∨ ∃ a, A = some a ∧ gcells G' a xs) := by
 obtain ⟨h1, h2, h3, h4⟩ := h
 refine ⟨h3, h2, h1, ?_⟩
 rcases h4 with ⟨_, h4, _⟩ | ⟨g, off, cur, rfl, _, h5, _, h6, h7⟩
 ·exact .inl (by omega)
 ·exact .inr ⟨_, J, gcells_row (cur := cur) (e := e) (fr := (0, 0)) (by rw [hG g (hT g ((h7 g).2 J)), h5]) xs off h6⟩
theorem gcells_pre {G : PH} {ad : Addr} {xs ys : List Value} (h : gcells G ad (xs ++ ys)) : gcells G ad xs := (gcells_append h).1
theorem Cs_intU (l : List Int) : Cs 1 intU l (intC l) := by
 induction l with
 | nil => rfl
 | cons n l ih => exact ⟨[.int .i64 n], intC l, rfl, rfl, rfl, ih⟩
theorem Cs_sayU (l : List (Int × Int)) : Cs 2 sayU l (saidC l) := by
 induction l with
 | nil => rfl
 | cons x l ih => exact ⟨[.int .i64 x.1, .int .i64 x.2], saidC l, rfl, rfl, rfl, ih⟩
theorem intsU_blk {G : PH} {b n c : Nat} {l : List Int} {sp : List Value} (h : gcells G ⟨b, 0, none⟩ (intC l ++ sp)) (hn : n = l.length) (hb : n ≤ 1000000000) (hnc : n ≤ c) (hcm : c ≤ maxLen) : IntsU G l (.slice (some ⟨b, 0, none⟩) n c) :=
 Sx_Sr ⟨some ⟨b, 0, none⟩, c, rfl, hb, hnc, hcm, by rw [intC_length, hn]; omega, .inr ⟨_, rfl, gcells_pre h⟩⟩ hn (Cs_intU l)
theorem denL_intC {ι : Ids} {l : List Int} {sp vs : List Value} {cs : List Cel} (h : denL ι cs = some vs) (hc : cs = l.map vi ++ vL sp) : vs = intC l ++ sp := by
 subst hc
 induction l generalizing vs with
 | nil => simp [denL_vL] at h; simpa [intC] using h.symm
 | cons n l ih =>
  obtain ⟨v, r, rfl, h1, h2⟩ := denL_cons h
  simp only [vi, denC, Option.some.injEq] at h1
  subst h1
  rw [ih h2]; rfl
theorem frz_procs {ι : Ids} {w : World} {S : Nat → Prop} {G' : PH} {kg : Nat → Nat} {spg : Nat → List Value} {sp : List Value} (hG : ∀ b, S b → G' b = w.heap[b]?) (hk : ∀ i, 3 ≤ kg i ∧ kg i ≤ maxLen) : ∀ {ps : List Prc} {ts : List Value} {i : Nat} {vs : List Value} {Ss : List (Nat → Prop)} {ad : Addr},
  owns ι w (regEs spg i ps) Ss → (∀ T ∈ Ss, ∀ x, T x → S x) → denL ι (procCs kg sp i ps ts) = some vs → Tds G' ps ts → gcells G' ad vs → Rw G' 5 (prcRep G') ps ad := by
 intro ps
 induction ps with
 | nil => intros; trivial
 | cons p ps ih =>
  intro ts i vs Ss ad ho hT hd ht hg
  cases ts with
  | nil => exact absurd ht id
  | cons t ts =>
   cases Ss with
   | nil => simp [regEs, owns] at ho
   | cons T Ss =>
    obtain ⟨h1, _, h3⟩ := ho
    obtain ⟨b, us, hb, hus, hgb⟩ := blk_frz h1 (hT T (List.mem_cons_self ..)) hG
    have hus' := denL_intC (l := [p.r0, p.r1, p.r2]) (sp := spg i) hus rfl
    simp only [procCs] at hd
    obtain ⟨v1, r1, rfl, e1, d1⟩ := denL_cons hd
    obtain ⟨v2, r2, rfl, e2, d2⟩ := denL_cons d1
    obtain ⟨v3, r3, rfl, e3, d3⟩ := denL_cons d2
    obtain ⟨v4, r4, rfl, e4, d4⟩ := denL_cons d3
    obtain ⟨v5, r5, rfl, e5, d5⟩ := denL_cons d4
    simp only [denC, hb, vi, Option.some.injEq] at e1 e2 e3 e4 e5
    subst e1 e2 e3 e4 e5 hus'
    have hg2 : gcells G' ad ([.slice (some ⟨b, 0, none⟩) 3 (kg i), t, .int .i64 p.mode, .int .i64 p.on, .int .i64 p.room] ++ r5) := hg
    obtain ⟨q1, q2⟩ := gcells_append hg2
    exact ⟨⟨_, q1, _, _, rfl, intsU_blk hgb rfl (by simp) (hk i).1 (hk i).2, ht.1⟩, ih h3 (fun T hT' => hT T (List.mem_cons_of_mem _ hT')) d5 ht.2 q2⟩
theorem worldV_frz {cs ts : List Value} {W : Wld} {w : World} {S : Nat → Prop} {G G' : PH} (h : (worldV cs W ts).holds w S) (hG : ∀ b, S b → G' b = w.heap[b]?) (hle : G.le G') (ht : Tds G W.procs ts) (hn : W.procs.length ≤ 3) (hl : W.said.length ≤ 1000000000 ∧ W.q0.length ≤ 1000000000 ∧ W.q1.length ≤ 1000000000) : WG G' W (.agg cs.toArray) := by
 obtain ⟨ι, L, Ss, ⟨bp, bc, br, bs, bg, m, x, hbg, hm, hx, rfl, rfl, hcs⟩, ho, hSS⟩ := h
 obtain ⟨⟨k1, k2⟩, ⟨k3, k4⟩, ⟨k5, k6⟩, ⟨k7, k8⟩, k9⟩ := hm
 rw [WX.ok_eq hx] at ho hcs
 have hTS : ∀ T ∈ Ss, ∀ x, T x → S x := fun T hT x hx => (hSS x).2 ⟨T, hT, hx⟩
 match Ss, ho, hTS with
 | T1 :: T2 :: T3 :: T4 :: T5 :: T6 :: T7 :: Tr, ⟨h1, _, h2, _, h3, _, h4, _, h5, _, h6, _, h7, _, h8⟩, hTS =>
  obtain ⟨b1, vs1, e1, d1, g1⟩ := blk_frz h1 (hTS T1 (by simp)) hG
  obtain ⟨b2, vs2, e2, d2, g2⟩ := blk_frz h2 (hTS T2 (by simp)) hG
  obtain ⟨b3, vs3, e3, d3, g3⟩ := blk_frz h3 (hTS T3 (by simp)) hG
  obtain ⟨b4, vs4, e4, d4, g4⟩ := blk_frz h4 (hTS T4 (by simp)) hG
  obtain ⟨n5, c5, l5, g5⟩ := row_frz h5 (hTS T5 (by simp)) hG
  obtain ⟨n6, c6, l6, g6⟩ := row_frz h6 (hTS T6 (by simp)) hG
  obtain ⟨n7, c7, l7, g7⟩ := row_frz h7 (hTS T7 (by simp)) hG
  simp only [wIds, lookI, if_true, Option.some.injEq] at e1 e2 e3 e4
  simp at e1 e2 e3 e4
  subst e1 e2 e3 e4
  have d2' := denL_intC (l := [W.c0, W.c1, W.c2]) (sp := m.spc) d2 rfl
  have d3' := denL_intC (l := [W.m0, W.m1]) (sp := m.spr) d3 rfl
  subst d2' d3'
  have hcs' : cs = [.slice (some ⟨bp, 0, none⟩) W.procs.length m.kp, .slice (some ⟨bc, 0, none⟩) 3 m.kc, .slice (some ⟨br, 0, none⟩) 2 m.kr, .slice (some ⟨bs, 0, none⟩) 2 m.ks, .slice m.asd W.said.length m.ksd] := by
   have : denL (wIds bp bc br bs bg) (wCels W m (WX.of W)) = some [.slice (some ⟨bp, 0, none⟩) W.procs.length m.kp, .slice (some ⟨bc, 0, none⟩) 3 m.kc, .slice (some ⟨br, 0, none⟩) 2 m.kr, .slice (some ⟨bs, 0, none⟩) 2 m.ks, .slice m.asd W.said.length m.ksd] := rfl
   rw [hcs] at this
   exact Option.some.inj this
  subst hcs'
  refine ⟨_, _, _, _, _, J, ?_, intsU_blk g2 J (by simp) k3 k4, intsU_blk g3 J (by simp) k5 k6, ?_, ?_⟩
  ·refine ⟨_, _, J, by omega, k1, k2, .inr ⟨_, J, ?_⟩⟩
   exact frz_procs hG k9 h8 (fun T hT => hTS T (by simp [hT])) d1 (Tds_le hle ht) g1
  ·obtain ⟨u1, r1, rfl, f1, d5⟩ := denL_cons d4
   obtain ⟨u2, r2, rfl, f2, d6⟩ := denL_cons d5
   simp only [denC, Option.some.injEq] at f1 f2
   subst f1 f2
   have a1 : IntsU G' W.q0 (.slice m.aq0 W.q0.length m.kq0) := Sx_Sr ⟨_, _, rfl, hl.2.1, n6, c6, l6, g6⟩ rfl (Cs_intU _)
   have a2 : IntsU G' W.q1 (.slice m.aq1 W.q1.length m.kq1) := Sx_Sr ⟨_, _, rfl, hl.2.2, n7, c7, l7, g7⟩ rfl (Cs_intU _)
   refine ⟨_, _, J, by simp, k7, k8, .inr ⟨_, J, ⟨[_], (show gcells G' _ [_] from ⟨g4.1, trivial⟩), _, J, a1⟩, ⟨[_], (show gcells G' _ [_] from ⟨g4.2.1, trivial⟩), _, J, a2⟩, trivial⟩⟩
  ·exact Sx_Sr ⟨_, _, J, hl.1, n5, c5, l5, g5⟩ J (Cs_sayU _)
section
variable {C : Ctx} {k : List It} {E : Env} {ι : Ids} {L : List Ent} {G : PH}
theorem S_frzV (κ : Nat) {cs ts : List Value} {W : Wld} {L' : List Ent} (hL : getH κ L = some (worldV cs W ts)) (hL' : delH κ L = some L') (hS0 : ∀ b, ¬ C.S0 b) (ht : Tds G W.procs ts) (hn : W.procs.length ≤ 3) (hl : W.said.length ≤ 1000000000 ∧ W.q0.length ≤ 1000000000 ∧ W.q1.length ≤ 1000000000)
  (hk : ∀ G', PH.ext C.w0.heap.size G G' → WG G' W (.agg cs.toArray) → X C k E ι L' G') : X C k E ι L G := by
 intro a w h1 h2 h3 h4
 obtain ⟨S, G', hA, hG, hext, hsat⟩ := h4.frz (a := a) hL hL' hS0
 exact hk G' hext (worldV_frz hA hG hext.le ht hn hl) a w (h1.mono hext.le) h2 h3 hsat
end
def celNo (k : Nat) : Cel → Prop
 | .v _ => True
 | .p j _ => j ≠ k
 | .s j _ _ _ => j ≠ k
def entNo (k : Nat) : Ent → Prop
 | .blk j _ cs => j ≠ k ∧ ∀ c ∈ cs, celNo k c
 | .hp _ _ => True
theorem denC_no {k b : Nat} {ι : Ids} {c : Cel} (h : celNo k c) : denC ((k, b) :: ι) c = denC ι c := by
 cases c with
 | v x => rfl
 | p j o => simp only [denC, lookI]; rw [if_neg h]
 | s j o n m => simp only [denC, lookI]; rw [if_neg h]
theorem denL_no {k b : Nat} {ι : Ids} : ∀ {cs : List Cel}, (∀ c ∈ cs, celNo k c) → denL ((k, b) :: ι) cs = denL ι cs
 | [], _ => rfl
 | c :: cs, h => by
  simp only [denL, denC_no (h c (List.mem_cons_self ..)), denL_no (fun c hc => h c (List.mem_cons_of_mem _ hc))]
theorem owns_no {k b : Nat} {ι : Ids} {w : World} : ∀ {L : List Ent} {Ss : List (Nat → Prop)}, (∀ e ∈ L, entNo k e) → (owns ((k, b) :: ι) w L Ss ↔ owns ι w L Ss)
 | [], [], _ => Iff.rfl
 | [], _ :: _, _ => Iff.rfl
 | _ :: _, [], _ => Iff.rfl
 | e :: L, S :: Ss, h => by
  have he : Ent.holds ((k, b) :: ι) w e S ↔ Ent.holds ι w e S := by
   have := h e (List.mem_cons_self ..)
   cases e with
   | blk j ty cs => simp only [Ent.holds, lookI, denL_no this.2, if_neg this.1]
   | hp j A => exact Iff.rfl
  simp only [owns, he, owns_no (fun e he => h e (List.mem_cons_of_mem _ he))]
theorem vL_no {k : Nat} {l : List Value} : ∀ c ∈ vL l, celNo k c := by
 induction l with
 | nil => intro c hc; cases hc
 | cons v l ih => intro c hc; rcases List.mem_cons.1 hc with rfl | hc; trivial; exact ih c hc
theorem procCs_no {kg : Nat → Nat} {sp : List Value} : ∀ {ps : List Prc} {ts : List Value} {i : Nat}, ∀ c ∈ procCs kg sp i ps ts, celNo 1007 c
 | [], ts, i, c, hc => vL_no c (by cases ts <;> exact hc)
 | p :: ps, [], i, c, hc => vL_no c hc
 | p :: ps, t :: ts, i, c, hc => by
  simp only [procCs, List.mem_cons] at hc
  rcases hc with rfl | rfl | rfl | rfl | rfl | hc
  ·show 1010 + i ≠ 1007; omega
  ·trivial
  ·trivial
  ·trivial
  ·trivial
  ·exact procCs_no c hc
theorem regEs_no {spg : Nat → List Value} : ∀ {ps : List Prc} {i : Nat}, ∀ e ∈ regEs spg i ps, entNo 1007 e
 | [], _, e, he => by cases he
 | p :: ps, i, e, he => by
  rcases List.mem_cons.1 he with rfl | he
  ·refine ⟨by show 1010 + i ≠ 1007; omega, ?_⟩
   intro c hc
   simp only [List.mem_cons] at hc
   rcases hc with rfl | rfl | rfl | hc
   ·trivial
   ·trivial
   ·trivial
   ·exact vL_no c hc
  ·exact regEs_no e he
theorem wEnts_no {W : Wld} {ts : List Value} {m : WM} {x : WX} : ∀ e ∈ wEnts W ts m x, entNo 1007 e := by
 intro e he
 simp only [wEnts, List.mem_cons] at he
 rcases he with rfl | rfl | rfl | rfl | rfl | rfl | rfl | he
 ·exact ⟨by decide, procCs_no⟩
 ·refine ⟨by decide, ?_⟩
  intro c hc
  simp only [List.mem_cons] at hc
  rcases hc with rfl | rfl | rfl | hc
  ·trivial
  ·trivial
  ·trivial
  ·exact vL_no c hc
 ·refine ⟨by decide, ?_⟩
  intro c hc
  simp only [List.mem_cons] at hc
  rcases hc with rfl | rfl | hc
  ·trivial
  ·trivial
  ·exact vL_no c hc
 ·refine ⟨by decide, ?_⟩
  intro c hc
  simp only [List.mem_cons] at hc
  rcases hc with rfl | rfl | hc
  ·trivial
  ·trivial
  ·exact vL_no c hc
 ·trivial
 ·trivial
 ·trivial
 ·exact regEs_no e he
theorem wCels_no {W : Wld} {m : WM} {x : WX} : ∀ c ∈ wCels W m x, celNo 1007 c := by
 intro c hc
 simp only [wCels, List.mem_cons, List.not_mem_nil, or_false] at hc
 rcases hc with rfl | rfl | rfl | rfl | rfl
 ·show 1000 ≠ 1007; decide
 ·show 1001 ≠ 1007; decide
 ·show 1002 ≠ 1007; decide
 ·show 1003 ≠ 1007; decide
 ·trivial
section
variable {C : Ctx} {k : List It} {E : Env} {ι : Ids} {L : List Ent} {G : PH}
theorem S_V2P (key κ κ' : Nat) {b : Nat} {cs ts : List Value} {cels : List Cel} {W : Wld} {L1 L2 : List Ent} (hj : lookI key ι = some b) (hB : lookB key L = some (56, cels)) (hd : denL ι cels = some cs) (hL1 : delB key L = some L1) (hL : getH κ L1 = some (worldV cs W ts)) (hL2 : delH κ L1 = some L2)
  (hk : X C k E ι (.hp κ' (worldP b W ts) :: L2) G) : X C k E ι L G := by
 intro a w g1 g2 g3 g4
 obtain ⟨Ss, ho, hS⟩ := g4.own
 obtain ⟨S, Ss', b', hb', hh, hSb, hm, ho', hT⟩ := owns_delB hd ho hB hL1
 rw [hj] at hb'; cases hb'
 obtain ⟨U, Ss2, ⟨ι0, L0, Ss0, ⟨bp, bc, br, bs, bg, m, x, hbg, hmk, hx, rfl, rfl, hcs⟩, hown, hU⟩, hm2, ho2, hT2⟩ := owns_del ho' hL hL2
 refine hk a w g1 g2 g3 ⟨g4.os, g4.tape, g4.output, g4.size, g4.keep, g4.emb, (fun x => S x ∨ U x) :: Ss2, ⟨⟨_, _, S :: Ss0, ⟨bp, bc, br, bs, bg, m, x, hbg, hmk, hx, J, J⟩, ⟨⟨b, cs, by simp [lookI], by rw [denL_no wCels_no]; exact hcs, hh, hSb⟩, fun T hT' y hy hy' => ?_, (owns_no wEnts_no).2 hown⟩, fun y => ?_⟩, ?_, ho2⟩, ?_⟩
 ·exact (hT U hm2).2 y ((hU y).2 ⟨T, hT', hy'⟩) hy
 ·constructor
  ·rintro (h | h)
   ·exact ⟨S, List.mem_cons_self .., h⟩
   ·obtain ⟨T, hT', hy⟩ := (hU y).1 h
    exact ⟨T, List.mem_cons_of_mem _ hT', hy⟩
  ·rintro ⟨T, hT', hy⟩
   rcases List.mem_cons.1 hT' with rfl | hT'
   ·exact .inl hy
   ·exact .inr ((hU y).2 ⟨T, hT', hy⟩)
 ·rintro T hT' y (hy | hy) hy'
  ·exact (hT T (hT2 T hT').1).2 y hy' hy
  ·exact (hT2 T hT').2 y hy' hy
 ·intro T hT' y hy
  rcases List.mem_cons.1 hT' with rfl | hT'
  ·rcases hy with hy | hy
   ·exact hS S hm y hy
   ·exact hS U (hT U hm2).1 y hy
  ·exact hS T (hT T (hT2 T hT').1).1 y hy
theorem S_P2V (κ key κ' : Nat) {b : Nat} {ts : List Value} {W : Wld} {L1 : List Ent} (hL : getH κ L = some (worldP b W ts)) (hL1 : delH κ L = some L1) (hf : lookI key ι = none)
  (hk : ∀ cs, X C k E ((key, b) :: ι) (.blk key 56 (vL cs) :: .hp κ' (worldV cs W ts) :: L1) G) : X C k E ι L G := by
 intro a w g1 g2 g3 g4
 obtain ⟨Ss, ho, hS⟩ := g4.own
 obtain ⟨S, Ss', ⟨ι0, L0, Ss0, ⟨bp, bc, br, bs, bg, m, x, hbg, hmk, hx, rfl, rfl⟩, hown, hU⟩, hm, ho', hT⟩ := owns_del ho hL hL1
 cases Ss0 with
 | nil => exact absurd hown id
 | cons B Bs =>
  obtain ⟨⟨b', cs, hb', hd, hh, hB⟩, hdis, hown⟩ := hown
  simp only [lookI, if_true, Option.some.injEq] at hb'
  subst hb'
  rw [denL_no wCels_no] at hd
  rw [owns_no wEnts_no] at hown
  refine hk cs a w g1 g2 (g3.ids hf) ⟨g4.os, g4.tape, g4.output, g4.size, g4.keep, g4.emb, B :: (fun x => ∃ T ∈ Bs, T x) :: Ss', ⟨⟨b, cs, by simp [lookI], denL_vL _ _, hh, hB⟩, ?_, ⟨_, _, Bs, ⟨bp, bc, br, bs, bg, m, x, hbg, hmk, hx, rfl, rfl, hd⟩, hown, fun y => Iff.rfl⟩, ?_, owns_ids ho' hf⟩, ?_⟩
  ·intro T hT' y hy hy'
   rcases List.mem_cons.1 hT' with rfl | hT'
   ·obtain ⟨T, hT2, hy2⟩ := hy'
    exact hdis T hT2 y hy hy2
   ·exact (hT T hT').2 y hy' ((hU y).2 ⟨B, List.mem_cons_self .., hy⟩)
  ·rintro T hT' y ⟨T2, hT2, hy2⟩ hy'
   exact (hT T hT').2 y hy' ((hU y).2 ⟨T2, List.mem_cons_of_mem _ hT2, hy2⟩)
  ·intro T hT' y hy
   rcases List.mem_cons.1 hT' with rfl | hT'
   ·exact hS S hm y ((hU y).2 ⟨_, List.mem_cons_self .., hy⟩)
   rcases List.mem_cons.1 hT' with rfl | hT'
   ·obtain ⟨T2, hT2, hy2⟩ := hy
    exact hS S hm y ((hU y).2 ⟨T2, List.mem_cons_of_mem _ hT2, hy2⟩)
   ·exact hS T (hT T hT').1 y hy
end
end
section
attribute [local irreducible] X Pure Mod
def proc0 (l : List Stm) : Prc := ⟨0, 0, 0, l, 0, 0, -1⟩
def open0 (p : List (List Stm)) : Wld := ⟨p.map proc0, 0, 0, 0, 0, 0, [], [], []⟩
def wZero : Value := .agg #[.slice none 0 0, .slice none 0 0, .slice none 0 0, .slice none 0 0, .slice none 0 0]
def OPost (p : List (List Stm)) (W : Wld) (v : Value) (G' : PH) (A' : HP) : Prop := (progOk p = true ∧ ∃ cs ts, v = .agg cs.toArray ∧ A' = worldV cs W ts ∧ Tds G' W.procs ts) ∨ (progOk p = false ∧ v = wZero ∧ A' = emptyHP)
def procX : List (Nat × Value) → List Value
  | [] => []
  | (b, t) :: q => [.slice (some ⟨b, 0, none⟩) 3 3, t, .int .i64 0, .int .i64 0, .int .i64 (-1)] ++ procX q
theorem procX_snoc (q : List (Nat × Value)) (b : Nat) (t : Value) : procX (q ++ [(b, t)]) = procX q ++ [.slice (some ⟨b, 0, none⟩) 3 3, t, .int .i64 0, .int .i64 0, .int .i64 (-1)] := by
  induction q with
  | nil => simp [procX]
  | cons x q ih => obtain ⟨b', t'⟩ := x; simp [procX, ih]
def regsHP (q : List (Nat × Value)) : HP := starHP (q.reverse.map fun x => blkHP x.1 3 [.int .i64 0, .int .i64 0, .int .i64 0])
theorem regsHP_snoc (q : List (Nat × Value)) (b : Nat) (t : Value) : regsHP (q ++ [(b, t)]) = pairHP (blkHP b 3 [.int .i64 0, .int .i64 0, .int .i64 0]) (regsHP q) := by simp [regsHP, starHP]
def Qds (G : PH) : List (List Stm) → List (Nat × Value) → Prop
  | [], [] => True
  | l :: p, x :: q => Sts G l x.2 ∧ Qds G p q
  | _, _ => False
theorem Qds_le {G G' : PH} (hl : G.le G') : ∀ {p : List (List Stm)} {q : List (Nat × Value)}, Qds G p q → Qds G' p q
  | [], [], _ => trivial
  | _ :: _, _ :: _, h => ⟨Sts_le hl h.1, Qds_le hl h.2⟩
  | [], _ :: _, h => h
  | _ :: _, [], h => h
theorem Qds_snoc {G : PH} {l : List Stm} {x : Nat × Value} (hx : Sts G l x.2) : ∀ {p : List (List Stm)} {q : List (Nat × Value)}, Qds G p q → Qds G (p ++ [l]) (q ++ [x])
  | [], [], _ => ⟨hx, trivial⟩
  | _ :: p, _ :: q, h => ⟨h.1, Qds_snoc hx h.2⟩
  | [], _ :: _, h => absurd h id
  | _ :: _, [], h => absurd h id
theorem Qds_Tds {G : PH} : ∀ {p : List (List Stm)} {q : List (Nat × Value)}, Qds G p q → Tds G (p.map proc0) (q.map (·.2))
  | [], [], _ => trivial
  | _ :: p, _ :: q, h => ⟨h.1, Qds_Tds h.2⟩
  | [], _ :: _, h => absurd h id
  | _ :: _, [], h => absurd h id
theorem prg_at {G : PH} {p : List (List Stm)} {A : Option Addr} {n c : Nat} (h : Prg G p (.slice A n c)) {i : Nat} (hi : i < p.length) : ∃ ad v, A = some ad ∧ gcell G (ad.add (i * 1)) = some v ∧ Sts G p[i] v := by
  obtain ⟨ad, cs, rfl, h1, v, rfl, h2⟩ := Sr_at h hi
  exact ⟨ad, v, J, h1.1, h2⟩
def Off0 (A : Option Addr) : Prop := A = none ∨ ∃ g, A = some ⟨g, 0, none⟩
structure OS where
  i : Nat
  A : Option Addr
  c : Nat
  q : List (Nat × Value)
  G : PH
theorem mok0 {kp n : Nat} (h : n ≤ kp ∧ kp ≤ maxLen) : mOk kp 3 2 2 (fun _ => 3) n := ⟨h, by decide, by decide, by decide, fun _ => show 3 ≤ 3 ∧ 3 ≤ maxLen from by decide⟩
theorem c_l3Open (p : List (List Stm)) (pv : Value) (G : PH) (hp : PrgS G p pv) : Mod Tryz.prog 33 [pv] G emptyHP (OPost p (open0 p)) := by
  obtain ⟨hpp, hsh, hpl⟩ := id hp
  obtain ⟨A, c, rfl, hl1, _⟩ := id hpp
  refine Mod.intro Tryz.func33 Tryz.ntmps33 J J fun w S => ?_;refine Va J J ?_;refine AZ ZT_ok J J J J fun b2 => ?_;refine Va J J ?_;refine S_call Tryz.call13 (c_ProgOk p _ G hpp) J J J ?_;rintro v G5 ⟨rfl, rfl⟩ _
  refine Va J J ?_
  refine S_cond J (fun h => ?_) (fun h => ?_) <;> refine Va J J ?_
  · have hpo : progOk p = false := by simpa using h
    exact S_retm 1 (Res.c1 Tk Tryz.results33 J J) J XR (.inr ⟨hpo, J, J⟩)
  have hpo : progOk p = true := by simpa using h
  have hp13 : 1 ≤ p.length ∧ p.length ≤ 3 := by simp only [progOk, Bool.and_eq_true, decide_eq_true_eq] at hpo; exact ⟨hpo.1.2, hpo.2⟩
  refine S_cut (α := Nat × Nat × Nat × Nat × Option Addr) (fun _ => True) (fun y => [(2, b2), (3, y.1), (9, y.2.1), (10, y.2.2.1), (11, y.2.2.2.1)]) (fun y => [(0, .val (.slice A p.length c)), (2, .ptr 2 0), (3, .ptr 3 0)])
    (fun y => [.blk 2 56 (vL [.slice none 0 0, .slice none 0 0, .slice none 0 0, .slice none 0 0, .slice none 0 0]), .blk 3 56 [.v (.slice none 0 0), .s 9 0 3 3, .s 10 0 2 2, .s 11 0 2 2, .v (.slice y.2.2.2.2 0 0)], .blk 9 3 (vL [.int .i64 0, .int .i64 0, .int .i64 0]), .blk 10 3 (vL [.int .i64 0, .int .i64 0]), .blk 11 24 (vL [.slice none 0 0, .slice none 0 0]), .hp 12 (rowO w.heap.size 123 2 y.2.2.2.2 0 0 []), .hp 1 emptyHP]) (fun _ => G5) ?_ ?_
  ·
    refine Ds J J J ?_;refine Da J J ?_
    repeat' (first
      | exact trivial
      | (refine D_list J ?_)
      | refine And.intro ?_ ?_
      | (refine N_turn Tk _ J J J J fun back => ?_
         first
           | refine S_make Tk ZT_ok J J J J J J (by decide) (by decide) J J J fun bm => ?_
           | refine S_emptyO Tk 12 J J J J fun A12 => ?_
           | refine AZ ZT_ok J J J J fun ba => ?_
         refine back _ _ _ _ (by kernel_rfl) ?_
         clear back
         refine Da J J ?_)
      | fail)
    all_goals (refine N_store Tk 6 rfl rfl rfl rfl rfl rfl rfl rfl (by kernel_rfl) ?_)
    all_goals refine D_adv Tk (by decide) rfl rfl ?_
    all_goals (refine DD ?_)
    all_goals refine S_adv Tk rfl 1000 rfl ?_
    all_goals (refine S_pick [2, 3, 9, 10, 11, 12, 1] rfl ?_)
    all_goals exact S_meet (_, _, _, _, _) trivial rfl ⟨⟨_, rfl, rfl⟩, ⟨_, rfl, rfl⟩, ⟨_, rfl, rfl⟩, trivial⟩ (.blk rfl rfl (.blk rfl rfl (.blk rfl rfl (.blk rfl rfl (.blk rfl rfl (.hp (.hp .nil)))))))
  rintro ⟨b3, b9, b10, b11, A12⟩ _
  simp only
  refine S_nilO (base := w.heap.size) (e := 101) (size := 5) 20 ?_;refine S_newE 21 ?_;refine Va J J ?_;refine S_loop (α := OS) (fun y => y.i ≤ p.length ∧ y.q.length = y.i ∧ PH.ext w.heap.size G5 y.G ∧ Qds y.G (p.take y.i) y.q ∧ Off0 y.A ∧ ∀ x ∈ y.q, ∃ A n c, x.2 = .slice A n c) (fun y => p.length - y.i) [(2, b2), (3, b3), (9, b9), (10, b10), (11, b11)]
    (fun y => [(4, .val (.int .i64 (y.i : Nat))), (0, .val (.slice A p.length c)), (2, .ptr 2 0), (3, .ptr 3 0)])
    (fun y => [.hp 21 (regsHP y.q), .hp 20 (rowO w.heap.size 101 5 y.A y.q.length y.c (procX y.q)), .blk 2 56 (vL [.slice none 0 0, .slice none 0 0, .slice none 0 0, .slice none 0 0, .slice none 0 0]), .blk 3 56 [.v (.slice y.A y.q.length y.c), .s 9 0 3 3, .s 10 0 2 2, .s 11 0 2 2, .v (.slice A12 0 0)], .blk 9 3 (vL [.int .i64 0, .int .i64 0, .int .i64 0]), .blk 10 3 (vL [.int .i64 0, .int .i64 0]), .blk 11 24 (vL [.slice none 0 0, .slice none 0 0]), .hp 12 (rowO w.heap.size 123 2 A12 0 0 []), .hp 1 emptyHP]) (fun y => y.G) ⟨0, none, 0, [], G5⟩ ⟨Nat.zero_le _, rfl, PH.ext.refl _ _, trivial, .inl rfl, by simp⟩ rfl ?_ ?_ ?_
  · exact ⟨⟨_, J, J⟩, ⟨_, J, J⟩, ⟨_, J, J⟩, ⟨_, J, J⟩, trivial⟩
  · exact .hp (.hp (.blk J J (.blk J J (.blk J J (.blk J J (.blk J J (.hp (.hp .nil))))))))
  rintro ⟨i, A5, c5, q, G1⟩ ⟨hi, hq, hext, hqd, hoff, hqs⟩
  simp only at hi hq hext hqd hoff hqs ⊢
  refine Va J J ?_
  refine S_condp J (fun h5 => ?_) (fun h5 => ?_) <;> refine Va J J ?_
  · have hil : i < p.length := by omega
    obtain ⟨ad, lv, rfl, hcell, hlv⟩ := prg_at (Prg_le hext.le hpp) hil
    obtain ⟨Al, cl, xsl, rfl, hxl, hxg, hcs⟩ := sts_cells hlv
    have hll := (hsh _ (List.getElem_mem hil)).1
    refine S_cut (α := Nat × Option Addr × Nat × Option Addr × Nat) (fun y => Off0 y.2.2.2.1) (fun y => [(2, b2), (3, b3), (9, b9), (10, b10), (11, b11), (22, y.1)]) (fun y => [(4, .val (.int .i64 (i : Nat))), (0, .val (.slice (some ad) p.length c)), (2, .ptr 2 0), (3, .ptr 3 0)])
      (fun y => [.hp 21 (regsHP q), .hp 20 (rowO w.heap.size 101 5 y.2.2.2.1 (q.length + 1) y.2.2.2.2 (procX q ++ [.slice (some ⟨y.1, 0, none⟩) 3 3, .slice y.2.1 (0 + p[i].length) y.2.2.1, .int .i64 0, .int .i64 0, .int .i64 (-1)])), .hp 23 (rowO w.heap.size 65 6 y.2.1 (0 + p[i].length) y.2.2.1 ([] ++ xsl)), .blk 22 3 (vL [.int .i64 0, .int .i64 0, .int .i64 0]), .blk 2 56 (vL [.slice none 0 0, .slice none 0 0, .slice none 0 0, .slice none 0 0, .slice none 0 0]), .blk 3 56 [.v (.slice y.2.2.2.1 (q.length + 1) y.2.2.2.2), .s 9 0 3 3, .s 10 0 2 2, .s 11 0 2 2, .v (.slice A12 0 0)], .blk 9 3 (vL [.int .i64 0, .int .i64 0, .int .i64 0]), .blk 10 3 (vL [.int .i64 0, .int .i64 0]), .blk 11 24 (vL [.slice none 0 0, .slice none 0 0]), .hp 12 (rowO w.heap.size 123 2 A12 0 0 []), .hp 1 emptyHP]) (fun _ => G1) ?_ ?_
    ·
      refine Ds J J J ?_;refine Da J J ?_
      repeat' (first
        | exact trivial
        | (refine D_list J ?_)
        | refine And.intro ?_ ?_
        | (refine N_turn Tk _ J J J J fun back => ?_
           first
             | refine S_make Tk ZT_ok J J J J J J (by decide) (by decide) J J J fun bm => ?_
             | refine S_emptyO Tk 23 J J J J fun A12 => ?_
             | refine S_appO Tk 23 J J J J J J J J J J J (fun _ _ => J) (src_G hxl hxg) (Cs_one Stm.rep_one hcs) (by simp only; omega) (by simp only [maxLen]; omega) (Nat.le_refl _) fun A4 c4 => ?_
             | refine S_slice Tk ZT_ok J J J J (by decide) (by decide) J J J J fun b2 => ?_
             | refine S_app1z Tk 20 30 J J J J J J J J J J J J J J (by intro u hu; simp at hu; rcases hu with rfl | rfl | rfl | rfl | rfl <;> rfl) rfl (fun _ _ => rfl) (by omega) (Nat.le_refl _) fun A6 c6 h6 => ?_
             | refine S_index Tk J J J J J J (by omega) (by omega) ?_
             | refine S_load Tk J J J J J (by simpa using hcell) ?_
             | fail
           refine back _ _ _ _ (by kernel_rfl) ?_
           clear back
           refine Da J J ?_)
        | fail)
      all_goals (refine N_store Tk 13 rfl rfl rfl rfl rfl rfl rfl rfl (by kernel_rfl) ?_)
      all_goals refine D_adv Tk (by decide) rfl rfl ?_
      all_goals (refine DD ?_)
      all_goals refine S_adv Tk rfl 1000 rfl ?_
      all_goals (refine S_pick [21, 20, 23, 22, 2, 3, 9, 10, 11, 12, 1] rfl ?_)
      all_goals exact S_meet (_, _, _, _, _) (by rename_i h6; rcases h6 with h6 | h6; exact h6 ▸ hoff; exact .inr h6) J ⟨⟨_, J, J⟩, ⟨_, J, J⟩, ⟨_, J, J⟩, ⟨_, J, J⟩, trivial⟩ (.hp (.hp (.hp (.blk J J (.blk J J (.blk J J (.blk J J (.blk J J (.blk J J (.hp (.hp .nil)))))))))))
    rintro ⟨b22, A23, c23, A6, c6⟩ hoff6
    simp only at hoff6 ⊢
    refine S_freezeR 23 J J (Nat.le_refl _) fun G2 hext2 hnc hcm hcl => ?_
    have hv : Sts G2 p[i] (.slice A23 (0 + p[i].length) c23) := frz (Cs_mono (Stm.reps_le hext2.le _) (by simpa using hcs)) (by omega) (by omega) hnc hcm hcl
    refine S_Bhp 22 24 J J J J ?_;refine S_pair 24 21 25 J J J J ?_;refine Va J J ?_;refine S_add J J J J (by omega) ?_;refine Va J J ?_;refine S_again ⟨i + 1, A6, c6, q ++ [(b22, .slice A23 (0 + p[i].length) c23)], G2⟩ ⟨by simp only; omega, by simp; omega, hext.trans hext2, ?_, hoff6, ?_⟩ (by simp only; omega) rfl ⟨⟨_, rfl, by simp [denO]⟩, ⟨_, rfl, rfl⟩, ⟨_, rfl, rfl⟩, ⟨_, rfl, rfl⟩, trivial⟩ ?_
    · simp only
      rw [List.take_succ_eq_append_getElem hil]
      exact Qds_snoc hv (Qds_le hext2.le hqd)
    · intro x hx
      rcases List.mem_append.1 hx with hx | hx
      · exact hqs x hx
      · rw [List.mem_singleton.1 hx]; exact ⟨_, _, _, J⟩
    · simp only [regsHP_snoc, procX_snoc, List.length_append, List.length_singleton]
      exact .hp (.hp (.blk J J (.blk J J (.blk J J (.blk J J (.blk J J (.hp (.hp .nil))))))))
  · have hin : i = p.length := by omega
    subst hin
    rw [List.take_length] at hqd
    refine S_capO 20 J fun hnc5 hcm5 _ => ?_;refine S_someO 20 J (by omega) fun gp offp eA => ?_;obtain rfl : offp = 0 := by
      rcases hoff with h | ⟨g, h⟩
      · rw [h] at eA; cases eA
      · rw [h] at eA; cases eA; rfl
    subst eA
    refine S_rowB 20 20 J J J fun sp => ?_;refine S_nilO (base := 0) (e := 3) (size := 1) 30 ?_;refine S_nilO (base := 0) (e := 3) (size := 1) 31 ?_;refine S_base0 12 J J ?_
    rcases (by omega : p.length = 1 ∨ p.length = 2 ∨ p.length = 3) with h1 | h1 | h1
    · obtain ⟨l0, rfl⟩ := len1 h1
      obtain ⟨⟨g0, t0⟩, rfl⟩ := len1 (hq.trans h1)
      refine S_unpair 21 500 600 J J ?_;refine S_hpB 500 40 J J J ?_;exact RK [20, 9, 10, 11, 12, 30, 31, 40] (Res.c1 Tk Tryz.results33 rfl rfl) (.inl ⟨hpo, _, [t0], rfl, rfl, Qds_Tds hqd⟩) ⟨gp, b9, b10, b11, [g0], ⟨c5, sp, A12, 0, none, 0, none, 0, 3, [], 2, [], 2, [], fun _ => 3, fun _ => []⟩, ⟨0, [], 0, [], 0, []⟩, rfl, (mok0 ⟨by simpa [open0] using hnc5, hcm5⟩), ⟨⟨rfl, rfl⟩, ⟨rfl, rfl⟩, rfl, rfl⟩, rfl, rfl, rfl⟩ rfl (Bs 5 rfl rfl rfl rfl (.blk rfl rfl (.blk rfl rfl (.blk rfl rfl (.hp (.hp (.hp (.blk rfl rfl .nil)))))))) hext
    · obtain ⟨l0, l1, rfl⟩ := len2 h1
      obtain ⟨⟨g0, t0⟩, ⟨g1, t1⟩, rfl⟩ := len2 (hq.trans h1)
      refine S_unpair 21 501 601 J J ?_;refine S_hpB 501 41 J J J ?_;refine S_unpair 601 500 600 J J ?_;refine S_hpB 500 40 J J J ?_;exact RK [20, 9, 10, 11, 12, 30, 31, 40, 41] (Res.c1 Tk Tryz.results33 rfl rfl) (.inl ⟨hpo, _, [t0, t1], rfl, rfl, Qds_Tds hqd⟩) ⟨gp, b9, b10, b11, [g0, g1], ⟨c5, sp, A12, 0, none, 0, none, 0, 3, [], 2, [], 2, [], fun _ => 3, fun _ => []⟩, ⟨0, [], 0, [], 0, []⟩, rfl, (mok0 ⟨by simpa [open0] using hnc5, hcm5⟩), ⟨⟨rfl, rfl⟩, ⟨rfl, rfl⟩, rfl, rfl⟩, rfl, rfl, rfl⟩ rfl (Bs 10 rfl rfl rfl rfl (.blk rfl rfl (.blk rfl rfl (.blk rfl rfl (.hp (.hp (.hp (.blk rfl rfl (.blk rfl rfl .nil))))))))) hext
    · obtain ⟨l0, l1, l2, rfl⟩ := len3 h1
      obtain ⟨⟨g0, t0⟩, ⟨g1, t1⟩, ⟨g2, t2⟩, rfl⟩ := len3 (hq.trans h1)
      refine S_unpair 21 502 602 J J ?_;refine S_hpB 502 42 J J J ?_;refine S_unpair 602 501 601 J J ?_;refine S_hpB 501 41 J J J ?_;refine S_unpair 601 500 600 J J ?_;refine S_hpB 500 40 J J J ?_;exact RK [20, 9, 10, 11, 12, 30, 31, 40, 41, 42] (Res.c1 Tk Tryz.results33 rfl rfl) (.inl ⟨hpo, _, [t0, t1, t2], rfl, rfl, Qds_Tds hqd⟩) ⟨gp, b9, b10, b11, [g0, g1, g2], ⟨c5, sp, A12, 0, none, 0, none, 0, 3, [], 2, [], 2, [], fun _ => 3, fun _ => []⟩, ⟨0, [], 0, [], 0, []⟩, rfl, (mok0 ⟨by simpa [open0] using hnc5, hcm5⟩), ⟨⟨rfl, rfl⟩, ⟨rfl, rfl⟩, rfl, rfl⟩, rfl, rfl, rfl⟩ rfl (Bs 15 rfl rfl rfl rfl (.blk rfl rfl (.blk rfl rfl (.blk rfl rfl (.hp (.hp (.hp (.blk rfl rfl (.blk rfl rfl (.blk rfl rfl .nil)))))))))) hext
end
section
attribute [local irreducible] X Pure Mod
theorem Cs_intU_eq : ∀ {l : List Int} {xs : List Value}, Cs 1 intU l xs → xs = intC l
  | [], xs, h => h
  | n :: l, xs, h => by
    obtain ⟨cs, ys, rfl, _, rfl, h4⟩ := h
    rw [Cs_intU_eq h4]; rfl
theorem Cs_sayU_eq : ∀ {l : List (Int × Int)} {xs : List Value}, Cs 2 sayU l xs → xs = saidC l
  | [], xs, h => h
  | n :: l, xs, h => by
    obtain ⟨cs, ys, rfl, _, rfl, h4⟩ := h
    rw [Cs_sayU_eq h4]; rfl
theorem intsU_cells {G : PH} {l : List Int} {v : Value} (h : IntsU G l v) : ∃ A c, v = .slice A l.length c ∧ (intC l).length = l.length * 1 ∧ (l.length = 0 ∨ ∃ a, A = some a ∧ gcells G a (intC l)) := by
  obtain ⟨xs, hx, hc⟩ := Sr_Sx (rep := intU) (sz := 1) (fun n cs h => by rw [show cs = [.int .i64 n] from h]; rfl) h
  obtain rfl := Cs_intU_eq hc
  obtain ⟨A, c, rfl, _, _, _, hl, hr⟩ := hx
  exact ⟨A, c, J, hl, hr⟩
theorem saysU_cells {G : PH} {l : List (Int × Int)} {v : Value} (h : SaysU G l v) : ∃ A c, v = .slice A l.length c ∧ (saidC l).length = l.length * 2 ∧ (l.length = 0 ∨ ∃ a, A = some a ∧ gcells G a (saidC l)) := by
  obtain ⟨xs, hx, hc⟩ := Sr_Sx (rep := sayU) (sz := 2) (fun n cs h => by rw [show cs = [.int .i64 n.1, .int .i64 n.2] from h]; rfl) h
  obtain rfl := Cs_sayU_eq hc
  obtain ⟨A, c, rfl, _, _, _, hl, hr⟩ := hx
  exact ⟨A, c, J, hl, hr⟩
theorem intC1 (l : List Int) : ∀ u ∈ intC l, u.oneCell' = true := intC_one l
theorem off_app {A A' : Option Addr} (h : ∃ g, A = some ⟨g, 0, none⟩) (h' : A' = A ∨ ∃ g, A' = some ⟨g, 0, none⟩) : Off0 A' := by
  rcases h' with rfl | h'
  · exact .inr h
  · exact .inr h'
theorem off_app' {A A' : Option Addr} (h : Off0 A) (h' : A' = A ∨ ∃ g, A' = some ⟨g, 0, none⟩) : Off0 A' := by
  rcases h' with rfl | h'
  · exact h
  · exact .inr h'
structure QE where
  A : Option Addr
  c : Nat
  t : Value
  p : Prc
def procZ : List QE → List Value
  | [] => []
  | x :: q => [.slice x.A (0 + 3) x.c, x.t, .int .i64 x.p.mode, .int .i64 x.p.on, .int .i64 x.p.room] ++ procZ q
theorem procZ_snoc (q : List QE) (x : QE) : procZ (q ++ [x]) = procZ q ++ [.slice x.A (0 + 3) x.c, x.t, .int .i64 x.p.mode, .int .i64 x.p.on, .int .i64 x.p.room] := by
  induction q with
  | nil => simp [procZ]
  | cons y q ih => simp [procZ, ih]
def regsZ (base : Nat) (q : List QE) : HP := starHP (q.reverse.map fun x => rowO base 3 1 x.A (0 + 3) x.c ([] ++ intC [x.p.r0, x.p.r1, x.p.r2]))
theorem regsZ_snoc (base : Nat) (q : List QE) (x : QE) : regsZ base (q ++ [x]) = pairHP (rowO base 3 1 x.A (0 + 3) x.c ([] ++ intC [x.p.r0, x.p.r1, x.p.r2])) (regsZ base q) := by simp [regsZ, starHP]
def QOk (G : PH) (ps : List Prc) (q : List QE) : Prop := q.map (·.p) = ps ∧ ∀ x ∈ q, Sts G x.p.todo x.t ∧ Off0 x.A
theorem QOk_le {G G' : PH} (hl : G.le G') {ps : List Prc} {q : List QE} (h : QOk G ps q) : QOk G' ps q := ⟨h.1, fun x hx => ⟨Sts_le hl (h.2 x hx).1, (h.2 x hx).2⟩⟩
structure OC where
  i : Nat
  A : Option Addr
  c : Nat
  q : List QE
  G : PH
theorem off0_eq {A : Option Addr} (h : Off0 A) {g off : Nat} (e : A = some ⟨g, off, none⟩) : off = 0 := by
  rcases h with h | ⟨g', h⟩
  · rw [h] at e; cases e
  · rw [h] at e; cases e; rfl
def kg3 (a b c : Nat) : Nat → Nat
  | 0 => a
  | 1 => b
  | _ => c
def sp3 (a b c : List Value) : Nat → List Value
  | 0 => a
  | 1 => b
  | _ => c
theorem kg3_ok {a b c : Nat} (ha : 3 ≤ a ∧ a ≤ maxLen) (hb : 3 ≤ b ∧ b ≤ maxLen) (hc : 3 ≤ c ∧ c ≤ maxLen) : ∀ i, 3 ≤ kg3 a b c i ∧ kg3 a b c i ≤ maxLen
  | 0 => ha
  | 1 => hb
  | _ + 2 => hc
abbrev NPost (W : Wld) (v : Value) (G' : PH) (A' : HP) : Prop := ∃ cs ts, v = .agg cs.toArray ∧ A' = worldV cs W ts ∧ Tds G' W.procs ts
theorem c_l3Copy (W : Wld) (v : Value) (G : PH) (hW : WG G W v) (hn : 1 ≤ W.procs.length ∧ W.procs.length ≤ 3) (hl : W.said.length ≤ 1000000 ∧ W.q0.length ≤ 1000000 ∧ W.q1.length ≤ 1000000) (hT : ∀ p ∈ W.procs, p.todo.length ≤ 1000000) : Mod Tryz.prog 85 [v] G emptyHP (NPost W) := by
  obtain ⟨vp, vc, vr, vs, vd, rfl, hpr, hce, hro, hsg, hsd⟩ := hW
  obtain ⟨Ac, cc, rfl, xc1, xc2⟩ := intsU_cells hce
  obtain ⟨Ar, cr, rfl, xr1, xr2⟩ := intsU_cells hro
  obtain ⟨Ad, cd, rfl, xd1, xd2⟩ := saysU_cells hsd
  obtain ⟨Ap, cp, rfl, _⟩ := id hpr
  obtain ⟨As, cs', rfl, _⟩ := id hsg
  obtain ⟨ads, z0, eA, hz0, v0, rfl, hv0⟩ := Sr_at hsg (k := 0) (by simp)
  subst eA
  obtain ⟨ads', z1, eA, hz1, v1, rfl, hv1⟩ := Sr_at hsg (k := 1) (by simp)
  cases eA
  obtain ⟨A0, c0, rfl, x01, x02⟩ := intsU_cells hv0
  obtain ⟨A1, c1, rfl, x11, x12⟩ := intsU_cells hv1
  simp only [List.getElem_cons_zero, List.getElem_cons_succ] at hz0 hz1 x01 x02 x11 x12
  refine Mod.intro Tryz.func85 Tryz.ntmps85 J J fun w S => ?_;refine Va J J ?_;refine S_box J J J J J fun b1 => ?_;refine Va J J ?_;refine AZ ZT_ok J J J J fun b2 => ?_;refine Va J J ?_;refine S_cut (α := Nat × (Option Addr × Nat) × (Option Addr × Nat) × Option Addr × Nat) (fun y => Off0 y.2.1.1 ∧ Off0 y.2.2.1.1) (fun y => [(1, b1), (2, b2), (3, y.1)]) (fun y => [(1, .ptr 1 0), (2, .ptr 2 0), (3, .ptr 3 0)])
    (fun y => [.blk 1 56 (vL [.slice Ap W.procs.length cp, .slice Ac [W.c0, W.c1, W.c2].length cc, .slice Ar [W.m0, W.m1].length cr, .slice (some ads) [W.q0, W.q1].length cs', .slice Ad W.said.length cd]), .blk 2 56 (vL [.slice none 0 0, .slice none 0 0, .slice none 0 0, .slice none 0 0, .slice none 0 0]),
      .blk 3 56 [.v (.slice none 0 0), .v (.slice y.2.1.1 (0 + [W.c0, W.c1, W.c2].length) y.2.1.2), .v (.slice y.2.2.1.1 (0 + [W.m0, W.m1].length) y.2.2.1.2), .v (.slice none 0 0), .v (.slice y.2.2.2.1 (0 + W.said.length) y.2.2.2.2)],
      .hp 7 (rowO w.heap.size 3 1 y.2.1.1 (0 + [W.c0, W.c1, W.c2].length) y.2.1.2 ([] ++ intC [W.c0, W.c1, W.c2])), .hp 11 (rowO w.heap.size 3 1 y.2.2.1.1 (0 + [W.m0, W.m1].length) y.2.2.1.2 ([] ++ intC [W.m0, W.m1])), .hp 15 (rowO w.heap.size 123 2 y.2.2.2.1 (0 + W.said.length) y.2.2.2.2 ([] ++ saidC W.said)), .hp 1 emptyHP]) (fun _ => G) ?_ ?_
  ·
    refine Ds J J J ?_;refine Da J J ?_
    repeat' (first
      | exact trivial
      | (refine D_list J ?_)
      | refine And.intro ?_ ?_
      | (refine N_turn Tk 0 J J J J fun back => ?_
         refine S_emptyOz Tk 7 J J J J fun A7 h7 => ?_;refine back _ _ _ _ (by kernel_rfl) ?_
         clear back
         refine Da J J ?_)
      | (refine N_turn Tk 4 J J J J fun back => ?_
         refine S_emptyOz Tk 11 J J J J fun A11 h11 => ?_;refine back _ _ _ _ (by kernel_rfl) ?_
         clear back
         refine Da J J ?_)
      | (refine N_turn Tk 8 J J J J fun back => ?_
         refine S_emptyO Tk 15 J J J J fun A15 => ?_;refine back _ _ _ _ (by kernel_rfl) ?_
         clear back
         refine Da J J ?_)
      | (refine N_turn Tk 13 J J J J fun back => ?_
         refine AZ ZT_ok J J J J fun b3 => ?_;refine back _ _ _ _ (by kernel_rfl) ?_
         clear back
         refine Da J J ?_)
      | (refine N_turn Tk 3 J J J J fun back => ?_
         refine S_appOz Tk 7 J J J J J J J J J J J (fun _ _ => J) (src_G xc1 xc2) (intC1 _) (by simp) (by simp [maxLen]) (Nat.le_refl _) fun A7' c7 h7' => ?_;refine back _ _ _ _ (by kernel_rfl) ?_
         clear back
         refine Da J J ?_)
      | (refine N_turn Tk 7 J J J J fun back => ?_
         refine S_appOz Tk 11 J J J J J J J J J J J (fun _ _ => J) (src_G xr1 xr2) (intC1 _) (by simp) (by simp [maxLen]) (Nat.le_refl _) fun A11' c11 h11' => ?_;refine back _ _ _ _ (by kernel_rfl) ?_
         clear back
         refine Da J J ?_)
      | (refine N_turn Tk 11 J J J J fun back => ?_
         refine S_appO Tk 15 J J J J J J J J J J J (fun _ _ => J) (src_G xd1 xd2) (saidC_one _) (by simp only; omega) (by simp only [maxLen]; omega) (Nat.le_refl _) fun A15' c15 => ?_;refine back _ _ _ _ (by kernel_rfl) ?_
         clear back
         refine Da J J ?_)
      | fail)
    all_goals (refine N_store Tk 14 rfl rfl rfl rfl rfl rfl rfl rfl (by kernel_rfl) ?_)
    all_goals refine D_adv Tk (by decide) rfl rfl ?_
    all_goals (refine DD ?_)
    all_goals refine S_adv Tk rfl 1000 rfl ?_
    all_goals (refine S_pick [1, 2, 3, 7, 11, 15, 1] rfl ?_)
    all_goals exact S_meet (_, (_, _), (_, _), _, _) ⟨off_app h7 h7', off_app h11 h11'⟩ rfl ⟨⟨_, rfl, rfl⟩, ⟨_, rfl, rfl⟩, ⟨_, rfl, rfl⟩, trivial⟩ (.blk rfl rfl (.blk rfl rfl (.blk rfl rfl (.hp (.hp (.hp (.hp .nil)))))))
  rintro ⟨b3, ⟨A7, c7⟩, ⟨A11, c11⟩, A15, c15⟩ ⟨o7, o11⟩
  simp only at o7 o11 ⊢
  refine S_nilO (base := w.heap.size) (e := 24) (size := 1) 40 ?_;refine Va J J ?_;refine S_unroll 2 ?_;refine Va J J ?_
  have o0 : Off0 none := .inl rfl
  refine RT J J ?_;refine Va J J ?_;refine S_cut (α := (Option Addr × Nat) × Option Addr × Nat) (fun y => Off0 y.2.1) (fun y => [(1, b1), (2, b2), (3, b3)]) (fun y => [(4, .val (.int .i64 0)), (1, .ptr 1 0), (2, .ptr 2 0), (3, .ptr 3 0)])
    (fun y => [.blk 1 56 (vL [.slice Ap W.procs.length cp, .slice Ac [W.c0, W.c1, W.c2].length cc, .slice Ar [W.m0, W.m1].length cr, .slice (some ads) [W.q0, W.q1].length cs', .slice Ad W.said.length cd]), .blk 2 56 (vL [.slice none 0 0, .slice none 0 0, .slice none 0 0, .slice none 0 0, .slice none 0 0]),
      .blk 3 56 [.v (.slice none 0 0), .v (.slice A7 (0 + [W.c0, W.c1, W.c2].length) c7), .v (.slice A11 (0 + [W.m0, W.m1].length) c11), .v (.slice y.2.1 (0 + 1) y.2.2), .v (.slice A15 (0 + W.said.length) c15)],
      .hp 7 (rowO w.heap.size 3 1 A7 (0 + [W.c0, W.c1, W.c2].length) c7 ([] ++ intC [W.c0, W.c1, W.c2])), .hp 11 (rowO w.heap.size 3 1 A11 (0 + [W.m0, W.m1].length) c11 ([] ++ intC [W.m0, W.m1])), .hp 15 (rowO w.heap.size 123 2 A15 (0 + W.said.length) c15 ([] ++ saidC W.said)),
      .hp 40 (rowO w.heap.size 24 1 y.2.1 (0 + 1) y.2.2 ([] ++ [.slice y.1.1 (0 + W.q0.length) y.1.2])), .hp 41 (rowO w.heap.size 3 1 y.1.1 (0 + W.q0.length) y.1.2 ([] ++ intC W.q0))] ++ [.hp 1 emptyHP]) (fun _ => G) ?_ ?_
  · refine Ds J J J ?_
    refine Da J J ?_
    repeat' (first
      | exact trivial
      | (refine D_list J ?_)
      | refine And.intro ?_ ?_
      | (refine N_turn Tk 2 J J J J fun back => ?_
         refine S_emptyO Tk 41 J J J J fun A29 => ?_;refine back _ _ _ _ (by kernel_rfl) ?_
         clear back
         refine Da J J ?_)
      | (refine N_turn Tk 6 J J J J fun back => ?_
         refine S_index Tk J J J J J J (by simp) (by simp) ?_;refine back _ _ _ _ (by kernel_rfl) ?_
         clear back
         refine Da J J ?_)
      | (refine N_turn Tk 7 J J J J fun back => ?_
         refine S_load Tk J J J J J (by simpa using hz0.1) ?_;refine back _ _ _ _ (by kernel_rfl) ?_
         clear back
         refine Da J J ?_)
      | (refine N_turn Tk 8 J J J J fun back => ?_
         refine S_appO Tk 41 J J J J J J J J J J J (fun _ _ => J) (src_G x01 x02) (intC1 _) (by simp only; omega) (by simp only [maxLen]; omega) (Nat.le_refl _) fun A29' c29 => ?_;refine back _ _ _ _ (by kernel_rfl) ?_
         clear back
         refine Da J J ?_)
      | (refine N_turn Tk 9 J J J J fun back => ?_
         refine S_slice Tk ZT_ok J J J J (by decide) (by decide) J J J J fun b36 => ?_;refine back _ _ _ _ (by kernel_rfl) ?_
         clear back
         refine Da J J ?_)
      | (refine N_turn Tk 10 J J J J fun back => ?_
         refine S_app1z Tk 40 36 J J J J J J J J J J J J J J (by intro u hu; simp at hu; rcases hu with rfl; rfl) rfl (fun _ _ => rfl) (by omega) (Nat.le_refl _) fun A40 c40 h40 => ?_;refine back _ _ _ _ (by kernel_rfl) ?_
         clear back
         refine Da J J ?_)
      | fail)
    all_goals (refine N_store Tk 12 rfl rfl rfl rfl rfl rfl rfl rfl (by kernel_rfl) ?_)
    all_goals refine D_adv Tk (by decide) rfl rfl ?_
    all_goals (refine DD ?_)
    all_goals refine S_adv Tk rfl 1000 rfl ?_
    all_goals (refine S_pick [1, 2, 3, 7, 11, 15, 40, 41, 1] rfl ?_)
    all_goals exact S_meet ((_, _), _, _) (by rename_i h40; exact off_app' (by assumption) h40) J ⟨⟨_, J, J⟩, ⟨_, J, J⟩, ⟨_, J, J⟩, ⟨_, J, J⟩, trivial⟩ (.blk J J (.blk J J (.blk J J (.hp (.hp (.hp (.hp (.hp (.hp .nil)))))))))
  rintro ⟨⟨A41, c41⟩, A42, c42⟩ o42
  simp only at o42 ⊢
  refine Va J J ?_;refine S_add J J J J (by omega) ?_;refine Va J J ?_;refine S_next ?_;refine Va J J ?_;refine RT J J ?_;refine Va J J ?_;refine S_cut (α := (Option Addr × Nat) × Option Addr × Nat) (fun y => Off0 y.2.1) (fun y => [(1, b1), (2, b2), (3, b3)]) (fun y => [(4, .val (.int .i64 1)), (1, .ptr 1 0), (2, .ptr 2 0), (3, .ptr 3 0)])
    (fun y => [.blk 1 56 (vL [.slice Ap W.procs.length cp, .slice Ac [W.c0, W.c1, W.c2].length cc, .slice Ar [W.m0, W.m1].length cr, .slice (some ads) [W.q0, W.q1].length cs', .slice Ad W.said.length cd]), .blk 2 56 (vL [.slice none 0 0, .slice none 0 0, .slice none 0 0, .slice none 0 0, .slice none 0 0]),
      .blk 3 56 [.v (.slice none 0 0), .v (.slice A7 (0 + [W.c0, W.c1, W.c2].length) c7), .v (.slice A11 (0 + [W.m0, W.m1].length) c11), .v (.slice y.2.1 ((0 + 1) + 1) y.2.2), .v (.slice A15 (0 + W.said.length) c15)],
      .hp 7 (rowO w.heap.size 3 1 A7 (0 + [W.c0, W.c1, W.c2].length) c7 ([] ++ intC [W.c0, W.c1, W.c2])), .hp 11 (rowO w.heap.size 3 1 A11 (0 + [W.m0, W.m1].length) c11 ([] ++ intC [W.m0, W.m1])), .hp 15 (rowO w.heap.size 123 2 A15 (0 + W.said.length) c15 ([] ++ saidC W.said)),
      .hp 40 (rowO w.heap.size 24 1 y.2.1 ((0 + 1) + 1) y.2.2 (([] ++ [.slice A41 (0 + W.q0.length) c41]) ++ [.slice y.1.1 (0 + W.q1.length) y.1.2])), .hp 43 (rowO w.heap.size 3 1 y.1.1 (0 + W.q1.length) y.1.2 ([] ++ intC W.q1))] ++ [.hp 41 (rowO w.heap.size 3 1 A41 (0 + W.q0.length) c41 ([] ++ intC W.q0)), .hp 1 emptyHP]) (fun _ => G) ?_ ?_
  · refine Ds J J J ?_
    refine Da J J ?_
    repeat' (first
      | exact trivial
      | (refine D_list J ?_)
      | refine And.intro ?_ ?_
      | (refine N_turn Tk 2 J J J J fun back => ?_
         refine S_emptyO Tk 43 J J J J fun A29 => ?_;refine back _ _ _ _ (by kernel_rfl) ?_
         clear back
         refine Da J J ?_)
      | (refine N_turn Tk 6 J J J J fun back => ?_
         refine S_index Tk J J J J J J (by simp) (by simp) ?_;refine back _ _ _ _ (by kernel_rfl) ?_
         clear back
         refine Da J J ?_)
      | (refine N_turn Tk 7 J J J J fun back => ?_
         refine S_load Tk J J J J J (by simpa using hz1.1) ?_;refine back _ _ _ _ (by kernel_rfl) ?_
         clear back
         refine Da J J ?_)
      | (refine N_turn Tk 8 J J J J fun back => ?_
         refine S_appO Tk 43 J J J J J J J J J J J (fun _ _ => J) (src_G x11 x12) (intC1 _) (by simp only; omega) (by simp only [maxLen]; omega) (Nat.le_refl _) fun A29' c29 => ?_;refine back _ _ _ _ (by kernel_rfl) ?_
         clear back
         refine Da J J ?_)
      | (refine N_turn Tk 9 J J J J fun back => ?_
         refine S_slice Tk ZT_ok J J J J (by decide) (by decide) J J J J fun b36 => ?_;refine back _ _ _ _ (by kernel_rfl) ?_
         clear back
         refine Da J J ?_)
      | (refine N_turn Tk 10 J J J J fun back => ?_
         refine S_app1z Tk 40 36 J J J J J J J J J J J J J J (by intro u hu; simp at hu; rcases hu with rfl; rfl) rfl (fun _ _ => rfl) (by omega) (Nat.le_refl _) fun A40 c40 h40 => ?_;refine back _ _ _ _ (by kernel_rfl) ?_
         clear back
         refine Da J J ?_)
      | fail)
    all_goals (refine N_store Tk 12 rfl rfl rfl rfl rfl rfl rfl rfl (by kernel_rfl) ?_)
    all_goals refine D_adv Tk (by decide) rfl rfl ?_
    all_goals (refine DD ?_)
    all_goals refine S_adv Tk rfl 1000 rfl ?_
    all_goals (refine S_pick [1, 2, 3, 7, 11, 15, 40, 43, 41, 1] rfl ?_)
    all_goals exact S_meet ((_, _), _, _) (by rename_i h40; exact off_app' (by assumption) h40) J ⟨⟨_, J, J⟩, ⟨_, J, J⟩, ⟨_, J, J⟩, ⟨_, J, J⟩, trivial⟩ (.blk J J (.blk J J (.blk J J (.hp (.hp (.hp (.hp (.hp (.hp (.hp .nil))))))))))
  rintro ⟨⟨A43, c43⟩, A44, c44⟩ o44
  simp only at o44 ⊢
  refine Va J J ?_;refine S_add J J J J (by omega) ?_;refine Va J J ?_;refine S_next ?_;refine Va J J ?_;refine RF J J ?_;refine Va J J ?_;refine S_nilO (base := w.heap.size) (e := 101) (size := 5) 50 ?_;refine S_newE 51 ?_;refine S_loop (α := OC) (fun y => y.i ≤ W.procs.length ∧ y.q.length = y.i ∧ PH.ext w.heap.size G y.G ∧ QOk y.G (W.procs.take y.i) y.q ∧ Off0 y.A) (fun y => W.procs.length - y.i) [(1, b1), (2, b2), (3, b3)]
    (fun y => [(5, .val (.int .i64 (y.i : Nat))), (1, .ptr 1 0), (2, .ptr 2 0), (3, .ptr 3 0)])
    (fun y => [.hp 51 (regsZ w.heap.size y.q), .hp 50 (rowO w.heap.size 101 5 y.A y.q.length y.c (procZ y.q)),
      .blk 1 56 (vL [.slice Ap W.procs.length cp, .slice Ac [W.c0, W.c1, W.c2].length cc, .slice Ar [W.m0, W.m1].length cr, .slice (some ads) [W.q0, W.q1].length cs', .slice Ad W.said.length cd]), .blk 2 56 (vL [.slice none 0 0, .slice none 0 0, .slice none 0 0, .slice none 0 0, .slice none 0 0]),
      .blk 3 56 [.v (.slice y.A y.q.length y.c), .v (.slice A7 (0 + [W.c0, W.c1, W.c2].length) c7), .v (.slice A11 (0 + [W.m0, W.m1].length) c11), .v (.slice A44 (0 + 1 + 1) c44), .v (.slice A15 (0 + W.said.length) c15)],
      .hp 7 (rowO w.heap.size 3 1 A7 (0 + [W.c0, W.c1, W.c2].length) c7 ([] ++ intC [W.c0, W.c1, W.c2])), .hp 11 (rowO w.heap.size 3 1 A11 (0 + [W.m0, W.m1].length) c11 ([] ++ intC [W.m0, W.m1])), .hp 15 (rowO w.heap.size 123 2 A15 (0 + W.said.length) c15 ([] ++ saidC W.said)),
      .hp 40 (rowO w.heap.size 24 1 A44 (0 + 1 + 1) c44 ([] ++ [.slice A41 (0 + W.q0.length) c41] ++ [.slice A43 (0 + W.q1.length) c43])), .hp 43 (rowO w.heap.size 3 1 A43 (0 + W.q1.length) c43 ([] ++ intC W.q1)), .hp 41 (rowO w.heap.size 3 1 A41 (0 + W.q0.length) c41 ([] ++ intC W.q0)), .hp 1 emptyHP]) (fun y => y.G) ⟨0, none, 0, [], G⟩ ⟨Nat.zero_le _, rfl, PH.ext.refl _ _, ⟨rfl, by simp⟩, .inl rfl⟩ rfl ?_ ?_ ?_
  · exact ⟨⟨_, J, J⟩, ⟨_, J, J⟩, ⟨_, J, J⟩, ⟨_, J, J⟩, trivial⟩
  · exact .hp (.hp (.blk J J (.blk J J (.blk J J (.hp (.hp (.hp (.hp (.hp (.hp (.hp .nil)))))))))))
  rintro ⟨i, A5, c5, q, G1⟩ ⟨hi, hq, hext, hqd, hoff⟩
  simp only at hi hq hext hqd hoff ⊢
  refine Va J J ?_
  refine S_condp J (fun h5 => ?_) (fun h5 => ?_) <;> refine Va J J ?_
  · have hil : i < W.procs.length := by omega
    obtain ⟨ad, cs, rfl, hcs, vr1, vt1, rfl, hr1, ht1⟩ := Sr_at (Sr_mono hext.le (fun _ _ _ h => prcRep_le hext.le h) hpr) hil
    obtain ⟨Br, dr, rfl, y1, y2⟩ := intsU_cells hr1
    obtain ⟨Bt, dt, xt, rfl, hxl, hxg, hct⟩ := sts_cells ht1
    have htl := hT _ (List.getElem_mem hil)
    refine S_index Tk J J J J J J (by omega) (by omega) ?_;refine Va J J ?_;refine S_loadA Tk J J J J J (by simpa using hcs) ?_;refine Va J J ?_;refine AZ ZT_ok J J J J fun b6 => ?_;refine Va J J ?_;refine S_emptyOz Tk 52 J J J J fun A52 h52 => ?_;refine Va J J ?_;refine S_appOz Tk 52 J J J J J J J J J J J (fun _ _ => J) (src_G y1 y2) (intC1 _) (by simp) (by simp [maxLen]) (Nat.le_refl _) fun A53 c53 h53 => ?_
    refine Va J J ?_;refine S_emptyO Tk 56 J J J J fun A56 => ?_;refine Va J J ?_;refine S_appO Tk 56 J J J J J J J J J J J (fun _ _ => J) (src_G hxl hxg) (Cs_one Stm.rep_one hct) (by simp only; omega) (by simp only [maxLen]; omega) (Nat.le_refl _) fun A57 c57 => ?_;refine Va J J ?_;refine S_slice Tk ZT_ok J J J J (by decide) (by decide) J J J J fun b64 => ?_;refine Va J J ?_
    refine S_app1z Tk 50 64 J J J J J J J J J J J J J J (by intro u hu; simp at hu; rcases hu with rfl | rfl | rfl | rfl | rfl <;> rfl) rfl (fun _ _ => rfl) (by omega) (Nat.le_refl _) fun A6 c6 h6 => ?_
    refine Va J J ?_;refine S_add J J J J (by omega) ?_;refine Va J J ?_;refine S_freezeR 56 J J (Nat.le_refl _) fun G2 hext2 hnc hcm hcl => ?_
    have hv : Sts G2 W.procs[i].todo (.slice A57 (0 + W.procs[i].todo.length) c57) := frz (Cs_mono (Stm.reps_le hext2.le _) (by simpa using hct)) (by omega) (by omega) hnc hcm hcl
    refine S_pair 52 51 58 J J J J ?_;refine S_pick [58, 50, 1, 2, 3, 7, 11, 15, 40, 43, 41, 1] J ?_;refine S_again ⟨i + 1, A6, c6, q ++ [⟨A53, c53, .slice A57 (0 + W.procs[i].todo.length) c57, W.procs[i]⟩], G2⟩ ⟨by simp only; omega, by simp; omega, hext.trans hext2, ⟨?_, ?_⟩, off_app' hoff h6⟩ (by simp only; omega) rfl ⟨⟨_, rfl, by simp [denO]⟩, ⟨_, rfl, rfl⟩, ⟨_, rfl, rfl⟩, ⟨_, rfl, rfl⟩, trivial⟩ ?_
    · simp only
      rw [List.take_succ_eq_append_getElem hil, List.map_append, hqd.1]; rfl
    · intro x hx
      rcases List.mem_append.1 hx with hx | hx
      · exact (QOk_le hext2.le hqd).2 x hx
      · rw [List.mem_singleton.1 hx]; exact ⟨hv, off_app h52 h53⟩
    · simp only [regsZ_snoc, procZ_snoc, List.length_append, List.length_singleton]
      exact .hp (.hp (.blk J J (.blk J J (.blk J J (.hp (.hp (.hp (.hp (.hp (.hp (.hp .nil)))))))))))
  · have hin : i = W.procs.length := by omega
    subst hin
    rw [List.take_length] at hqd
    refine S_capO 50 J fun hnP hmP _ => ?_;refine S_someO 50 J (by (try simp at hnP); (try simp only); omega) fun gP oP eA => ?_;obtain rfl : oP = 0 := off0_eq (hoff) eA
    subst eA
    refine S_rowB 50 74 J J J fun spP => ?_;refine S_capO 7 J fun hnC hmC _ => ?_;refine S_someO 7 J (by (try simp at hnC); (try simp only); omega) fun gC oC eA => ?_;obtain rfl : oC = 0 := off0_eq (o7) eA
    subst eA
    refine S_rowB 7 71 J J J fun spC => ?_;refine S_capO 11 J fun hnR hmR _ => ?_;refine S_someO 11 J (by (try simp at hnR); (try simp only); omega) fun gR oR eA => ?_;obtain rfl : oR = 0 := off0_eq (o11) eA
    subst eA
    refine S_rowB 11 72 J J J fun spR => ?_;refine S_capO 40 J fun hnS hmS _ => ?_;refine S_someO 40 J (by (try simp at hnS); (try simp only); omega) fun gS oS eA => ?_;obtain rfl : oS = 0 := off0_eq (o44) eA
    subst eA
    refine S_rowB 40 73 J J J fun spS => ?_;refine S_base0 15 J J ?_;refine S_base0 41 J J ?_;refine S_base0 43 J J ?_;obtain ⟨hqd1, hqd2⟩ := hqd
    obtain ⟨ps, w1, w2, w3, w4, w5, w6, w7, w8⟩ := W
    simp only at hq hqd1 hn hnP
    subst hqd1
    rcases (by rw [List.length_map] at hn; omega : q.length = 1 ∨ q.length = 2 ∨ q.length = 3) with h1 | h1 | h1
    · obtain ⟨⟨Aa, ca, ta, pa⟩, rfl⟩ := len1 h1
      refine S_unpair 51 500 600 J J ?_;refine S_capO 500 J fun hna hma _ => ?_;refine S_someO 500 J (by (try simp at hna); (try simp only); omega) fun ga oa eA => ?_;obtain rfl : oa = 0 := off0_eq ((hqd2 ⟨Aa, ca, ta, pa⟩ (by simp)).2) eA
      subst eA
      refine S_rowB 500 60 J J J fun spa => ?_
      simp only at hna hma
      exact RK [74, 71, 72, 73, 15, 41, 43, 60] (Res.c1 Tk Tryz.results85 J J) ⟨_, [ta], J, J, ⟨(hqd2 _ (List.mem_cons_self ..)).1, trivial⟩⟩ ⟨gP, gC, gR, gS, [ga], ⟨c5, spP, A15, c15, A41, c41, A43, c43, c7, spC, c11, spR, c44, spS, kg3 ca 3 3, sp3 spa [] []⟩, ⟨0 + w8.length, [] ++ saidC w8, 0 + w6.length, [] ++ intC w6, 0 + w7.length, [] ++ intC w7⟩, J, ⟨⟨by simpa using hnP, hmP⟩, ⟨by simpa using hnC, hmC⟩, ⟨by simpa using hnR, hmR⟩, ⟨by simpa using hnS, hmS⟩, kg3_ok ⟨by simpa using hna, hma⟩ ⟨by decide, by decide⟩ ⟨by decide, by decide⟩⟩, ⟨⟨by simp, by simp⟩, ⟨by simp, by simp⟩, by simp, by simp⟩, J, J, J⟩ J (Wsub 5 J J J J J J J J J J J J J J J J (Bs 3 J J J J .nil)) hext
    · obtain ⟨⟨Aa, ca, ta, pa⟩, ⟨Ab, cb, tb, pb⟩, rfl⟩ := len2 h1
      refine S_unpair 51 501 601 J J ?_;refine S_capO 501 J fun hnb hmb _ => ?_;refine S_someO 501 J (by (try simp at hnb); (try simp only); omega) fun gb ob eA => ?_;obtain rfl : ob = 0 := off0_eq ((hqd2 ⟨Ab, cb, tb, pb⟩ (by simp)).2) eA
      subst eA
      refine S_rowB 501 61 J J J fun spb => ?_
      simp only at hnb hmb
      refine S_unpair 601 500 600 J J ?_;refine S_capO 500 J fun hna hma _ => ?_;refine S_someO 500 J (by (try simp at hna); (try simp only); omega) fun ga oa eA => ?_;obtain rfl : oa = 0 := off0_eq ((hqd2 ⟨Aa, ca, ta, pa⟩ (by simp)).2) eA
      subst eA
      refine S_rowB 500 60 J J J fun spa => ?_
      simp only at hna hma
      exact RK [74, 71, 72, 73, 15, 41, 43, 60, 61] (Res.c1 Tk Tryz.results85 J J) ⟨_, [ta, tb], J, J, ⟨(hqd2 _ (List.mem_cons_self ..)).1, ⟨(hqd2 _ (List.mem_cons_of_mem _ (List.mem_cons_self ..))).1, trivial⟩⟩⟩ ⟨gP, gC, gR, gS, [ga, gb], ⟨c5, spP, A15, c15, A41, c41, A43, c43, c7, spC, c11, spR, c44, spS, kg3 ca cb 3, sp3 spa spb []⟩, ⟨0 + w8.length, [] ++ saidC w8, 0 + w6.length, [] ++ intC w6, 0 + w7.length, [] ++ intC w7⟩, J, ⟨⟨by simpa using hnP, hmP⟩, ⟨by simpa using hnC, hmC⟩, ⟨by simpa using hnR, hmR⟩, ⟨by simpa using hnS, hmS⟩, kg3_ok ⟨by simpa using hna, hma⟩ ⟨by simpa using hnb, hmb⟩ ⟨by decide, by decide⟩⟩, ⟨⟨by simp, by simp⟩, ⟨by simp, by simp⟩, by simp, by simp⟩, J, J, J⟩ J (Wsub 10 J J J J J J J J J J J J J J J J (Bs 3 J J J J (Bs 3 J J J J .nil))) hext
    · obtain ⟨⟨Aa, ca, ta, pa⟩, ⟨Ab, cb, tb, pb⟩, ⟨Ad, cd, td, pd⟩, rfl⟩ := len3 h1
      refine S_unpair 51 502 602 J J ?_;refine S_capO 502 J fun hnd hmd _ => ?_;refine S_someO 502 J (by (try simp at hnd); (try simp only); omega) fun gd od eA => ?_;obtain rfl : od = 0 := off0_eq ((hqd2 ⟨Ad, cd, td, pd⟩ (by simp)).2) eA
      subst eA
      refine S_rowB 502 62 J J J fun spd => ?_
      simp only at hnd hmd
      refine S_unpair 602 501 601 J J ?_;refine S_capO 501 J fun hnb hmb _ => ?_;refine S_someO 501 J (by (try simp at hnb); (try simp only); omega) fun gb ob eA => ?_;obtain rfl : ob = 0 := off0_eq ((hqd2 ⟨Ab, cb, tb, pb⟩ (by simp)).2) eA
      subst eA
      refine S_rowB 501 61 J J J fun spb => ?_
      simp only at hnb hmb
      refine S_unpair 601 500 600 J J ?_;refine S_capO 500 J fun hna hma _ => ?_;refine S_someO 500 J (by (try simp at hna); (try simp only); omega) fun ga oa eA => ?_;obtain rfl : oa = 0 := off0_eq ((hqd2 ⟨Aa, ca, ta, pa⟩ (by simp)).2) eA
      subst eA
      refine S_rowB 500 60 J J J fun spa => ?_
      simp only at hna hma
      exact RK [74, 71, 72, 73, 15, 41, 43, 60, 61, 62] (Res.c1 Tk Tryz.results85 J J) ⟨_, [ta, tb, td], J, J, ⟨(hqd2 _ (List.mem_cons_self ..)).1, ⟨(hqd2 _ (List.mem_cons_of_mem _ (List.mem_cons_self ..))).1, ⟨(hqd2 _ (List.mem_cons_of_mem _ (List.mem_cons_of_mem _ (List.mem_cons_self ..)))).1, trivial⟩⟩⟩⟩ ⟨gP, gC, gR, gS, [ga, gb, gd], ⟨c5, spP, A15, c15, A41, c41, A43, c43, c7, spC, c11, spR, c44, spS, kg3 ca cb cd, sp3 spa spb spd⟩, ⟨0 + w8.length, [] ++ saidC w8, 0 + w6.length, [] ++ intC w6, 0 + w7.length, [] ++ intC w7⟩, J, ⟨⟨by simpa using hnP, hmP⟩, ⟨by simpa using hnC, hmC⟩, ⟨by simpa using hnR, hmR⟩, ⟨by simpa using hnS, hmS⟩, kg3_ok ⟨by simpa using hna, hma⟩ ⟨by simpa using hnb, hmb⟩ ⟨by simpa using hnd, hmd⟩⟩, ⟨⟨by simp, by simp⟩, ⟨by simp, by simp⟩, by simp, by simp⟩, J, J, J⟩ J (Wsub 15 J J J J J J J J J J J J J J J J (Bs 3 J J J J (Bs 3 J J J J (Bs 3 J J J J .nil)))) hext
end
section
attribute [local irreducible] X Pure Mod
def outP (p : Prc) : Prc := { p with todo := cpL p.todo 4 }
def Wld.out (W : Wld) : Wld := { W with procs := W.procs.map outP }
structure Fin3 (W : Wld) : Prop where
 n1 : 1 ≤ W.procs.length
 n3 : W.procs.length ≤ 3
 sd : W.said.length ≤ 1000000
 q0 : W.q0.length ≤ 1000000
 q1 : W.q1.length ≤ 1000000
 td : ∀ p ∈ W.procs, p.todo.length ≤ 1000000
theorem c_l3Out (W : Wld) (v : Value) (G : PH) (hW : WG G W v) (hF : Fin3 W) : Mod Tryz.prog 74 [v] G emptyHP (NPost W.out) := by
 have hW0 := hW
 obtain ⟨vp, vc, vr, vs, vd, rfl, hpr, hce, hro, hsg, hsd⟩ := hW
 obtain ⟨Ap, cp, rfl, _⟩ := id hpr
 obtain ⟨ps, w1, w2, w3, w4, w5, w6, w7, w8⟩ := W
 have hn1 := hF.n1
 have hn3 := hF.n3
 simp only at hn1 hn3 hpr hsg hsd
 refine Mod.intro Tryz.func74 Tryz.ntmps74 J J fun w S => ?_;refine Va J J ?_;refine S_box J J J J J fun b1 => ?_;refine Va J J ?_;refine AZ ZT_ok J J J J fun b2 => ?_;refine Va J J ?_;refine RF J (by simp; intro h; simp [h] at hn1) ?_;refine Va J J ?_;refine S_callN 20 Tryz.call85 (c_l3Copy _ _ G hW0 ⟨hn1, hn3⟩ ⟨hF.sd, hF.q0, hF.q1⟩ hF.td) J J J ?_;rintro v1 G1 A1 ⟨cs, ts, rfl, rfl, htd⟩ hext1
 refine S_newHP 20 J J ?_;refine S_csV 20 J ?_;rintro bp bc br bs kp asd ksd kc kr ks rfl
 refine Va J J ?_;refine AZ ZT_ok J J J J fun b3 => ?_;refine Va J J ?_;refine S_V2P 3 20 21 J J J J J J ?_;refine S_reE 3 (.val (.pointer (some ⟨b3, 0, none⟩))) J J ?_
 rcases shape hn1 hn3 htd with ⟨p0, A0, c0, rfl, rfl, s0⟩ | ⟨p0, A0, c0, p1, A1, c1, rfl, rfl, s0, s1⟩ | ⟨p0, A0, c0, p1, A1, c1, p2, A2, c2, rfl, rfl, s0, s1, s2⟩
 ·refine OpP 21 3 J J J J fun bp bc br bs bg kp sp asd ksd aq0 kq0 aq1 kq1 kc spc kr spr ks sps kg spg hbg hmk => ?_; obtain ⟨g0, rfl⟩ := len1 hbg; clear hbg; refine NM J J ?_; dsimp only [wEnts, wCels, procCs, regEs, WX.of, vi]
  refine S_unroll 1 ?_;refine Va J J ?_;refine RT J J ?_;refine Va J J ?_;refine Ds J J J ?_;refine Da J J ?_;refine D_sole 9 J J (N_call 9 Tryz.call86 (Cp_all _ 4 _ _ s0 (by omega)) J J J J J J J J J J ?_)
  rintro v9 G9 hv0 hx0
  obtain ⟨A9, c9, rfl, _⟩ := id hv0
  refine Da J J ?_;refine Ns 12 J J J J J J J J J ?_;refine DD ?_;refine Va J J ?_;refine S_add J J J J (by omega) ?_;refine Va J J ?_;refine S_next ?_;refine Va J J ?_;refine RF J J ?_;refine Va J J ?_;exact RK (wKeys 1) (Res.c1 Tk Tryz.results74 J J) ⟨_, [_], J, J, hv0, trivial⟩ (Wvp [_] kg spg J ‹_› J J J J J J J J J) J (Wsub 5 J J J J J J J J J J J J J J J J (Bs 3 J J J J .nil)) (hext1.trans hx0)
 ·refine OpP 21 3 J J J J fun bp bc br bs bg kp sp asd ksd aq0 kq0 aq1 kq1 kc spc kr spr ks sps kg spg hbg hmk => ?_; obtain ⟨g0, g1, rfl⟩ := len2 hbg; clear hbg; refine NM J J ?_; dsimp only [wEnts, wCels, procCs, regEs, WX.of, vi]
  refine S_unroll 2 ?_;refine Va J J ?_;refine RT J J ?_;refine Va J J ?_;refine Ds J J J ?_;refine Da J J ?_;refine D_sole 9 J J (N_call 9 Tryz.call86 (Cp_all _ 4 _ _ s0 (by omega)) J J J J J J J J J J ?_)
  rintro v9 G9 hv0 hx0
  obtain ⟨A9, c9, rfl, _⟩ := id hv0
  refine Da J J ?_;refine Ns 12 J J J J J J J J J ?_;refine DD ?_;refine Va J J ?_;refine S_add J J J J (by omega) ?_;refine Va J J ?_;refine S_next ?_;refine Va J J ?_;refine RT J J ?_;refine Va J J ?_;refine Ds J J J ?_;refine Da J J ?_;refine D_sole 9 J J (N_call 9 Tryz.call86 (Cp_all _ 4 _ _ (Sts_le hx0.le s1) (by omega)) J J J J J J J J J J ?_)
  rintro v9 G10 hv1 hx1
  obtain ⟨A9, c9, rfl, _⟩ := id hv1
  refine Da J J ?_;refine Ns 12 J J J J J J J J J ?_;refine DD ?_;refine Va J J ?_;refine S_add J J J J (by omega) ?_;refine Va J J ?_;refine S_next ?_;refine Va J J ?_;refine RF J J ?_;refine Va J J ?_;exact RK (wKeys 2) (Res.c1 Tk Tryz.results74 J J) ⟨_, [_, _], J, J, Sts_le hx1.le hv0, hv1, trivial⟩ (Wvp [_, _] kg spg J ‹_› J J J J J J J J J) J (Wsub 10 J J J J J J J J J J J J J J J J (Bs 3 J J J J (Bs 3 J J J J .nil))) ((hext1.trans hx0).trans hx1)
 ·refine OpP 21 3 J J J J fun bp bc br bs bg kp sp asd ksd aq0 kq0 aq1 kq1 kc spc kr spr ks sps kg spg hbg hmk => ?_; obtain ⟨g0, g1, g2, rfl⟩ := len3 hbg; clear hbg; refine NM J J ?_; dsimp only [wEnts, wCels, procCs, regEs, WX.of, vi]
  refine S_unroll 3 ?_;refine Va J J ?_;refine RT J J ?_;refine Va J J ?_;refine Ds J J J ?_;refine Da J J ?_;refine D_sole 9 J J (N_call 9 Tryz.call86 (Cp_all _ 4 _ _ s0 (by omega)) J J J J J J J J J J ?_)
  rintro v9 G9 hv0 hx0
  obtain ⟨A9, c9, rfl, _⟩ := id hv0
  refine Da J J ?_;refine Ns 12 J J J J J J J J J ?_;refine DD ?_;refine Va J J ?_;refine S_add J J J J (by omega) ?_;refine Va J J ?_;refine S_next ?_;refine Va J J ?_;refine RT J J ?_;refine Va J J ?_;refine Ds J J J ?_;refine Da J J ?_;refine D_sole 9 J J (N_call 9 Tryz.call86 (Cp_all _ 4 _ _ (Sts_le hx0.le s1) (by omega)) J J J J J J J J J J ?_)
  rintro v9 G10 hv1 hx1
  obtain ⟨A9, c9, rfl, _⟩ := id hv1
  refine Da J J ?_;refine Ns 12 J J J J J J J J J ?_;refine DD ?_;refine Va J J ?_;refine S_add J J J J (by omega) ?_;refine Va J J ?_;refine S_next ?_;refine Va J J ?_;refine RT J J ?_;refine Va J J ?_;refine Ds J J J ?_;refine Da J J ?_;refine D_sole 9 J J (N_call 9 Tryz.call86 (Cp_all _ 4 _ _ (Sts_le (hx0.le.trans hx1.le) s2) (by omega)) J J J J J J J J J J ?_)
  rintro v9 G11 hv2 hx2
  obtain ⟨A9, c9, rfl, _⟩ := id hv2
  refine Da J J ?_;refine Ns 12 J J J J J J J J J ?_;refine DD ?_;refine Va J J ?_;refine S_add J J J J (by omega) ?_;refine Va J J ?_;refine S_next ?_;refine Va J J ?_;refine RF J J ?_;refine Va J J ?_;exact RK (wKeys 3) (Res.c1 Tk Tryz.results74 J J) ⟨_, [_, _, _], J, J, Sts_le (hx1.le.trans hx2.le) hv0, Sts_le hx2.le hv1, hv2, trivial⟩ (Wvp [_, _, _] kg spg J ‹_› J J J J J J J J J) J (Wsub 15 J J J J J J J J J J J J J J J J (Bs 3 J J J J (Bs 3 J J J J (Bs 3 J J J J .nil)))) (((hext1.trans hx0).trans hx1).trans hx2)
theorem c_l3OutZ (G : PH) : Mod Tryz.prog 74 [wZero] G emptyHP fun v G' A' => v = wZero ∧ A' = emptyHP ∧ G' = G := by
 refine Mod.intro Tryz.func74 Tryz.ntmps74 J J fun w S => ?_;refine Va J J ?_;refine S_box J J J J J fun b1 => ?_;refine Va J J ?_;refine AZ ZT_ok J J J J fun b2 => ?_;refine Va J J ?_;refine RT J J ?_;refine Va J J ?_;exact S_retm 1 (Res.c1 Tk Tryz.results74 J J) J XR ⟨J, J, J⟩
end
end Go.Proofs.YtphbcboejmhaoaaGreat
