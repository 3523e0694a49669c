/- Walks of the program's functions, one after the other (part 7); without conditions of their own. -/
import Derived.Test.YtcbdilccmjpnbaaGreatDoorWM3
import Derived.Test.YtcbdilccmjpnbaaGreatDoorWM4
import Derived.Test.YtcbdilccmjpnbaaGreatDoorWM6
import Derived.Test.YtcbdilccmjpnbaaGreatDoorWM2
set_option linter.unusedVariables false
set_option linter.unusedSimpArgs false
set_option maxRecDepth 100000
set_option maxHeartbeats 4000000
open Go.RowKit
namespace Go.Proofs.YtcbdilccmjpnbaaGreatDoor
section
attribute [local irreducible] X Pure Mod
theorem updL_updL {α : Type} {f g : α → α} : ∀ (l : List α) (i : Nat), updL f i (updL g i l) = updL (fun x => f (g x)) i l
 | [], i => by cases i <;> rfl
 | x :: l, 0 => rfl
 | x :: l, i + 1 => by simp [updL, updL_updL l i]
theorem updL_congr {α : Type} {f g : α → α} : ∀ (l : List α) (i : Nat), (∀ x, l[i]? = some x → f x = g x) → updL f i l = updL g i l
 | [], i, _ => by cases i <;> rfl
 | x :: l, 0, h => by simp [updL, h x rfl]
 | x :: l, i + 1, h => by simp only [updL]; rw [updL_congr l i (fun y hy => h y (by simpa using hy))]
theorem updL_get {α : Type} {f : α → α} : ∀ (l : List α) (i : Nat), (updL f i l)[i]? = l[i]?.map f
 | [], i => by cases i <;> rfl
 | x :: l, 0 => rfl
 | x :: l, i + 1 => by simp [updL, updL_get l i]
theorem goes_eq {W : Wld} {who : Nat} {p : Prc} {s : Stm} {r : List Stm} (hp : W.procs[who]? = some p) (hm : p.mode ≠ 2) (ht : p.todo = s :: r) (hk : s.kind = 6 ∨ s.kind = 7) :
  W.upd who (fun p => { p with todo := goesL W who s ++ r }) = W.step who := by
 rw [step_eq hp hm ht]
 have hreg : ∀ k, (W.upd who pop).reg who k = W.reg who k := by
  intro k
  unfold Wld.reg
  rw [show (W.upd who pop).procs[who]? = W.procs[who]?.map pop from updL_get _ _, hp]
  rfl
 have key : ∀ (L : List Stm), L = goesL W who s → W.upd who (fun p => { p with todo := goesL W who s ++ r }) = (W.upd who pop).upd who (fun p => { p with todo := L ++ p.todo }) := by
  intro L hL
  subst hL
  show Wld.mk _ _ _ _ _ _ _ _ _ = Wld.mk _ _ _ _ _ _ _ _ _
  rw [Wld.mk.injEq]
  refine ⟨?_, J, J, J, J, J, J, J, J⟩
  show updL _ _ _ = updL _ _ (updL _ _ _)
  rw [updL_updL]
  refine updL_congr _ _ fun x hx => ?_
  rw [hp] at hx
  cases hx
  simp [pop, ht]
 rcases hk with hk | hk
 ·rw [show (W.upd who pop).stepS who s = (W.upd who pop).upd who (fun p => { p with todo := (if (W.upd who pop).reg who s.a = 0 then s.els else s.body) ++ p.todo }) by simp [Wld.stepS, hk]]
  exact key _ (by rw [hreg]; simp [goesL, hk])
 ·rw [show (W.upd who pop).stepS who s = (W.upd who pop).upd who (fun p => { p with todo := (if (W.upd who pop).reg who s.a = 0 then [] else s.body ++ [s]) ++ p.todo }) by simp [Wld.stepS, hk]]
  exact key _ (by rw [hreg]; simp [goesL, hk])
theorem em2 {p q r : Prop} (h : (p → q) ∧ (¬ p → r)) : (p ∧ q) ∨ (¬ p ∧ r) := by
 by_cases hp : p
 ·exact .inl ⟨hp, h.1 hp⟩
 ·exact .inr ⟨hp, h.2 hp⟩
theorem leaf_eq (W : Wld) (who : Nat) (s : Stm) (h6 : s.kind ≠ 6) (h7 : s.kind ≠ 7) (h8 : s.kind ≠ 8) (h9 : s.kind ≠ 9) (h10 : s.kind ≠ 10) (h12 : s.kind ≠ 12) : W.leaf who s = W.stepS who s := by
 simp [Wld.leaf, Wld.stepS, h6, h7, h8, h9, h10, h12]
theorem c_l3Step (W : Wld) (who : Nat) (cs : List Value) (ts : List Value) (G : PH) (hr : Rdy W) (ht : Tds G W.procs ts) (hw : who < W.procs.length) (hc : ∀ p, W.procs[who]? = some p → (p.mode = 2 → is2 p.room) ∧ (p.mode ≠ 2 → ∃ s r, p.todo = s :: r ∧ SOk s p.room)) :
  Mod Tryz.prog 46 [.agg cs.toArray, .int .i64 (who : Nat)] G (worldV cs W ts) (VPost (W.step who)) := by
 have hste : ∀ p s r, W.procs[who]? = some p → p.mode ≠ 2 → p.todo = s :: r → W.step who = (W.upd who pop).stepS who s := fun p s r h1 h2 h3 => step_eq h1 h2 h3
 have hgoe : ∀ p s r, W.procs[who]? = some p → p.mode ≠ 2 → p.todo = s :: r → (s.kind = 6 ∨ s.kind = 7) → W.upd who (fun p => { p with todo := goesL W who s ++ r }) = W.step who := fun p s r h1 h2 h3 h4 => goes_eq h1 h2 h3 h4
 refine Mod.intro Tryz.func46 Tryz.ntmps46 J J fun w S => ?_
 have h1 := hr.n1
 have h3 := hr.n3
 have hq0 := hr.q0
 have hq1 := hr.q1
 have hf0 := hr.f0
 have hf1 := hr.f1
 have hsd := hr.sd
 obtain ⟨ps, x0, x1, x2, m0, m1, q0, q1, sd⟩ := W
 rcases shape hr.n1 hr.n3 ht with ⟨⟨a0, a1, a2, td0, mo0, on0, ro0⟩, A0, k0, rfl, rfl, s0⟩ | ⟨⟨a0, a1, a2, td0, mo0, on0, ro0⟩, A0, k0, ⟨b0, b1, b2, td1, mo1, on1, ro1⟩, A1, k1, rfl, rfl, s0, s1⟩ | ⟨⟨a0, a1, a2, td0, mo0, on0, ro0⟩, A0, k0, ⟨b0, b1, b2, td1, mo1, on1, ro1⟩, A1, k1, ⟨d0, d1, d2, td2, mo2, on2, ro2⟩, A2, k2, rfl, rfl, s0, s1, s2⟩
 obtain rfl : who = 0 := by simpa using hw
 rotate_left
 rcases (by simp at hw; omega : who = 0 ∨ who = 1) with rfl | rfl
 rotate_left 2
 rcases (by simp at hw; omega : who = 0 ∨ who = 1 ∨ who = 2) with rfl | rfl | rfl
 all_goals
  have hc' := hc _ rfl
  simp only at hc'
  rcases em2 hc' with ⟨hm, hro⟩ | ⟨hm, s, r, htd, hs⟩
  ·subst hm
   refine OvV 1 0 J J J J fun bp bc br bs bg kp sp asd ksd aq0 kq0 aq1 kq1 kc spc kr spr ks sps kg spg hbg hmk hce => ?_; subst hce; (first | obtain ⟨g0, rfl⟩ := len1 hbg | obtain ⟨g0, g1, rfl⟩ := len2 hbg | obtain ⟨g0, g1, g2, rfl⟩ := len3 hbg); clear hbg; refine NM J J ?_; dsimp only [wEnts, wCels, procCs, regEs, WX.of, vi]
   refine Va J J ?_;refine S_box J J J J J fun b2 => ?_;refine Va J J ?_;refine AZ ZT_ok J J J J fun b4 => ?_;refine Va J J ?_;refine AZ ZT_ok J J J J fun b5 => ?_;refine Va J J ?_
   rcases hro with rfl | rfl <;>
   ·refine RT J J ?_
    refine Va J J ?_;refine S_add J J J J (by omega) ?_;refine Va J J ?_
    first | (exact RK (wKeys 1) (Res.c1 Tk Tryz.results46 J J) ⟨_, [_], J, J, ht⟩ (Wvp [_] kg spg J ‹_› J J J J J J J J J) J (Wsub 5 J J J J J J J J J J J J J J J J (Bs 3 J J J J .nil)) XR) | (exact RK (wKeys 2) (Res.c1 Tk Tryz.results46 J J) ⟨_, [_,_], J, J, ht⟩ (Wvp [_, _] kg spg J ‹_› J J J J J J J J J) J (Wsub 10 J J J J J J J J J J J J J J J J (Bs 3 J J J J (Bs 3 J J J J .nil))) XR) | (exact RK (wKeys 3) (Res.c1 Tk Tryz.results46 J J) ⟨_, [_,_,_], J, J, ht⟩ (Wvp [_, _, _] kg spg J ‹_› J J J J J J J J J) J (Wsub 15 J J J J J J J J J J J J J J J J (Bs 3 J J J J (Bs 3 J J J J (Bs 3 J J J J .nil)))) XR)
  ·subst htd
   have hst := hste _ s r rfl hm rfl
   have hgo := fun hk => hgoe _ s r rfl hm rfl hk
   first | (obtain ⟨ad, vx, vy, rfl, hcs, hx, hy, i1, i2, i3, i4⟩ := Sts_head s0) | (obtain ⟨ad, vx, vy, rfl, hcs, hx, hy, i1, i2, i3, i4⟩ := Sts_head s1) | (obtain ⟨ad, vx, vy, rfl, hcs, hx, hy, i1, i2, i3, i4⟩ := Sts_head s2)
   obtain ⟨kk, a, bb, n, x, y⟩ := s
   simp only [Stm.kind, Stm.a, Stm.b, Stm.n, Stm.body, Stm.els] at hcs hx hy i1 i2 i3 i4
   have hrl : r.length ≤ 1000000 := by
    have := hr.tl _ (List.getElem_mem hw)
    simp at this
    omega
   first | (have htail := Sts_tail s0) | (have htail := Sts_tail s1) | (have htail := Sts_tail s2)
   obtain ⟨Ax, cx, rfl, _⟩ := id hx
   obtain ⟨Ay, cy, rfl, _⟩ := id hy
   obtain ⟨xs, hxs, hcx⟩ := Sr_Sx (fun s cs h => Stm.rep_len h) htail
   obtain ⟨_, _, heq, hn1, hnc1, hcm1, hlen1, hrow1⟩ := hxs
   cases heq
   refine OvV 1 0 J J J J fun bp bc br bs bg kp sp asd ksd aq0 kq0 aq1 kq1 kc spc kr spr ks sps kg spg hbg hmk hce => ?_; subst hce; (first | obtain ⟨g0, rfl⟩ := len1 hbg | obtain ⟨g0, g1, rfl⟩ := len2 hbg | obtain ⟨g0, g1, g2, rfl⟩ := len3 hbg); clear hbg; refine NM J J ?_; dsimp only [wEnts, wCels, procCs, regEs, WX.of, vi]
   refine Va J J ?_;refine S_box J J J J J fun b2 => ?_;refine Va J J ?_;refine AZ ZT_ok J J J J fun b4 => ?_;refine Va J J ?_;refine AZ ZT_ok J J J J fun b5 => ?_;refine Va J J ?_;refine RF J (by simp [hm]) ?_;refine Va J J ?_
   refine S_index Tk J J J J J J (by omega) (by simp <;> omega) ?_
   refine S_loadA Tk J J J J J (by simpa [add_zero'] using hcs) ?_;refine Va J J ?_;refine AZ ZT_ok J J J J fun b6 => ?_;refine Va J J ?_;refine S_emptyO Tk 33 J J J J fun A33 => ?_;refine Va J J ?_;refine S_valV J J J (V_slice1 Tk J J J) ?_;refine Va J J ?_;refine S_appO Tk 33 J J J J J J J J J J J (fun _ _ => J) (src_G hlen1 hrow1) (Cs_one Stm.rep_one hcx) (by simp only; omega) (by simp only [maxLen]; omega) (Nat.le_refl _) fun A1' c1' => ?_
   rw [Nat.zero_add r.length]
   refine Va J J ?_;refine S_freezeR 33 J J (Nat.le_refl _) fun G1 hext1 hnc' hcm' hcl => ?_
   have hle1 := hext1.le
   have hr1 : Sts G1 r (.slice A1' r.length c1') := Sx_Sr (Sx_le (newp_le _ _) ⟨A1', c1', rfl, hn1, by simpa using hnc', hcm', hlen1, by simpa using hcl⟩) rfl (Cs_mono (Stm.reps_le hle1 r) hcx)
   refine Va J J ?_
   by_cases e6 : kk = 6
   ·subst e6
    refine RT J J ?_;refine Va J J ?_;refine RT J J ?_;refine Va J J ?_
    first | (refine S_callPk 9 (wKeys 1) Tryz.call73 (c_l3Goes ⟨_, _, _, _, _, _, _, _, _⟩ 0 _ _ G1 h1 h3 (Tds_le hle1 ht) hw 6 a bb n x y r _ _ _ (Sts_le hle1 hx) (Sts_le hle1 hy) hr1 ⟨i1, i2, i3, i4⟩ (hs.r6 (by simp [Stm.kind])).2.1 (hs.r6 (by simp [Stm.kind])).2.2 hrl (hs.r6 (by simp [Stm.kind])).1 (by simp)) (Wvp [_] kg spg J ‹_› J J J J J J J J J) J (Wsub 5 J J J J J J J J J J J J J J J J (Bs 3 J J J J .nil)) J J J ?_) | (refine S_callPk 9 (wKeys 2) Tryz.call73 (c_l3Goes ⟨_, _, _, _, _, _, _, _, _⟩ 0 _ _ G1 h1 h3 (Tds_le hle1 ht) hw 6 a bb n x y r _ _ _ (Sts_le hle1 hx) (Sts_le hle1 hy) hr1 ⟨i1, i2, i3, i4⟩ (hs.r6 (by simp [Stm.kind])).2.1 (hs.r6 (by simp [Stm.kind])).2.2 hrl (hs.r6 (by simp [Stm.kind])).1 (by simp)) (Wvp [_, _] kg spg J ‹_› J J J J J J J J J) J (Wsub 10 J J J J J J J J J J J J J J J J (Bs 3 J J J J (Bs 3 J J J J .nil))) J J J ?_) | (refine S_callPk 9 (wKeys 2) Tryz.call73 (c_l3Goes ⟨_, _, _, _, _, _, _, _, _⟩ 1 _ _ G1 h1 h3 (Tds_le hle1 ht) hw 6 a bb n x y r _ _ _ (Sts_le hle1 hx) (Sts_le hle1 hy) hr1 ⟨i1, i2, i3, i4⟩ (hs.r6 (by simp [Stm.kind])).2.1 (hs.r6 (by simp [Stm.kind])).2.2 hrl (hs.r6 (by simp [Stm.kind])).1 (by simp)) (Wvp [_, _] kg spg J ‹_› J J J J J J J J J) J (Wsub 10 J J J J J J J J J J J J J J J J (Bs 3 J J J J (Bs 3 J J J J .nil))) J J J ?_) | (refine S_callPk 9 (wKeys 3) Tryz.call73 (c_l3Goes ⟨_, _, _, _, _, _, _, _, _⟩ 0 _ _ G1 h1 h3 (Tds_le hle1 ht) hw 6 a bb n x y r _ _ _ (Sts_le hle1 hx) (Sts_le hle1 hy) hr1 ⟨i1, i2, i3, i4⟩ (hs.r6 (by simp [Stm.kind])).2.1 (hs.r6 (by simp [Stm.kind])).2.2 hrl (hs.r6 (by simp [Stm.kind])).1 (by simp)) (Wvp [_, _, _] kg spg J ‹_› J J J J J J J J J) J (Wsub 15 J J J J J J J J J J J J J J J J (Bs 3 J J J J (Bs 3 J J J J (Bs 3 J J J J .nil)))) J J J ?_) | (refine S_callPk 9 (wKeys 3) Tryz.call73 (c_l3Goes ⟨_, _, _, _, _, _, _, _, _⟩ 1 _ _ G1 h1 h3 (Tds_le hle1 ht) hw 6 a bb n x y r _ _ _ (Sts_le hle1 hx) (Sts_le hle1 hy) hr1 ⟨i1, i2, i3, i4⟩ (hs.r6 (by simp [Stm.kind])).2.1 (hs.r6 (by simp [Stm.kind])).2.2 hrl (hs.r6 (by simp [Stm.kind])).1 (by simp)) (Wvp [_, _, _] kg spg J ‹_› J J J J J J J J J) J (Wsub 15 J J J J J J J J J J J J J J J J (Bs 3 J J J J (Bs 3 J J J J (Bs 3 J J J J .nil)))) J J J ?_) | (refine S_callPk 9 (wKeys 3) Tryz.call73 (c_l3Goes ⟨_, _, _, _, _, _, _, _, _⟩ 2 _ _ G1 h1 h3 (Tds_le hle1 ht) hw 6 a bb n x y r _ _ _ (Sts_le hle1 hx) (Sts_le hle1 hy) hr1 ⟨i1, i2, i3, i4⟩ (hs.r6 (by simp [Stm.kind])).2.1 (hs.r6 (by simp [Stm.kind])).2.2 hrl (hs.r6 (by simp [Stm.kind])).1 (by simp)) (Wvp [_, _, _] kg spg J ‹_› J J J J J J J J J) J (Wsub 15 J J J J J J J J J J J J J J J J (Bs 3 J J J J (Bs 3 J J J J (Bs 3 J J J J .nil)))) J J J ?_)
    rintro v G2 A' ⟨cs', ts', rfl, rfl, ht'⟩ hext
    refine S_csV 9 J ?_;rintro bp bc br bs kp asd ksd kc kr ks rfl
    refine Va J J ?_;exact S_retm 9 (Res.c1 Tk Tryz.results46 J J) J (hext1.trans hext) ⟨_, _, J, by rw [← hgo (by simp [Stm.kind])], by rw [← hgo (by simp [Stm.kind])]; exact ht'⟩
   by_cases e7 : kk = 7
   ·subst e7
    refine RF J J ?_;refine Va J J ?_;refine RT J J ?_;refine Va J J ?_
    first | (refine S_callPk 9 (wKeys 1) Tryz.call73 (c_l3Goes ⟨_, _, _, _, _, _, _, _, _⟩ 0 _ _ G1 h1 h3 (Tds_le hle1 ht) hw 7 a bb n x y r _ _ _ (Sts_le hle1 hx) (Sts_le hle1 hy) hr1 ⟨i1, i2, i3, i4⟩ (hs.r6 (by simp [Stm.kind])).2.1 (hs.r6 (by simp [Stm.kind])).2.2 hrl (hs.r6 (by simp [Stm.kind])).1 (by simp)) (Wvp [_] kg spg J ‹_› J J J J J J J J J) J (Wsub 5 J J J J J J J J J J J J J J J J (Bs 3 J J J J .nil)) J J J ?_) | (refine S_callPk 9 (wKeys 2) Tryz.call73 (c_l3Goes ⟨_, _, _, _, _, _, _, _, _⟩ 0 _ _ G1 h1 h3 (Tds_le hle1 ht) hw 7 a bb n x y r _ _ _ (Sts_le hle1 hx) (Sts_le hle1 hy) hr1 ⟨i1, i2, i3, i4⟩ (hs.r6 (by simp [Stm.kind])).2.1 (hs.r6 (by simp [Stm.kind])).2.2 hrl (hs.r6 (by simp [Stm.kind])).1 (by simp)) (Wvp [_, _] kg spg J ‹_› J J J J J J J J J) J (Wsub 10 J J J J J J J J J J J J J J J J (Bs 3 J J J J (Bs 3 J J J J .nil))) J J J ?_) | (refine S_callPk 9 (wKeys 2) Tryz.call73 (c_l3Goes ⟨_, _, _, _, _, _, _, _, _⟩ 1 _ _ G1 h1 h3 (Tds_le hle1 ht) hw 7 a bb n x y r _ _ _ (Sts_le hle1 hx) (Sts_le hle1 hy) hr1 ⟨i1, i2, i3, i4⟩ (hs.r6 (by simp [Stm.kind])).2.1 (hs.r6 (by simp [Stm.kind])).2.2 hrl (hs.r6 (by simp [Stm.kind])).1 (by simp)) (Wvp [_, _] kg spg J ‹_› J J J J J J J J J) J (Wsub 10 J J J J J J J J J J J J J J J J (Bs 3 J J J J (Bs 3 J J J J .nil))) J J J ?_) | (refine S_callPk 9 (wKeys 3) Tryz.call73 (c_l3Goes ⟨_, _, _, _, _, _, _, _, _⟩ 0 _ _ G1 h1 h3 (Tds_le hle1 ht) hw 7 a bb n x y r _ _ _ (Sts_le hle1 hx) (Sts_le hle1 hy) hr1 ⟨i1, i2, i3, i4⟩ (hs.r6 (by simp [Stm.kind])).2.1 (hs.r6 (by simp [Stm.kind])).2.2 hrl (hs.r6 (by simp [Stm.kind])).1 (by simp)) (Wvp [_, _, _] kg spg J ‹_› J J J J J J J J J) J (Wsub 15 J J J J J J J J J J J J J J J J (Bs 3 J J J J (Bs 3 J J J J (Bs 3 J J J J .nil)))) J J J ?_) | (refine S_callPk 9 (wKeys 3) Tryz.call73 (c_l3Goes ⟨_, _, _, _, _, _, _, _, _⟩ 1 _ _ G1 h1 h3 (Tds_le hle1 ht) hw 7 a bb n x y r _ _ _ (Sts_le hle1 hx) (Sts_le hle1 hy) hr1 ⟨i1, i2, i3, i4⟩ (hs.r6 (by simp [Stm.kind])).2.1 (hs.r6 (by simp [Stm.kind])).2.2 hrl (hs.r6 (by simp [Stm.kind])).1 (by simp)) (Wvp [_, _, _] kg spg J ‹_› J J J J J J J J J) J (Wsub 15 J J J J J J J J J J J J J J J J (Bs 3 J J J J (Bs 3 J J J J (Bs 3 J J J J .nil)))) J J J ?_) | (refine S_callPk 9 (wKeys 3) Tryz.call73 (c_l3Goes ⟨_, _, _, _, _, _, _, _, _⟩ 2 _ _ G1 h1 h3 (Tds_le hle1 ht) hw 7 a bb n x y r _ _ _ (Sts_le hle1 hx) (Sts_le hle1 hy) hr1 ⟨i1, i2, i3, i4⟩ (hs.r6 (by simp [Stm.kind])).2.1 (hs.r6 (by simp [Stm.kind])).2.2 hrl (hs.r6 (by simp [Stm.kind])).1 (by simp)) (Wvp [_, _, _] kg spg J ‹_› J J J J J J J J J) J (Wsub 15 J J J J J J J J J J J J J J J J (Bs 3 J J J J (Bs 3 J J J J (Bs 3 J J J J .nil)))) J J J ?_)
    rintro v G2 A' ⟨cs', ts', rfl, rfl, ht'⟩ hext
    refine S_csV 9 J ?_;rintro bp bc br bs kp asd ksd kc kr ks rfl
    refine Va J J ?_;exact S_retm 9 (Res.c1 Tk Tryz.results46 J J) J (hext1.trans hext) ⟨_, _, J, by rw [← hgo (by simp [Stm.kind])], by rw [← hgo (by simp [Stm.kind])]; exact ht'⟩
   by_cases e8 : kk = 8
   ·subst e8
    refine RF J J ?_;refine Va J J ?_;refine RF J J ?_;refine Va J J ?_;refine RT J J ?_;refine Va J J ?_;refine RT J J ?_;refine Va J J ?_
    first | (refine S_callPk 9 (wKeys 1) Tryz.call74 (c_l3Room ⟨_, _, _, _, _, _, _, _, _⟩ 0 _ _ G1 h1 h3 (Tds_le hle1 ht) hw hq0 hq1 hf0 hf1 8 a bb n x y r _ _ _ _ _ (Sts_le hle1 hx) hr1 hrl (by simp) (fun h => hs.r8 h) (fun h => hs.r9 h) (fun h => hs.r10 h)) (Wvp [_] kg spg J ‹_› J J J J J J J J J) J (Wsub 5 J J J J J J J J J J J J J J J J (Bs 3 J J J J .nil)) J J J ?_) | (refine S_callPk 9 (wKeys 2) Tryz.call74 (c_l3Room ⟨_, _, _, _, _, _, _, _, _⟩ 0 _ _ G1 h1 h3 (Tds_le hle1 ht) hw hq0 hq1 hf0 hf1 8 a bb n x y r _ _ _ _ _ (Sts_le hle1 hx) hr1 hrl (by simp) (fun h => hs.r8 h) (fun h => hs.r9 h) (fun h => hs.r10 h)) (Wvp [_, _] kg spg J ‹_› J J J J J J J J J) J (Wsub 10 J J J J J J J J J J J J J J J J (Bs 3 J J J J (Bs 3 J J J J .nil))) J J J ?_) | (refine S_callPk 9 (wKeys 2) Tryz.call74 (c_l3Room ⟨_, _, _, _, _, _, _, _, _⟩ 1 _ _ G1 h1 h3 (Tds_le hle1 ht) hw hq0 hq1 hf0 hf1 8 a bb n x y r _ _ _ _ _ (Sts_le hle1 hx) hr1 hrl (by simp) (fun h => hs.r8 h) (fun h => hs.r9 h) (fun h => hs.r10 h)) (Wvp [_, _] kg spg J ‹_› J J J J J J J J J) J (Wsub 10 J J J J J J J J J J J J J J J J (Bs 3 J J J J (Bs 3 J J J J .nil))) J J J ?_) | (refine S_callPk 9 (wKeys 3) Tryz.call74 (c_l3Room ⟨_, _, _, _, _, _, _, _, _⟩ 0 _ _ G1 h1 h3 (Tds_le hle1 ht) hw hq0 hq1 hf0 hf1 8 a bb n x y r _ _ _ _ _ (Sts_le hle1 hx) hr1 hrl (by simp) (fun h => hs.r8 h) (fun h => hs.r9 h) (fun h => hs.r10 h)) (Wvp [_, _, _] kg spg J ‹_› J J J J J J J J J) J (Wsub 15 J J J J J J J J J J J J J J J J (Bs 3 J J J J (Bs 3 J J J J (Bs 3 J J J J .nil)))) J J J ?_) | (refine S_callPk 9 (wKeys 3) Tryz.call74 (c_l3Room ⟨_, _, _, _, _, _, _, _, _⟩ 1 _ _ G1 h1 h3 (Tds_le hle1 ht) hw hq0 hq1 hf0 hf1 8 a bb n x y r _ _ _ _ _ (Sts_le hle1 hx) hr1 hrl (by simp) (fun h => hs.r8 h) (fun h => hs.r9 h) (fun h => hs.r10 h)) (Wvp [_, _, _] kg spg J ‹_› J J J J J J J J J) J (Wsub 15 J J J J J J J J J J J J J J J J (Bs 3 J J J J (Bs 3 J J J J (Bs 3 J J J J .nil)))) J J J ?_) | (refine S_callPk 9 (wKeys 3) Tryz.call74 (c_l3Room ⟨_, _, _, _, _, _, _, _, _⟩ 2 _ _ G1 h1 h3 (Tds_le hle1 ht) hw hq0 hq1 hf0 hf1 8 a bb n x y r _ _ _ _ _ (Sts_le hle1 hx) hr1 hrl (by simp) (fun h => hs.r8 h) (fun h => hs.r9 h) (fun h => hs.r10 h)) (Wvp [_, _, _] kg spg J ‹_› J J J J J J J J J) J (Wsub 15 J J J J J J J J J J J J J J J J (Bs 3 J J J J (Bs 3 J J J J (Bs 3 J J J J .nil)))) J J J ?_)
    rintro v G2 A' ⟨cs', ts', rfl, rfl, ht'⟩ hext
    refine S_csV 9 J ?_;rintro bp bc br bs kp asd ksd kc kr ks rfl
    refine Va J J ?_;exact S_retm 9 (Res.c1 Tk Tryz.results46 J J) J (hext1.trans hext) ⟨_, _, J, by rw [hst]; rfl, by rw [hst]; exact ht'⟩
   by_cases e12 : kk = 12
   ·subst e12
    refine RF J J ?_;refine Va J J ?_;refine RF J J ?_;refine Va J J ?_;refine RF J J ?_;refine Va J J ?_;refine RT J J ?_;refine Va J J ?_;refine RT J J ?_;refine Va J J ?_
    first | (refine S_callPk 9 (wKeys 1) Tryz.call74 (c_l3Room ⟨_, _, _, _, _, _, _, _, _⟩ 0 _ _ G1 h1 h3 (Tds_le hle1 ht) hw hq0 hq1 hf0 hf1 12 a bb n x y r _ _ _ _ _ (Sts_le hle1 hx) hr1 hrl (by simp) (fun h => hs.r8 h) (fun h => hs.r9 h) (fun h => hs.r10 h)) (Wvp [_] kg spg J ‹_› J J J J J J J J J) J (Wsub 5 J J J J J J J J J J J J J J J J (Bs 3 J J J J .nil)) J J J ?_) | (refine S_callPk 9 (wKeys 2) Tryz.call74 (c_l3Room ⟨_, _, _, _, _, _, _, _, _⟩ 0 _ _ G1 h1 h3 (Tds_le hle1 ht) hw hq0 hq1 hf0 hf1 12 a bb n x y r _ _ _ _ _ (Sts_le hle1 hx) hr1 hrl (by simp) (fun h => hs.r8 h) (fun h => hs.r9 h) (fun h => hs.r10 h)) (Wvp [_, _] kg spg J ‹_› J J J J J J J J J) J (Wsub 10 J J J J J J J J J J J J J J J J (Bs 3 J J J J (Bs 3 J J J J .nil))) J J J ?_) | (refine S_callPk 9 (wKeys 2) Tryz.call74 (c_l3Room ⟨_, _, _, _, _, _, _, _, _⟩ 1 _ _ G1 h1 h3 (Tds_le hle1 ht) hw hq0 hq1 hf0 hf1 12 a bb n x y r _ _ _ _ _ (Sts_le hle1 hx) hr1 hrl (by simp) (fun h => hs.r8 h) (fun h => hs.r9 h) (fun h => hs.r10 h)) (Wvp [_, _] kg spg J ‹_› J J J J J J J J J) J (Wsub 10 J J J J J J J J J J J J J J J J (Bs 3 J J J J (Bs 3 J J J J .nil))) J J J ?_) | (refine S_callPk 9 (wKeys 3) Tryz.call74 (c_l3Room ⟨_, _, _, _, _, _, _, _, _⟩ 0 _ _ G1 h1 h3 (Tds_le hle1 ht) hw hq0 hq1 hf0 hf1 12 a bb n x y r _ _ _ _ _ (Sts_le hle1 hx) hr1 hrl (by simp) (fun h => hs.r8 h) (fun h => hs.r9 h) (fun h => hs.r10 h)) (Wvp [_, _, _] kg spg J ‹_› J J J J J J J J J) J (Wsub 15 J J J J J J J J J J J J J J J J (Bs 3 J J J J (Bs 3 J J J J (Bs 3 J J J J .nil)))) J J J ?_) | (refine S_callPk 9 (wKeys 3) Tryz.call74 (c_l3Room ⟨_, _, _, _, _, _, _, _, _⟩ 1 _ _ G1 h1 h3 (Tds_le hle1 ht) hw hq0 hq1 hf0 hf1 12 a bb n x y r _ _ _ _ _ (Sts_le hle1 hx) hr1 hrl (by simp) (fun h => hs.r8 h) (fun h => hs.r9 h) (fun h => hs.r10 h)) (Wvp [_, _, _] kg spg J ‹_› J J J J J J J J J) J (Wsub 15 J J J J J J J J J J J J J J J J (Bs 3 J J J J (Bs 3 J J J J (Bs 3 J J J J .nil)))) J J J ?_) | (refine S_callPk 9 (wKeys 3) Tryz.call74 (c_l3Room ⟨_, _, _, _, _, _, _, _, _⟩ 2 _ _ G1 h1 h3 (Tds_le hle1 ht) hw hq0 hq1 hf0 hf1 12 a bb n x y r _ _ _ _ _ (Sts_le hle1 hx) hr1 hrl (by simp) (fun h => hs.r8 h) (fun h => hs.r9 h) (fun h => hs.r10 h)) (Wvp [_, _, _] kg spg J ‹_› J J J J J J J J J) J (Wsub 15 J J J J J J J J J J J J J J J J (Bs 3 J J J J (Bs 3 J J J J (Bs 3 J J J J .nil)))) J J J ?_)
    rintro v G2 A' ⟨cs', ts', rfl, rfl, ht'⟩ hext
    refine S_csV 9 J ?_;rintro bp bc br bs kp asd ksd kc kr ks rfl
    refine Va J J ?_;exact S_retm 9 (Res.c1 Tk Tryz.results46 J J) J (hext1.trans hext) ⟨_, _, J, by rw [hst]; rfl, by rw [hst]; exact ht'⟩
   by_cases e9 : kk = 9
   ·subst e9
    refine RF J J ?_;refine Va J J ?_;refine RF J J ?_;refine Va J J ?_;refine RF J J ?_;refine Va J J ?_;refine RF J J ?_;refine Va J J ?_;refine RT J J ?_;refine Va J J ?_;refine RT J J ?_;refine Va J J ?_
    first | (refine S_callPk 9 (wKeys 1) Tryz.call74 (c_l3Room ⟨_, _, _, _, _, _, _, _, _⟩ 0 _ _ G1 h1 h3 (Tds_le hle1 ht) hw hq0 hq1 hf0 hf1 9 a bb n x y r _ _ _ _ _ (Sts_le hle1 hx) hr1 hrl (by simp) (fun h => hs.r8 h) (fun h => hs.r9 h) (fun h => hs.r10 h)) (Wvp [_] kg spg J ‹_› J J J J J J J J J) J (Wsub 5 J J J J J J J J J J J J J J J J (Bs 3 J J J J .nil)) J J J ?_) | (refine S_callPk 9 (wKeys 2) Tryz.call74 (c_l3Room ⟨_, _, _, _, _, _, _, _, _⟩ 0 _ _ G1 h1 h3 (Tds_le hle1 ht) hw hq0 hq1 hf0 hf1 9 a bb n x y r _ _ _ _ _ (Sts_le hle1 hx) hr1 hrl (by simp) (fun h => hs.r8 h) (fun h => hs.r9 h) (fun h => hs.r10 h)) (Wvp [_, _] kg spg J ‹_› J J J J J J J J J) J (Wsub 10 J J J J J J J J J J J J J J J J (Bs 3 J J J J (Bs 3 J J J J .nil))) J J J ?_) | (refine S_callPk 9 (wKeys 2) Tryz.call74 (c_l3Room ⟨_, _, _, _, _, _, _, _, _⟩ 1 _ _ G1 h1 h3 (Tds_le hle1 ht) hw hq0 hq1 hf0 hf1 9 a bb n x y r _ _ _ _ _ (Sts_le hle1 hx) hr1 hrl (by simp) (fun h => hs.r8 h) (fun h => hs.r9 h) (fun h => hs.r10 h)) (Wvp [_, _] kg spg J ‹_› J J J J J J J J J) J (Wsub 10 J J J J J J J J J J J J J J J J (Bs 3 J J J J (Bs 3 J J J J .nil))) J J J ?_) | (refine S_callPk 9 (wKeys 3) Tryz.call74 (c_l3Room ⟨_, _, _, _, _, _, _, _, _⟩ 0 _ _ G1 h1 h3 (Tds_le hle1 ht) hw hq0 hq1 hf0 hf1 9 a bb n x y r _ _ _ _ _ (Sts_le hle1 hx) hr1 hrl (by simp) (fun h => hs.r8 h) (fun h => hs.r9 h) (fun h => hs.r10 h)) (Wvp [_, _, _] kg spg J ‹_› J J J J J J J J J) J (Wsub 15 J J J J J J J J J J J J J J J J (Bs 3 J J J J (Bs 3 J J J J (Bs 3 J J J J .nil)))) J J J ?_) | (refine S_callPk 9 (wKeys 3) Tryz.call74 (c_l3Room ⟨_, _, _, _, _, _, _, _, _⟩ 1 _ _ G1 h1 h3 (Tds_le hle1 ht) hw hq0 hq1 hf0 hf1 9 a bb n x y r _ _ _ _ _ (Sts_le hle1 hx) hr1 hrl (by simp) (fun h => hs.r8 h) (fun h => hs.r9 h) (fun h => hs.r10 h)) (Wvp [_, _, _] kg spg J ‹_› J J J J J J J J J) J (Wsub 15 J J J J J J J J J J J J J J J J (Bs 3 J J J J (Bs 3 J J J J (Bs 3 J J J J .nil)))) J J J ?_) | (refine S_callPk 9 (wKeys 3) Tryz.call74 (c_l3Room ⟨_, _, _, _, _, _, _, _, _⟩ 2 _ _ G1 h1 h3 (Tds_le hle1 ht) hw hq0 hq1 hf0 hf1 9 a bb n x y r _ _ _ _ _ (Sts_le hle1 hx) hr1 hrl (by simp) (fun h => hs.r8 h) (fun h => hs.r9 h) (fun h => hs.r10 h)) (Wvp [_, _, _] kg spg J ‹_› J J J J J J J J J) J (Wsub 15 J J J J J J J J J J J J J J J J (Bs 3 J J J J (Bs 3 J J J J (Bs 3 J J J J .nil)))) J J J ?_)
    rintro v G2 A' ⟨cs', ts', rfl, rfl, ht'⟩ hext
    refine S_csV 9 J ?_;rintro bp bc br bs kp asd ksd kc kr ks rfl
    refine Va J J ?_;exact S_retm 9 (Res.c1 Tk Tryz.results46 J J) J (hext1.trans hext) ⟨_, _, J, by rw [hst]; rfl, by rw [hst]; exact ht'⟩
   by_cases e10 : kk = 10
   ·subst e10
    refine RF J J ?_;refine Va J J ?_;refine RF J J ?_;refine Va J J ?_;refine RF J J ?_;refine Va J J ?_;refine RF J J ?_;refine Va J J ?_;refine RF J J ?_;refine Va J J ?_;refine RT J J ?_;refine Va J J ?_
    first | (refine S_callPk 9 (wKeys 1) Tryz.call74 (c_l3Room ⟨_, _, _, _, _, _, _, _, _⟩ 0 _ _ G1 h1 h3 (Tds_le hle1 ht) hw hq0 hq1 hf0 hf1 10 a bb n x y r _ _ _ _ _ (Sts_le hle1 hx) hr1 hrl (by simp) (fun h => hs.r8 h) (fun h => hs.r9 h) (fun h => hs.r10 h)) (Wvp [_] kg spg J ‹_› J J J J J J J J J) J (Wsub 5 J J J J J J J J J J J J J J J J (Bs 3 J J J J .nil)) J J J ?_) | (refine S_callPk 9 (wKeys 2) Tryz.call74 (c_l3Room ⟨_, _, _, _, _, _, _, _, _⟩ 0 _ _ G1 h1 h3 (Tds_le hle1 ht) hw hq0 hq1 hf0 hf1 10 a bb n x y r _ _ _ _ _ (Sts_le hle1 hx) hr1 hrl (by simp) (fun h => hs.r8 h) (fun h => hs.r9 h) (fun h => hs.r10 h)) (Wvp [_, _] kg spg J ‹_› J J J J J J J J J) J (Wsub 10 J J J J J J J J J J J J J J J J (Bs 3 J J J J (Bs 3 J J J J .nil))) J J J ?_) | (refine S_callPk 9 (wKeys 2) Tryz.call74 (c_l3Room ⟨_, _, _, _, _, _, _, _, _⟩ 1 _ _ G1 h1 h3 (Tds_le hle1 ht) hw hq0 hq1 hf0 hf1 10 a bb n x y r _ _ _ _ _ (Sts_le hle1 hx) hr1 hrl (by simp) (fun h => hs.r8 h) (fun h => hs.r9 h) (fun h => hs.r10 h)) (Wvp [_, _] kg spg J ‹_› J J J J J J J J J) J (Wsub 10 J J J J J J J J J J J J J J J J (Bs 3 J J J J (Bs 3 J J J J .nil))) J J J ?_) | (refine S_callPk 9 (wKeys 3) Tryz.call74 (c_l3Room ⟨_, _, _, _, _, _, _, _, _⟩ 0 _ _ G1 h1 h3 (Tds_le hle1 ht) hw hq0 hq1 hf0 hf1 10 a bb n x y r _ _ _ _ _ (Sts_le hle1 hx) hr1 hrl (by simp) (fun h => hs.r8 h) (fun h => hs.r9 h) (fun h => hs.r10 h)) (Wvp [_, _, _] kg spg J ‹_› J J J J J J J J J) J (Wsub 15 J J J J J J J J J J J J J J J J (Bs 3 J J J J (Bs 3 J J J J (Bs 3 J J J J .nil)))) J J J ?_) | (refine S_callPk 9 (wKeys 3) Tryz.call74 (c_l3Room ⟨_, _, _, _, _, _, _, _, _⟩ 1 _ _ G1 h1 h3 (Tds_le hle1 ht) hw hq0 hq1 hf0 hf1 10 a bb n x y r _ _ _ _ _ (Sts_le hle1 hx) hr1 hrl (by simp) (fun h => hs.r8 h) (fun h => hs.r9 h) (fun h => hs.r10 h)) (Wvp [_, _, _] kg spg J ‹_› J J J J J J J J J) J (Wsub 15 J J J J J J J J J J J J J J J J (Bs 3 J J J J (Bs 3 J J J J (Bs 3 J J J J .nil)))) J J J ?_) | (refine S_callPk 9 (wKeys 3) Tryz.call74 (c_l3Room ⟨_, _, _, _, _, _, _, _, _⟩ 2 _ _ G1 h1 h3 (Tds_le hle1 ht) hw hq0 hq1 hf0 hf1 10 a bb n x y r _ _ _ _ _ (Sts_le hle1 hx) hr1 hrl (by simp) (fun h => hs.r8 h) (fun h => hs.r9 h) (fun h => hs.r10 h)) (Wvp [_, _, _] kg spg J ‹_› J J J J J J J J J) J (Wsub 15 J J J J J J J J J J J J J J J J (Bs 3 J J J J (Bs 3 J J J J (Bs 3 J J J J .nil)))) J J J ?_)
    rintro v G2 A' ⟨cs', ts', rfl, rfl, ht'⟩ hext
    refine S_csV 9 J ?_;rintro bp bc br bs kp asd ksd kc kr ks rfl
    refine Va J J ?_;exact S_retm 9 (Res.c1 Tk Tryz.results46 J J) J (hext1.trans hext) ⟨_, _, J, by rw [hst]; rfl, by rw [hst]; exact ht'⟩
   refine RF J (by simp [e6]) ?_;refine Va J J ?_;refine RF J (by simp [e7]) ?_;refine Va J J ?_;refine RF J (by simp [e8]) ?_;refine Va J J ?_;refine RF J (by simp [e12]) ?_;refine Va J J ?_;refine RF J (by simp [e9]) ?_;refine Va J J ?_;refine RF J (by simp [e10]) ?_;refine Va J J ?_
   first | (refine S_callPk 9 (wKeys 1) Tryz.call75 (c_l3Leaf (Wld.upd ⟨_, _, _, _, _, _, _, _, _⟩ 0 (fun p => { p with todo := r })) 0 _ _ G1 (by rw [upd_len]; exact h1) (by rw [upd_len]; exact h3) (Tds_upd hle1 (fun p => { p with todo := r }) hw ht hr1) (by rw [upd_len]; exact hw) hsd kk a bb n x y _ _ _ _ _ _ (fun h => hs.r1 h) (fun h => hs.r2 h)) (Wvp [_] kg spg J ‹_› J J J J J J J J J) J (Wsub 5 J J J J J J J J J J J J J J J J (Bs 3 J J J J .nil)) J J J ?_) | (refine S_callPk 9 (wKeys 2) Tryz.call75 (c_l3Leaf (Wld.upd ⟨_, _, _, _, _, _, _, _, _⟩ 0 (fun p => { p with todo := r })) 0 _ _ G1 (by rw [upd_len]; exact h1) (by rw [upd_len]; exact h3) (Tds_upd hle1 (fun p => { p with todo := r }) hw ht hr1) (by rw [upd_len]; exact hw) hsd kk a bb n x y _ _ _ _ _ _ (fun h => hs.r1 h) (fun h => hs.r2 h)) (Wvp [_, _] kg spg J ‹_› J J J J J J J J J) J (Wsub 10 J J J J J J J J J J J J J J J J (Bs 3 J J J J (Bs 3 J J J J .nil))) J J J ?_) | (refine S_callPk 9 (wKeys 2) Tryz.call75 (c_l3Leaf (Wld.upd ⟨_, _, _, _, _, _, _, _, _⟩ 1 (fun p => { p with todo := r })) 1 _ _ G1 (by rw [upd_len]; exact h1) (by rw [upd_len]; exact h3) (Tds_upd hle1 (fun p => { p with todo := r }) hw ht hr1) (by rw [upd_len]; exact hw) hsd kk a bb n x y _ _ _ _ _ _ (fun h => hs.r1 h) (fun h => hs.r2 h)) (Wvp [_, _] kg spg J ‹_› J J J J J J J J J) J (Wsub 10 J J J J J J J J J J J J J J J J (Bs 3 J J J J (Bs 3 J J J J .nil))) J J J ?_) | (refine S_callPk 9 (wKeys 3) Tryz.call75 (c_l3Leaf (Wld.upd ⟨_, _, _, _, _, _, _, _, _⟩ 0 (fun p => { p with todo := r })) 0 _ _ G1 (by rw [upd_len]; exact h1) (by rw [upd_len]; exact h3) (Tds_upd hle1 (fun p => { p with todo := r }) hw ht hr1) (by rw [upd_len]; exact hw) hsd kk a bb n x y _ _ _ _ _ _ (fun h => hs.r1 h) (fun h => hs.r2 h)) (Wvp [_, _, _] kg spg J ‹_› J J J J J J J J J) J (Wsub 15 J J J J J J J J J J J J J J J J (Bs 3 J J J J (Bs 3 J J J J (Bs 3 J J J J .nil)))) J J J ?_) | (refine S_callPk 9 (wKeys 3) Tryz.call75 (c_l3Leaf (Wld.upd ⟨_, _, _, _, _, _, _, _, _⟩ 1 (fun p => { p with todo := r })) 1 _ _ G1 (by rw [upd_len]; exact h1) (by rw [upd_len]; exact h3) (Tds_upd hle1 (fun p => { p with todo := r }) hw ht hr1) (by rw [upd_len]; exact hw) hsd kk a bb n x y _ _ _ _ _ _ (fun h => hs.r1 h) (fun h => hs.r2 h)) (Wvp [_, _, _] kg spg J ‹_› J J J J J J J J J) J (Wsub 15 J J J J J J J J J J J J J J J J (Bs 3 J J J J (Bs 3 J J J J (Bs 3 J J J J .nil)))) J J J ?_) | (refine S_callPk 9 (wKeys 3) Tryz.call75 (c_l3Leaf (Wld.upd ⟨_, _, _, _, _, _, _, _, _⟩ 2 (fun p => { p with todo := r })) 2 _ _ G1 (by rw [upd_len]; exact h1) (by rw [upd_len]; exact h3) (Tds_upd hle1 (fun p => { p with todo := r }) hw ht hr1) (by rw [upd_len]; exact hw) hsd kk a bb n x y _ _ _ _ _ _ (fun h => hs.r1 h) (fun h => hs.r2 h)) (Wvp [_, _, _] kg spg J ‹_› J J J J J J J J J) J (Wsub 15 J J J J J J J J J J J J J J J J (Bs 3 J J J J (Bs 3 J J J J (Bs 3 J J J J .nil)))) J J J ?_)
   rintro v G2 A' ⟨cs', ts', rfl, rfl, ht'⟩ hext
   refine S_csV 9 J ?_;rintro bp bc br bs kp asd ksd kc kr ks rfl
   refine Va J J ?_
   have hlf : ∀ (V : Wld) (z : Nat), V.leaf z (.mk kk a bb n x y) = V.stepS z (.mk kk a bb n x y) := fun V z => leaf_eq V z _ e6 e7 e8 e9 e10 e12
   exact S_retm 9 (Res.c1 Tk Tryz.results46 J J) J (hext1.trans hext) ⟨_, ts', J, by rw [hst, ← hlf]; rfl, by rw [hst, ← hlf]; exact ht'⟩
end
section
attribute [local irreducible] X Pure Mod
end
section
attribute [local irreducible] X Pure Mod
theorem Stm.row_at {G : PH} {L : List Stm} {ad : Addr} (h : Stm.row G L ad) {k : Nat} (hk : k < L.length) : ∃ cs, gcells G (ad.add (k * 6)) cs ∧ Stm.rep G L[k] cs := by
 induction L generalizing ad k with
 | nil => simp at hk
 | cons s r ih =>
  obtain ⟨h1, h2⟩ := (show (∃ cs, gcells G ad cs ∧ Stm.rep G s cs) ∧ Stm.row G r (ad.add 6) from by simpa [Stm.row] using h)
  cases k with
  | zero => simpa [add_zero'] using h1
  | succ k =>
   obtain ⟨cs, h3, h4⟩ := ih h2 (k := k) (by simpa using hk)
   rw [add_add'] at h3
   exact ⟨cs, by rw [show (k + 1) * 6 = 6 + k * 6 by omega]; exact h3, by simpa using h4⟩
mutual
def stmtOk : Stm → Int → Int → Bool
 | .mk k a b n x y, deep, room =>
  if (decide (k ≠ 6) && decide (0 < y.length)) || decide (deep < 1) then false
  else if k = 6 ∨ k = 7 then decide (0 ≤ a) && decide (a < 3) && decide (b = 0) && decide (n = 0) && listOk x (deep - 1) room && listOk y (deep - 1) room
  else if k = 8 then decide (room < 0) && decide (0 ≤ a) && decide (a < 2) && decide (b = 0) && decide (n = 0) && listOk x (deep - 1) a
  else decide (x.length = 0) && leafOk k a b n room
def listOk : List Stm → Int → Int → Bool
 | [], _, _ => true
 | s :: r, deep, room => stmtOk s deep room && listOk r deep room
end
theorem listOk_all (L : List Stm) (d r : Int) : listOk L d r = L.all (stmtOk · d r) := by
 induction L with
 | nil => simp [listOk]
 | cons s L ih => simp [listOk, ih]
theorem listOk_false {L : List Stm} {d r : Int} {k : Nat} (hk : k < L.length) (h : stmtOk L[k] d r = false) : listOk L d r = false := by
 rw [listOk_all, List.all_eq_false]
 exact ⟨L[k], List.getElem_mem hk, by simp [h]⟩
theorem listOk_true {L : List Stm} {d r : Int} (h : ∀ k (hk : k < L.length), stmtOk L[k] d r = true) : listOk L d r = true := by
 rw [listOk_all, List.all_eq_true]
 intro s hs
 obtain ⟨k, hk, rfl⟩ := List.getElem_of_mem hs
 exact h k hk
theorem c_l2List_of (L : List Stm) (deep room : Int) (v : Value) (G : PH) (hL : Sl G (Stm.row G L) L.length v) (h1 : ∀ k (hk : k < L.length) cs, Stm.rep G L[k] cs → Pure Tryz.prog 83 [.agg cs.toArray, .int .i64 deep, .int .i64 room] G fun v G' => v = .bool (stmtOk L[k] deep room) ∧ G' = G) :
  Pure Tryz.prog 69 [v, .int .i64 deep, .int .i64 room] G fun v G' => v = .bool (listOk L deep room) ∧ G' = G := by
 obtain ⟨A, c, rfl, hn, hc1, hc2, hr⟩ := hL
 refine Pure.intro Tryz.func69 Tryz.ntmps69 J J fun w => ?_;refine Va J J ?_;refine S_loop (α := Nat) (fun k => k ≤ L.length ∧ ∀ j (hj : j < L.length), j < k → stmtOk L[j] deep room = true) (fun k => L.length - k) []
  (fun k => [(7, .val (.int .i64 k)), (0, .val (.slice A L.length c)), (1, .val (.int .i64 deep)), (2, .val (.int .i64 room))]) (fun _ => []) (fun _ => G) 0 ⟨Nat.zero_le _, fun j _ h => by omega⟩ rfl ⟨⟨_, rfl, rfl⟩, ⟨_, rfl, rfl⟩, ⟨_, rfl, rfl⟩, ⟨_, rfl, rfl⟩, trivial⟩ .nil ?_
 rintro k ⟨hk, hall⟩
 refine Va J J ?_
 refine S_condp J (fun h => ?_) (fun h => ?_) <;> refine Va J J ?_
 ·have hkl : k < L.length := by omega
  obtain ⟨ad, rfl, hrow⟩ : ∃ ad, A = some ad ∧ Stm.row G L ad := by
   rcases hr with h0 | h0
   ·omega
   ·exact h0
  obtain ⟨cs, hcs, hrep⟩ := Stm.row_at hrow hkl
  have hlen : cs.length = 6 := by
   cases hs : L[k]; rw [hs] at hrep; obtain ⟨vx, vy, e, _⟩ := (by simpa [Stm.rep] using hrep); simp [e]
  refine S_index Tk J J J J J J (by omega) (by omega) ?_;refine Va J J ?_;refine S_loadA Tk J J J J hlen hcs ?_;refine Va J J ?_;refine S_call Tryz.call83 (h1 k hkl cs hrep) J J J ?_;rintro v G' ⟨rfl, rfl⟩ _
  refine Va J J ?_
  refine S_cond J (fun h => ?_) (fun h => ?_) <;> refine Va J J ?_
  ·refine S_retP Tryz.results69 J J XR ⟨?_, J⟩
   rw [listOk_false hkl (by simpa using h)]
  ·refine S_add J J J J (by omega) ?_
   refine Va J J ?_;refine S_again (k + 1) ⟨by omega, fun j hj hjk => ?_⟩ (by omega) J ⟨⟨_, J, J⟩, ⟨_, J, J⟩, ⟨_, J, J⟩, ⟨_, J, J⟩, trivial⟩ .nil
   rcases Nat.lt_or_ge j k with h' | h'
   ·exact hall j hj h'
   ·obtain rfl : j = k := by omega
    simpa using h
 ·refine S_retP Tryz.results69 J J XR ⟨?_, J⟩
  rw [listOk_true fun j hj => hall j hj (by omega)]
end
section
attribute [local irreducible] X Pure Mod
def L2ok (L : List Stm) : Prop := ∀ (deep room : Int) (v : Value) (G : PH), I64 deep → Sts G L v → Pure Tryz.prog 69 [v, .int .i64 deep, .int .i64 room] G fun v G' => v = .bool (listOk L deep room) ∧ G' = G
theorem c_l2Stmt_of (s : Stm) (hx : L2ok s.body) (hy : L2ok s.els) (deep room : Int) (hd : I64 deep) (cs : List Value) (G : PH) (hs : Stm.rep G s cs) :
  Pure Tryz.prog 83 [.agg cs.toArray, .int .i64 deep, .int .i64 room] G fun v G' => v = .bool (stmtOk s deep room) ∧ G' = G := by
 obtain ⟨k, a, b, n, x, y⟩ := s
 obtain ⟨vx, vy, rfl, hk, ha, hb, hn, h1, h2⟩ := Stm.rep_iff.1 hs
 have gx := hx
 have gy := hy
 simp only [Stm.body, Stm.els] at gx gy
 obtain ⟨Ax, cx, rfl, _⟩ := id h1
 obtain ⟨Ay, cy, rfl, _⟩ := id h2
 unfold I64 at hd ha
 refine Pure.intro Tryz.func83 Tryz.ntmps83 J J fun w => ?_; refine Va J J ?_
 repeat' (first
  | (refine S_condp J (fun h => ?_) (fun h => ?_) <;> refine Va J J ?_) | (refine S_cond J (fun h => ?_) (fun h => ?_) <;> refine Va J J ?_) | (refine S_box J J J J J fun b => ?_; refine Va J J ?_) | (refine AZ ZT_ok J J J J fun b => ?_; refine Va J J ?_) | (refine S_guardp J J (fun h => ?_) (fun h => ?_) <;> refine Va J J ?_) | (refine S_guard J J (fun h => ?_) (fun h => ?_) <;> refine Va J J ?_)
  | (refine S_subI J J J J (by simp_all; omega) ?_; refine Va J J ?_)
  | (refine S_call Tryz.call69 (gx _ _ _ _ (by unfold I64; simp_all; omega) h1) rfl rfl rfl ?_; rintro v G' ⟨rfl, rfl⟩ _; refine Va J J ?_)
  | (refine S_call Tryz.call69 (gy _ _ _ _ (by unfold I64; simp_all; omega) h2) rfl rfl rfl ?_; rintro v G' ⟨rfl, rfl⟩ _; refine Va J J ?_)
  | (refine S_call Tryz.call93 (c_l2Leaf _ _ _ _ _ _ _ _) J J J ?_; rintro v G' ⟨rfl, rfl⟩ _; refine Va J J ?_)
  | (refine S_retP Tryz.results83 J J XR ⟨?_, J⟩))
 all_goals (try simp_all [stmtOk, Stm.body, Stm.els])
 all_goals (try omega)
end
section
attribute [local irreducible] X Pure Mod
theorem L2ok_of (L : List Stm) (h : ∀ k (hk : k < L.length), L2ok L[k].body ∧ L2ok L[k].els) : L2ok L := by
 intro deep room v G hd hv
 refine c_l2List_of L deep room v G (Sts_Sl.1 hv) fun k hk cs hs => ?_;exact c_l2Stmt_of L[k] (h k hk).1 (h k hk).2 deep room hd cs G hs
mutual
theorem L2ok_stm : ∀ (s : Stm), L2ok s.body ∧ L2ok s.els
 | .mk k a b n x y => ⟨L2ok_all x, L2ok_all y⟩
theorem L2ok_at : ∀ (L : List Stm) (k : Nat) (hk : k < L.length), L2ok L[k].body ∧ L2ok L[k].els
 | [], k, hk => absurd hk (by simp)
 | s :: L, 0, _ => L2ok_stm s
 | s :: L, k + 1, hk => L2ok_at L k (by simpa using hk)
theorem L2ok_all : ∀ (L : List Stm), L2ok L
 | L => L2ok_of L (L2ok_at L)
end
mutual
def manyS : Stm → Int → Int
 | .mk _ _ _ _ x y, d => 1 + many x (d - 1) + many y (d - 1)
def many : List Stm → Int → Int
 | [], _ => 0
 | s :: r, d => (if 0 < d then manyS s d else 0) + many r d
end
theorem many_append (L M : List Stm) (d : Int) : many (L ++ M) d = many L d + many M d := by
 induction L with
 | nil => simp [many]
 | cons s L ih => simp only [List.cons_append, many, ih]; omega
theorem many_zero (L : List Stm) {d : Int} (h : ¬ 0 < d) : many L d = 0 := by
 induction L with
 | nil => simp [many]
 | cons s L ih => simp only [many, ih, if_neg h]; omega
theorem manyS_eq (s : Stm) (d : Int) : manyS s d = 1 + many s.body (d - 1) + many s.els (d - 1) := by cases s; simp [manyS, Stm.body, Stm.els]
def L2many (L : List Stm) : Prop := ∀ (deep : Int) (v : Value) (G : PH), I64 deep → Sts G L v → Pure Tryz.prog 70 [v, .int .i64 deep] G fun v G' => v = .int .i64 (w64 (many L deep)) ∧ G' = G
theorem L2many_of (L : List Stm) (h : ∀ k (hk : k < L.length), L2many L[k].body ∧ L2many L[k].els) : L2many L := by
 intro deep v G hd hv
 obtain ⟨A, c, rfl, hn, hc1, hc2, hr⟩ := id hv
 unfold I64 at hd
 refine Pure.intro Tryz.func70 Tryz.ntmps70 J J fun w => ?_; refine Va J J ?_;refine S_loop (α := Nat) (fun k => k ≤ L.length) (fun k => L.length - k) []
  (fun k => [(6, .val (.int .i64 k)), (5, .val (.int .i64 (w64 (many (L.take k) deep)))), (0, .val (.slice A L.length c)), (1, .val (.int .i64 deep))]) (fun _ => []) (fun _ => G) 0 (Nat.zero_le _) rfl
  ⟨⟨_, rfl, rfl⟩, ⟨_, rfl, rfl⟩, ⟨_, rfl, rfl⟩, ⟨_, rfl, rfl⟩, trivial⟩ .nil ?_
 intro k hk
 refine Va J J ?_
 refine S_cond J (fun h0 => ?_) (fun h0 => ?_) <;> refine Va J J ?_
 ·obtain ⟨h1, h2⟩ : k < L.length ∧ 0 < deep := by simpa using h0
  have hkl : k < L.length := by omega
  obtain ⟨ad, cs, rfl, hcs1, hrep⟩ := Sr_at hv hkl
  obtain ⟨hbk, hek⟩ := h k hkl
  have hmk := manyS_eq L[k] deep
  rcases hs : L[k] with ⟨q1, q2, q3, q4, x, y⟩
  rw [hs] at hrep hbk hek hmk
  obtain ⟨vx, vy, rfl, i1, i2, i3, i4, hx, hy⟩ := Stm.rep_iff.1 hrep
  obtain ⟨Ax, cx, rfl, _⟩ := id hx
  obtain ⟨Ay, cy, rfl, _⟩ := id hy
  have hdx : I64 (deep - 1) := by unfold I64; omega
  refine D_startK [5] (by exact MO) J J J (by kernel_rfl) ?_;refine Da J J ?_;refine D_val 1 J J J J J J J J J (V_addW J J) ?_;refine D_val 4 J J J J J J J J J (V_index Tk J J J J (by omega) (by omega)) ?_;refine D_val 13 J J J J J J J J J (V_index Tk J J J J (by omega) (by omega)) ?_;refine D_val 8 J J J J J J J J J (V_sub J J (by omega)) ?_;refine D_val 17 J J J J J J J J J (V_sub J J (by omega)) ?_
  refine Da J J ?_;refine D_val 6 J J J J J J J J J (V_load Tk J J J (by simpa using gcells_at hcs1 4 _ J)) ?_;refine D_val 15 J J J J J J J J J (V_load Tk J J J (by simpa using gcells_at hcs1 5 _ J)) ?_;refine D_sole 9 J J (N_call 9 Tryz.call70 (hbk _ _ _ hdx hx) J J J J J J J J J J ?_)
  rintro v1 G1 ⟨rfl, rfl⟩ _
  refine D_val 10 J J J J J J J J J (V_addW J J) ?_;refine D_sole 18 J J (N_call 18 Tryz.call70 (hek _ _ _ hdx hy) J J J J J J J J J J ?_)
  rintro v1 G1 ⟨rfl, rfl⟩ _
  refine D_val 19 J J J J J J J J J (V_addW J J) ?_;refine D_sole 20 J J (N_assign Tk 20 J J J J J J J J J (by kernel_rfl) ?_)
  refine DD ?_;refine Va J J ?_;refine S_add J J J J (by omega) ?_;refine Va J J ?_;refine S_again (k + 1) (by omega) (by omega) J ⟨⟨_, J, J⟩, ⟨_, J, ?_⟩, ⟨_, J, J⟩, ⟨_, J, J⟩, trivial⟩ .nil
  simp only [denO]
  congr 2
  rw [List.take_succ_eq_append_getElem hkl, many_append, hs]
  simp only [many, if_pos h2, hmk, Stm.body, Stm.els, w64_l, w64_r]
  simp only [w64_l, w64_r, Int.add_assoc]
  simp only [Int.add_zero]
 ·refine S_retP Tryz.results70 J J XR ⟨?_, J⟩
  congr 2
  by_cases hd0 : 0 < deep
  ·have hk' : k = L.length := by
    rcases Nat.lt_or_ge k L.length with h1 | h1
    ·simp [hd0, h1] at h0
    ·omega
   rw [hk', List.take_length]
  ·rw [many_zero _ hd0, many_zero _ hd0]
mutual
theorem L2many_stm : ∀ (s : Stm), L2many s.body ∧ L2many s.els
 | .mk k a b n x y => ⟨L2many_all x, L2many_all y⟩
theorem L2many_at : ∀ (L : List Stm) (k : Nat) (hk : k < L.length), L2many L[k].body ∧ L2many L[k].els
 | [], k, hk => absurd hk (by simp)
 | s :: L, 0, _ => L2many_stm s
 | s :: L, k + 1, hk => L2many_at L k (by simpa using hk)
theorem L2many_all : ∀ (L : List Stm), L2many L
 | L => L2many_of L (L2many_at L)
end
def stmtsOk (L : List Stm) : Bool := listOk L 3 (-1) && decide (w64 (many L 3) ≤ 14)
theorem c_StmtsOk (L : List Stm) (v : Value) (G : PH) (hv : Sts G L v) : Pure Tryz.prog 43 [v] G fun v G' => v = .bool (stmtsOk L) ∧ G' = G := by
 obtain ⟨A, c, rfl, _⟩ := id hv
 have i3 : I64 3 := by unfold I64; omega
 refine Pure.intro Tryz.func43 Tryz.ntmps43 J J fun w => ?_; refine Va J J ?_;refine S_call Tryz.call69 (L2ok_all L _ _ _ _ i3 hv) J J J ?_;rintro v1 G1 ⟨rfl, rfl⟩ _
 refine Va J J ?_
 refine S_guard J J (fun h => ?_) (fun h => ?_) <;> refine Va J J ?_
 ·refine S_call Tryz.call70 (L2many_all L _ _ _ i3 hv) J J J ?_
  rintro v1 G1 ⟨rfl, rfl⟩ _
  refine Va J J ?_;refine S_retP Tryz.results43 J J XR ⟨?_, J⟩
  simp [stmtsOk, h]
 ·refine S_retP Tryz.results43 J J XR ⟨?_, J⟩
  simp [stmtsOk, h]
def progOk (p : List (List Stm)) : Bool := p.all stmtsOk && decide (1 ≤ p.length) && decide (p.length ≤ 3)
theorem c_ProgOk (p : List (List Stm)) (v : Value) (G : PH) (hv : Prg G p v) : Pure Tryz.prog 20 [v] G fun v G' => v = .bool (progOk p) ∧ G' = G := by
 obtain ⟨A, c, rfl, hn, hc1, hc2, hr⟩ := id hv
 refine Pure.intro Tryz.func20 Tryz.ntmps20 J J fun w => ?_; refine Va J J ?_;refine S_loop (α := Nat) (fun k => k ≤ p.length ∧ ∀ j (hj : j < p.length), j < k → stmtsOk p[j] = true) (fun k => p.length - k) []
  (fun k => [(3, .val (.int .i64 k)), (0, .val (.slice A p.length c))]) (fun _ => []) (fun _ => G) 0 ⟨Nat.zero_le _, fun j _ h => by omega⟩ rfl ⟨⟨_, rfl, rfl⟩, ⟨_, rfl, rfl⟩, trivial⟩ .nil ?_
 rintro k ⟨hk, hall⟩
 refine Va J J ?_
 refine S_condp J (fun h => ?_) (fun h => ?_) <;> refine Va J J ?_
 ·have hkl : k < p.length := by omega
  obtain ⟨ad, cs, rfl, hcs, v1, rfl, hv1⟩ := Sr_at hv hkl
  obtain ⟨A1, c1, rfl, _⟩ := id hv1
  refine S_index Tk J J J J J J (by omega) (by omega) ?_;refine Va J J ?_;refine S_load Tk J J J J J (by simpa using hcs.1) ?_;refine Va J J ?_;refine S_call Tryz.call43 (c_StmtsOk _ _ _ hv1) J J J ?_;rintro v1 G1 ⟨rfl, rfl⟩ _
  refine Va J J ?_
  refine S_cond J (fun h => ?_) (fun h => ?_) <;> refine Va J J ?_
  ·refine S_retP Tryz.results20 J J XR ⟨?_, J⟩
   have : p.all stmtsOk = false := by
    rw [List.all_eq_false]
    exact ⟨_, List.getElem_mem hkl, by simpa using h⟩
   simp [progOk, this]
  ·refine S_add J J J J (by omega) ?_
   refine Va J J ?_;refine S_again (k + 1) ⟨by omega, fun j hj hjk => ?_⟩ (by omega) J ⟨⟨_, J, J⟩, ⟨_, J, J⟩, trivial⟩ .nil
   rcases Nat.lt_or_ge j k with h' | h'
   ·exact hall j hj h'
   ·obtain rfl : j = k := by omega
    simpa using h
 ·have hall' : p.all stmtsOk = true := by
   rw [List.all_eq_true]
   intro s hs
   obtain ⟨j, hj, rfl⟩ := List.getElem_of_mem hs
   exact hall j hj (by omega)
  refine S_retP Tryz.results20 J J XR ⟨?_, J⟩
  simp only [progOk, hall', Bool.true_and]
  congr 2
  ·exact decide_eq_decide.2 (by omega)
  ·exact decide_eq_decide.2 (by omega)
end
section
attribute [local irreducible] X Pure Mod
mutual
/-- how long what is left to do can get -/
def mxS : Stm → Nat
 | .mk _ _ _ _ x y => 1 + max (mx x) (mx y)
def mx : List Stm → Nat
 | [] => 0
 | s :: r => max (mxS s + r.length) (mx r)
end
theorem mxS_eq (s : Stm) : mxS s = 1 + max (mx s.body) (mx s.els) := by cases s; simp [mxS, Stm.body, Stm.els]
theorem mxS_pos (s : Stm) : 1 ≤ mxS s := by rw [mxS_eq]; omega
theorem len_mx (L : List Stm) : L.length ≤ mx L := by
 induction L with
 | nil => simp
 | cons s r ih => have := mxS_pos s; simp only [List.length_cons, mx]; omega
theorem mx_append (L r : List Stm) {k : Nat} (h1 : mx L + r.length ≤ k) (h2 : mx r ≤ k) : mx (L ++ r) ≤ k := by
 induction L with
 | nil => simpa using h2
 | cons s L ih =>
  simp only [mx, List.cons_append, List.length_append] at h1 ⊢
  have := ih (by omega)
  omega
inductive TOk : Int → List Stm → Prop
 | nil : TOk (-1) []
 | leave {a : Int} {r : List Stm} : is2 a → TOk (-1) r → TOk a (leaveS a :: r)
 | stm {s : Stm} {d room : Int} {r : List Stm} : stmtOk s d room = true → TOk room r → TOk room (s :: r)
theorem TOk.app {L : List Stm} {d room : Int} {r : List Stm} (h : listOk L d room = true) (hr : TOk room r) : TOk room (L ++ r) := by
 induction L with
 | nil => exact hr
 | cons s L ih =>
  simp only [listOk, Bool.and_eq_true] at h
  exact .stm h.1 (ih h.2)
structure POk (p : Prc) : Prop where
 td : TOk p.room p.todo
 mx : mx p.todo ≤ 1000
 md : p.mode = 0 ∨ p.mode = 1 ∨ p.mode = 2
 rm : p.mode ≠ 0 → is2 p.room
 ro : p.room = -1 ∨ is2 p.room
structure Inv (W : Wld) (B : Nat) : Prop where
 n1 : 1 ≤ W.procs.length
 n3 : W.procs.length ≤ 3
 pr : ∀ p ∈ W.procs, POk p
 m0 : 0 ≤ W.m0
 m1 : 0 ≤ W.m1
 sd : W.said.length ≤ B
 ql : W.q0.length + W.q1.length ≤ B
 qf : ∀ f ∈ W.q0 ++ W.q1, 0 ≤ f ∧ ∃ p, W.procs[f.toNat]? = some p ∧ p.mode = 1
 nd : (W.q0 ++ W.q1).Nodup
theorem sok_of {s : Stm} {d room : Int} (h : stmtOk s d room = true) (hm : mxS s ≤ 1000) (hr : room = -1 ∨ is2 room) : SOk s room := by
 have hb := len_mx s.body
 have he := len_mx s.els
 rw [mxS_eq] at hm
 obtain ⟨k, a, b, n, x, y⟩ := s
 simp only [Stm.body, Stm.els] at hb he hm
 simp only [stmtOk] at h
 split at h
 ·cases h
 refine ⟨?_, ?_, ?_, ?_, ?_, ?_⟩ <;> simp only [Stm.kind, Stm.a, Stm.b, Stm.body, Stm.els, is2, is3]
 ·rintro (rfl | rfl) <;> simp [leafOk] at h <;> omega
 ·rintro (rfl | rfl | rfl) <;> simp [leafOk] at h <;> omega
 ·rintro (rfl | rfl) <;> simp at h <;> omega
 ·rintro rfl; simp at h; omega
 ·rintro rfl
  simp [leafOk] at h
  rcases hr with rfl | hr
  ·omega
  ·exact ⟨by omega, hr⟩
 ·rintro (rfl | rfl) <;> simp [leafOk] at h <;> omega
end
section
attribute [local irreducible] X Pure Mod
theorem updL_ne {α : Type} {f : α → α} : ∀ (l : List α) (i j : Nat), i ≠ j → (updL f i l)[j]? = l[j]?
 | [], i, j, _ => by cases i <;> rfl
 | x :: l, 0, 0, h => absurd rfl h
 | x :: l, 0, j + 1, _ => by simp [updL]
 | x :: l, i + 1, 0, _ => by simp [updL]
 | x :: l, i + 1, j + 1, h => by simp only [updL, List.getElem?_cons_succ]; exact updL_ne l i j (by omega)
theorem mem_updL' {α : Type} {f : α → α} {y : α} : ∀ (l : List α) (i : Nat), y ∈ updL f i l → y ∈ l ∨ ∃ x, l[i]? = some x ∧ y = f x
 | [], i, h => by cases i <;> simp [updL] at h
 | x :: l, 0, h => by
  simp only [updL, List.mem_cons] at h
  rcases h with h | h
  ·exact .inr ⟨x, J, h⟩
  ·exact .inl (List.mem_cons_of_mem _ h)
 | x :: l, i + 1, h => by
  simp only [updL, List.mem_cons] at h
  rcases h with h | h
  ·exact .inl (by simp [h])
  ·rcases mem_updL' l i h with h | h
   ·exact .inl (List.mem_cons_of_mem _ h)
   ·exact .inr (by simpa using h)
theorem leave_sok {a : Int} (h : is2 a) : SOk (leaveS a) a := by
 refine ⟨?_, ?_, ?_, ?_, ?_, ?_⟩ <;> simp [leaveS, Stm.kind, Stm.a, h]
theorem Inv.sok {W : Wld} {B : Nat} (h : Inv W B) {p : Prc} (hp : p ∈ W.procs) {s : Stm} {r : List Stm} (ht : p.todo = s :: r) : SOk s p.room := by
 have q := h.pr p hp
 have htd := q.td
 have hmx := q.mx
 rw [ht] at htd hmx
 simp only [mx] at hmx
 have hro := q.ro
 generalize p.room = ro at *
 cases htd with
 | leave ha hr => exact leave_sok ha
 | stm hs hr => exact sok_of hs (by omega) hro
theorem Inv.head {W : Wld} {B : Nat} (h : Inv W B) : ∀ p ∈ W.procs, HeadOk p := fun p hp =>
 ⟨fun hm => (h.pr p hp).rm (by omega), fun s r ht hk => ((h.sok hp ht).r8 hk).1⟩
theorem Inv.rdy {W : Wld} {B : Nat} (h : Inv W B) (hB : B ≤ 1000000) : Rdy W where
 n1 := h.n1
 n3 := h.n3
 sd := Nat.le_trans h.sd hB
 q0 := by have := h.ql; omega
 q1 := by have := h.ql; omega
 f0 := fun f hf => by
  obtain ⟨h0, p, hp, _⟩ := h.qf f (List.mem_append_left _ hf)
  have := (List.getElem?_eq_some_iff.1 hp).1
  omega
 f1 := fun f hf => by
  obtain ⟨h0, p, hp, _⟩ := h.qf f (List.mem_append_right _ hf)
  have := (List.getElem?_eq_some_iff.1 hp).1
  omega
 tl := fun p hp => by have := len_mx p.todo; have := (h.pr p hp).mx; omega
theorem code0 {W : Wld} {who : Nat} {p : Prc} (hp : W.procs[who]? = some p) (h : codeOf W (who : Nat) = 0) : p.mode ≠ 1 ∧ (p.mode ≠ 2 → p.todo ≠ []) := by
 have hl := (List.getElem?_eq_some_iff.1 hp).1
 unfold codeOf at h
 rw [if_neg (by omega)] at h
 simp only [Int.toNat_natCast, hp, codeP] at h
 refine ⟨fun hm => by simp [hm] at h, fun hm ht => ?_⟩
 simp [hm, ht] at h
 split at h <;> simp at h
theorem Inv.go {W : Wld} {B : Nat} (h : Inv W B) {who : Nat} (hc : codeOf W (who : Nat) = 0) : ∀ p, W.procs[who]? = some p → (p.mode = 2 → is2 p.room) ∧ (p.mode ≠ 2 → ∃ s r, p.todo = s :: r ∧ SOk s p.room) := by
 intro p hp
 have hm : p ∈ W.procs := List.mem_of_getElem? hp
 refine ⟨fun h2 => (h.pr p hm).rm (by omega), fun h2 => ?_⟩
 have ht := (code0 hp hc).2 h2
 rcases hT : p.todo with _ | ⟨s, r⟩
 ·exact absurd hT ht
 ·exact ⟨s, r, J, h.sok hm hT⟩
end
section
attribute [local irreducible] X Pure Mod
theorem Inv.mono {W : Wld} {B B' : Nat} (h : Inv W B) (hB : B ≤ B') : Inv W B' :=
 ⟨h.n1, h.n3, h.pr, h.m0, h.m1, Nat.le_trans h.sd hB, Nat.le_trans h.ql hB, h.qf, h.nd⟩
theorem Inv.upd {W : Wld} {B who : Nat} {f : Prc → Prc} {p : Prc} (h : Inv W B) (hp : W.procs[who]? = some p) (hm : p.mode ≠ 1) (hf : POk (f p)) : Inv (W.upd who f) B := by
 refine ⟨by rw [upd_len]; exact h.n1, by rw [upd_len]; exact h.n3, fun q hq => ?_, h.m0, h.m1, h.sd, h.ql, fun g hg => ?_, h.nd⟩
 ·rcases mem_updL' _ _ hq with hq | ⟨x, hx, rfl⟩
  ·exact h.pr q hq
  ·rw [hp] at hx; cases hx; exact hf
 ·obtain ⟨h0, q, hq, hqm⟩ := h.qf g hg
  refine ⟨h0, q, ?_, hqm⟩
  show (updL f who W.procs)[g.toNat]? = some q
  rw [updL_ne _ _ _ (by rintro rfl; rw [hp] at hq; cases hq; exact hm hqm)]
  exact hq
theorem Inv.setRm {W : Wld} {B : Nat} (h : Inv W B) (a v : Int) (hv : 0 ≤ v) : Inv (W.setRm a v) B := by
 unfold Wld.setRm
 split
 ·exact ⟨h.n1, h.n3, h.pr, hv, h.m1, h.sd, h.ql, h.qf, h.nd⟩
 ·exact ⟨h.n1, h.n3, h.pr, h.m0, hv, h.sd, h.ql, h.qf, h.nd⟩
theorem Inv.setCell {W : Wld} {B : Nat} (h : Inv W B) (a v : Int) : Inv (W.setCell a v) B := by
 unfold Wld.setCell
 split
 ·exact ⟨h.n1, h.n3, h.pr, h.m0, h.m1, h.sd, h.ql, h.qf, h.nd⟩
 split
 ·exact ⟨h.n1, h.n3, h.pr, h.m0, h.m1, h.sd, h.ql, h.qf, h.nd⟩
 ·exact ⟨h.n1, h.n3, h.pr, h.m0, h.m1, h.sd, h.ql, h.qf, h.nd⟩
theorem Inv.say {W : Wld} {B : Nat} (h : Inv W B) (v : Int × Int) : Inv { W with said := W.said ++ [v] } (B + 1) :=
 ⟨h.n1, h.n3, h.pr, h.m0, h.m1, by have := h.sd; simp only [List.length_append, List.length_singleton]; omega, Nat.le_succ_of_le h.ql, h.qf, h.nd⟩
theorem Inv.wait {W : Wld} {B who : Nat} {p : Prc} (h : Inv W B) (hp : W.procs[who]? = some p) (hm : p.mode ≠ 1) (hr : is2 p.room) (a : Int) : Inv ((W.upd who (fun p => { p with mode := 1, on := a })).setQue a (W.que a ++ [(who : Int)])) (B + 1) := by
 have hpm : p ∈ W.procs := List.mem_of_getElem? hp
 have q := h.pr p hpm
 have hu : Inv (W.upd who (fun p => { p with mode := 1, on := a })) B := h.upd hp hm ⟨q.td, q.mx, .inr (.inl rfl), fun _ => hr, q.ro⟩
 have hnot : (who : Int) ∉ W.q0 ++ W.q1 := fun hw => by
  obtain ⟨_, q, hq, hqm⟩ := h.qf _ hw
  simp only [Int.toNat_natCast] at hq
  rw [hp] at hq; cases hq; exact hm hqm
 have hself : ∃ q, (updL (fun p : Prc => { p with mode := 1, on := a }) who W.procs)[((who : Int)).toNat]? = some q ∧ q.mode = 1 := by
  refine ⟨{ p with mode := 1, on := a }, ?_, J⟩
  rw [Int.toNat_natCast, updL_get, hp]; rfl
 have hql := h.ql
 have hnd := h.nd
 unfold Wld.setQue Wld.que
 split
 ·refine ⟨hu.n1, hu.n3, hu.pr, hu.m0, hu.m1, Nat.le_succ_of_le hu.sd, ?_, fun g hg => ?_, ?_⟩
  ·show (W.q0 ++ [(who : Int)]).length + W.q1.length ≤ _
   simp only [List.length_append, List.length_singleton]; omega
  ·have hg' : g ∈ W.q0 ++ W.q1 ∨ g = (who : Int) := by
    replace hg : g ∈ (W.q0 ++ [(who : Int)]) ++ W.q1 := hg
    simp only [List.mem_append, List.mem_singleton] at hg ⊢
    rcases hg with (hg | hg) | hg <;> simp [hg]
   rcases hg' with hg' | rfl
   ·exact hu.qf g hg'
   ·exact ⟨by omega, hself⟩
  ·show ((W.q0 ++ [(who : Int)]) ++ W.q1).Nodup
   simp only [List.mem_append, not_or] at hnot
   rw [List.nodup_append] at hnd ⊢
   rw [List.nodup_append]
   refine ⟨⟨hnd.1, by simp, fun x hx y hy => ?_⟩, hnd.2.1, fun x hx y hy => ?_⟩
   ·simp only [List.mem_singleton] at hy
    rintro rfl
    exact hnot.1 (hy ▸ hx)
   ·simp only [List.mem_append, List.mem_singleton] at hx
    rcases hx with hx | rfl
    ·exact hnd.2.2 x hx y hy
    ·rintro rfl
     exact hnot.2 hy
 ·refine ⟨hu.n1, hu.n3, hu.pr, hu.m0, hu.m1, Nat.le_succ_of_le hu.sd, ?_, fun g hg => ?_, ?_⟩
  ·show W.q0.length + (W.q1 ++ [(who : Int)]).length ≤ _
   simp only [List.length_append, List.length_singleton]; omega
  ·have hg' : g ∈ W.q0 ++ W.q1 ∨ g = (who : Int) := by
    replace hg : g ∈ W.q0 ++ (W.q1 ++ [(who : Int)]) := hg
    simp only [List.mem_append, List.mem_singleton] at hg ⊢
    rcases hg with hg | hg | hg <;> simp [hg]
   rcases hg' with hg' | rfl
   ·exact hu.qf g hg'
   ·exact ⟨by omega, hself⟩
  ·show (W.q0 ++ (W.q1 ++ [(who : Int)])).Nodup
   rw [← List.append_assoc, List.nodup_append]
   refine ⟨hnd, by simp, fun x hx y hy => ?_⟩
   simp only [List.mem_singleton] at hy
   rintro rfl
   exact hnot (hy ▸ hx)
end
section
attribute [local irreducible] X Pure Mod
theorem Inv.woken {W : Wld} {B : Nat} {f : Int} (h : Inv W B) {Q0 Q1 : List Int} (hf : f ∈ W.q0 ++ W.q1) (hnf : f ∉ Q0 ++ Q1) (hnd : (Q0 ++ Q1).Nodup) (hl : Q0.length + Q1.length ≤ B) (hsub : ∀ g ∈ Q0 ++ Q1, g ∈ W.q0 ++ W.q1) :
  Inv { W.upd f.toNat (fun p => { p with mode := 2, on := 0 }) with q0 := Q0, q1 := Q1 } B := by
 obtain ⟨h0, p, hp, hpm⟩ := h.qf f hf
 have q := h.pr p (List.mem_of_getElem? hp)
 refine ⟨by show 1 ≤ (updL _ _ _).length; rw [length_updL]; exact h.n1, by show (updL _ _ _).length ≤ 3; rw [length_updL]; exact h.n3, fun x hx => ?_, h.m0, h.m1, h.sd, hl, fun g hg => ?_, hnd⟩
 ·rcases mem_updL' _ _ hx with hx | ⟨y, hy, rfl⟩
  ·exact h.pr x hx
  ·rw [hp] at hy; cases hy
   exact ⟨q.td, q.mx, .inr (.inr J), fun _ => q.rm (by omega), q.ro⟩
 ·obtain ⟨g0, x, hx, hxm⟩ := h.qf g (hsub g hg)
  refine ⟨g0, x, ?_, hxm⟩
  show (updL _ _ W.procs)[g.toNat]? = some x
  have hgf : f.toNat ≠ g.toNat := fun e => hnf ((show g = f by omega) ▸ hg)
  rw [updL_ne _ _ _ hgf]
  exact hx
theorem Inv.signal {W : Wld} {B : Nat} (h : Inv W B) (a : Int) : Inv (W.signal a) B := by
 have hnd := h.nd
 have hql := h.ql
 unfold Wld.signal Wld.que
 by_cases ha : a = 0
 ·simp only [ha, if_true]
  rcases hq : W.q0 with _ | ⟨f, r⟩
  ·exact h
  ·rw [hq] at hnd hql
   simp only [List.cons_append, List.nodup_cons, List.length_cons] at hnd hql
   have := h.woken (f := f) (Q0 := r) (Q1 := W.q1) (by rw [hq]; simp) hnd.1 hnd.2 (by omega) (fun g hg => by rw [hq]; exact List.mem_cons_of_mem _ hg)
   show Inv ((W.upd f.toNat (fun p => { p with mode := 2, on := 0 })).setQue 0 r) B
   unfold Wld.setQue
   rw [if_pos rfl]
   exact this
 ·simp only [ha, if_false]
  rcases hq : W.q1 with _ | ⟨f, r⟩
  ·exact h
  ·rw [hq] at hnd hql
   simp only [List.length_cons] at hql
   have hnd2 := hnd
   rw [List.nodup_append] at hnd2
   have hcn := List.nodup_cons.1 hnd2.2.1
   have := h.woken (f := f) (Q0 := W.q0) (Q1 := r) (by rw [hq]; simp) (by
     simp only [List.mem_append, not_or]
     exact ⟨fun hx => hnd2.2.2 f hx f (by simp) J, hcn.1⟩) (by
     rw [List.nodup_append]
     exact ⟨hnd2.1, hcn.2, fun x hx y hy => hnd2.2.2 x hx y (List.mem_cons_of_mem _ hy)⟩) (by omega) (fun g hg => by
     rw [hq]
     simp only [List.mem_append, List.mem_cons] at hg ⊢
     rcases hg with hg | hg <;> simp [hg])
   show Inv ((W.upd f.toNat (fun p => { p with mode := 2, on := 0 })).setQue a r) B
   unfold Wld.setQue
   rw [if_neg ha]
   exact this
theorem upd_upd (W : Wld) (who : Nat) (f g : Prc → Prc) : (W.upd who g).upd who f = W.upd who (fun p => f (g p)) := by
 simp [Wld.upd, updL_updL]
theorem setRm_upd (W : Wld) (who : Nat) (f : Prc → Prc) (a v : Int) : (W.upd who f).setRm a v = (W.setRm a v).upd who f := by
 unfold Wld.setRm; split <;> rfl
theorem que_setRm (W : Wld) (a v b : Int) : (W.setRm a v).que b = W.que b := by
 unfold Wld.setRm; split <;> rfl
theorem POk.set {p : Prc} (h : POk p) (k v : Int) : POk (p.set k v) := by
 unfold Prc.set
 split
 ·exact ⟨h.td, h.mx, h.md, h.rm, h.ro⟩
 split
 ·exact ⟨h.td, h.mx, h.md, h.rm, h.ro⟩
 ·exact ⟨h.td, h.mx, h.md, h.rm, h.ro⟩
theorem Inv.step {W : Wld} {B who : Nat} (h : Inv W B) (hw : who < W.procs.length) (hc : codeOf W (who : Nat) = 0) : Inv (W.step who) (B + 1) := by
 obtain ⟨p, hp⟩ : ∃ p, W.procs[who]? = some p := ⟨W.procs[who], by simp [hw]⟩
 obtain ⟨hm1, hne⟩ := code0 hp hc
 have hpm : p ∈ W.procs := List.mem_of_getElem? hp
 have q := h.pr p hpm
 by_cases hm : p.mode = 2
 ·have e : W.step who = (W.setRm p.room ((who : Int) + 1)).upd who (fun p => { p with mode := 0 }) := by simp [Wld.step, hp, hm]
  rw [e]
  refine Inv.mono ((h.setRm _ _ (by omega)).upd (p := p) (by rw [setRm_procs]; exact hp) (by omega) ?_) (Nat.le_succ _)
  exact ⟨q.td, q.mx, .inl rfl, fun hx => absurd rfl hx, q.ro⟩
 rcases hT : p.todo with _ | ⟨s, r⟩
 ·exact absurd hT (hne hm)
 rw [step_eq hp hm hT]
 have hm0 : p.mode = 0 := by rcases q.md with h | h | h <;> simp_all
 have hsok := h.sok hpm hT
 have htd := q.td
 have hmx := q.mx
 rw [hT] at htd hmx
 simp only [Go.Proofs.YtcbdilccmjpnbaaGreatDoor.mx] at hmx
 have hro := q.ro
 have hpt : (pop p).todo = r := by simp [pop, hT]
 generalize hR : p.room = ro at htd hro
 cases htd with
 | leave ha hr =>
  have e : (W.upd who pop).stepS who (leaveS ro) = (W.setRm ro 0).upd who (fun p => { pop p with room := -1 }) := by
   rw [show (W.upd who pop).stepS who (leaveS ro) = ((W.upd who pop).setRm ro 0).upd who (fun p => { p with room := -1 }) by simp [Wld.stepS, leaveS, Stm.kind, Stm.a], setRm_upd, upd_upd]
  rw [e]
  refine Inv.mono ((h.setRm _ _ (by omega)).upd (p := p) (by rw [setRm_procs]; exact hp) hm1 ?_) (Nat.le_succ _)
  exact ⟨by show TOk (-1) (pop p).todo; rw [hpt]; exact hr, by show Go.Proofs.YtcbdilccmjpnbaaGreatDoor.mx (pop p).todo ≤ _; rw [hpt]; omega, .inl hm0, fun hx => absurd hm0 hx, .inl rfl⟩
 | stm hs hr =>
  rename_i d
  have hpop : POk (pop p) := ⟨by show TOk p.room (pop p).todo; rw [hpt, hR]; exact hr, by rw [hpt]; omega, .inl hm0, fun hx => absurd hm0 hx, q.ro⟩
  have hP := h.upd hp hm1 hpop
  have hPp : (W.upd who pop).procs[who]? = some (pop p) := by
   show (updL _ _ _)[who]? = _
   rw [updL_get, hp]; rfl
  obtain ⟨k, a, b, n, x, y⟩ := s
  simp only [mxS] at hmx
  have hs0 := hs
  simp only [stmtOk] at hs
  split at hs
  ·cases hs
  have pm1 : (pop p).mode ≠ 1 := hm1
  have pm0 : (pop p).mode = 0 := hm0
  have app : ∀ L : List Stm, ∀ d', listOk L d' ro = true → Go.Proofs.YtcbdilccmjpnbaaGreatDoor.mx L + r.length ≤ 1000 → POk { pop p with todo := L ++ (pop p).todo } := fun L d' h1 h2 =>
   ⟨by show TOk p.room (L ++ (pop p).todo); rw [hpt, hR]; exact hr.app h1, by show Go.Proofs.YtcbdilccmjpnbaaGreatDoor.mx (L ++ (pop p).todo) ≤ _; rw [hpt]; exact mx_append _ _ h2 (by omega), .inl hm0, fun hx => absurd hm0 hx, q.ro⟩
  unfold Wld.stepS
  have hkd : (Stm.mk k a b n x y).kind = k := rfl
  simp only [hkd]
  by_cases e1 : k = 1
  ·rw [if_pos e1]
   exact (hP.upd hPp pm1 (hpop.set _ _)).mono (Nat.le_succ _)
  rw [if_neg e1]
  by_cases e2 : k = 2
  ·rw [if_pos e2]
   exact (hP.upd hPp pm1 (hpop.set _ _)).mono (Nat.le_succ _)
  rw [if_neg e2]
  by_cases e3 : k = 3
  ·rw [if_pos e3]
   exact (hP.upd hPp pm1 (hpop.set _ _)).mono (Nat.le_succ _)
  rw [if_neg e3]
  by_cases e4 : k = 4
  ·rw [if_pos e4]
   exact (hP.setCell _ _).mono (Nat.le_succ _)
  rw [if_neg e4]
  by_cases e5 : k = 5
  ·rw [if_pos e5]
   exact hP.say _
  rw [if_neg e5]
  by_cases e6 : k = 6
  ·rw [if_pos e6]
   subst e6
   simp at hs
   refine (hP.upd hPp pm1 (app _ (d - 1) ?_ ?_)).mono (Nat.le_succ _)
   ·by_cases hz : (W.upd who pop).reg who (Stm.mk 6 a b n x y).a = 0
    ·rw [if_pos hz]; exact hs.2
    ·rw [if_neg hz]; exact hs.1.2
   ·by_cases hz : (W.upd who pop).reg who (Stm.mk 6 a b n x y).a = 0
    ·rw [if_pos hz]; simp only [Stm.els]; omega
    ·rw [if_neg hz]; simp only [Stm.body]; omega
  rw [if_neg e6]
  by_cases e7 : k = 7
  ·rw [if_pos e7]
   subst e7
   simp at hs
   refine (hP.upd hPp pm1 ?_).mono (Nat.le_succ _)
   by_cases hz : (W.upd who pop).reg who (Stm.mk 7 a b n x y).a = 0
   ·rw [if_pos hz]
    exact app [] 3 J (by simp only [Go.Proofs.YtcbdilccmjpnbaaGreatDoor.mx]; omega)
   ·rw [if_neg hz]
    refine ⟨?_, ?_, .inl hm0, fun hx => absurd hm0 hx, q.ro⟩
    ·show TOk p.room ((x ++ [.mk 7 a b n x y]) ++ (pop p).todo)
     rw [hpt, hR, List.append_assoc]
     exact TOk.app hs.1.2 (.stm hs0 hr)
    ·show Go.Proofs.YtcbdilccmjpnbaaGreatDoor.mx ((x ++ [.mk 7 a b n x y]) ++ (pop p).todo) ≤ 1000
     rw [hpt, List.append_assoc]
     refine mx_append _ _ (by simp only [List.length_append, List.length_singleton]; omega) ?_
     simp only [List.singleton_append, Go.Proofs.YtcbdilccmjpnbaaGreatDoor.mx, mxS]; omega
  rw [if_neg e7]
  by_cases e8 : k = 8
  ·rw [if_pos e8]
   subst e8
   simp at hs
   obtain ⟨⟨⟨⟨hro1, ha0⟩, hb⟩, hn⟩, hx⟩ := hs
   have hro2 : ro = -1 := by rcases hro with h | h | h <;> omega
   have ha2 : is2 a := by unfold is2; omega
   refine Inv.mono ((hP.setRm _ _ (by omega)).upd (p := pop p) (by rw [setRm_procs]; exact hPp) pm1 ?_) (Nat.le_succ _)
   refine ⟨?_, ?_, .inl hm0, fun hx => absurd hm0 hx, .inr ha2⟩
   ·show TOk a ((x ++ [leaveS a]) ++ (pop p).todo)
    rw [hpt, List.append_assoc]
    exact TOk.app hx (.leave ha2 (hro2 ▸ hr))
   ·show Go.Proofs.YtcbdilccmjpnbaaGreatDoor.mx ((x ++ [leaveS a]) ++ (pop p).todo) ≤ 1000
    rw [hpt, List.append_assoc]
    refine mx_append _ _ (by simp only [List.length_append, List.length_singleton]; omega) ?_
    simp only [List.singleton_append, Go.Proofs.YtcbdilccmjpnbaaGreatDoor.mx, mxS, leaveS]; omega
  rw [if_neg e8]
  by_cases e9 : k = 9
  ·rw [if_pos e9]
   subst e9
   simp [leafOk] at hs
   have hr2 : is2 ro := by
    rcases hro with h | h
    ·omega
    ·exact h
   have := (hP.setRm ((W.upd who pop).room who) 0 (by omega)).wait (p := pop p) (by rw [setRm_procs]; exact hPp) pm1 (by show is2 p.room; rw [hR]; exact hr2) a
   rw [que_setRm] at this
   exact this
  rw [if_neg e9]
  by_cases e10 : k = 10
  ·rw [if_pos e10]
   exact (hP.signal _).mono (Nat.le_succ _)
  rw [if_neg e10]
  by_cases e12 : k = 12
  ·subst e12
   simp [leafOk] at hs
  ·rw [if_neg e12]
   exact hP.mono (Nat.le_succ _)
end
section
attribute [local irreducible] X Pure Mod
theorem Wld.step_len (W : Wld) (who : Nat) : (W.step who).procs.length = W.procs.length := by
 have hs : ∀ (V : Wld) a v, (V.setRm a v).procs.length = V.procs.length := fun V a v => by rw [setRm_procs]
 have hq : ∀ (V : Wld) a v, (V.setQue a v).procs.length = V.procs.length := fun V a v => by rw [setQue_procs]
 have hc : ∀ (V : Wld) a v, (V.setCell a v).procs.length = V.procs.length := fun V a v => by rw [setCell_procs]
 have hu := upd_len
 unfold Wld.step
 rcases W.procs[who]? with _ | p
 ·rfl
 by_cases hm : p.mode = 2
 ·simp only [hm, if_true, hu, hs]
 ·simp only [hm, if_false]
  rcases p.todo with _ | ⟨s, r⟩
  ·rfl
  ·simp only [Wld.stepS]
   have hg : ∀ (V : Wld) a, (V.signal a).procs.length = V.procs.length := fun V a => by
    unfold Wld.signal
    split
    ·rfl
    ·rw [hq, hu]
   have ite : ∀ {c : Prop} [Decidable c] {A B : Wld} {n : Nat}, A.procs.length = n → B.procs.length = n → (if c then A else B).procs.length = n := by
    intro c _ A B n h1 h2
    by_cases h : c
    ·rw [if_pos h]; exact h1
    ·rw [if_neg h]; exact h2
   repeat' (first | refine ite ?_ ?_)
   all_goals (simp only [hu, hs, hq, hc, hg])
end
section
attribute [local irreducible] X Pure Mod
section
variable {C : Ctx} {ι : Ids} {E : Env} {L : List Ent} {G : PH} {d : Option Nat} {ty : Nat} {pos : String} {af : Array Edge} {g : Option (Nat × Bool)}
theorem V_rem {x y : Operand} {t t' : Nat} {p q : Int} (hx : ev E x = some (.val (.int .i64 p))) (hy : ev E y = some (.val (.int .i64 q))) (hp : 0 ≤ p) (hq : 0 < q) : Vl C ι E L G ⟨d, .binOp .rem t x y t', ty, pos, af, g⟩ (.int .i64 (p % q)) := by
 intro a w hE _
 have ex := ev_sound hE hx
 have ey := ev_sound hE hy
 simp only [denO, Option.some.injEq] at ex ey
 simp only [execOp, ← ex, ← ey]
 have hne : ¬ q = 0 := by omega
 simp [eqGuard, binOp, Op.intDiv, hne, Int.tmod_eq_emod_of_nonneg hp]
theorem V_quo {x y : Operand} {t t' : Nat} {p q : Int} (hx : ev E x = some (.val (.int .i64 p))) (hy : ev E y = some (.val (.int .i64 q))) (hp : 0 ≤ p) (hp' : p ≤ 9223372036854775807) (hq : 0 < q) : Vl C ι E L G ⟨d, .binOp .quo t x y t', ty, pos, af, g⟩ (.int .i64 (p / q)) := by
 intro a w hE _
 have ex := ev_sound hE hx
 have ey := ev_sound hE hy
 simp only [denO, Option.some.injEq] at ex ey
 simp only [execOp, ← ex, ← ey]
 have hne : ¬ q = 0 := by omega
 have h1 : 0 ≤ p / q := Int.ediv_nonneg hp (by omega)
 have h2 : p / q ≤ p := Int.ediv_le_self _ hp
 have hwr : IntKind.i64.wrap (p / q) = p / q := by rw [IntKind.wrap_i64]; omega
 simp [eqGuard, binOp, Op.intDiv, hne, Int.tdiv_eq_ediv_of_nonneg hp, hwr]
theorem V_conv {x : Operand} {t t' : Nat} {k k' : IntKind} {p : Int} (hx : ev E x = some (.val (.int k p))) (hu : C.P.underlying t = some (.int k)) (hu' : C.P.underlying t' = some (.int k')) (hp : k'.wrap p = p) : Vl C ι E L G ⟨d, .convert t t' x, ty, pos, af, g⟩ (.int k' p) := by
 intro a w hE _
 have ex := ev_sound hE hx
 simp only [denO, Option.some.injEq] at ex
 simp only [execOp, ← ex]
 simp [convert, run_underlying hu, run_underlying hu', Conv.intToInt, hp]
end
end
section
section
variable {C : Ctx} {ks : List Nat} {all : Array Oper} {k : List It} {E : Env} {ι : Ids} {L : List Ent} {G : PH} {R : List Nat} {pend : List Pd}
def rdyL (all : Array Oper) (R : List Nat) : List Nat → Option (List Nat)
 | [] => some []
 | i :: l => match nthOp i all.toList with
  | some o => match clearOf R o.after.toList with
   | true => match rdyL all R l with
    | some r => some (i :: r)
    | none => none
   | false => rdyL all R l
  | none => none
theorem rdyL_sound : ∀ {l r : List Nat}, rdyL all R l = some r → ∀ i ∈ l, ∀ o, all[i]? = some o → (∀ e ∈ edgesA o, e ∉ R) → i ∈ r := by
 intro l
 induction l with
 | nil => intro r _ i hi; cases hi
 | cons x l ih =>
  intro r h i hi o ho he
  simp only [rdyL] at h
  split at h
  ·rename_i o' ho'
   split at h
   ·split at h
    ·rename_i r' hr'
     cases h
     rcases List.mem_cons.1 hi with rfl | hi
     ·exact List.mem_cons_self ..
     ·exact List.mem_cons_of_mem _ (ih hr' i hi o ho he)
    ·cases h
   ·rename_i hc
    rcases List.mem_cons.1 hi with rfl | hi
    ·have ho'' : all[i]? = some o' := by simpa using nthOp_eq ho'
     rw [ho] at ho''; cases ho''
     obtain ⟨e, h1, h2, h3⟩ := clearOf_eq hc
     exact absurd h3 (he e.on (List.mem_map.2 ⟨e, List.mem_filter.2 ⟨h1, h2⟩, J⟩))
    ·exact ih h i hi o ho he
  ·cases h
def AllN (P : Nat → Prop) : List Nat → Prop
 | [] => True
 | j :: l => P j ∧ AllN P l
theorem AllN_mem {P : Nat → Prop} : ∀ {l : List Nat}, AllN P l → ∀ j ∈ l, P j
 | [], _, j, hj => by cases hj
 | x :: l, h, j, hj => by
  rcases List.mem_cons.1 hj with rfl | hj
  ·exact h.1
  ·exact AllN_mem h.2 j hj
theorem D_list {j0 : Nat} {js : List Nat} (hs : rdyL all R R = some (j0 :: js)) (h : AllN (Nx C ks all k R pend E ι L G) (j0 :: js)) : D C ks all k R pend E ι L G := by
 intro hok hp hdis
 refine DR_core hok hp hdis (fun h => by subst h; cases hs) ?_
 intro i hi o' ho' he
 exact AllN_mem h i (rdyL_sound hs i hi o' ho' he) hok hp hdis o' ho'
end
section
variable {C : Ctx} {k : List It} {E : Env} {ι : Ids} {L : List Ent} {G : PH} {all : Array Oper} {l : List Oper}
theorem S_Bhp (key κ : Nat) {b ty : Nat} {cs : List Cel} {vs : List Value} {L' : List Ent} (hj : lookI key ι = some b) (hB : lookB key L = some (ty, cs)) (hd : denL ι cs = some vs) (hL' : delB key L = some L') (hk : X C k E ι (.hp κ (blkHP b ty vs) :: L') G) : X C k E ι L G := by
 intro a w g1 g2 g3 g4
 obtain ⟨Ss, ho, hS⟩ := g4.own
 obtain ⟨S, Ss', b', hb', hh, hSb, hm, ho', hT⟩ := owns_delB hd ho hB hL'
 rw [hj] at hb'; cases hb'
 refine hk a w g1 g2 g3 ⟨g4.os, g4.tape, g4.output, g4.size, g4.keep, g4.emb, S :: Ss', ⟨blkHP_holds.2 ⟨hh, hSb⟩, fun T hT' x hx hx' => (hT T hT').2 x hx' hx, ho'⟩, ?_⟩
 intro T hT' x hx
 rcases List.mem_cons.1 hT' with rfl | hT'
 ·exact hS T hm x hx
 ·exact hS T (hT T hT').1 x hx
theorem S_hpB (κ key : Nat) {b ty : Nat} {vs : List Value} {L' : List Ent} (hL : getH κ L = some (blkHP b ty vs)) (hL' : delH κ L = some L') (hf : lookI key ι = none) (hk : X C k E ((key, b) :: ι) (.blk key ty (vL vs) :: L') G) : X C k E ι L G := by
 intro a w g1 g2 g3 g4
 obtain ⟨Ss, ho, hS⟩ := g4.own
 obtain ⟨S, Ss', hA, hm, ho', hT⟩ := owns_del ho hL hL'
 obtain ⟨hh, hSb⟩ := blkHP_holds.1 hA
 refine hk a w g1 g2 (g3.ids hf) ⟨g4.os, g4.tape, g4.output, g4.size, g4.keep, g4.emb, S :: Ss', ⟨⟨b, vs, by simp [lookI], denL_vL _ _, hh, hSb⟩, fun T hT' x hx hx' => (hT T hT').2 x hx' hx, owns_ids ho' hf⟩, ?_⟩
 intro T hT' x hx
 rcases List.mem_cons.1 hT' with rfl | hT'
 ·exact hS T hm x hx
 ·exact hS T (hT T hT').1 x hx
theorem S_unpair (κ κ1 κ2 : Nat) {A B : HP} {L' : List Ent} (hL : getH κ L = some (pairHP A B)) (hL' : delH κ L = some L') (hk : X C k E ι (.hp κ1 A :: .hp κ2 B :: L') G) : X C k E ι L G := by
 intro a w g1 g2 g3 g4
 obtain ⟨Ss, ho, hS⟩ := g4.own
 obtain ⟨S, Ss', ⟨S1, S2, hA, hB, hd, hSS⟩, hm, ho', hT⟩ := owns_del ho hL hL'
 refine hk a w g1 g2 g3 ⟨g4.os, g4.tape, g4.output, g4.size, g4.keep, g4.emb, S1 :: S2 :: Ss', ⟨hA, ?_, hB, ?_, ho'⟩, ?_⟩
 ·intro T hT' x hx hx'
  rcases List.mem_cons.1 hT' with rfl | hT'
  ·exact hd x hx hx'
  ·exact (hT T hT').2 x hx' ((hSS x).2 (.inl hx))
 ·intro T hT' x hx hx'
  exact (hT T hT').2 x hx' ((hSS x).2 (.inr hx))
 ·intro T hT' x hx
  rcases List.mem_cons.1 hT' with rfl | hT'
  ·exact hS S hm x ((hSS x).2 (.inl hx))
  rcases List.mem_cons.1 hT' with rfl | hT'
  ·exact hS S hm x ((hSS x).2 (.inr hx))
  ·exact hS T (hT T hT').1 x hx
theorem S_pick (kk : List Nat) {L1 L2 : List Ent} (hL : pickE kk L = some (L1, L2)) (hk : X C k E ι L1 G) : X C k E ι L G := by
 intro a w h1 h2 h3 h4
 obtain ⟨Ss, ho, hS⟩ := h4.own
 obtain ⟨Sx, Sr, g1, g2, g3, g4⟩ := pickE_sound hL ho
 exact hk a w h1 h2 h3 ⟨h4.os, h4.tape, h4.output, h4.size, h4.keep, h4.emb, Sx, g1, fun T hT => hS T ((g4 T).1 (.inl hT))⟩
theorem S_newHP (κ : Nat) {B : Nat} {A : HP} {L' : List Ent} (hL : getH κ L = some (newHP B A)) (hL' : setH κ A L = some L') (hk : X C k E ι L' G) : X C k E ι L G := by
 intro a w h1 h2 h3 h4
 refine hk a w h1 h2 h3 ?_;obtain ⟨S, ⟨hA, hB⟩, hSG, hturn⟩ := h4.turn hL
 exact hturn _ _ G w S hL' hA h4.emb XR (fun b hb => ⟨hSG b hb, .inl hb⟩) J J J (Nat.le_refl _) fun _ _ _ => J
end
section
variable {C : Ctx} {k : List It} {E : Env} {ι : Ids} {L : List Ent} {G : PH}
theorem S_cut {α : Type} {c : Code} (inv : α → Prop) (ι2 : α → Ids) (E2 : α → Env) (L2 : α → List Ent) (G2 : α → PH) (h1 : X C (.code c :: .stop (fun a w => ∃ y, inv y ∧ St C (E2 y) (ι2 y) (L2 y) (G2 y) a w) :: k) E ι L G)
  (h2 : ∀ y, inv y → X C k (E2 y) (ι2 y) (L2 y) (G2 y)) : X C (.code c :: k) E ι L G := by
 intro a w q1 q2 q3 q4
 refine wpIn_mono (h1 a w q1 q2 q3 q4) ?_
 intro e a' w' q
 cases e with
 | normal =>
  obtain ⟨y, hy, g1, g2, g3, g4⟩ := q
  exact h2 y hy a' w' g1 g2 g3 g4
 | _ => exact q
theorem S_meet {α : Type} {inv : α → Prop} {ι2 : α → Ids} {E2 : α → Env} {L2 : α → List Ent} {G2 : α → PH} (y : α) (hy : inv y) (hG : G = G2 y) (hE : subE ι E (ι2 y) (E2 y)) (hL : subL ι (ι2 y) L (L2 y)) : X C (.stop (fun a w => ∃ y, inv y ∧ St C (E2 y) (ι2 y) (L2 y) (G2 y) a w) :: k) E ι L G :=
 S_stop fun a w h => ⟨y, hy, by subst hG; exact h.sub hE hL⟩
end
def starHP : List HP → HP
 | [] => emptyHP
 | A :: r => pairHP A (starHP r)
section
variable {C : Ctx} {ι : Ids} {E : Env} {L : List Ent} {G : PH} {d : Option Nat} {ty : Nat} {pos : String} {af : Array Edge} {g : Option (Nat × Bool)}
end
end
section
attribute [local irreducible] X Pure Mod
mutual
/-- no list within is long -/
def Stm.short : Stm → Prop
 | .mk _ _ _ _ x y => (x.length ≤ 1048576 ∧ shL x) ∧ y.length ≤ 1048576 ∧ shL y
def shL : List Stm → Prop
 | [] => True
 | s :: r => Stm.short s ∧ shL r
end
def Sh (l : List Stm) : Prop := l.length ≤ 1048576 ∧ shL l
theorem Stm.short_mk {k a b n : Int} {x y : List Stm} : Stm.short (.mk k a b n x y) ↔ Sh x ∧ Sh y := by simp [Stm.short, Sh]
theorem ints_of {G : PH} {a : Addr} {l : List Int} {n c : Nat} (h : gcells G a (intC l)) (hn : n = l.length) (hc : n ≤ c) (hcm : c ≤ maxLen) (hb : n ≤ 1000000000) (hi : ∀ x ∈ l, I64 x) : Ints G l (.slice (some a) n c) :=
 Sx_Ints ⟨some a, c, rfl, hb, hc, hcm, by rw [intC_length, hn]; omega, .inr ⟨a, rfl, h⟩⟩ hn hi
theorem frz {α : Type} {G G' : PH} {sz : Nat} {rep : α → List Value → Prop} {L : List α} {A : Option Addr} {n c : Nat} {xs : List Value} (hcs : Cs sz rep L xs) (hn : n = L.length) (hb : n ≤ 1000000000) (hnc : n ≤ c) (hcm : c ≤ maxLen) (hcl : n = 0 ∨ ∃ a, A = some a ∧ gcells (newp G G') a xs) : Sr G' sz rep L (.slice A n c) := by
 subst hn
 refine Sx_Sr ⟨A, c, J, hb, hnc, hcm, Cs_length hcs, ?_⟩ J hcs
 rcases hcl with hcl | ⟨a, h1, h2⟩
 ·exact .inl hcl
 ·exact .inr ⟨a, h1, gcells_le (newp_le _ _) h2⟩
theorem sts_cells {G : PH} {l : List Stm} {v : Value} (h : Sts G l v) : ∃ A c xs, v = .slice A l.length c ∧ xs.length = l.length * 6 ∧ (l.length = 0 ∨ ∃ a, A = some a ∧ gcells G a xs) ∧ Cs 6 (Stm.rep G) l xs := by
 obtain ⟨xs, hx, hc⟩ := Sr_Sx (fun s cs h => Stm.rep_len h) h
 obtain ⟨A, c, rfl, _, _, _, hl, hr⟩ := hx
 exact ⟨A, c, xs, J, hl, hr, hc⟩
theorem six {cs : List Value} (h : cs.length = 6) : ∃ c0 c1 c2 c3 c4 c5, cs = [c0, c1, c2, c3, c4, c5] := by
 match cs, h with
 | [a0, a1, a2, a3, a4, a5], _ => exact ⟨a0, a1, a2, a3, a4, a5, rfl⟩
def PrgS (G : PH) (p : List (List Stm)) (v : Value) : Prop := Prg G p v ∧ (∀ l ∈ p, Sh l) ∧ p.length ≤ 1048576
theorem Cs_intC {l : List Int} (h : ∀ x ∈ l, I64 x) : Cs 1 intRep l (intC l) := by
 induction l with
 | nil => rfl
 | cons n l ih => exact ⟨[.int .i64 n], intC l, rfl, rfl, ⟨rfl, h n (List.mem_cons_self ..)⟩, ih fun x hx => h x (List.mem_cons_of_mem _ hx)⟩
theorem gcells_of {G : PH} {a : Addr} : ∀ {cs : List Value}, (∀ j v, cs[j]? = some v → gcell G (a.add j) = some v) → gcells G a cs := by
 intro cs
 induction cs generalizing a with
 | nil => intro _; trivial
 | cons v cs ih =>
  intro h
  refine ⟨by have := h 0 v J; rwa [add_zero'] at this, ih fun j u hj => ?_⟩
  rw [add_add', Nat.add_comm 1 j]
  exact h (j + 1) u (by simpa using hj)
end
section
attribute [local irreducible] X Pure Mod
mutual
/-- a copy, so deep at most -/
def cpS : Stm → Nat → Stm
 | .mk k a b n x y, d => .mk k a b n (cpL x d) (cpL y d)
def cpL : List Stm → Nat → List Stm
 | _, 0 => []
 | [], _ + 1 => []
 | s :: r, d + 1 => cpS s d :: cpL r (d + 1)
end
theorem cpL_succ (L : List Stm) (d : Nat) : cpL L (d + 1) = L.map (cpS · d) := by
 induction L with
 | nil => rfl
 | cons s r ih => simp [cpL, ih]
def Cp (L : List Stm) : Prop := ∀ (d : Nat) (v : Value) (G : PH), Sts G L v → d ≤ 1000 → Pure Tryz.prog 60 [v, .int .i64 (d : Nat)] G fun v' G' => Sts G' (cpL L d) v'
theorem c_l2Copy (L : List Stm) (hb : ∀ k (hk : k < L.length), Cp L[k].body ∧ Cp L[k].els) : Cp L := by
 intro d v G hst hd3
 obtain ⟨A, c, rfl, hl1, _⟩ := id hst
 refine Pure.intro Tryz.func60 Tryz.ntmps60 J J fun w => ?_; refine Va J J ?_;refine S_emptyO Tk 5 J J J J fun A0 => ?_;refine Va J J ?_;refine S_loop (α := Nat × Option Addr × Nat × List Value × PH) (fun y => y.1 ≤ L.length ∧ (0 < y.1 → 0 < d) ∧ PH.ext w.heap.size G y.2.2.2.2 ∧ Cs 6 (Stm.rep y.2.2.2.2) ((L.take y.1).map (cpS · (d - 1))) y.2.2.2.1) (fun y => L.length - y.1) []
  (fun y => [(6, .val (.int .i64 (y.1 : Nat))), (5, .val (.slice y.2.1 y.1 y.2.2.1)), (0, .val (.slice A L.length c)), (1, .val (.int .i64 (d : Nat)))])
  (fun y => [.hp 5 (rowO w.heap.size 83 6 y.2.1 y.1 y.2.2.1 y.2.2.2.1)]) (fun y => y.2.2.2.2) (0, A0, 0, [], G) ⟨Nat.zero_le _, fun h => absurd h (by simp), PH.ext.refl _ _, rfl⟩ rfl ?_ ?_ ?_
 ·exact ⟨⟨_, J, J⟩, ⟨_, J, J⟩, ⟨_, J, J⟩, ⟨_, J, J⟩, trivial⟩
 ·exact .hp .nil
 rintro ⟨i, A5, c5, xs5, G2⟩ ⟨hi, hid, hext, hcs5⟩
 simp only at hi hid hext hcs5 ⊢
 refine Va J J ?_
 refine S_cond J (fun h => ?_) (fun h => ?_) <;> refine Va J J ?_
 ·simp only [Bool.and_eq_true, decide_eq_true_eq] at h
  have hkl : i < L.length := by omega
  obtain ⟨e, rfl⟩ : ∃ e, d = e + 1 := ⟨d - 1, by omega⟩
  obtain ⟨ad, cs, rfl, hcs, hrep⟩ := Sr_at (Sts_le hext.le hst) hkl
  obtain ⟨hbx, hby⟩ := hb i hkl
  generalize hs : L[i] = s at hrep hbx hby
  obtain ⟨q1, q2, q3, q4, q5, q6⟩ := s
  obtain ⟨vx, vy, rfl, i1, i2, i3, i4, hx, hy⟩ := Stm.rep_iff.1 hrep
  simp only [Stm.body, Stm.els] at hbx hby
  obtain ⟨Ax, cx, rfl, hx1, _⟩ := id hx
  obtain ⟨Ay, cy, rfl, hy1, _⟩ := id hy
  refine S_index Tk J J J J J J (by omega) (by omega) ?_;refine Va J J ?_;refine S_loadA Tk J J J J J (by simpa using hcs) ?_;refine Va J J ?_;refine AZ ZT_ok J J J J fun b7 => ?_;refine Va J J ?_;refine S_subI J J J J (by omega) ?_;refine Va J J ?_
  rw [show (((e + 1 : Nat) : Int) - 1) = ((e : Nat) : Int) by omega]
  refine S_call Tryz.call60 (hbx e _ _ hx (by omega)) J J J ?_;rintro v3 G3 hv3 hext3
  obtain ⟨A31, c31, rfl, _⟩ := id hv3
  refine Va J J ?_;refine S_subI J J J J (by omega) ?_;refine Va J J ?_
  rw [show (((e + 1 : Nat) : Int) - 1) = ((e : Nat) : Int) by omega]
  refine S_call Tryz.call60 (hby e _ _ (Sts_le hext3.le hy) (by omega)) J J J ?_;rintro v4 G4 hv4 hext4
  obtain ⟨A41, c41, rfl, _⟩ := id hv4
  refine Va J J ?_;refine S_slice Tk ZT_ok J J J J (by decide) (by decide) J J J J fun b2 => ?_;refine Va J J ?_
  refine S_app1 Tk 5 37 J J J J J J J J J J J J J J (by intro u hu; simp at hu; rcases hu with rfl | rfl | rfl | rfl | rfl | rfl <;> rfl) rfl (fun _ _ => rfl) (by omega) (Nat.le_refl _) fun A6 c6 => ?_
  refine Va J J ?_;refine S_add J J J J (by omega) ?_;refine Va J J ?_;refine S_again (i + 1, A6, c6, _, G4) ⟨by simp only; omega, fun _ => by omega, (hext.trans hext3).trans hext4, ?_⟩ (by simp only; omega) rfl ⟨⟨_, rfl, by simp [denO]⟩, ⟨_, rfl, by simp [denO]⟩, ⟨_, rfl, rfl⟩, ⟨_, rfl, rfl⟩, trivial⟩ (by first | exact .drop (.hp .nil) | exact .drop (.drop (.hp .nil)))
  simp only
  rw [List.take_succ_eq_append_getElem hkl, List.map_append, hs]
  exact Cs_append (Cs_mono (Stm.reps_le (hext3.trans hext4).le _) hcs5) (Stm.rep_iff.2 ⟨_, _, J, i1, i2, i3, i4, Sts_le hext4.le hv3, hv4⟩) J
 ·refine S_freezeR 5 J J (Nat.le_refl _) fun Gf hextf hncf hcmf hclf => ?_
  have hvf : Sts Gf _ _ := frz (Cs_mono (Stm.reps_le hextf.le _) hcs5) (by simp; omega) (by omega) hncf hcmf hclf
  refine S_retp (Res.t1 Tryz.results60 J J) (hext.trans hextf) ?_
  have h' : ¬ (i < L.length ∧ 0 < d) := by simpa using h
  rcases Nat.eq_zero_or_pos d with rfl | hd
  ·have : i = 0 := by
    rcases Nat.eq_zero_or_pos i with h | h
    ·exact h
    ·have := hid h; omega
   subst this
   simpa [cpL] using hvf
  ·obtain ⟨e, rfl⟩ : ∃ e, d = e + 1 := ⟨d - 1, by omega⟩
   have : i = L.length := by omega
   subst this
   rw [List.take_length] at hvf
   rw [cpL_succ]
   exact hvf
mutual
theorem Cp_stm : ∀ (s : Stm), Cp s.body ∧ Cp s.els
 | .mk k a b n x y => ⟨Cp_all x, Cp_all y⟩
theorem Cp_at : ∀ (L : List Stm) (k : Nat) (hk : k < L.length), Cp L[k].body ∧ Cp L[k].els
 | [], k, hk => absurd hk (by simp)
 | s :: L, 0, _ => Cp_stm s
 | s :: L, k + 1, hk => Cp_at L k (by simpa using hk)
theorem Cp_all : ∀ (L : List Stm), Cp L
 | L => c_l2Copy L fun k hk => Cp_at L k hk
end
end
section
def intU (n : Int) (cs : List Value) : Prop := cs = [.int .i64 n]
abbrev IntsU (G : PH) (l : List Int) (v : Value) : Prop := Sr G 1 intU l v
theorem IntsU_le {G G' : PH} (hl : G.le G') {l : List Int} {v : Value} (h : IntsU G l v) : IntsU G' l v := Sr_mono hl (fun _ _ _ h => h) h
def sayU (x : Int × Int) (cs : List Value) : Prop := cs = [.int .i64 x.1, .int .i64 x.2]
abbrev SaysU (G : PH) (l : List (Int × Int)) (v : Value) : Prop := Sr G 2 sayU l v
def intsRep (G : PH) (l : List Int) (cs : List Value) : Prop := ∃ v, cs = [v] ∧ IntsU G l v
def prcRep (G : PH) (p : Prc) (cs : List Value) : Prop := ∃ vr vt, cs = [vr, vt, .int .i64 p.mode, .int .i64 p.on, .int .i64 p.room] ∧ IntsU G [p.r0, p.r1, p.r2] vr ∧ Sts G p.todo vt
theorem intsRep_le {G G' : PH} (hl : G.le G') {l : List Int} {cs : List Value} (h : intsRep G l cs) : intsRep G' l cs := let ⟨v, h1, h2⟩ := h; ⟨v, h1, IntsU_le hl h2⟩
theorem prcRep_le {G G' : PH} (hl : G.le G') {p : Prc} {cs : List Value} (h : prcRep G p cs) : prcRep G' p cs := let ⟨v, u, h1, h2, h3⟩ := h; ⟨v, u, h1, IntsU_le hl h2, Sts_le hl h3⟩
structure WGr (G : PH) (W : Wld) (vp vc vr vs vd : Value) : Prop where
 pr : Sr G 5 (prcRep G) W.procs vp
 ce : IntsU G [W.c0, W.c1, W.c2] vc
 ro : IntsU G [W.m0, W.m1] vr
 sg : Sr G 1 (intsRep G) [W.q0, W.q1] vs
 sd : SaysU G W.said vd
def WG (G : PH) (W : Wld) (v : Value) : Prop := ∃ vp vc vr vs vd, v = .agg #[vp, vc, vr, vs, vd] ∧ WGr G W vp vc vr vs vd
theorem WGr_le {G G' : PH} (hl : G.le G') {W : Wld} {vp vc vr vs vd : Value} (h : WGr G W vp vc vr vs vd) : WGr G' W vp vc vr vs vd :=
 ⟨Sr_mono hl (fun _ _ _ h => prcRep_le hl h) h.pr, IntsU_le hl h.ce, IntsU_le hl h.ro, Sr_mono hl (fun _ _ _ h => intsRep_le hl h) h.sg, Sr_mono hl (fun _ _ _ h => h) h.sd⟩
theorem WG_le {G G' : PH} (hl : G.le G') {W : Wld} {v : Value} (h : WG G W v) : WG G' W v := let ⟨a, b, c, d, e, h1, h2⟩ := h; ⟨a, b, c, d, e, h1, WGr_le hl h2⟩
section
variable {C : Ctx} {k : List It} {E : Env} {ι : Ids} {L : List Ent} {G : PH}
theorem SatW.frz {a : Act} {w : World} (h : SatW C ι L G w) {κ : Nat} {A : HP} {L' : List Ent} (hL : getH κ L = some A) (hL' : delH κ L = some L') (hS0 : ∀ b, ¬ C.S0 b) :
  ∃ S G', A.holds w S ∧ (∀ b, S b → G' b = w.heap[b]?) ∧ PH.ext C.w0.heap.size G G' ∧ SatW C ι L' G' w := by
 obtain ⟨Ss, ho, hS⟩ := h.own
 obtain ⟨S, Ss', hA, hm, ho', hT⟩ := owns_del ho hL hL'
 have hlt := A.lt w S hA
 classical
 refine ⟨S, fun b => if S b then w.heap[b]? else G b, hA, fun b hb => by simp [hb], ⟨fun b o hb => ?_, fun b o hb hn => ?_⟩, ⟨h.os, h.tape, h.output, h.size, h.keep, fun b o hb => ?_, Ss', ho', fun T hT' b hb => ⟨?_, (hS T (hT T hT').1 b hb).2⟩⟩⟩
 ·have : ¬ S b := fun hs => by rw [(hS S hm b hs).1] at hb; cases hb
  simp [this, hb]
 ·by_cases hs : S b
  ·rcases (hS S hm b hs).2 with h1 | h1
   ·exact absurd h1 (hS0 b)
   ·exact h1
  ·simp only [hs, if_false] at hb
   rw [hn] at hb; cases hb
 ·by_cases hs : S b
  ·simpa [hs] using hb
  ·simp only [hs, if_false] at hb
   exact h.emb b o hb
 ·have : ¬ S b := fun hs => (hT T hT').2 b hb hs
  simp [this, (hS T (hT T hT').1 b hb).1]
end
theorem blk_frz {ι : Ids} {w : World} {key ty : Nat} {cs : List Cel} {T S : Nat → Prop} {G' : PH} (h : Ent.holds ι w (.blk key ty cs) T) (hT : ∀ x, T x → S x) (hG : ∀ b, S b → G' b = w.heap[b]?) : ∃ b vs, lookI key ι = some b ∧ denL ι cs = some vs ∧ gcells G' ⟨b, 0, none⟩ vs := by
 obtain ⟨b, vs, h1, h2, h3, h4⟩ := h
 refine ⟨b, vs, h1, h2, ?_⟩
 have hb : G' b = some (.cells vs.toArray ty (0, 0)) := by rw [hG b (hT b ((h4 b).2 rfl)), h3]
 refine gcells_row (cur := vs.toArray) (e := ty) (fr := (0, 0)) hb vs 0 ?_
 simp
theorem row_frz {w : World} {base e sz n c : Nat} {A : Option Addr} {xs : List Value} {T S : Nat → Prop} {G' : PH} (h : (rowO base e sz A n c xs).holds w T) (hT : ∀ x, T x → S x) (hG : ∀ b, S b → G' b = w.heap[b]?) : n ≤ c ∧ c ≤ maxLen ∧ xs.length = n * sz ∧ (n = 0 ∨ ∃ a, A = some a ∧ gcells G' a xs) := by
 obtain ⟨h1, h2, h3, h4⟩ := h
 refine ⟨h3, h2, h1, ?_⟩
 rcases h4 with ⟨_, h4, _⟩ | ⟨g, off, cur, rfl, _, h5, _, h6, h7⟩
 ·exact .inl (by omega)
 ·exact .inr ⟨_, J, gcells_row (cur := cur) (e := e) (fr := (0, 0)) (by rw [hG g (hT g ((h7 g).2 J)), h5]) xs off h6⟩
theorem gcells_pre {G : PH} {ad : Addr} {xs ys : List Value} (h : gcells G ad (xs ++ ys)) : gcells G ad xs := (gcells_append h).1
theorem Cs_intU (l : List Int) : Cs 1 intU l (intC l) := by
 induction l with
 | nil => rfl
 | cons n l ih => exact ⟨[.int .i64 n], intC l, rfl, rfl, rfl, ih⟩
theorem Cs_sayU (l : List (Int × Int)) : Cs 2 sayU l (saidC l) := by
 induction l with
 | nil => rfl
 | cons x l ih => exact ⟨[.int .i64 x.1, .int .i64 x.2], saidC l, rfl, rfl, rfl, ih⟩
theorem intsU_blk {G : PH} {b n c : Nat} {l : List Int} {sp : List Value} (h : gcells G ⟨b, 0, none⟩ (intC l ++ sp)) (hn : n = l.length) (hb : n ≤ 1000000000) (hnc : n ≤ c) (hcm : c ≤ maxLen) : IntsU G l (.slice (some ⟨b, 0, none⟩) n c) :=
 Sx_Sr ⟨some ⟨b, 0, none⟩, c, rfl, hb, hnc, hcm, by rw [intC_length, hn]; omega, .inr ⟨_, rfl, gcells_pre h⟩⟩ hn (Cs_intU l)
theorem denL_intC {ι : Ids} {l : List Int} {sp vs : List Value} {cs : List Cel} (h : denL ι cs = some vs) (hc : cs = l.map vi ++ vL sp) : vs = intC l ++ sp := by
 subst hc
 induction l generalizing vs with
 | nil => simp [denL_vL] at h; simpa [intC] using h.symm
 | cons n l ih =>
  obtain ⟨v, r, rfl, h1, h2⟩ := denL_cons h
  simp only [vi, denC, Option.some.injEq] at h1
  subst h1
  rw [ih h2]; rfl
theorem frz_procs {ι : Ids} {w : World} {S : Nat → Prop} {G' : PH} {kg : Nat → Nat} {spg : Nat → List Value} {sp : List Value} (hG : ∀ b, S b → G' b = w.heap[b]?) (hk : ∀ i, 3 ≤ kg i ∧ kg i ≤ maxLen) : ∀ {ps : List Prc} {ts : List Value} {i : Nat} {vs : List Value} {Ss : List (Nat → Prop)} {ad : Addr},
  owns ι w (regEs spg i ps) Ss → (∀ T ∈ Ss, ∀ x, T x → S x) → denL ι (procCs kg sp i ps ts) = some vs → Tds G' ps ts → gcells G' ad vs → Rw G' 5 (prcRep G') ps ad := by
 intro ps
 induction ps with
 | nil => intros; trivial
 | cons p ps ih =>
  intro ts i vs Ss ad ho hT hd ht hg
  cases ts with
  | nil => exact absurd ht id
  | cons t ts =>
   cases Ss with
   | nil => simp [regEs, owns] at ho
   | cons T Ss =>
    obtain ⟨h1, _, h3⟩ := ho
    obtain ⟨b, us, hb, hus, hgb⟩ := blk_frz h1 (hT T (List.mem_cons_self ..)) hG
    have hus' := denL_intC (l := [p.r0, p.r1, p.r2]) (sp := spg i) hus rfl
    simp only [procCs] at hd
    obtain ⟨v1, r1, rfl, e1, d1⟩ := denL_cons hd
    obtain ⟨v2, r2, rfl, e2, d2⟩ := denL_cons d1
    obtain ⟨v3, r3, rfl, e3, d3⟩ := denL_cons d2
    obtain ⟨v4, r4, rfl, e4, d4⟩ := denL_cons d3
    obtain ⟨v5, r5, rfl, e5, d5⟩ := denL_cons d4
    simp only [denC, hb, vi, Option.some.injEq] at e1 e2 e3 e4 e5
    subst e1 e2 e3 e4 e5 hus'
    have hg2 : gcells G' ad ([.slice (some ⟨b, 0, none⟩) 3 (kg i), t, .int .i64 p.mode, .int .i64 p.on, .int .i64 p.room] ++ r5) := hg
    obtain ⟨q1, q2⟩ := gcells_append hg2
    exact ⟨⟨_, q1, _, _, rfl, intsU_blk hgb rfl (by simp) (hk i).1 (hk i).2, ht.1⟩, ih h3 (fun T hT' => hT T (List.mem_cons_of_mem _ hT')) d5 ht.2 q2⟩
theorem worldV_frz {cs ts : List Value} {W : Wld} {w : World} {S : Nat → Prop} {G G' : PH} (h : (worldV cs W ts).holds w S) (hG : ∀ b, S b → G' b = w.heap[b]?) (hle : G.le G') (ht : Tds G W.procs ts) (hn : W.procs.length ≤ 3) (hl : W.said.length ≤ 1000000000 ∧ W.q0.length ≤ 1000000000 ∧ W.q1.length ≤ 1000000000) : WG G' W (.agg cs.toArray) := by
 obtain ⟨ι, L, Ss, ⟨bp, bc, br, bs, bg, m, x, hbg, hm, hx, rfl, rfl, hcs⟩, ho, hSS⟩ := h
 obtain ⟨⟨k1, k2⟩, ⟨k3, k4⟩, ⟨k5, k6⟩, ⟨k7, k8⟩, k9⟩ := hm
 rw [WX.ok_eq hx] at ho hcs
 have hTS : ∀ T ∈ Ss, ∀ x, T x → S x := fun T hT x hx => (hSS x).2 ⟨T, hT, hx⟩
 match Ss, ho, hTS with
 | T1 :: T2 :: T3 :: T4 :: T5 :: T6 :: T7 :: Tr, ⟨h1, _, h2, _, h3, _, h4, _, h5, _, h6, _, h7, _, h8⟩, hTS =>
  obtain ⟨b1, vs1, e1, d1, g1⟩ := blk_frz h1 (hTS T1 (by simp)) hG
  obtain ⟨b2, vs2, e2, d2, g2⟩ := blk_frz h2 (hTS T2 (by simp)) hG
  obtain ⟨b3, vs3, e3, d3, g3⟩ := blk_frz h3 (hTS T3 (by simp)) hG
  obtain ⟨b4, vs4, e4, d4, g4⟩ := blk_frz h4 (hTS T4 (by simp)) hG
  obtain ⟨n5, c5, l5, g5⟩ := row_frz h5 (hTS T5 (by simp)) hG
  obtain ⟨n6, c6, l6, g6⟩ := row_frz h6 (hTS T6 (by simp)) hG
  obtain ⟨n7, c7, l7, g7⟩ := row_frz h7 (hTS T7 (by simp)) hG
  simp only [wIds, lookI, if_true, Option.some.injEq] at e1 e2 e3 e4
  simp at e1 e2 e3 e4
  subst e1 e2 e3 e4
  have d2' := denL_intC (l := [W.c0, W.c1, W.c2]) (sp := m.spc) d2 rfl
  have d3' := denL_intC (l := [W.m0, W.m1]) (sp := m.spr) d3 rfl
  subst d2' d3'
  have hcs' : cs = [.slice (some ⟨bp, 0, none⟩) W.procs.length m.kp, .slice (some ⟨bc, 0, none⟩) 3 m.kc, .slice (some ⟨br, 0, none⟩) 2 m.kr, .slice (some ⟨bs, 0, none⟩) 2 m.ks, .slice m.asd W.said.length m.ksd] := by
   have : denL (wIds bp bc br bs bg) (wCels W m (WX.of W)) = some [.slice (some ⟨bp, 0, none⟩) W.procs.length m.kp, .slice (some ⟨bc, 0, none⟩) 3 m.kc, .slice (some ⟨br, 0, none⟩) 2 m.kr, .slice (some ⟨bs, 0, none⟩) 2 m.ks, .slice m.asd W.said.length m.ksd] := rfl
   rw [hcs] at this
   exact Option.some.inj this
  subst hcs'
  refine ⟨_, _, _, _, _, J, ?_, intsU_blk g2 J (by simp) k3 k4, intsU_blk g3 J (by simp) k5 k6, ?_, ?_⟩
  ·refine ⟨_, _, J, by omega, k1, k2, .inr ⟨_, J, ?_⟩⟩
   exact frz_procs hG k9 h8 (fun T hT => hTS T (by simp [hT])) d1 (Tds_le hle ht) g1
  ·obtain ⟨u1, r1, rfl, f1, d5⟩ := denL_cons d4
   obtain ⟨u2, r2, rfl, f2, d6⟩ := denL_cons d5
   simp only [denC, Option.some.injEq] at f1 f2
   subst f1 f2
   have a1 : IntsU G' W.q0 (.slice m.aq0 W.q0.length m.kq0) := Sx_Sr ⟨_, _, rfl, hl.2.1, n6, c6, l6, g6⟩ rfl (Cs_intU _)
   have a2 : IntsU G' W.q1 (.slice m.aq1 W.q1.length m.kq1) := Sx_Sr ⟨_, _, rfl, hl.2.2, n7, c7, l7, g7⟩ rfl (Cs_intU _)
   refine ⟨_, _, J, by simp, k7, k8, .inr ⟨_, J, ⟨[_], (show gcells G' _ [_] from ⟨g4.1, trivial⟩), _, J, a1⟩, ⟨[_], (show gcells G' _ [_] from ⟨g4.2.1, trivial⟩), _, J, a2⟩, trivial⟩⟩
  ·exact Sx_Sr ⟨_, _, J, hl.1, n5, c5, l5, g5⟩ J (Cs_sayU _)
section
variable {C : Ctx} {k : List It} {E : Env} {ι : Ids} {L : List Ent} {G : PH}
theorem S_frzV (κ : Nat) {cs ts : List Value} {W : Wld} {L' : List Ent} (hL : getH κ L = some (worldV cs W ts)) (hL' : delH κ L = some L') (hS0 : ∀ b, ¬ C.S0 b) (ht : Tds G W.procs ts) (hn : W.procs.length ≤ 3) (hl : W.said.length ≤ 1000000000 ∧ W.q0.length ≤ 1000000000 ∧ W.q1.length ≤ 1000000000)
  (hk : ∀ G', PH.ext C.w0.heap.size G G' → WG G' W (.agg cs.toArray) → X C k E ι L' G') : X C k E ι L G := by
 intro a w h1 h2 h3 h4
 obtain ⟨S, G', hA, hG, hext, hsat⟩ := h4.frz (a := a) hL hL' hS0
 exact hk G' hext (worldV_frz hA hG hext.le ht hn hl) a w (h1.mono hext.le) h2 h3 hsat
end
def celNo (k : Nat) : Cel → Prop
 | .v _ => True
 | .p j _ => j ≠ k
 | .s j _ _ _ => j ≠ k
def entNo (k : Nat) : Ent → Prop
 | .blk j _ cs => j ≠ k ∧ ∀ c ∈ cs, celNo k c
 | .hp _ _ => True
theorem denC_no {k b : Nat} {ι : Ids} {c : Cel} (h : celNo k c) : denC ((k, b) :: ι) c = denC ι c := by
 cases c with
 | v x => rfl
 | p j o => simp only [denC, lookI]; rw [if_neg h]
 | s j o n m => simp only [denC, lookI]; rw [if_neg h]
theorem denL_no {k b : Nat} {ι : Ids} : ∀ {cs : List Cel}, (∀ c ∈ cs, celNo k c) → denL ((k, b) :: ι) cs = denL ι cs
 | [], _ => rfl
 | c :: cs, h => by
  simp only [denL, denC_no (h c (List.mem_cons_self ..)), denL_no (fun c hc => h c (List.mem_cons_of_mem _ hc))]
theorem owns_no {k b : Nat} {ι : Ids} {w : World} : ∀ {L : List Ent} {Ss : List (Nat → Prop)}, (∀ e ∈ L, entNo k e) → (owns ((k, b) :: ι) w L Ss ↔ owns ι w L Ss)
 | [], [], _ => Iff.rfl
 | [], _ :: _, _ => Iff.rfl
 | _ :: _, [], _ => Iff.rfl
 | e :: L, S :: Ss, h => by
  have he : Ent.holds ((k, b) :: ι) w e S ↔ Ent.holds ι w e S := by
   have := h e (List.mem_cons_self ..)
   cases e with
   | blk j ty cs => simp only [Ent.holds, lookI, denL_no this.2, if_neg this.1]
   | hp j A => exact Iff.rfl
  simp only [owns, he, owns_no (fun e he => h e (List.mem_cons_of_mem _ he))]
theorem vL_no {k : Nat} {l : List Value} : ∀ c ∈ vL l, celNo k c := by
 induction l with
 | nil => intro c hc; cases hc
 | cons v l ih => intro c hc; rcases List.mem_cons.1 hc with rfl | hc; trivial; exact ih c hc
theorem procCs_no {kg : Nat → Nat} {sp : List Value} : ∀ {ps : List Prc} {ts : List Value} {i : Nat}, ∀ c ∈ procCs kg sp i ps ts, celNo 1007 c
 | [], ts, i, c, hc => vL_no c (by cases ts <;> exact hc)
 | p :: ps, [], i, c, hc => vL_no c hc
 | p :: ps, t :: ts, i, c, hc => by
  simp only [procCs, List.mem_cons] at hc
  rcases hc with rfl | rfl | rfl | rfl | rfl | hc
  ·show 1010 + i ≠ 1007; omega
  ·trivial
  ·trivial
  ·trivial
  ·trivial
  ·exact procCs_no c hc
theorem regEs_no {spg : Nat → List Value} : ∀ {ps : List Prc} {i : Nat}, ∀ e ∈ regEs spg i ps, entNo 1007 e
 | [], _, e, he => by cases he
 | p :: ps, i, e, he => by
  rcases List.mem_cons.1 he with rfl | he
  ·refine ⟨by show 1010 + i ≠ 1007; omega, ?_⟩
   intro c hc
   simp only [List.mem_cons] at hc
   rcases hc with rfl | rfl | rfl | hc
   ·trivial
   ·trivial
   ·trivial
   ·exact vL_no c hc
  ·exact regEs_no e he
theorem wEnts_no {W : Wld} {ts : List Value} {m : WM} {x : WX} : ∀ e ∈ wEnts W ts m x, entNo 1007 e := by
 intro e he
 simp only [wEnts, List.mem_cons] at he
 rcases he with rfl | rfl | rfl | rfl | rfl | rfl | rfl | he
 ·exact ⟨by decide, procCs_no⟩
 ·refine ⟨by decide, ?_⟩
  intro c hc
  simp only [List.mem_cons] at hc
  rcases hc with rfl | rfl | rfl | hc
  ·trivial
  ·trivial
  ·trivial
  ·exact vL_no c hc
 ·refine ⟨by decide, ?_⟩
  intro c hc
  simp only [List.mem_cons] at hc
  rcases hc with rfl | rfl | hc
  ·trivial
  ·trivial
  ·exact vL_no c hc
 ·refine ⟨by decide, ?_⟩
  intro c hc
  simp only [List.mem_cons] at hc
  rcases hc with rfl | rfl | hc
  ·trivial
  ·trivial
  ·exact vL_no c hc
 ·trivial
 ·trivial
 ·trivial
 ·exact regEs_no e he
theorem wCels_no {W : Wld} {m : WM} {x : WX} : ∀ c ∈ wCels W m x, celNo 1007 c := by
 intro c hc
 simp only [wCels, List.mem_cons, List.not_mem_nil, or_false] at hc
 rcases hc with rfl | rfl | rfl | rfl | rfl
 ·show 1000 ≠ 1007; decide
 ·show 1001 ≠ 1007; decide
 ·show 1002 ≠ 1007; decide
 ·show 1003 ≠ 1007; decide
 ·trivial
section
variable {C : Ctx} {k : List It} {E : Env} {ι : Ids} {L : List Ent} {G : PH}
theorem S_V2P (key κ κ' : Nat) {b : Nat} {cs ts : List Value} {cels : List Cel} {W : Wld} {L1 L2 : List Ent} (hj : lookI key ι = some b) (hB : lookB key L = some (56, cels)) (hd : denL ι cels = some cs) (hL1 : delB key L = some L1) (hL : getH κ L1 = some (worldV cs W ts)) (hL2 : delH κ L1 = some L2)
  (hk : X C k E ι (.hp κ' (worldP b W ts) :: L2) G) : X C k E ι L G := by
 intro a w g1 g2 g3 g4
 obtain ⟨Ss, ho, hS⟩ := g4.own
 obtain ⟨S, Ss', b', hb', hh, hSb, hm, ho', hT⟩ := owns_delB hd ho hB hL1
 rw [hj] at hb'; cases hb'
 obtain ⟨U, Ss2, ⟨ι0, L0, Ss0, ⟨bp, bc, br, bs, bg, m, x, hbg, hmk, hx, rfl, rfl, hcs⟩, hown, hU⟩, hm2, ho2, hT2⟩ := owns_del ho' hL hL2
 refine hk a w g1 g2 g3 ⟨g4.os, g4.tape, g4.output, g4.size, g4.keep, g4.emb, (fun x => S x ∨ U x) :: Ss2, ⟨⟨_, _, S :: Ss0, ⟨bp, bc, br, bs, bg, m, x, hbg, hmk, hx, J, J⟩, ⟨⟨b, cs, by simp [lookI], by rw [denL_no wCels_no]; exact hcs, hh, hSb⟩, fun T hT' y hy hy' => ?_, (owns_no wEnts_no).2 hown⟩, fun y => ?_⟩, ?_, ho2⟩, ?_⟩
 ·exact (hT U hm2).2 y ((hU y).2 ⟨T, hT', hy'⟩) hy
 ·constructor
  ·rintro (h | h)
   ·exact ⟨S, List.mem_cons_self .., h⟩
   ·obtain ⟨T, hT', hy⟩ := (hU y).1 h
    exact ⟨T, List.mem_cons_of_mem _ hT', hy⟩
  ·rintro ⟨T, hT', hy⟩
   rcases List.mem_cons.1 hT' with rfl | hT'
   ·exact .inl hy
   ·exact .inr ((hU y).2 ⟨T, hT', hy⟩)
 ·rintro T hT' y (hy | hy) hy'
  ·exact (hT T (hT2 T hT').1).2 y hy' hy
  ·exact (hT2 T hT').2 y hy' hy
 ·intro T hT' y hy
  rcases List.mem_cons.1 hT' with rfl | hT'
  ·rcases hy with hy | hy
   ·exact hS S hm y hy
   ·exact hS U (hT U hm2).1 y hy
  ·exact hS T (hT T (hT2 T hT').1).1 y hy
theorem S_P2V (κ key κ' : Nat) {b : Nat} {ts : List Value} {W : Wld} {L1 : List Ent} (hL : getH κ L = some (worldP b W ts)) (hL1 : delH κ L = some L1) (hf : lookI key ι = none)
  (hk : ∀ cs, X C k E ((key, b) :: ι) (.blk key 56 (vL cs) :: .hp κ' (worldV cs W ts) :: L1) G) : X C k E ι L G := by
 intro a w g1 g2 g3 g4
 obtain ⟨Ss, ho, hS⟩ := g4.own
 obtain ⟨S, Ss', ⟨ι0, L0, Ss0, ⟨bp, bc, br, bs, bg, m, x, hbg, hmk, hx, rfl, rfl⟩, hown, hU⟩, hm, ho', hT⟩ := owns_del ho hL hL1
 cases Ss0 with
 | nil => exact absurd hown id
 | cons B Bs =>
  obtain ⟨⟨b', cs, hb', hd, hh, hB⟩, hdis, hown⟩ := hown
  simp only [lookI, if_true, Option.some.injEq] at hb'
  subst hb'
  rw [denL_no wCels_no] at hd
  rw [owns_no wEnts_no] at hown
  refine hk cs a w g1 g2 (g3.ids hf) ⟨g4.os, g4.tape, g4.output, g4.size, g4.keep, g4.emb, B :: (fun x => ∃ T ∈ Bs, T x) :: Ss', ⟨⟨b, cs, by simp [lookI], denL_vL _ _, hh, hB⟩, ?_, ⟨_, _, Bs, ⟨bp, bc, br, bs, bg, m, x, hbg, hmk, hx, rfl, rfl, hd⟩, hown, fun y => Iff.rfl⟩, ?_, owns_ids ho' hf⟩, ?_⟩
  ·intro T hT' y hy hy'
   rcases List.mem_cons.1 hT' with rfl | hT'
   ·obtain ⟨T, hT2, hy2⟩ := hy'
    exact hdis T hT2 y hy hy2
   ·exact (hT T hT').2 y hy' ((hU y).2 ⟨B, List.mem_cons_self .., hy⟩)
  ·rintro T hT' y ⟨T2, hT2, hy2⟩ hy'
   exact (hT T hT').2 y hy' ((hU y).2 ⟨T2, List.mem_cons_of_mem _ hT2, hy2⟩)
  ·intro T hT' y hy
   rcases List.mem_cons.1 hT' with rfl | hT'
   ·exact hS S hm y ((hU y).2 ⟨_, List.mem_cons_self .., hy⟩)
   rcases List.mem_cons.1 hT' with rfl | hT'
   ·obtain ⟨T2, hT2, hy2⟩ := hy
    exact hS S hm y ((hU y).2 ⟨T2, List.mem_cons_of_mem _ hT2, hy2⟩)
   ·exact hS T (hT T hT').1 y hy
end
end
section
attribute [local irreducible] X Pure Mod
def proc0 (l : List Stm) : Prc := ⟨0, 0, 0, l, 0, 0, -1⟩
def open0 (p : List (List Stm)) : Wld := ⟨p.map proc0, 0, 0, 0, 0, 0, [], [], []⟩
def wZero : Value := .agg #[.slice none 0 0, .slice none 0 0, .slice none 0 0, .slice none 0 0, .slice none 0 0]
def OPost (p : List (List Stm)) (W : Wld) (v : Value) (G' : PH) (A' : HP) : Prop := (progOk p = true ∧ ∃ cs ts, v = .agg cs.toArray ∧ A' = worldV cs W ts ∧ Tds G' W.procs ts) ∨ (progOk p = false ∧ v = wZero ∧ A' = emptyHP)
def procX : List (Nat × Value) → List Value
  | [] => []
  | (b, t) :: q => [.slice (some ⟨b, 0, none⟩) 3 3, t, .int .i64 0, .int .i64 0, .int .i64 (-1)] ++ procX q
theorem procX_snoc (q : List (Nat × Value)) (b : Nat) (t : Value) : procX (q ++ [(b, t)]) = procX q ++ [.slice (some ⟨b, 0, none⟩) 3 3, t, .int .i64 0, .int .i64 0, .int .i64 (-1)] := by
  induction q with
  | nil => simp [procX]
  | cons x q ih => obtain ⟨b', t'⟩ := x; simp [procX, ih]
def regsHP (q : List (Nat × Value)) : HP := starHP (q.reverse.map fun x => blkHP x.1 3 [.int .i64 0, .int .i64 0, .int .i64 0])
theorem regsHP_snoc (q : List (Nat × Value)) (b : Nat) (t : Value) : regsHP (q ++ [(b, t)]) = pairHP (blkHP b 3 [.int .i64 0, .int .i64 0, .int .i64 0]) (regsHP q) := by simp [regsHP, starHP]
def Qds (G : PH) : List (List Stm) → List (Nat × Value) → Prop
  | [], [] => True
  | l :: p, x :: q => Sts G l x.2 ∧ Qds G p q
  | _, _ => False
theorem Qds_le {G G' : PH} (hl : G.le G') : ∀ {p : List (List Stm)} {q : List (Nat × Value)}, Qds G p q → Qds G' p q
  | [], [], _ => trivial
  | _ :: _, _ :: _, h => ⟨Sts_le hl h.1, Qds_le hl h.2⟩
  | [], _ :: _, h => h
  | _ :: _, [], h => h
theorem Qds_snoc {G : PH} {l : List Stm} {x : Nat × Value} (hx : Sts G l x.2) : ∀ {p : List (List Stm)} {q : List (Nat × Value)}, Qds G p q → Qds G (p ++ [l]) (q ++ [x])
  | [], [], _ => ⟨hx, trivial⟩
  | _ :: p, _ :: q, h => ⟨h.1, Qds_snoc hx h.2⟩
  | [], _ :: _, h => absurd h id
  | _ :: _, [], h => absurd h id
theorem Qds_Tds {G : PH} : ∀ {p : List (List Stm)} {q : List (Nat × Value)}, Qds G p q → Tds G (p.map proc0) (q.map (·.2))
  | [], [], _ => trivial
  | _ :: p, _ :: q, h => ⟨h.1, Qds_Tds h.2⟩
  | [], _ :: _, h => absurd h id
  | _ :: _, [], h => absurd h id
theorem prg_at {G : PH} {p : List (List Stm)} {A : Option Addr} {n c : Nat} (h : Prg G p (.slice A n c)) {i : Nat} (hi : i < p.length) : ∃ ad v, A = some ad ∧ gcell G (ad.add (i * 1)) = some v ∧ Sts G p[i] v := by
  obtain ⟨ad, cs, rfl, h1, v, rfl, h2⟩ := Sr_at h hi
  exact ⟨ad, v, J, h1.1, h2⟩
def Off0 (A : Option Addr) : Prop := A = none ∨ ∃ g, A = some ⟨g, 0, none⟩
structure OS where
  i : Nat
  A : Option Addr
  c : Nat
  q : List (Nat × Value)
  G : PH
theorem mok0 {kp n : Nat} (h : n ≤ kp ∧ kp ≤ maxLen) : mOk kp 3 2 2 (fun _ => 3) n := ⟨h, by decide, by decide, by decide, fun _ => show 3 ≤ 3 ∧ 3 ≤ maxLen from by decide⟩
theorem c_l3Open (p : List (List Stm)) (pv : Value) (G : PH) (hp : PrgS G p pv) : Mod Tryz.prog 44 [pv] G emptyHP (OPost p (open0 p)) := by
  obtain ⟨hpp, hsh, hpl⟩ := id hp
  obtain ⟨A, c, rfl, hl1, _⟩ := id hpp
  refine Mod.intro Tryz.func44 Tryz.ntmps44 J J fun w S => ?_;refine Va J J ?_;refine AZ ZT_ok J J J J fun b2 => ?_;refine Va J J ?_;refine S_call Tryz.call20 (c_ProgOk p _ G hpp) J J J ?_;rintro v G5 ⟨rfl, rfl⟩ _
  refine Va J J ?_
  refine S_cond J (fun h => ?_) (fun h => ?_) <;> refine Va J J ?_
  · have hpo : progOk p = false := by simpa using h
    exact S_retm 1 (Res.c1 Tk Tryz.results44 J J) J XR (.inr ⟨hpo, J, J⟩)
  have hpo : progOk p = true := by simpa using h
  have hp13 : 1 ≤ p.length ∧ p.length ≤ 3 := by simp only [progOk, Bool.and_eq_true, decide_eq_true_eq] at hpo; exact ⟨hpo.1.2, hpo.2⟩
  refine S_cut (α := Nat × Nat × Nat × Nat × Option Addr) (fun _ => True) (fun y => [(2, b2), (3, y.1), (9, y.2.1), (10, y.2.2.1), (11, y.2.2.2.1)]) (fun y => [(0, .val (.slice A p.length c)), (2, .ptr 2 0), (3, .ptr 3 0)])
    (fun y => [.blk 2 56 (vL [.slice none 0 0, .slice none 0 0, .slice none 0 0, .slice none 0 0, .slice none 0 0]), .blk 3 56 [.v (.slice none 0 0), .s 9 0 3 3, .s 10 0 2 2, .s 11 0 2 2, .v (.slice y.2.2.2.2 0 0)], .blk 9 3 (vL [.int .i64 0, .int .i64 0, .int .i64 0]), .blk 10 3 (vL [.int .i64 0, .int .i64 0]), .blk 11 52 (vL [.slice none 0 0, .slice none 0 0]), .hp 12 (rowO w.heap.size 96 2 y.2.2.2.2 0 0 []), .hp 1 emptyHP]) (fun _ => G5) ?_ ?_
  ·
    refine Ds J J J ?_;refine Da J J ?_
    repeat' (first
      | exact trivial
      | (refine D_list J ?_)
      | refine And.intro ?_ ?_
      | (refine N_turn Tk _ J J J J fun back => ?_
         first
           | refine S_make Tk ZT_ok J J J J J J (by decide) (by decide) J J J fun bm => ?_
           | refine S_emptyO Tk 12 J J J J fun A12 => ?_
           | refine AZ ZT_ok J J J J fun ba => ?_
         refine back _ _ _ _ (by kernel_rfl) ?_
         clear back
         refine Da J J ?_)
      | fail)
    all_goals (refine N_store Tk 6 rfl rfl rfl rfl rfl rfl rfl rfl (by kernel_rfl) ?_)
    all_goals refine D_adv Tk (by decide) rfl rfl ?_
    all_goals (refine DD ?_)
    all_goals refine S_adv Tk rfl 1000 rfl ?_
    all_goals (refine S_pick [2, 3, 9, 10, 11, 12, 1] rfl ?_)
    all_goals exact S_meet (_, _, _, _, _) trivial rfl ⟨⟨_, rfl, rfl⟩, ⟨_, rfl, rfl⟩, ⟨_, rfl, rfl⟩, trivial⟩ (.blk rfl rfl (.blk rfl rfl (.blk rfl rfl (.blk rfl rfl (.blk rfl rfl (.hp (.hp .nil)))))))
  rintro ⟨b3, b9, b10, b11, A12⟩ _
  simp only
  refine S_nilO (base := w.heap.size) (e := 62) (size := 5) 20 ?_;refine S_newE 21 ?_;refine Va J J ?_;refine S_loop (α := OS) (fun y => y.i ≤ p.length ∧ y.q.length = y.i ∧ PH.ext w.heap.size G5 y.G ∧ Qds y.G (p.take y.i) y.q ∧ Off0 y.A ∧ ∀ x ∈ y.q, ∃ A n c, x.2 = .slice A n c) (fun y => p.length - y.i) [(2, b2), (3, b3), (9, b9), (10, b10), (11, b11)]
    (fun y => [(4, .val (.int .i64 (y.i : Nat))), (0, .val (.slice A p.length c)), (2, .ptr 2 0), (3, .ptr 3 0)])
    (fun y => [.hp 21 (regsHP y.q), .hp 20 (rowO w.heap.size 62 5 y.A y.q.length y.c (procX y.q)), .blk 2 56 (vL [.slice none 0 0, .slice none 0 0, .slice none 0 0, .slice none 0 0, .slice none 0 0]), .blk 3 56 [.v (.slice y.A y.q.length y.c), .s 9 0 3 3, .s 10 0 2 2, .s 11 0 2 2, .v (.slice A12 0 0)], .blk 9 3 (vL [.int .i64 0, .int .i64 0, .int .i64 0]), .blk 10 3 (vL [.int .i64 0, .int .i64 0]), .blk 11 52 (vL [.slice none 0 0, .slice none 0 0]), .hp 12 (rowO w.heap.size 96 2 A12 0 0 []), .hp 1 emptyHP]) (fun y => y.G) ⟨0, none, 0, [], G5⟩ ⟨Nat.zero_le _, rfl, PH.ext.refl _ _, trivial, .inl rfl, by simp⟩ rfl ?_ ?_ ?_
  · exact ⟨⟨_, J, J⟩, ⟨_, J, J⟩, ⟨_, J, J⟩, ⟨_, J, J⟩, trivial⟩
  · exact .hp (.hp (.blk J J (.blk J J (.blk J J (.blk J J (.blk J J (.hp (.hp .nil))))))))
  rintro ⟨i, A5, c5, q, G1⟩ ⟨hi, hq, hext, hqd, hoff, hqs⟩
  simp only at hi hq hext hqd hoff hqs ⊢
  refine Va J J ?_
  refine S_condp J (fun h5 => ?_) (fun h5 => ?_) <;> refine Va J J ?_
  · have hil : i < p.length := by omega
    obtain ⟨ad, lv, rfl, hcell, hlv⟩ := prg_at (Prg_le hext.le hpp) hil
    obtain ⟨Al, cl, xsl, rfl, hxl, hxg, hcs⟩ := sts_cells hlv
    have hll := (hsh _ (List.getElem_mem hil)).1
    refine S_cut (α := Nat × Option Addr × Nat × Option Addr × Nat) (fun y => Off0 y.2.2.2.1) (fun y => [(2, b2), (3, b3), (9, b9), (10, b10), (11, b11), (22, y.1)]) (fun y => [(4, .val (.int .i64 (i : Nat))), (0, .val (.slice (some ad) p.length c)), (2, .ptr 2 0), (3, .ptr 3 0)])
      (fun y => [.hp 21 (regsHP q), .hp 20 (rowO w.heap.size 62 5 y.2.2.2.1 (q.length + 1) y.2.2.2.2 (procX q ++ [.slice (some ⟨y.1, 0, none⟩) 3 3, .slice y.2.1 (0 + p[i].length) y.2.2.1, .int .i64 0, .int .i64 0, .int .i64 (-1)])), .hp 23 (rowO w.heap.size 83 6 y.2.1 (0 + p[i].length) y.2.2.1 ([] ++ xsl)), .blk 22 3 (vL [.int .i64 0, .int .i64 0, .int .i64 0]), .blk 2 56 (vL [.slice none 0 0, .slice none 0 0, .slice none 0 0, .slice none 0 0, .slice none 0 0]), .blk 3 56 [.v (.slice y.2.2.2.1 (q.length + 1) y.2.2.2.2), .s 9 0 3 3, .s 10 0 2 2, .s 11 0 2 2, .v (.slice A12 0 0)], .blk 9 3 (vL [.int .i64 0, .int .i64 0, .int .i64 0]), .blk 10 3 (vL [.int .i64 0, .int .i64 0]), .blk 11 52 (vL [.slice none 0 0, .slice none 0 0]), .hp 12 (rowO w.heap.size 96 2 A12 0 0 []), .hp 1 emptyHP]) (fun _ => G1) ?_ ?_
    ·
      refine Ds J J J ?_;refine Da J J ?_
      repeat' (first
        | exact trivial
        | (refine D_list J ?_)
        | refine And.intro ?_ ?_
        | (refine N_turn Tk _ J J J J fun back => ?_
           first
             | refine S_make Tk ZT_ok J J J J J J (by decide) (by decide) J J J fun bm => ?_
             | refine S_emptyO Tk 23 J J J J fun A12 => ?_
             | refine S_appO Tk 23 J J J J J J J J J J J (fun _ _ => J) (src_G hxl hxg) (Cs_one Stm.rep_one hcs) (by simp only; omega) (by simp only [maxLen]; omega) (Nat.le_refl _) fun A4 c4 => ?_
             | refine S_slice Tk ZT_ok J J J J (by decide) (by decide) J J J J fun b2 => ?_
             | refine S_app1z Tk 20 30 J J J J J J J J J J J J J J (by intro u hu; simp at hu; rcases hu with rfl | rfl | rfl | rfl | rfl <;> rfl) rfl (fun _ _ => rfl) (by omega) (Nat.le_refl _) fun A6 c6 h6 => ?_
             | refine S_index Tk J J J J J J (by omega) (by omega) ?_
             | refine S_load Tk J J J J J (by simpa using hcell) ?_
             | fail
           refine back _ _ _ _ (by kernel_rfl) ?_
           clear back
           refine Da J J ?_)
        | fail)
      all_goals (refine N_store Tk 13 rfl rfl rfl rfl rfl rfl rfl rfl (by kernel_rfl) ?_)
      all_goals refine D_adv Tk (by decide) rfl rfl ?_
      all_goals (refine DD ?_)
      all_goals refine S_adv Tk rfl 1000 rfl ?_
      all_goals (refine S_pick [21, 20, 23, 22, 2, 3, 9, 10, 11, 12, 1] rfl ?_)
      all_goals exact S_meet (_, _, _, _, _) (by rename_i h6; rcases h6 with h6 | h6; exact h6 ▸ hoff; exact .inr h6) J ⟨⟨_, J, J⟩, ⟨_, J, J⟩, ⟨_, J, J⟩, ⟨_, J, J⟩, trivial⟩ (.hp (.hp (.hp (.blk J J (.blk J J (.blk J J (.blk J J (.blk J J (.blk J J (.hp (.hp .nil)))))))))))
    rintro ⟨b22, A23, c23, A6, c6⟩ hoff6
    simp only at hoff6 ⊢
    refine S_freezeR 23 J J (Nat.le_refl _) fun G2 hext2 hnc hcm hcl => ?_
    have hv : Sts G2 p[i] (.slice A23 (0 + p[i].length) c23) := frz (Cs_mono (Stm.reps_le hext2.le _) (by simpa using hcs)) (by omega) (by omega) hnc hcm hcl
    refine S_Bhp 22 24 J J J J ?_;refine S_pair 24 21 25 J J J J ?_;refine Va J J ?_;refine S_add J J J J (by omega) ?_;refine Va J J ?_;refine S_again ⟨i + 1, A6, c6, q ++ [(b22, .slice A23 (0 + p[i].length) c23)], G2⟩ ⟨by simp only; omega, by simp; omega, hext.trans hext2, ?_, hoff6, ?_⟩ (by simp only; omega) rfl ⟨⟨_, rfl, by simp [denO]⟩, ⟨_, rfl, rfl⟩, ⟨_, rfl, rfl⟩, ⟨_, rfl, rfl⟩, trivial⟩ ?_
    · simp only
      rw [List.take_succ_eq_append_getElem hil]
      exact Qds_snoc hv (Qds_le hext2.le hqd)
    · intro x hx
      rcases List.mem_append.1 hx with hx | hx
      · exact hqs x hx
      · rw [List.mem_singleton.1 hx]; exact ⟨_, _, _, J⟩
    · simp only [regsHP_snoc, procX_snoc, List.length_append, List.length_singleton]
      exact .hp (.hp (.blk J J (.blk J J (.blk J J (.blk J J (.blk J J (.hp (.hp .nil))))))))
  · have hin : i = p.length := by omega
    subst hin
    rw [List.take_length] at hqd
    refine S_capO 20 J fun hnc5 hcm5 _ => ?_;refine S_someO 20 J (by omega) fun gp offp eA => ?_;obtain rfl : offp = 0 := by
      rcases hoff with h | ⟨g, h⟩
      · rw [h] at eA; cases eA
      · rw [h] at eA; cases eA; rfl
    subst eA
    refine S_rowB 20 20 J J J fun sp => ?_;refine S_nilO (base := 0) (e := 3) (size := 1) 30 ?_;refine S_nilO (base := 0) (e := 3) (size := 1) 31 ?_;refine S_base0 12 J J ?_
    rcases (by omega : p.length = 1 ∨ p.length = 2 ∨ p.length = 3) with h1 | h1 | h1
    · obtain ⟨l0, rfl⟩ := len1 h1
      obtain ⟨⟨g0, t0⟩, rfl⟩ := len1 (hq.trans h1)
      refine S_unpair 21 500 600 J J ?_;refine S_hpB 500 40 J J J ?_;exact RK [20, 9, 10, 11, 12, 30, 31, 40] (Res.c1 Tk Tryz.results44 rfl rfl) (.inl ⟨hpo, _, [t0], rfl, rfl, Qds_Tds hqd⟩) ⟨gp, b9, b10, b11, [g0], ⟨c5, sp, A12, 0, none, 0, none, 0, 3, [], 2, [], 2, [], fun _ => 3, fun _ => []⟩, ⟨0, [], 0, [], 0, []⟩, rfl, (mok0 ⟨by simpa [open0] using hnc5, hcm5⟩), ⟨⟨rfl, rfl⟩, ⟨rfl, rfl⟩, rfl, rfl⟩, rfl, rfl, rfl⟩ rfl (Bs 5 rfl rfl rfl rfl (.blk rfl rfl (.blk rfl rfl (.blk rfl rfl (.hp (.hp (.hp (.blk rfl rfl .nil)))))))) hext
    · obtain ⟨l0, l1, rfl⟩ := len2 h1
      obtain ⟨⟨g0, t0⟩, ⟨g1, t1⟩, rfl⟩ := len2 (hq.trans h1)
      refine S_unpair 21 501 601 J J ?_;refine S_hpB 501 41 J J J ?_;refine S_unpair 601 500 600 J J ?_;refine S_hpB 500 40 J J J ?_;exact RK [20, 9, 10, 11, 12, 30, 31, 40, 41] (Res.c1 Tk Tryz.results44 rfl rfl) (.inl ⟨hpo, _, [t0, t1], rfl, rfl, Qds_Tds hqd⟩) ⟨gp, b9, b10, b11, [g0, g1], ⟨c5, sp, A12, 0, none, 0, none, 0, 3, [], 2, [], 2, [], fun _ => 3, fun _ => []⟩, ⟨0, [], 0, [], 0, []⟩, rfl, (mok0 ⟨by simpa [open0] using hnc5, hcm5⟩), ⟨⟨rfl, rfl⟩, ⟨rfl, rfl⟩, rfl, rfl⟩, rfl, rfl, rfl⟩ rfl (Bs 10 rfl rfl rfl rfl (.blk rfl rfl (.blk rfl rfl (.blk rfl rfl (.hp (.hp (.hp (.blk rfl rfl (.blk rfl rfl .nil))))))))) hext
    · obtain ⟨l0, l1, l2, rfl⟩ := len3 h1
      obtain ⟨⟨g0, t0⟩, ⟨g1, t1⟩, ⟨g2, t2⟩, rfl⟩ := len3 (hq.trans h1)
      refine S_unpair 21 502 602 J J ?_;refine S_hpB 502 42 J J J ?_;refine S_unpair 602 501 601 J J ?_;refine S_hpB 501 41 J J J ?_;refine S_unpair 601 500 600 J J ?_;refine S_hpB 500 40 J J J ?_;exact RK [20, 9, 10, 11, 12, 30, 31, 40, 41, 42] (Res.c1 Tk Tryz.results44 rfl rfl) (.inl ⟨hpo, _, [t0, t1, t2], rfl, rfl, Qds_Tds hqd⟩) ⟨gp, b9, b10, b11, [g0, g1, g2], ⟨c5, sp, A12, 0, none, 0, none, 0, 3, [], 2, [], 2, [], fun _ => 3, fun _ => []⟩, ⟨0, [], 0, [], 0, []⟩, rfl, (mok0 ⟨by simpa [open0] using hnc5, hcm5⟩), ⟨⟨rfl, rfl⟩, ⟨rfl, rfl⟩, rfl, rfl⟩, rfl, rfl, rfl⟩ rfl (Bs 15 rfl rfl rfl rfl (.blk rfl rfl (.blk rfl rfl (.blk rfl rfl (.hp (.hp (.hp (.blk rfl rfl (.blk rfl rfl (.blk rfl rfl .nil)))))))))) hext
end
end Go.Proofs.YtcbdilccmjpnbaaGreatDoor
