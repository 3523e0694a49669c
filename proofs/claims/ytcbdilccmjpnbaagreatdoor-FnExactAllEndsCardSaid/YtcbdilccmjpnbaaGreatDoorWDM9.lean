/- Walks of the program's functions, one after the other (part 9); without conditions of their own. -/
import Derived.Test.YtcbdilccmjpnbaaGreatDoorWDM1
import Derived.Test.YtcbdilccmjpnbaaGreatDoorWDM2
import Derived.Test.YtcbdilccmjpnbaaGreatDoorWDM3
import Derived.Test.YtcbdilccmjpnbaaGreatDoorWDM4
import Derived.Test.YtcbdilccmjpnbaaGreatDoorWDM5
import Derived.Test.YtcbdilccmjpnbaaGreatDoorWDM8
import Derived.Laws.Concat
import Derived.Laws.IdiomStrings
import Derived.Lib.ItoaLen
import Derived.Lib.Join
set_option linter.unusedVariables false
set_option linter.unusedSimpArgs false
set_option maxRecDepth 100000
set_option maxHeartbeats 4000000
open Go.RowKit
namespace Go.Proofs.YtcbdilccmjpnbaaGreatDoor
section
attribute [local irreducible] X Pure Mod
theorem updL_updL {α : Type} {f g : α → α} : ∀ (l : List α) (i : Nat), updL f i (updL g i l) = updL (fun x => f (g x)) i l
 | [], i => by cases i <;> rfl
 | x :: l, 0 => rfl
 | x :: l, i + 1 => by simp [updL, updL_updL l i]
theorem updL_congr {α : Type} {f g : α → α} : ∀ (l : List α) (i : Nat), (∀ x, l[i]? = some x → f x = g x) → updL f i l = updL g i l
 | [], i, _ => by cases i <;> rfl
 | x :: l, 0, h => by simp [updL, h x rfl]
 | x :: l, i + 1, h => by simp only [updL]; rw [updL_congr l i (fun y hy => h y (by simpa using hy))]
theorem updL_get {α : Type} {f : α → α} : ∀ (l : List α) (i : Nat), (updL f i l)[i]? = l[i]?.map f
 | [], i => by cases i <;> rfl
 | x :: l, 0 => rfl
 | x :: l, i + 1 => by simp [updL, updL_get l i]
theorem goes_eq {W : Wld} {who : Nat} {p : Prc} {s : Stm} {r : List Stm} (hp : W.procs[who]? = some p) (hm : p.mode ≠ 2) (ht : p.todo = s :: r) (hk : s.kind = 6 ∨ s.kind = 7) :
  W.upd who (fun p => { p with todo := goesL W who s ++ r }) = W.step who := by
 rw [step_eq hp hm ht]
 have hreg : ∀ k, (W.upd who pop).reg who k = W.reg who k := by
  intro k
  unfold Wld.reg
  rw [show (W.upd who pop).procs[who]? = W.procs[who]?.map pop from updL_get _ _, hp]
  rfl
 have key : ∀ (L : List Stm), L = goesL W who s → W.upd who (fun p => { p with todo := goesL W who s ++ r }) = (W.upd who pop).upd who (fun p => { p with todo := L ++ p.todo }) := by
  intro L hL
  subst hL
  show Wld.mk _ _ _ _ _ _ _ _ _ = Wld.mk _ _ _ _ _ _ _ _ _
  rw [Wld.mk.injEq]
  refine ⟨?_, J, J, J, J, J, J, J, J⟩
  show updL _ _ _ = updL _ _ (updL _ _ _)
  rw [updL_updL]
  refine updL_congr _ _ fun x hx => ?_
  rw [hp] at hx
  cases hx
  simp [pop, ht]
 rcases hk with hk | hk
 ·rw [show (W.upd who pop).stepS who s = (W.upd who pop).upd who (fun p => { p with todo := (if (W.upd who pop).reg who s.a = 0 then s.els else s.body) ++ p.todo }) by simp [Wld.stepS, hk]]
  exact key _ (by rw [hreg]; simp [goesL, hk])
 ·rw [show (W.upd who pop).stepS who s = (W.upd who pop).upd who (fun p => { p with todo := (if (W.upd who pop).reg who s.a = 0 then [] else s.body ++ [s]) ++ p.todo }) by simp [Wld.stepS, hk]]
  exact key _ (by rw [hreg]; simp [goesL, hk])
theorem em2 {p q r : Prop} (h : (p → q) ∧ (¬ p → r)) : (p ∧ q) ∨ (¬ p ∧ r) := by
 by_cases hp : p
 ·exact .inl ⟨hp, h.1 hp⟩
 ·exact .inr ⟨hp, h.2 hp⟩
theorem leaf_eq (W : Wld) (who : Nat) (s : Stm) (h6 : s.kind ≠ 6) (h7 : s.kind ≠ 7) (h8 : s.kind ≠ 8) (h9 : s.kind ≠ 9) (h10 : s.kind ≠ 10) (h12 : s.kind ≠ 12) : W.leaf who s = W.stepS who s := by
 simp [Wld.leaf, Wld.stepS, h6, h7, h8, h9, h10, h12]
theorem c_l3Step (W : Wld) (who : Nat) (cs : List Value) (ts : List Value) (G : PH) (hr : Rdy W) (ht : Tds G W.procs ts) (hw : who < W.procs.length) (hc : ∀ p, W.procs[who]? = some p → (p.mode = 2 → is2 p.room) ∧ (p.mode ≠ 2 → ∃ s r, p.todo = s :: r ∧ SOk s p.room)) :
  Mod Tryz.prog 46 [.agg cs.toArray, .int .i64 (who : Nat)] G (worldV cs W ts) (VPost (W.step who)) := by
 have hste : ∀ p s r, W.procs[who]? = some p → p.mode ≠ 2 → p.todo = s :: r → W.step who = (W.upd who pop).stepS who s := fun p s r h1 h2 h3 => step_eq h1 h2 h3
 have hgoe : ∀ p s r, W.procs[who]? = some p → p.mode ≠ 2 → p.todo = s :: r → (s.kind = 6 ∨ s.kind = 7) → W.upd who (fun p => { p with todo := goesL W who s ++ r }) = W.step who := fun p s r h1 h2 h3 h4 => goes_eq h1 h2 h3 h4
 refine Mod.intro Tryz.func46 Tryz.ntmps46 J J fun w S => ?_
 have h1 := hr.n1
 have h3 := hr.n3
 have hq0 := hr.q0
 have hq1 := hr.q1
 have hf0 := hr.f0
 have hf1 := hr.f1
 have hsd := hr.sd
 obtain ⟨ps, x0, x1, x2, m0, m1, q0, q1, sd⟩ := W
 rcases shape hr.n1 hr.n3 ht with ⟨⟨a0, a1, a2, td0, mo0, on0, ro0⟩, A0, k0, rfl, rfl, s0⟩ | ⟨⟨a0, a1, a2, td0, mo0, on0, ro0⟩, A0, k0, ⟨b0, b1, b2, td1, mo1, on1, ro1⟩, A1, k1, rfl, rfl, s0, s1⟩ | ⟨⟨a0, a1, a2, td0, mo0, on0, ro0⟩, A0, k0, ⟨b0, b1, b2, td1, mo1, on1, ro1⟩, A1, k1, ⟨d0, d1, d2, td2, mo2, on2, ro2⟩, A2, k2, rfl, rfl, s0, s1, s2⟩
 obtain rfl : who = 0 := by simpa using hw
 rotate_left
 rcases (by simp at hw; omega : who = 0 ∨ who = 1) with rfl | rfl
 rotate_left 2
 rcases (by simp at hw; omega : who = 0 ∨ who = 1 ∨ who = 2) with rfl | rfl | rfl
 all_goals
  have hc' := hc _ rfl
  simp only at hc'
  rcases em2 hc' with ⟨hm, hro⟩ | ⟨hm, s, r, htd, hs⟩
  ·subst hm
   refine OvV 1 0 J J J J fun bp bc br bs bg kp sp asd ksd aq0 kq0 aq1 kq1 kc spc kr spr ks sps kg spg hbg hmk hce => ?_; subst hce; (first | obtain ⟨g0, rfl⟩ := len1 hbg | obtain ⟨g0, g1, rfl⟩ := len2 hbg | obtain ⟨g0, g1, g2, rfl⟩ := len3 hbg); clear hbg; refine NM J J ?_; dsimp only [wEnts, wCels, procCs, regEs, WX.of, vi]
   refine Va J J ?_;refine S_box J J J J J fun b2 => ?_;refine Va J J ?_;refine AZ ZT_ok J J J J fun b4 => ?_;refine Va J J ?_;refine AZ ZT_ok J J J J fun b5 => ?_;refine Va J J ?_
   rcases hro with rfl | rfl <;>
   ·refine RT J J ?_
    refine Va J J ?_;refine S_add J J J J (by omega) ?_;refine Va J J ?_
    first | (exact RK (wKeys 1) (Res.c1 Tk Tryz.results46 J J) ⟨_, [_], J, J, ht⟩ (Wvp [_] kg spg J ‹_› J J J J J J J J J) J (Wsub 5 J J J J J J J J J J J J J J J J (Bs 3 J J J J .nil)) XR) | (exact RK (wKeys 2) (Res.c1 Tk Tryz.results46 J J) ⟨_, [_,_], J, J, ht⟩ (Wvp [_, _] kg spg J ‹_› J J J J J J J J J) J (Wsub 10 J J J J J J J J J J J J J J J J (Bs 3 J J J J (Bs 3 J J J J .nil))) XR) | (exact RK (wKeys 3) (Res.c1 Tk Tryz.results46 J J) ⟨_, [_,_,_], J, J, ht⟩ (Wvp [_, _, _] kg spg J ‹_› J J J J J J J J J) J (Wsub 15 J J J J J J J J J J J J J J J J (Bs 3 J J J J (Bs 3 J J J J (Bs 3 J J J J .nil)))) XR)
  ·subst htd
   have hst := hste _ s r rfl hm rfl
   have hgo := fun hk => hgoe _ s r rfl hm rfl hk
   first | (obtain ⟨ad, vx, vy, rfl, hcs, hx, hy, i1, i2, i3, i4⟩ := Sts_head s0) | (obtain ⟨ad, vx, vy, rfl, hcs, hx, hy, i1, i2, i3, i4⟩ := Sts_head s1) | (obtain ⟨ad, vx, vy, rfl, hcs, hx, hy, i1, i2, i3, i4⟩ := Sts_head s2)
   obtain ⟨kk, a, bb, n, x, y⟩ := s
   simp only [Stm.kind, Stm.a, Stm.b, Stm.n, Stm.body, Stm.els] at hcs hx hy i1 i2 i3 i4
   have hrl : r.length ≤ 1000000 := by
    have := hr.tl _ (List.getElem_mem hw)
    simp at this
    omega
   first | (have htail := Sts_tail s0) | (have htail := Sts_tail s1) | (have htail := Sts_tail s2)
   obtain ⟨Ax, cx, rfl, _⟩ := id hx
   obtain ⟨Ay, cy, rfl, _⟩ := id hy
   obtain ⟨xs, hxs, hcx⟩ := Sr_Sx (fun s cs h => Stm.rep_len h) htail
   obtain ⟨_, _, heq, hn1, hnc1, hcm1, hlen1, hrow1⟩ := hxs
   cases heq
   refine OvV 1 0 J J J J fun bp bc br bs bg kp sp asd ksd aq0 kq0 aq1 kq1 kc spc kr spr ks sps kg spg hbg hmk hce => ?_; subst hce; (first | obtain ⟨g0, rfl⟩ := len1 hbg | obtain ⟨g0, g1, rfl⟩ := len2 hbg | obtain ⟨g0, g1, g2, rfl⟩ := len3 hbg); clear hbg; refine NM J J ?_; dsimp only [wEnts, wCels, procCs, regEs, WX.of, vi]
   refine Va J J ?_;refine S_box J J J J J fun b2 => ?_;refine Va J J ?_;refine AZ ZT_ok J J J J fun b4 => ?_;refine Va J J ?_;refine AZ ZT_ok J J J J fun b5 => ?_;refine Va J J ?_;refine RF J (by simp [hm]) ?_;refine Va J J ?_
   refine S_index Tk J J J J J J (by omega) (by simp <;> omega) ?_
   refine S_loadA Tk J J J J J (by simpa [add_zero'] using hcs) ?_;refine Va J J ?_;refine AZ ZT_ok J J J J fun b6 => ?_;refine Va J J ?_;refine S_emptyO Tk 33 J J J J fun A33 => ?_;refine Va J J ?_;refine S_valV J J J (V_slice1 Tk J J J) ?_;refine Va J J ?_;refine S_appO Tk 33 J J J J J J J J J J J (fun _ _ => J) (src_G hlen1 hrow1) (Cs_one Stm.rep_one hcx) (by simp only; omega) (by simp only [maxLen]; omega) (Nat.le_refl _) fun A1' c1' => ?_
   rw [Nat.zero_add r.length]
   refine Va J J ?_;refine S_freezeR 33 J J (Nat.le_refl _) fun G1 hext1 hnc' hcm' hcl => ?_
   have hle1 := hext1.le
   have hr1 : Sts G1 r (.slice A1' r.length c1') := Sx_Sr (Sx_le (newp_le _ _) ⟨A1', c1', rfl, hn1, by simpa using hnc', hcm', hlen1, by simpa using hcl⟩) rfl (Cs_mono (Stm.reps_le hle1 r) hcx)
   refine Va J J ?_
   by_cases e6 : kk = 6
   ·subst e6
    refine RT J J ?_;refine Va J J ?_;refine RT J J ?_;refine Va J J ?_
    first | (refine S_callPk 9 (wKeys 1) Tryz.call73 (c_l3Goes ⟨_, _, _, _, _, _, _, _, _⟩ 0 _ _ G1 h1 h3 (Tds_le hle1 ht) hw 6 a bb n x y r _ _ _ (Sts_le hle1 hx) (Sts_le hle1 hy) hr1 ⟨i1, i2, i3, i4⟩ (hs.r6 (by simp [Stm.kind])).2.1 (hs.r6 (by simp [Stm.kind])).2.2 hrl (hs.r6 (by simp [Stm.kind])).1 (by simp)) (Wvp [_] kg spg J ‹_› J J J J J J J J J) J (Wsub 5 J J J J J J J J J J J J J J J J (Bs 3 J J J J .nil)) J J J ?_) | (refine S_callPk 9 (wKeys 2) Tryz.call73 (c_l3Goes ⟨_, _, _, _, _, _, _, _, _⟩ 0 _ _ G1 h1 h3 (Tds_le hle1 ht) hw 6 a bb n x y r _ _ _ (Sts_le hle1 hx) (Sts_le hle1 hy) hr1 ⟨i1, i2, i3, i4⟩ (hs.r6 (by simp [Stm.kind])).2.1 (hs.r6 (by simp [Stm.kind])).2.2 hrl (hs.r6 (by simp [Stm.kind])).1 (by simp)) (Wvp [_, _] kg spg J ‹_› J J J J J J J J J) J (Wsub 10 J J J J J J J J J J J J J J J J (Bs 3 J J J J (Bs 3 J J J J .nil))) J J J ?_) | (refine S_callPk 9 (wKeys 2) Tryz.call73 (c_l3Goes ⟨_, _, _, _, _, _, _, _, _⟩ 1 _ _ G1 h1 h3 (Tds_le hle1 ht) hw 6 a bb n x y r _ _ _ (Sts_le hle1 hx) (Sts_le hle1 hy) hr1 ⟨i1, i2, i3, i4⟩ (hs.r6 (by simp [Stm.kind])).2.1 (hs.r6 (by simp [Stm.kind])).2.2 hrl (hs.r6 (by simp [Stm.kind])).1 (by simp)) (Wvp [_, _] kg spg J ‹_› J J J J J J J J J) J (Wsub 10 J J J J J J J J J J J J J J J J (Bs 3 J J J J (Bs 3 J J J J .nil))) J J J ?_) | (refine S_callPk 9 (wKeys 3) Tryz.call73 (c_l3Goes ⟨_, _, _, _, _, _, _, _, _⟩ 0 _ _ G1 h1 h3 (Tds_le hle1 ht) hw 6 a bb n x y r _ _ _ (Sts_le hle1 hx) (Sts_le hle1 hy) hr1 ⟨i1, i2, i3, i4⟩ (hs.r6 (by simp [Stm.kind])).2.1 (hs.r6 (by simp [Stm.kind])).2.2 hrl (hs.r6 (by simp [Stm.kind])).1 (by simp)) (Wvp [_, _, _] kg spg J ‹_› J J J J J J J J J) J (Wsub 15 J J J J J J J J J J J J J J J J (Bs 3 J J J J (Bs 3 J J J J (Bs 3 J J J J .nil)))) J J J ?_) | (refine S_callPk 9 (wKeys 3) Tryz.call73 (c_l3Goes ⟨_, _, _, _, _, _, _, _, _⟩ 1 _ _ G1 h1 h3 (Tds_le hle1 ht) hw 6 a bb n x y r _ _ _ (Sts_le hle1 hx) (Sts_le hle1 hy) hr1 ⟨i1, i2, i3, i4⟩ (hs.r6 (by simp [Stm.kind])).2.1 (hs.r6 (by simp [Stm.kind])).2.2 hrl (hs.r6 (by simp [Stm.kind])).1 (by simp)) (Wvp [_, _, _] kg spg J ‹_› J J J J J J J J J) J (Wsub 15 J J J J J J J J J J J J J J J J (Bs 3 J J J J (Bs 3 J J J J (Bs 3 J J J J .nil)))) J J J ?_) | (refine S_callPk 9 (wKeys 3) Tryz.call73 (c_l3Goes ⟨_, _, _, _, _, _, _, _, _⟩ 2 _ _ G1 h1 h3 (Tds_le hle1 ht) hw 6 a bb n x y r _ _ _ (Sts_le hle1 hx) (Sts_le hle1 hy) hr1 ⟨i1, i2, i3, i4⟩ (hs.r6 (by simp [Stm.kind])).2.1 (hs.r6 (by simp [Stm.kind])).2.2 hrl (hs.r6 (by simp [Stm.kind])).1 (by simp)) (Wvp [_, _, _] kg spg J ‹_› J J J J J J J J J) J (Wsub 15 J J J J J J J J J J J J J J J J (Bs 3 J J J J (Bs 3 J J J J (Bs 3 J J J J .nil)))) J J J ?_)
    rintro v G2 A' ⟨cs', ts', rfl, rfl, ht'⟩ hext
    refine S_csV 9 J ?_;rintro bp bc br bs kp asd ksd kc kr ks rfl
    refine Va J J ?_;exact S_retm 9 (Res.c1 Tk Tryz.results46 J J) J (hext1.trans hext) ⟨_, _, J, by rw [← hgo (by simp [Stm.kind])], by rw [← hgo (by simp [Stm.kind])]; exact ht'⟩
   by_cases e7 : kk = 7
   ·subst e7
    refine RF J J ?_;refine Va J J ?_;refine RT J J ?_;refine Va J J ?_
    first | (refine S_callPk 9 (wKeys 1) Tryz.call73 (c_l3Goes ⟨_, _, _, _, _, _, _, _, _⟩ 0 _ _ G1 h1 h3 (Tds_le hle1 ht) hw 7 a bb n x y r _ _ _ (Sts_le hle1 hx) (Sts_le hle1 hy) hr1 ⟨i1, i2, i3, i4⟩ (hs.r6 (by simp [Stm.kind])).2.1 (hs.r6 (by simp [Stm.kind])).2.2 hrl (hs.r6 (by simp [Stm.kind])).1 (by simp)) (Wvp [_] kg spg J ‹_› J J J J J J J J J) J (Wsub 5 J J J J J J J J J J J J J J J J (Bs 3 J J J J .nil)) J J J ?_) | (refine S_callPk 9 (wKeys 2) Tryz.call73 (c_l3Goes ⟨_, _, _, _, _, _, _, _, _⟩ 0 _ _ G1 h1 h3 (Tds_le hle1 ht) hw 7 a bb n x y r _ _ _ (Sts_le hle1 hx) (Sts_le hle1 hy) hr1 ⟨i1, i2, i3, i4⟩ (hs.r6 (by simp [Stm.kind])).2.1 (hs.r6 (by simp [Stm.kind])).2.2 hrl (hs.r6 (by simp [Stm.kind])).1 (by simp)) (Wvp [_, _] kg spg J ‹_› J J J J J J J J J) J (Wsub 10 J J J J J J J J J J J J J J J J (Bs 3 J J J J (Bs 3 J J J J .nil))) J J J ?_) | (refine S_callPk 9 (wKeys 2) Tryz.call73 (c_l3Goes ⟨_, _, _, _, _, _, _, _, _⟩ 1 _ _ G1 h1 h3 (Tds_le hle1 ht) hw 7 a bb n x y r _ _ _ (Sts_le hle1 hx) (Sts_le hle1 hy) hr1 ⟨i1, i2, i3, i4⟩ (hs.r6 (by simp [Stm.kind])).2.1 (hs.r6 (by simp [Stm.kind])).2.2 hrl (hs.r6 (by simp [Stm.kind])).1 (by simp)) (Wvp [_, _] kg spg J ‹_› J J J J J J J J J) J (Wsub 10 J J J J J J J J J J J J J J J J (Bs 3 J J J J (Bs 3 J J J J .nil))) J J J ?_) | (refine S_callPk 9 (wKeys 3) Tryz.call73 (c_l3Goes ⟨_, _, _, _, _, _, _, _, _⟩ 0 _ _ G1 h1 h3 (Tds_le hle1 ht) hw 7 a bb n x y r _ _ _ (Sts_le hle1 hx) (Sts_le hle1 hy) hr1 ⟨i1, i2, i3, i4⟩ (hs.r6 (by simp [Stm.kind])).2.1 (hs.r6 (by simp [Stm.kind])).2.2 hrl (hs.r6 (by simp [Stm.kind])).1 (by simp)) (Wvp [_, _, _] kg spg J ‹_› J J J J J J J J J) J (Wsub 15 J J J J J J J J J J J J J J J J (Bs 3 J J J J (Bs 3 J J J J (Bs 3 J J J J .nil)))) J J J ?_) | (refine S_callPk 9 (wKeys 3) Tryz.call73 (c_l3Goes ⟨_, _, _, _, _, _, _, _, _⟩ 1 _ _ G1 h1 h3 (Tds_le hle1 ht) hw 7 a bb n x y r _ _ _ (Sts_le hle1 hx) (Sts_le hle1 hy) hr1 ⟨i1, i2, i3, i4⟩ (hs.r6 (by simp [Stm.kind])).2.1 (hs.r6 (by simp [Stm.kind])).2.2 hrl (hs.r6 (by simp [Stm.kind])).1 (by simp)) (Wvp [_, _, _] kg spg J ‹_› J J J J J J J J J) J (Wsub 15 J J J J J J J J J J J J J J J J (Bs 3 J J J J (Bs 3 J J J J (Bs 3 J J J J .nil)))) J J J ?_) | (refine S_callPk 9 (wKeys 3) Tryz.call73 (c_l3Goes ⟨_, _, _, _, _, _, _, _, _⟩ 2 _ _ G1 h1 h3 (Tds_le hle1 ht) hw 7 a bb n x y r _ _ _ (Sts_le hle1 hx) (Sts_le hle1 hy) hr1 ⟨i1, i2, i3, i4⟩ (hs.r6 (by simp [Stm.kind])).2.1 (hs.r6 (by simp [Stm.kind])).2.2 hrl (hs.r6 (by simp [Stm.kind])).1 (by simp)) (Wvp [_, _, _] kg spg J ‹_› J J J J J J J J J) J (Wsub 15 J J J J J J J J J J J J J J J J (Bs 3 J J J J (Bs 3 J J J J (Bs 3 J J J J .nil)))) J J J ?_)
    rintro v G2 A' ⟨cs', ts', rfl, rfl, ht'⟩ hext
    refine S_csV 9 J ?_;rintro bp bc br bs kp asd ksd kc kr ks rfl
    refine Va J J ?_;exact S_retm 9 (Res.c1 Tk Tryz.results46 J J) J (hext1.trans hext) ⟨_, _, J, by rw [← hgo (by simp [Stm.kind])], by rw [← hgo (by simp [Stm.kind])]; exact ht'⟩
   by_cases e8 : kk = 8
   ·subst e8
    refine RF J J ?_;refine Va J J ?_;refine RF J J ?_;refine Va J J ?_;refine RT J J ?_;refine Va J J ?_;refine RT J J ?_;refine Va J J ?_
    first | (refine S_callPk 9 (wKeys 1) Tryz.call74 (c_l3Room ⟨_, _, _, _, _, _, _, _, _⟩ 0 _ _ G1 h1 h3 (Tds_le hle1 ht) hw hq0 hq1 hf0 hf1 8 a bb n x y r _ _ _ _ _ (Sts_le hle1 hx) hr1 hrl (by simp) (fun h => hs.r8 h) (fun h => hs.r9 h) (fun h => hs.r10 h)) (Wvp [_] kg spg J ‹_› J J J J J J J J J) J (Wsub 5 J J J J J J J J J J J J J J J J (Bs 3 J J J J .nil)) J J J ?_) | (refine S_callPk 9 (wKeys 2) Tryz.call74 (c_l3Room ⟨_, _, _, _, _, _, _, _, _⟩ 0 _ _ G1 h1 h3 (Tds_le hle1 ht) hw hq0 hq1 hf0 hf1 8 a bb n x y r _ _ _ _ _ (Sts_le hle1 hx) hr1 hrl (by simp) (fun h => hs.r8 h) (fun h => hs.r9 h) (fun h => hs.r10 h)) (Wvp [_, _] kg spg J ‹_› J J J J J J J J J) J (Wsub 10 J J J J J J J J J J J J J J J J (Bs 3 J J J J (Bs 3 J J J J .nil))) J J J ?_) | (refine S_callPk 9 (wKeys 2) Tryz.call74 (c_l3Room ⟨_, _, _, _, _, _, _, _, _⟩ 1 _ _ G1 h1 h3 (Tds_le hle1 ht) hw hq0 hq1 hf0 hf1 8 a bb n x y r _ _ _ _ _ (Sts_le hle1 hx) hr1 hrl (by simp) (fun h => hs.r8 h) (fun h => hs.r9 h) (fun h => hs.r10 h)) (Wvp [_, _] kg spg J ‹_› J J J J J J J J J) J (Wsub 10 J J J J J J J J J J J J J J J J (Bs 3 J J J J (Bs 3 J J J J .nil))) J J J ?_) | (refine S_callPk 9 (wKeys 3) Tryz.call74 (c_l3Room ⟨_, _, _, _, _, _, _, _, _⟩ 0 _ _ G1 h1 h3 (Tds_le hle1 ht) hw hq0 hq1 hf0 hf1 8 a bb n x y r _ _ _ _ _ (Sts_le hle1 hx) hr1 hrl (by simp) (fun h => hs.r8 h) (fun h => hs.r9 h) (fun h => hs.r10 h)) (Wvp [_, _, _] kg spg J ‹_› J J J J J J J J J) J (Wsub 15 J J J J J J J J J J J J J J J J (Bs 3 J J J J (Bs 3 J J J J (Bs 3 J J J J .nil)))) J J J ?_) | (refine S_callPk 9 (wKeys 3) Tryz.call74 (c_l3Room ⟨_, _, _, _, _, _, _, _, _⟩ 1 _ _ G1 h1 h3 (Tds_le hle1 ht) hw hq0 hq1 hf0 hf1 8 a bb n x y r _ _ _ _ _ (Sts_le hle1 hx) hr1 hrl (by simp) (fun h => hs.r8 h) (fun h => hs.r9 h) (fun h => hs.r10 h)) (Wvp [_, _, _] kg spg J ‹_› J J J J J J J J J) J (Wsub 15 J J J J J J J J J J J J J J J J (Bs 3 J J J J (Bs 3 J J J J (Bs 3 J J J J .nil)))) J J J ?_) | (refine S_callPk 9 (wKeys 3) Tryz.call74 (c_l3Room ⟨_, _, _, _, _, _, _, _, _⟩ 2 _ _ G1 h1 h3 (Tds_le hle1 ht) hw hq0 hq1 hf0 hf1 8 a bb n x y r _ _ _ _ _ (Sts_le hle1 hx) hr1 hrl (by simp) (fun h => hs.r8 h) (fun h => hs.r9 h) (fun h => hs.r10 h)) (Wvp [_, _, _] kg spg J ‹_› J J J J J J J J J) J (Wsub 15 J J J J J J J J J J J J J J J J (Bs 3 J J J J (Bs 3 J J J J (Bs 3 J J J J .nil)))) J J J ?_)
    rintro v G2 A' ⟨cs', ts', rfl, rfl, ht'⟩ hext
    refine S_csV 9 J ?_;rintro bp bc br bs kp asd ksd kc kr ks rfl
    refine Va J J ?_;exact S_retm 9 (Res.c1 Tk Tryz.results46 J J) J (hext1.trans hext) ⟨_, _, J, by rw [hst]; rfl, by rw [hst]; exact ht'⟩
   by_cases e12 : kk = 12
   ·subst e12
    refine RF J J ?_;refine Va J J ?_;refine RF J J ?_;refine Va J J ?_;refine RF J J ?_;refine Va J J ?_;refine RT J J ?_;refine Va J J ?_;refine RT J J ?_;refine Va J J ?_
    first | (refine S_callPk 9 (wKeys 1) Tryz.call74 (c_l3Room ⟨_, _, _, _, _, _, _, _, _⟩ 0 _ _ G1 h1 h3 (Tds_le hle1 ht) hw hq0 hq1 hf0 hf1 12 a bb n x y r _ _ _ _ _ (Sts_le hle1 hx) hr1 hrl (by simp) (fun h => hs.r8 h) (fun h => hs.r9 h) (fun h => hs.r10 h)) (Wvp [_] kg spg J ‹_› J J J J J J J J J) J (Wsub 5 J J J J J J J J J J J J J J J J (Bs 3 J J J J .nil)) J J J ?_) | (refine S_callPk 9 (wKeys 2) Tryz.call74 (c_l3Room ⟨_, _, _, _, _, _, _, _, _⟩ 0 _ _ G1 h1 h3 (Tds_le hle1 ht) hw hq0 hq1 hf0 hf1 12 a bb n x y r _ _ _ _ _ (Sts_le hle1 hx) hr1 hrl (by simp) (fun h => hs.r8 h) (fun h => hs.r9 h) (fun h => hs.r10 h)) (Wvp [_, _] kg spg J ‹_› J J J J J J J J J) J (Wsub 10 J J J J J J J J J J J J J J J J (Bs 3 J J J J (Bs 3 J J J J .nil))) J J J ?_) | (refine S_callPk 9 (wKeys 2) Tryz.call74 (c_l3Room ⟨_, _, _, _, _, _, _, _, _⟩ 1 _ _ G1 h1 h3 (Tds_le hle1 ht) hw hq0 hq1 hf0 hf1 12 a bb n x y r _ _ _ _ _ (Sts_le hle1 hx) hr1 hrl (by simp) (fun h => hs.r8 h) (fun h => hs.r9 h) (fun h => hs.r10 h)) (Wvp [_, _] kg spg J ‹_› J J J J J J J J J) J (Wsub 10 J J J J J J J J J J J J J J J J (Bs 3 J J J J (Bs 3 J J J J .nil))) J J J ?_) | (refine S_callPk 9 (wKeys 3) Tryz.call74 (c_l3Room ⟨_, _, _, _, _, _, _, _, _⟩ 0 _ _ G1 h1 h3 (Tds_le hle1 ht) hw hq0 hq1 hf0 hf1 12 a bb n x y r _ _ _ _ _ (Sts_le hle1 hx) hr1 hrl (by simp) (fun h => hs.r8 h) (fun h => hs.r9 h) (fun h => hs.r10 h)) (Wvp [_, _, _] kg spg J ‹_› J J J J J J J J J) J (Wsub 15 J J J J J J J J J J J J J J J J (Bs 3 J J J J (Bs 3 J J J J (Bs 3 J J J J .nil)))) J J J ?_) | (refine S_callPk 9 (wKeys 3) Tryz.call74 (c_l3Room ⟨_, _, _, _, _, _, _, _, _⟩ 1 _ _ G1 h1 h3 (Tds_le hle1 ht) hw hq0 hq1 hf0 hf1 12 a bb n x y r _ _ _ _ _ (Sts_le hle1 hx) hr1 hrl (by simp) (fun h => hs.r8 h) (fun h => hs.r9 h) (fun h => hs.r10 h)) (Wvp [_, _, _] kg spg J ‹_› J J J J J J J J J) J (Wsub 15 J J J J J J J J J J J J J J J J (Bs 3 J J J J (Bs 3 J J J J (Bs 3 J J J J .nil)))) J J J ?_) | (refine S_callPk 9 (wKeys 3) Tryz.call74 (c_l3Room ⟨_, _, _, _, _, _, _, _, _⟩ 2 _ _ G1 h1 h3 (Tds_le hle1 ht) hw hq0 hq1 hf0 hf1 12 a bb n x y r _ _ _ _ _ (Sts_le hle1 hx) hr1 hrl (by simp) (fun h => hs.r8 h) (fun h => hs.r9 h) (fun h => hs.r10 h)) (Wvp [_, _, _] kg spg J ‹_› J J J J J J J J J) J (Wsub 15 J J J J J J J J J J J J J J J J (Bs 3 J J J J (Bs 3 J J J J (Bs 3 J J J J .nil)))) J J J ?_)
    rintro v G2 A' ⟨cs', ts', rfl, rfl, ht'⟩ hext
    refine S_csV 9 J ?_;rintro bp bc br bs kp asd ksd kc kr ks rfl
    refine Va J J ?_;exact S_retm 9 (Res.c1 Tk Tryz.results46 J J) J (hext1.trans hext) ⟨_, _, J, by rw [hst]; rfl, by rw [hst]; exact ht'⟩
   by_cases e9 : kk = 9
   ·subst e9
    refine RF J J ?_;refine Va J J ?_;refine RF J J ?_;refine Va J J ?_;refine RF J J ?_;refine Va J J ?_;refine RF J J ?_;refine Va J J ?_;refine RT J J ?_;refine Va J J ?_;refine RT J J ?_;refine Va J J ?_
    first | (refine S_callPk 9 (wKeys 1) Tryz.call74 (c_l3Room ⟨_, _, _, _, _, _, _, _, _⟩ 0 _ _ G1 h1 h3 (Tds_le hle1 ht) hw hq0 hq1 hf0 hf1 9 a bb n x y r _ _ _ _ _ (Sts_le hle1 hx) hr1 hrl (by simp) (fun h => hs.r8 h) (fun h => hs.r9 h) (fun h => hs.r10 h)) (Wvp [_] kg spg J ‹_› J J J J J J J J J) J (Wsub 5 J J J J J J J J J J J J J J J J (Bs 3 J J J J .nil)) J J J ?_) | (refine S_callPk 9 (wKeys 2) Tryz.call74 (c_l3Room ⟨_, _, _, _, _, _, _, _, _⟩ 0 _ _ G1 h1 h3 (Tds_le hle1 ht) hw hq0 hq1 hf0 hf1 9 a bb n x y r _ _ _ _ _ (Sts_le hle1 hx) hr1 hrl (by simp) (fun h => hs.r8 h) (fun h => hs.r9 h) (fun h => hs.r10 h)) (Wvp [_, _] kg spg J ‹_› J J J J J J J J J) J (Wsub 10 J J J J J J J J J J J J J J J J (Bs 3 J J J J (Bs 3 J J J J .nil))) J J J ?_) | (refine S_callPk 9 (wKeys 2) Tryz.call74 (c_l3Room ⟨_, _, _, _, _, _, _, _, _⟩ 1 _ _ G1 h1 h3 (Tds_le hle1 ht) hw hq0 hq1 hf0 hf1 9 a bb n x y r _ _ _ _ _ (Sts_le hle1 hx) hr1 hrl (by simp) (fun h => hs.r8 h) (fun h => hs.r9 h) (fun h => hs.r10 h)) (Wvp [_, _] kg spg J ‹_› J J J J J J J J J) J (Wsub 10 J J J J J J J J J J J J J J J J (Bs 3 J J J J (Bs 3 J J J J .nil))) J J J ?_) | (refine S_callPk 9 (wKeys 3) Tryz.call74 (c_l3Room ⟨_, _, _, _, _, _, _, _, _⟩ 0 _ _ G1 h1 h3 (Tds_le hle1 ht) hw hq0 hq1 hf0 hf1 9 a bb n x y r _ _ _ _ _ (Sts_le hle1 hx) hr1 hrl (by simp) (fun h => hs.r8 h) (fun h => hs.r9 h) (fun h => hs.r10 h)) (Wvp [_, _, _] kg spg J ‹_› J J J J J J J J J) J (Wsub 15 J J J J J J J J J J J J J J J J (Bs 3 J J J J (Bs 3 J J J J (Bs 3 J J J J .nil)))) J J J ?_) | (refine S_callPk 9 (wKeys 3) Tryz.call74 (c_l3Room ⟨_, _, _, _, _, _, _, _, _⟩ 1 _ _ G1 h1 h3 (Tds_le hle1 ht) hw hq0 hq1 hf0 hf1 9 a bb n x y r _ _ _ _ _ (Sts_le hle1 hx) hr1 hrl (by simp) (fun h => hs.r8 h) (fun h => hs.r9 h) (fun h => hs.r10 h)) (Wvp [_, _, _] kg spg J ‹_› J J J J J J J J J) J (Wsub 15 J J J J J J J J J J J J J J J J (Bs 3 J J J J (Bs 3 J J J J (Bs 3 J J J J .nil)))) J J J ?_) | (refine S_callPk 9 (wKeys 3) Tryz.call74 (c_l3Room ⟨_, _, _, _, _, _, _, _, _⟩ 2 _ _ G1 h1 h3 (Tds_le hle1 ht) hw hq0 hq1 hf0 hf1 9 a bb n x y r _ _ _ _ _ (Sts_le hle1 hx) hr1 hrl (by simp) (fun h => hs.r8 h) (fun h => hs.r9 h) (fun h => hs.r10 h)) (Wvp [_, _, _] kg spg J ‹_› J J J J J J J J J) J (Wsub 15 J J J J J J J J J J J J J J J J (Bs 3 J J J J (Bs 3 J J J J (Bs 3 J J J J .nil)))) J J J ?_)
    rintro v G2 A' ⟨cs', ts', rfl, rfl, ht'⟩ hext
    refine S_csV 9 J ?_;rintro bp bc br bs kp asd ksd kc kr ks rfl
    refine Va J J ?_;exact S_retm 9 (Res.c1 Tk Tryz.results46 J J) J (hext1.trans hext) ⟨_, _, J, by rw [hst]; rfl, by rw [hst]; exact ht'⟩
   by_cases e10 : kk = 10
   ·subst e10
    refine RF J J ?_;refine Va J J ?_;refine RF J J ?_;refine Va J J ?_;refine RF J J ?_;refine Va J J ?_;refine RF J J ?_;refine Va J J ?_;refine RF J J ?_;refine Va J J ?_;refine RT J J ?_;refine Va J J ?_
    first | (refine S_callPk 9 (wKeys 1) Tryz.call74 (c_l3Room ⟨_, _, _, _, _, _, _, _, _⟩ 0 _ _ G1 h1 h3 (Tds_le hle1 ht) hw hq0 hq1 hf0 hf1 10 a bb n x y r _ _ _ _ _ (Sts_le hle1 hx) hr1 hrl (by simp) (fun h => hs.r8 h) (fun h => hs.r9 h) (fun h => hs.r10 h)) (Wvp [_] kg spg J ‹_› J J J J J J J J J) J (Wsub 5 J J J J J J J J J J J J J J J J (Bs 3 J J J J .nil)) J J J ?_) | (refine S_callPk 9 (wKeys 2) Tryz.call74 (c_l3Room ⟨_, _, _, _, _, _, _, _, _⟩ 0 _ _ G1 h1 h3 (Tds_le hle1 ht) hw hq0 hq1 hf0 hf1 10 a bb n x y r _ _ _ _ _ (Sts_le hle1 hx) hr1 hrl (by simp) (fun h => hs.r8 h) (fun h => hs.r9 h) (fun h => hs.r10 h)) (Wvp [_, _] kg spg J ‹_› J J J J J J J J J) J (Wsub 10 J J J J J J J J J J J J J J J J (Bs 3 J J J J (Bs 3 J J J J .nil))) J J J ?_) | (refine S_callPk 9 (wKeys 2) Tryz.call74 (c_l3Room ⟨_, _, _, _, _, _, _, _, _⟩ 1 _ _ G1 h1 h3 (Tds_le hle1 ht) hw hq0 hq1 hf0 hf1 10 a bb n x y r _ _ _ _ _ (Sts_le hle1 hx) hr1 hrl (by simp) (fun h => hs.r8 h) (fun h => hs.r9 h) (fun h => hs.r10 h)) (Wvp [_, _] kg spg J ‹_› J J J J J J J J J) J (Wsub 10 J J J J J J J J J J J J J J J J (Bs 3 J J J J (Bs 3 J J J J .nil))) J J J ?_) | (refine S_callPk 9 (wKeys 3) Tryz.call74 (c_l3Room ⟨_, _, _, _, _, _, _, _, _⟩ 0 _ _ G1 h1 h3 (Tds_le hle1 ht) hw hq0 hq1 hf0 hf1 10 a bb n x y r _ _ _ _ _ (Sts_le hle1 hx) hr1 hrl (by simp) (fun h => hs.r8 h) (fun h => hs.r9 h) (fun h => hs.r10 h)) (Wvp [_, _, _] kg spg J ‹_› J J J J J J J J J) J (Wsub 15 J J J J J J J J J J J J J J J J (Bs 3 J J J J (Bs 3 J J J J (Bs 3 J J J J .nil)))) J J J ?_) | (refine S_callPk 9 (wKeys 3) Tryz.call74 (c_l3Room ⟨_, _, _, _, _, _, _, _, _⟩ 1 _ _ G1 h1 h3 (Tds_le hle1 ht) hw hq0 hq1 hf0 hf1 10 a bb n x y r _ _ _ _ _ (Sts_le hle1 hx) hr1 hrl (by simp) (fun h => hs.r8 h) (fun h => hs.r9 h) (fun h => hs.r10 h)) (Wvp [_, _, _] kg spg J ‹_› J J J J J J J J J) J (Wsub 15 J J J J J J J J J J J J J J J J (Bs 3 J J J J (Bs 3 J J J J (Bs 3 J J J J .nil)))) J J J ?_) | (refine S_callPk 9 (wKeys 3) Tryz.call74 (c_l3Room ⟨_, _, _, _, _, _, _, _, _⟩ 2 _ _ G1 h1 h3 (Tds_le hle1 ht) hw hq0 hq1 hf0 hf1 10 a bb n x y r _ _ _ _ _ (Sts_le hle1 hx) hr1 hrl (by simp) (fun h => hs.r8 h) (fun h => hs.r9 h) (fun h => hs.r10 h)) (Wvp [_, _, _] kg spg J ‹_› J J J J J J J J J) J (Wsub 15 J J J J J J J J J J J J J J J J (Bs 3 J J J J (Bs 3 J J J J (Bs 3 J J J J .nil)))) J J J ?_)
    rintro v G2 A' ⟨cs', ts', rfl, rfl, ht'⟩ hext
    refine S_csV 9 J ?_;rintro bp bc br bs kp asd ksd kc kr ks rfl
    refine Va J J ?_;exact S_retm 9 (Res.c1 Tk Tryz.results46 J J) J (hext1.trans hext) ⟨_, _, J, by rw [hst]; rfl, by rw [hst]; exact ht'⟩
   refine RF J (by simp [e6]) ?_;refine Va J J ?_;refine RF J (by simp [e7]) ?_;refine Va J J ?_;refine RF J (by simp [e8]) ?_;refine Va J J ?_;refine RF J (by simp [e12]) ?_;refine Va J J ?_;refine RF J (by simp [e9]) ?_;refine Va J J ?_;refine RF J (by simp [e10]) ?_;refine Va J J ?_
   first | (refine S_callPk 9 (wKeys 1) Tryz.call75 (c_l3Leaf (Wld.upd ⟨_, _, _, _, _, _, _, _, _⟩ 0 (fun p => { p with todo := r })) 0 _ _ G1 (by rw [upd_len]; exact h1) (by rw [upd_len]; exact h3) (Tds_upd hle1 (fun p => { p with todo := r }) hw ht hr1) (by rw [upd_len]; exact hw) hsd kk a bb n x y _ _ _ _ _ _ (fun h => hs.r1 h) (fun h => hs.r2 h)) (Wvp [_] kg spg J ‹_› J J J J J J J J J) J (Wsub 5 J J J J J J J J J J J J J J J J (Bs 3 J J J J .nil)) J J J ?_) | (refine S_callPk 9 (wKeys 2) Tryz.call75 (c_l3Leaf (Wld.upd ⟨_, _, _, _, _, _, _, _, _⟩ 0 (fun p => { p with todo := r })) 0 _ _ G1 (by rw [upd_len]; exact h1) (by rw [upd_len]; exact h3) (Tds_upd hle1 (fun p => { p with todo := r }) hw ht hr1) (by rw [upd_len]; exact hw) hsd kk a bb n x y _ _ _ _ _ _ (fun h => hs.r1 h) (fun h => hs.r2 h)) (Wvp [_, _] kg spg J ‹_› J J J J J J J J J) J (Wsub 10 J J J J J J J J J J J J J J J J (Bs 3 J J J J (Bs 3 J J J J .nil))) J J J ?_) | (refine S_callPk 9 (wKeys 2) Tryz.call75 (c_l3Leaf (Wld.upd ⟨_, _, _, _, _, _, _, _, _⟩ 1 (fun p => { p with todo := r })) 1 _ _ G1 (by rw [upd_len]; exact h1) (by rw [upd_len]; exact h3) (Tds_upd hle1 (fun p => { p with todo := r }) hw ht hr1) (by rw [upd_len]; exact hw) hsd kk a bb n x y _ _ _ _ _ _ (fun h => hs.r1 h) (fun h => hs.r2 h)) (Wvp [_, _] kg spg J ‹_› J J J J J J J J J) J (Wsub 10 J J J J J J J J J J J J J J J J (Bs 3 J J J J (Bs 3 J J J J .nil))) J J J ?_) | (refine S_callPk 9 (wKeys 3) Tryz.call75 (c_l3Leaf (Wld.upd ⟨_, _, _, _, _, _, _, _, _⟩ 0 (fun p => { p with todo := r })) 0 _ _ G1 (by rw [upd_len]; exact h1) (by rw [upd_len]; exact h3) (Tds_upd hle1 (fun p => { p with todo := r }) hw ht hr1) (by rw [upd_len]; exact hw) hsd kk a bb n x y _ _ _ _ _ _ (fun h => hs.r1 h) (fun h => hs.r2 h)) (Wvp [_, _, _] kg spg J ‹_› J J J J J J J J J) J (Wsub 15 J J J J J J J J J J J J J J J J (Bs 3 J J J J (Bs 3 J J J J (Bs 3 J J J J .nil)))) J J J ?_) | (refine S_callPk 9 (wKeys 3) Tryz.call75 (c_l3Leaf (Wld.upd ⟨_, _, _, _, _, _, _, _, _⟩ 1 (fun p => { p with todo := r })) 1 _ _ G1 (by rw [upd_len]; exact h1) (by rw [upd_len]; exact h3) (Tds_upd hle1 (fun p => { p with todo := r }) hw ht hr1) (by rw [upd_len]; exact hw) hsd kk a bb n x y _ _ _ _ _ _ (fun h => hs.r1 h) (fun h => hs.r2 h)) (Wvp [_, _, _] kg spg J ‹_› J J J J J J J J J) J (Wsub 15 J J J J J J J J J J J J J J J J (Bs 3 J J J J (Bs 3 J J J J (Bs 3 J J J J .nil)))) J J J ?_) | (refine S_callPk 9 (wKeys 3) Tryz.call75 (c_l3Leaf (Wld.upd ⟨_, _, _, _, _, _, _, _, _⟩ 2 (fun p => { p with todo := r })) 2 _ _ G1 (by rw [upd_len]; exact h1) (by rw [upd_len]; exact h3) (Tds_upd hle1 (fun p => { p with todo := r }) hw ht hr1) (by rw [upd_len]; exact hw) hsd kk a bb n x y _ _ _ _ _ _ (fun h => hs.r1 h) (fun h => hs.r2 h)) (Wvp [_, _, _] kg spg J ‹_› J J J J J J J J J) J (Wsub 15 J J J J J J J J J J J J J J J J (Bs 3 J J J J (Bs 3 J J J J (Bs 3 J J J J .nil)))) J J J ?_)
   rintro v G2 A' ⟨cs', ts', rfl, rfl, ht'⟩ hext
   refine S_csV 9 J ?_;rintro bp bc br bs kp asd ksd kc kr ks rfl
   refine Va J J ?_
   have hlf : ∀ (V : Wld) (z : Nat), V.leaf z (.mk kk a bb n x y) = V.stepS z (.mk kk a bb n x y) := fun V z => leaf_eq V z _ e6 e7 e8 e9 e10 e12
   exact S_retm 9 (Res.c1 Tk Tryz.results46 J J) J (hext1.trans hext) ⟨_, ts', J, by rw [hst, ← hlf]; rfl, by rw [hst, ← hlf]; exact ht'⟩
end
section
attribute [local irreducible] X Pure Mod
end
section
attribute [local irreducible] X Pure Mod
mutual
/-- how long what is left to do can get -/
def mxS : Stm → Nat
 | .mk _ _ _ _ x y => 1 + max (mx x) (mx y)
def mx : List Stm → Nat
 | [] => 0
 | s :: r => max (mxS s + r.length) (mx r)
end
theorem mxS_eq (s : Stm) : mxS s = 1 + max (mx s.body) (mx s.els) := by cases s; simp [mxS, Stm.body, Stm.els]
theorem mxS_pos (s : Stm) : 1 ≤ mxS s := by rw [mxS_eq]; omega
theorem len_mx (L : List Stm) : L.length ≤ mx L := by
 induction L with
 | nil => simp
 | cons s r ih => have := mxS_pos s; simp only [List.length_cons, mx]; omega
theorem mx_append (L r : List Stm) {k : Nat} (h1 : mx L + r.length ≤ k) (h2 : mx r ≤ k) : mx (L ++ r) ≤ k := by
 induction L with
 | nil => simpa using h2
 | cons s L ih =>
  simp only [mx, List.cons_append, List.length_append] at h1 ⊢
  have := ih (by omega)
  omega
inductive TOk : Int → List Stm → Prop
 | nil : TOk (-1) []
 | leave {a : Int} {r : List Stm} : is2 a → TOk (-1) r → TOk a (leaveS a :: r)
 | stm {s : Stm} {d room : Int} {r : List Stm} : stmtOk s d room = true → TOk room r → TOk room (s :: r)
theorem TOk.app {L : List Stm} {d room : Int} {r : List Stm} (h : listOk L d room = true) (hr : TOk room r) : TOk room (L ++ r) := by
 induction L with
 | nil => exact hr
 | cons s L ih =>
  simp only [listOk, Bool.and_eq_true] at h
  exact .stm h.1 (ih h.2)
structure POk (p : Prc) : Prop where
 td : TOk p.room p.todo
 mx : mx p.todo ≤ 1000
 md : p.mode = 0 ∨ p.mode = 1 ∨ p.mode = 2
 rm : p.mode ≠ 0 → is2 p.room
 ro : p.room = -1 ∨ is2 p.room
structure Inv (W : Wld) (B : Nat) : Prop where
 n1 : 1 ≤ W.procs.length
 n3 : W.procs.length ≤ 3
 pr : ∀ p ∈ W.procs, POk p
 m0 : 0 ≤ W.m0
 m1 : 0 ≤ W.m1
 sd : W.said.length ≤ B
 ql : W.q0.length + W.q1.length ≤ B
 qf : ∀ f ∈ W.q0 ++ W.q1, 0 ≤ f ∧ ∃ p, W.procs[f.toNat]? = some p ∧ p.mode = 1
 nd : (W.q0 ++ W.q1).Nodup
theorem sok_of {s : Stm} {d room : Int} (h : stmtOk s d room = true) (hm : mxS s ≤ 1000) (hr : room = -1 ∨ is2 room) : SOk s room := by
 have hb := len_mx s.body
 have he := len_mx s.els
 rw [mxS_eq] at hm
 obtain ⟨k, a, b, n, x, y⟩ := s
 simp only [Stm.body, Stm.els] at hb he hm
 simp only [stmtOk] at h
 split at h
 ·cases h
 refine ⟨?_, ?_, ?_, ?_, ?_, ?_⟩ <;> simp only [Stm.kind, Stm.a, Stm.b, Stm.body, Stm.els, is2, is3]
 ·rintro (rfl | rfl) <;> simp [leafOk] at h <;> omega
 ·rintro (rfl | rfl | rfl) <;> simp [leafOk] at h <;> omega
 ·rintro (rfl | rfl) <;> simp at h <;> omega
 ·rintro rfl; simp at h; omega
 ·rintro rfl
  simp [leafOk] at h
  rcases hr with rfl | hr
  ·omega
  ·exact ⟨by omega, hr⟩
 ·rintro (rfl | rfl) <;> simp [leafOk] at h <;> omega
end
section
attribute [local irreducible] X Pure Mod
theorem updL_ne {α : Type} {f : α → α} : ∀ (l : List α) (i j : Nat), i ≠ j → (updL f i l)[j]? = l[j]?
 | [], i, j, _ => by cases i <;> rfl
 | x :: l, 0, 0, h => absurd rfl h
 | x :: l, 0, j + 1, _ => by simp [updL]
 | x :: l, i + 1, 0, _ => by simp [updL]
 | x :: l, i + 1, j + 1, h => by simp only [updL, List.getElem?_cons_succ]; exact updL_ne l i j (by omega)
theorem mem_updL' {α : Type} {f : α → α} {y : α} : ∀ (l : List α) (i : Nat), y ∈ updL f i l → y ∈ l ∨ ∃ x, l[i]? = some x ∧ y = f x
 | [], i, h => by cases i <;> simp [updL] at h
 | x :: l, 0, h => by
  simp only [updL, List.mem_cons] at h
  rcases h with h | h
  ·exact .inr ⟨x, J, h⟩
  ·exact .inl (List.mem_cons_of_mem _ h)
 | x :: l, i + 1, h => by
  simp only [updL, List.mem_cons] at h
  rcases h with h | h
  ·exact .inl (by simp [h])
  ·rcases mem_updL' l i h with h | h
   ·exact .inl (List.mem_cons_of_mem _ h)
   ·exact .inr (by simpa using h)
theorem leave_sok {a : Int} (h : is2 a) : SOk (leaveS a) a := by
 refine ⟨?_, ?_, ?_, ?_, ?_, ?_⟩ <;> simp [leaveS, Stm.kind, Stm.a, h]
theorem Inv.sok {W : Wld} {B : Nat} (h : Inv W B) {p : Prc} (hp : p ∈ W.procs) {s : Stm} {r : List Stm} (ht : p.todo = s :: r) : SOk s p.room := by
 have q := h.pr p hp
 have htd := q.td
 have hmx := q.mx
 rw [ht] at htd hmx
 simp only [mx] at hmx
 have hro := q.ro
 generalize p.room = ro at *
 cases htd with
 | leave ha hr => exact leave_sok ha
 | stm hs hr => exact sok_of hs (by omega) hro
theorem Inv.head {W : Wld} {B : Nat} (h : Inv W B) : ∀ p ∈ W.procs, HeadOk p := fun p hp =>
 ⟨fun hm => (h.pr p hp).rm (by omega), fun s r ht hk => ((h.sok hp ht).r8 hk).1⟩
theorem Inv.rdy {W : Wld} {B : Nat} (h : Inv W B) (hB : B ≤ 1000000) : Rdy W where
 n1 := h.n1
 n3 := h.n3
 sd := Nat.le_trans h.sd hB
 q0 := by have := h.ql; omega
 q1 := by have := h.ql; omega
 f0 := fun f hf => by
  obtain ⟨h0, p, hp, _⟩ := h.qf f (List.mem_append_left _ hf)
  have := (List.getElem?_eq_some_iff.1 hp).1
  omega
 f1 := fun f hf => by
  obtain ⟨h0, p, hp, _⟩ := h.qf f (List.mem_append_right _ hf)
  have := (List.getElem?_eq_some_iff.1 hp).1
  omega
 tl := fun p hp => by have := len_mx p.todo; have := (h.pr p hp).mx; omega
theorem code0 {W : Wld} {who : Nat} {p : Prc} (hp : W.procs[who]? = some p) (h : codeOf W (who : Nat) = 0) : p.mode ≠ 1 ∧ (p.mode ≠ 2 → p.todo ≠ []) := by
 have hl := (List.getElem?_eq_some_iff.1 hp).1
 unfold codeOf at h
 rw [if_neg (by omega)] at h
 simp only [Int.toNat_natCast, hp, codeP] at h
 refine ⟨fun hm => by simp [hm] at h, fun hm ht => ?_⟩
 simp [hm, ht] at h
 split at h <;> simp at h
theorem Inv.go {W : Wld} {B : Nat} (h : Inv W B) {who : Nat} (hc : codeOf W (who : Nat) = 0) : ∀ p, W.procs[who]? = some p → (p.mode = 2 → is2 p.room) ∧ (p.mode ≠ 2 → ∃ s r, p.todo = s :: r ∧ SOk s p.room) := by
 intro p hp
 have hm : p ∈ W.procs := List.mem_of_getElem? hp
 refine ⟨fun h2 => (h.pr p hm).rm (by omega), fun h2 => ?_⟩
 have ht := (code0 hp hc).2 h2
 rcases hT : p.todo with _ | ⟨s, r⟩
 ·exact absurd hT ht
 ·exact ⟨s, r, J, h.sok hm hT⟩
end
section
attribute [local irreducible] X Pure Mod
theorem Inv.mono {W : Wld} {B B' : Nat} (h : Inv W B) (hB : B ≤ B') : Inv W B' :=
 ⟨h.n1, h.n3, h.pr, h.m0, h.m1, Nat.le_trans h.sd hB, Nat.le_trans h.ql hB, h.qf, h.nd⟩
theorem Inv.upd {W : Wld} {B who : Nat} {f : Prc → Prc} {p : Prc} (h : Inv W B) (hp : W.procs[who]? = some p) (hm : p.mode ≠ 1) (hf : POk (f p)) : Inv (W.upd who f) B := by
 refine ⟨by rw [upd_len]; exact h.n1, by rw [upd_len]; exact h.n3, fun q hq => ?_, h.m0, h.m1, h.sd, h.ql, fun g hg => ?_, h.nd⟩
 ·rcases mem_updL' _ _ hq with hq | ⟨x, hx, rfl⟩
  ·exact h.pr q hq
  ·rw [hp] at hx; cases hx; exact hf
 ·obtain ⟨h0, q, hq, hqm⟩ := h.qf g hg
  refine ⟨h0, q, ?_, hqm⟩
  show (updL f who W.procs)[g.toNat]? = some q
  rw [updL_ne _ _ _ (by rintro rfl; rw [hp] at hq; cases hq; exact hm hqm)]
  exact hq
theorem Inv.setRm {W : Wld} {B : Nat} (h : Inv W B) (a v : Int) (hv : 0 ≤ v) : Inv (W.setRm a v) B := by
 unfold Wld.setRm
 split
 ·exact ⟨h.n1, h.n3, h.pr, hv, h.m1, h.sd, h.ql, h.qf, h.nd⟩
 ·exact ⟨h.n1, h.n3, h.pr, h.m0, hv, h.sd, h.ql, h.qf, h.nd⟩
theorem Inv.setCell {W : Wld} {B : Nat} (h : Inv W B) (a v : Int) : Inv (W.setCell a v) B := by
 unfold Wld.setCell
 split
 ·exact ⟨h.n1, h.n3, h.pr, h.m0, h.m1, h.sd, h.ql, h.qf, h.nd⟩
 split
 ·exact ⟨h.n1, h.n3, h.pr, h.m0, h.m1, h.sd, h.ql, h.qf, h.nd⟩
 ·exact ⟨h.n1, h.n3, h.pr, h.m0, h.m1, h.sd, h.ql, h.qf, h.nd⟩
theorem Inv.say {W : Wld} {B : Nat} (h : Inv W B) (v : Int × Int) : Inv { W with said := W.said ++ [v] } (B + 1) :=
 ⟨h.n1, h.n3, h.pr, h.m0, h.m1, by have := h.sd; simp only [List.length_append, List.length_singleton]; omega, Nat.le_succ_of_le h.ql, h.qf, h.nd⟩
theorem Inv.wait {W : Wld} {B who : Nat} {p : Prc} (h : Inv W B) (hp : W.procs[who]? = some p) (hm : p.mode ≠ 1) (hr : is2 p.room) (a : Int) : Inv ((W.upd who (fun p => { p with mode := 1, on := a })).setQue a (W.que a ++ [(who : Int)])) (B + 1) := by
 have hpm : p ∈ W.procs := List.mem_of_getElem? hp
 have q := h.pr p hpm
 have hu : Inv (W.upd who (fun p => { p with mode := 1, on := a })) B := h.upd hp hm ⟨q.td, q.mx, .inr (.inl rfl), fun _ => hr, q.ro⟩
 have hnot : (who : Int) ∉ W.q0 ++ W.q1 := fun hw => by
  obtain ⟨_, q, hq, hqm⟩ := h.qf _ hw
  simp only [Int.toNat_natCast] at hq
  rw [hp] at hq; cases hq; exact hm hqm
 have hself : ∃ q, (updL (fun p : Prc => { p with mode := 1, on := a }) who W.procs)[((who : Int)).toNat]? = some q ∧ q.mode = 1 := by
  refine ⟨{ p with mode := 1, on := a }, ?_, J⟩
  rw [Int.toNat_natCast, updL_get, hp]; rfl
 have hql := h.ql
 have hnd := h.nd
 unfold Wld.setQue Wld.que
 split
 ·refine ⟨hu.n1, hu.n3, hu.pr, hu.m0, hu.m1, Nat.le_succ_of_le hu.sd, ?_, fun g hg => ?_, ?_⟩
  ·show (W.q0 ++ [(who : Int)]).length + W.q1.length ≤ _
   simp only [List.length_append, List.length_singleton]; omega
  ·have hg' : g ∈ W.q0 ++ W.q1 ∨ g = (who : Int) := by
    replace hg : g ∈ (W.q0 ++ [(who : Int)]) ++ W.q1 := hg
    simp only [List.mem_append, List.mem_singleton] at hg ⊢
    rcases hg with (hg | hg) | hg <;> simp [hg]
   rcases hg' with hg' | rfl
   ·exact hu.qf g hg'
   ·exact ⟨by omega, hself⟩
  ·show ((W.q0 ++ [(who : Int)]) ++ W.q1).Nodup
   simp only [List.mem_append, not_or] at hnot
   rw [List.nodup_append] at hnd ⊢
   rw [List.nodup_append]
   refine ⟨⟨hnd.1, by simp, fun x hx y hy => ?_⟩, hnd.2.1, fun x hx y hy => ?_⟩
   ·simp only [List.mem_singleton] at hy
    rintro rfl
    exact hnot.1 (hy ▸ hx)
   ·simp only [List.mem_append, List.mem_singleton] at hx
    rcases hx with hx | rfl
    ·exact hnd.2.2 x hx y hy
    ·rintro rfl
     exact hnot.2 hy
 ·refine ⟨hu.n1, hu.n3, hu.pr, hu.m0, hu.m1, Nat.le_succ_of_le hu.sd, ?_, fun g hg => ?_, ?_⟩
  ·show W.q0.length + (W.q1 ++ [(who : Int)]).length ≤ _
   simp only [List.length_append, List.length_singleton]; omega
  ·have hg' : g ∈ W.q0 ++ W.q1 ∨ g = (who : Int) := by
    replace hg : g ∈ W.q0 ++ (W.q1 ++ [(who : Int)]) := hg
    simp only [List.mem_append, List.mem_singleton] at hg ⊢
    rcases hg with hg | hg | hg <;> simp [hg]
   rcases hg' with hg' | rfl
   ·exact hu.qf g hg'
   ·exact ⟨by omega, hself⟩
  ·show (W.q0 ++ (W.q1 ++ [(who : Int)])).Nodup
   rw [← List.append_assoc, List.nodup_append]
   refine ⟨hnd, by simp, fun x hx y hy => ?_⟩
   simp only [List.mem_singleton] at hy
   rintro rfl
   exact hnot (hy ▸ hx)
end
section
attribute [local irreducible] X Pure Mod
theorem Inv.woken {W : Wld} {B : Nat} {f : Int} (h : Inv W B) {Q0 Q1 : List Int} (hf : f ∈ W.q0 ++ W.q1) (hnf : f ∉ Q0 ++ Q1) (hnd : (Q0 ++ Q1).Nodup) (hl : Q0.length + Q1.length ≤ B) (hsub : ∀ g ∈ Q0 ++ Q1, g ∈ W.q0 ++ W.q1) :
  Inv { W.upd f.toNat (fun p => { p with mode := 2, on := 0 }) with q0 := Q0, q1 := Q1 } B := by
 obtain ⟨h0, p, hp, hpm⟩ := h.qf f hf
 have q := h.pr p (List.mem_of_getElem? hp)
 refine ⟨by show 1 ≤ (updL _ _ _).length; rw [length_updL]; exact h.n1, by show (updL _ _ _).length ≤ 3; rw [length_updL]; exact h.n3, fun x hx => ?_, h.m0, h.m1, h.sd, hl, fun g hg => ?_, hnd⟩
 ·rcases mem_updL' _ _ hx with hx | ⟨y, hy, rfl⟩
  ·exact h.pr x hx
  ·rw [hp] at hy; cases hy
   exact ⟨q.td, q.mx, .inr (.inr J), fun _ => q.rm (by omega), q.ro⟩
 ·obtain ⟨g0, x, hx, hxm⟩ := h.qf g (hsub g hg)
  refine ⟨g0, x, ?_, hxm⟩
  show (updL _ _ W.procs)[g.toNat]? = some x
  have hgf : f.toNat ≠ g.toNat := fun e => hnf ((show g = f by omega) ▸ hg)
  rw [updL_ne _ _ _ hgf]
  exact hx
theorem Inv.signal {W : Wld} {B : Nat} (h : Inv W B) (a : Int) : Inv (W.signal a) B := by
 have hnd := h.nd
 have hql := h.ql
 unfold Wld.signal Wld.que
 by_cases ha : a = 0
 ·simp only [ha, if_true]
  rcases hq : W.q0 with _ | ⟨f, r⟩
  ·exact h
  ·rw [hq] at hnd hql
   simp only [List.cons_append, List.nodup_cons, List.length_cons] at hnd hql
   have := h.woken (f := f) (Q0 := r) (Q1 := W.q1) (by rw [hq]; simp) hnd.1 hnd.2 (by omega) (fun g hg => by rw [hq]; exact List.mem_cons_of_mem _ hg)
   show Inv ((W.upd f.toNat (fun p => { p with mode := 2, on := 0 })).setQue 0 r) B
   unfold Wld.setQue
   rw [if_pos rfl]
   exact this
 ·simp only [ha, if_false]
  rcases hq : W.q1 with _ | ⟨f, r⟩
  ·exact h
  ·rw [hq] at hnd hql
   simp only [List.length_cons] at hql
   have hnd2 := hnd
   rw [List.nodup_append] at hnd2
   have hcn := List.nodup_cons.1 hnd2.2.1
   have := h.woken (f := f) (Q0 := W.q0) (Q1 := r) (by rw [hq]; simp) (by
     simp only [List.mem_append, not_or]
     exact ⟨fun hx => hnd2.2.2 f hx f (by simp) J, hcn.1⟩) (by
     rw [List.nodup_append]
     exact ⟨hnd2.1, hcn.2, fun x hx y hy => hnd2.2.2 x hx y (List.mem_cons_of_mem _ hy)⟩) (by omega) (fun g hg => by
     rw [hq]
     simp only [List.mem_append, List.mem_cons] at hg ⊢
     rcases hg with hg | hg <;> simp [hg])
   show Inv ((W.upd f.toNat (fun p => { p with mode := 2, on := 0 })).setQue a r) B
   unfold Wld.setQue
   rw [if_neg ha]
   exact this
theorem upd_upd (W : Wld) (who : Nat) (f g : Prc → Prc) : (W.upd who g).upd who f = W.upd who (fun p => f (g p)) := by
 simp [Wld.upd, updL_updL]
theorem setRm_upd (W : Wld) (who : Nat) (f : Prc → Prc) (a v : Int) : (W.upd who f).setRm a v = (W.setRm a v).upd who f := by
 unfold Wld.setRm; split <;> rfl
theorem que_setRm (W : Wld) (a v b : Int) : (W.setRm a v).que b = W.que b := by
 unfold Wld.setRm; split <;> rfl
theorem POk.set {p : Prc} (h : POk p) (k v : Int) : POk (p.set k v) := by
 unfold Prc.set
 split
 ·exact ⟨h.td, h.mx, h.md, h.rm, h.ro⟩
 split
 ·exact ⟨h.td, h.mx, h.md, h.rm, h.ro⟩
 ·exact ⟨h.td, h.mx, h.md, h.rm, h.ro⟩
theorem Inv.step {W : Wld} {B who : Nat} (h : Inv W B) (hw : who < W.procs.length) (hc : codeOf W (who : Nat) = 0) : Inv (W.step who) (B + 1) := by
 obtain ⟨p, hp⟩ : ∃ p, W.procs[who]? = some p := ⟨W.procs[who], by simp [hw]⟩
 obtain ⟨hm1, hne⟩ := code0 hp hc
 have hpm : p ∈ W.procs := List.mem_of_getElem? hp
 have q := h.pr p hpm
 by_cases hm : p.mode = 2
 ·have e : W.step who = (W.setRm p.room ((who : Int) + 1)).upd who (fun p => { p with mode := 0 }) := by simp [Wld.step, hp, hm]
  rw [e]
  refine Inv.mono ((h.setRm _ _ (by omega)).upd (p := p) (by rw [setRm_procs]; exact hp) (by omega) ?_) (Nat.le_succ _)
  exact ⟨q.td, q.mx, .inl rfl, fun hx => absurd rfl hx, q.ro⟩
 rcases hT : p.todo with _ | ⟨s, r⟩
 ·exact absurd hT (hne hm)
 rw [step_eq hp hm hT]
 have hm0 : p.mode = 0 := by rcases q.md with h | h | h <;> simp_all
 have hsok := h.sok hpm hT
 have htd := q.td
 have hmx := q.mx
 rw [hT] at htd hmx
 simp only [Go.Proofs.YtcbdilccmjpnbaaGreatDoor.mx] at hmx
 have hro := q.ro
 have hpt : (pop p).todo = r := by simp [pop, hT]
 generalize hR : p.room = ro at htd hro
 cases htd with
 | leave ha hr =>
  have e : (W.upd who pop).stepS who (leaveS ro) = (W.setRm ro 0).upd who (fun p => { pop p with room := -1 }) := by
   rw [show (W.upd who pop).stepS who (leaveS ro) = ((W.upd who pop).setRm ro 0).upd who (fun p => { p with room := -1 }) by simp [Wld.stepS, leaveS, Stm.kind, Stm.a], setRm_upd, upd_upd]
  rw [e]
  refine Inv.mono ((h.setRm _ _ (by omega)).upd (p := p) (by rw [setRm_procs]; exact hp) hm1 ?_) (Nat.le_succ _)
  exact ⟨by show TOk (-1) (pop p).todo; rw [hpt]; exact hr, by show Go.Proofs.YtcbdilccmjpnbaaGreatDoor.mx (pop p).todo ≤ _; rw [hpt]; omega, .inl hm0, fun hx => absurd hm0 hx, .inl rfl⟩
 | stm hs hr =>
  rename_i d
  have hpop : POk (pop p) := ⟨by show TOk p.room (pop p).todo; rw [hpt, hR]; exact hr, by rw [hpt]; omega, .inl hm0, fun hx => absurd hm0 hx, q.ro⟩
  have hP := h.upd hp hm1 hpop
  have hPp : (W.upd who pop).procs[who]? = some (pop p) := by
   show (updL _ _ _)[who]? = _
   rw [updL_get, hp]; rfl
  obtain ⟨k, a, b, n, x, y⟩ := s
  simp only [mxS] at hmx
  have hs0 := hs
  simp only [stmtOk] at hs
  split at hs
  ·cases hs
  have pm1 : (pop p).mode ≠ 1 := hm1
  have pm0 : (pop p).mode = 0 := hm0
  have app : ∀ L : List Stm, ∀ d', listOk L d' ro = true → Go.Proofs.YtcbdilccmjpnbaaGreatDoor.mx L + r.length ≤ 1000 → POk { pop p with todo := L ++ (pop p).todo } := fun L d' h1 h2 =>
   ⟨by show TOk p.room (L ++ (pop p).todo); rw [hpt, hR]; exact hr.app h1, by show Go.Proofs.YtcbdilccmjpnbaaGreatDoor.mx (L ++ (pop p).todo) ≤ _; rw [hpt]; exact mx_append _ _ h2 (by omega), .inl hm0, fun hx => absurd hm0 hx, q.ro⟩
  unfold Wld.stepS
  have hkd : (Stm.mk k a b n x y).kind = k := rfl
  simp only [hkd]
  by_cases e1 : k = 1
  ·rw [if_pos e1]
   exact (hP.upd hPp pm1 (hpop.set _ _)).mono (Nat.le_succ _)
  rw [if_neg e1]
  by_cases e2 : k = 2
  ·rw [if_pos e2]
   exact (hP.upd hPp pm1 (hpop.set _ _)).mono (Nat.le_succ _)
  rw [if_neg e2]
  by_cases e3 : k = 3
  ·rw [if_pos e3]
   exact (hP.upd hPp pm1 (hpop.set _ _)).mono (Nat.le_succ _)
  rw [if_neg e3]
  by_cases e4 : k = 4
  ·rw [if_pos e4]
   exact (hP.setCell _ _).mono (Nat.le_succ _)
  rw [if_neg e4]
  by_cases e5 : k = 5
  ·rw [if_pos e5]
   exact hP.say _
  rw [if_neg e5]
  by_cases e6 : k = 6
  ·rw [if_pos e6]
   subst e6
   simp at hs
   refine (hP.upd hPp pm1 (app _ (d - 1) ?_ ?_)).mono (Nat.le_succ _)
   ·by_cases hz : (W.upd who pop).reg who (Stm.mk 6 a b n x y).a = 0
    ·rw [if_pos hz]; exact hs.2
    ·rw [if_neg hz]; exact hs.1.2
   ·by_cases hz : (W.upd who pop).reg who (Stm.mk 6 a b n x y).a = 0
    ·rw [if_pos hz]; simp only [Stm.els]; omega
    ·rw [if_neg hz]; simp only [Stm.body]; omega
  rw [if_neg e6]
  by_cases e7 : k = 7
  ·rw [if_pos e7]
   subst e7
   simp at hs
   refine (hP.upd hPp pm1 ?_).mono (Nat.le_succ _)
   by_cases hz : (W.upd who pop).reg who (Stm.mk 7 a b n x y).a = 0
   ·rw [if_pos hz]
    exact app [] 3 J (by simp only [Go.Proofs.YtcbdilccmjpnbaaGreatDoor.mx]; omega)
   ·rw [if_neg hz]
    refine ⟨?_, ?_, .inl hm0, fun hx => absurd hm0 hx, q.ro⟩
    ·show TOk p.room ((x ++ [.mk 7 a b n x y]) ++ (pop p).todo)
     rw [hpt, hR, List.append_assoc]
     exact TOk.app hs.1.2 (.stm hs0 hr)
    ·show Go.Proofs.YtcbdilccmjpnbaaGreatDoor.mx ((x ++ [.mk 7 a b n x y]) ++ (pop p).todo) ≤ 1000
     rw [hpt, List.append_assoc]
     refine mx_append _ _ (by simp only [List.length_append, List.length_singleton]; omega) ?_
     simp only [List.singleton_append, Go.Proofs.YtcbdilccmjpnbaaGreatDoor.mx, mxS]; omega
  rw [if_neg e7]
  by_cases e8 : k = 8
  ·rw [if_pos e8]
   subst e8
   simp at hs
   obtain ⟨⟨⟨⟨hro1, ha0⟩, hb⟩, hn⟩, hx⟩ := hs
   have hro2 : ro = -1 := by rcases hro with h | h | h <;> omega
   have ha2 : is2 a := by unfold is2; omega
   refine Inv.mono ((hP.setRm _ _ (by omega)).upd (p := pop p) (by rw [setRm_procs]; exact hPp) pm1 ?_) (Nat.le_succ _)
   refine ⟨?_, ?_, .inl hm0, fun hx => absurd hm0 hx, .inr ha2⟩
   ·show TOk a ((x ++ [leaveS a]) ++ (pop p).todo)
    rw [hpt, List.append_assoc]
    exact TOk.app hx (.leave ha2 (hro2 ▸ hr))
   ·show Go.Proofs.YtcbdilccmjpnbaaGreatDoor.mx ((x ++ [leaveS a]) ++ (pop p).todo) ≤ 1000
    rw [hpt, List.append_assoc]
    refine mx_append _ _ (by simp only [List.length_append, List.length_singleton]; omega) ?_
    simp only [List.singleton_append, Go.Proofs.YtcbdilccmjpnbaaGreatDoor.mx, mxS, leaveS]; omega
  rw [if_neg e8]
  by_cases e9 : k = 9
  ·rw [if_pos e9]
   subst e9
   simp [leafOk] at hs
   have hr2 : is2 ro := by
    rcases hro with h | h
    ·omega
    ·exact h
   have := (hP.setRm ((W.upd who pop).room who) 0 (by omega)).wait (p := pop p) (by rw [setRm_procs]; exact hPp) pm1 (by show is2 p.room; rw [hR]; exact hr2) a
   rw [que_setRm] at this
   exact this
  rw [if_neg e9]
  by_cases e10 : k = 10
  ·rw [if_pos e10]
   exact (hP.signal _).mono (Nat.le_succ _)
  rw [if_neg e10]
  by_cases e12 : k = 12
  ·subst e12
   simp [leafOk] at hs
  ·rw [if_neg e12]
   exact hP.mono (Nat.le_succ _)
end
section
attribute [local irreducible] X Pure Mod
theorem Wld.step_len (W : Wld) (who : Nat) : (W.step who).procs.length = W.procs.length := by
 have hs : ∀ (V : Wld) a v, (V.setRm a v).procs.length = V.procs.length := fun V a v => by rw [setRm_procs]
 have hq : ∀ (V : Wld) a v, (V.setQue a v).procs.length = V.procs.length := fun V a v => by rw [setQue_procs]
 have hc : ∀ (V : Wld) a v, (V.setCell a v).procs.length = V.procs.length := fun V a v => by rw [setCell_procs]
 have hu := upd_len
 unfold Wld.step
 rcases W.procs[who]? with _ | p
 ·rfl
 by_cases hm : p.mode = 2
 ·simp only [hm, if_true, hu, hs]
 ·simp only [hm, if_false]
  rcases p.todo with _ | ⟨s, r⟩
  ·rfl
  ·simp only [Wld.stepS]
   have hg : ∀ (V : Wld) a, (V.signal a).procs.length = V.procs.length := fun V a => by
    unfold Wld.signal
    split
    ·rfl
    ·rw [hq, hu]
   have ite : ∀ {c : Prop} [Decidable c] {A B : Wld} {n : Nat}, A.procs.length = n → B.procs.length = n → (if c then A else B).procs.length = n := by
    intro c _ A B n h1 h2
    by_cases h : c
    ·rw [if_pos h]; exact h1
    ·rw [if_neg h]; exact h2
   repeat' (first | refine ite ?_ ?_)
   all_goals (simp only [hu, hs, hq, hc, hg])
end
section
attribute [local irreducible] X Pure Mod
mutual
def dpS : Stm → Nat
 | .mk _ _ _ _ x y => 1 + max (dpL x) (dpL y)
def dpL : List Stm → Nat
 | [] => 0
 | s :: r => max (dpS s) (dpL r)
end
theorem dpS_eq (s : Stm) : dpS s = 1 + max (dpL s.body) (dpL s.els) := by cases s; simp [dpS, Stm.body, Stm.els]
theorem dpL_append (L M : List Stm) : dpL (L ++ M) = max (dpL L) (dpL M) := by
 induction L with
 | nil => simp [dpL]
 | cons s L ih => simp only [List.cons_append, dpL, ih]; omega
theorem cpL_id : ∀ (n : Nat) (L : List Stm), dpL L ≤ n → cpL L n = L
 | 0, [], _ => rfl
 | 0, s :: L, h => by simp only [dpL, dpS_eq] at h; omega
 | n + 1, L, h => by
  rw [cpL_succ]
  induction L with
  | nil => rfl
  | cons s L ih =>
   simp only [dpL] at h
   rw [List.map_cons, ih (by omega)]
   obtain ⟨k, a, b, m, x, y⟩ := s
   simp only [dpS] at h
   simp only [cpS, cpL_id n x (by omega), cpL_id n y (by omega)]
theorem stmtOk_deep {k a b n : Int} {x y : List Stm} {d r : Int} (h : stmtOk (.mk k a b n x y) d r = true) : 1 ≤ d ∧ (∃ r', listOk x (d - 1) r' = true) ∧ ∃ r', listOk y (d - 1) r' = true := by
 simp only [stmtOk] at h
 split at h
 ·cases h
 rename_i h0
 simp only [Bool.or_eq_true, Bool.and_eq_true, decide_eq_true_eq, not_or, not_and] at h0
 have hy : k ≠ 6 → y = [] := fun hk => List.eq_nil_of_length_eq_zero (by have := h0.1 hk; omega)
 refine ⟨by omega, ?_⟩
 split at h
 ·simp only [Bool.and_eq_true] at h
  exact ⟨⟨_, h.1.2⟩, ⟨_, h.2⟩⟩
 split at h
 ·simp only [Bool.and_eq_true] at h
  exact ⟨⟨_, h.2⟩, 0, by rw [hy (by omega)]; rfl⟩
 ·simp only [Bool.and_eq_true, decide_eq_true_eq] at h
  rename_i h6 h8
  exact ⟨⟨0, by rw [List.eq_nil_of_length_eq_zero h.1]; rfl⟩, 0, by rw [hy (by omega)]; rfl⟩
theorem dpL_ok : ∀ (n : Nat) (L : List Stm) (d r : Int), listOk L d r = true → d ≤ n → dpL L ≤ n
 | n, [], d, r, _, _ => by simp [dpL]
 | 0, s :: L, d, r, h, hd => by
  simp only [listOk, Bool.and_eq_true] at h
  obtain ⟨k, a, b, m, x, y⟩ := s
  have := (stmtOk_deep h.1).1
  omega
 | n + 1, s :: L, d, r, h, hd => by
  simp only [listOk, Bool.and_eq_true] at h
  obtain ⟨k, a, b, m, x, y⟩ := s
  obtain ⟨h1, ⟨r1, h2⟩, r2, h3⟩ := stmtOk_deep h.1
  have a1 := dpL_ok n x (d - 1) r1 h2 (by omega)
  have a2 := dpL_ok n y (d - 1) r2 h3 (by omega)
  have a3 := dpL_ok (n + 1) L d r h.2 hd
  simp only [dpL, dpS]
  omega
theorem mx_many : ∀ (n : Nat) (L : List Stm) (d r : Int), listOk L d r = true → d ≤ n → (mx L : Int) ≤ many L d
 | n, [], d, r, _, _ => by simp [mx, many]
 | 0, s :: L, d, r, h, hd => by
  simp only [listOk, Bool.and_eq_true] at h
  obtain ⟨k, a, b, m, x, y⟩ := s
  have := (stmtOk_deep h.1).1
  omega
 | n + 1, s :: L, d, r, h, hd => by
  simp only [listOk, Bool.and_eq_true] at h
  obtain ⟨k, a, b, m, x, y⟩ := s
  obtain ⟨h1, ⟨r1, h2⟩, r2, h3⟩ := stmtOk_deep h.1
  have a1 := mx_many n x (d - 1) r1 h2 (by omega)
  have a2 := mx_many n y (d - 1) r2 h3 (by omega)
  have a3 := mx_many (n + 1) L d r h.2 hd
  have a4 := len_mx L
  simp only [mx, mxS, many, manyS, if_pos (show 0 < d by omega)]
  omega
def MB : Nat → Nat
 | 0 => 0
 | d + 1 => 1048576 * (1 + 2 * MB d)
theorem many_bnd : ∀ (d : Nat) (L : List Stm), Sh L → 0 ≤ many L d ∧ many L d ≤ MB d
 | 0, L, _ => by rw [many_zero L (by omega)]; simp [MB]
 | d + 1, L, h => by
  obtain ⟨K, hK⟩ : ∃ K, K = 1 + 2 * MB d := ⟨_, rfl⟩
  have key : ∀ (L : List Stm), shL L → 0 ≤ many L ((d + 1 : Nat) : Int) ∧ many L ((d + 1 : Nat) : Int) ≤ (L.length * K : Nat) := by
   intro L
   induction L with
   | nil => intro _; simp [many]
   | cons s L ih =>
    intro hs
    obtain ⟨h1, h2⟩ := hs
    have a1 := ih h2
    obtain ⟨k, a, b, m, x, y⟩ := s
    rw [Stm.short_mk] at h1
    have b1 := many_bnd d x h1.1
    have b2 := many_bnd d y h1.2
    have e : (((d + 1 : Nat) : Int) - 1) = (d : Nat) := by omega
    simp only [many, manyS, e, if_pos (show (0 : Int) < ((d + 1 : Nat) : Int) by omega), List.length_cons, Nat.succ_mul]
    omega
  obtain ⟨k1, k2⟩ := key L h.2
  refine ⟨k1, Int.le_trans k2 ?_⟩
  have := Nat.mul_le_mul_right K h.1
  simp only [MB, ← hK]
  omega
theorem MB3 : MB 3 ≤ 9000000000000000000 := by decide
theorem mx_ok {L : List Stm} (h : stmtsOk L = true) (hs : Sh L) : mx L ≤ 14 := by
 simp only [stmtsOk, Bool.and_eq_true, decide_eq_true_eq] at h
 have b := many_bnd 3 L hs
 have m3 := MB3
 rw [show ((3 : Nat) : Int) = 3 from rfl] at b
 have e : w64 (many L 3) = many L 3 := w64_eq ⟨by omega, by omega⟩
 rw [e] at h
 have := mx_many 3 L 3 (-1) h.1 (by omega)
 omega
theorem prog_parts {p : List (List Stm)} (h : progOk p = true) : (∀ l ∈ p, stmtsOk l = true) ∧ 1 ≤ p.length ∧ p.length ≤ 3 := by
 simp only [progOk, Bool.and_eq_true, decide_eq_true_eq, List.all_eq_true] at h
 exact ⟨h.1.1, h.1.2, h.2⟩
theorem Inv_open {p : List (List Stm)} (h : progOk p = true) (hs : ∀ l ∈ p, Sh l) : Inv (open0 p) 0 := by
 obtain ⟨h1, h2, h3⟩ := prog_parts h
 refine ⟨by simpa [open0] using h2, by simpa [open0] using h3, ?_, by simp [open0], by simp [open0], by simp [open0], by simp [open0], by simp [open0], by simp [open0]⟩
 intro q hq
 simp only [open0, List.mem_map] at hq
 obtain ⟨l, hl, rfl⟩ := hq
 have a1 := h1 l hl
 have a2 := mx_ok a1 (hs l hl)
 simp only [stmtsOk, Bool.and_eq_true] at a1
 exact ⟨by have := TOk.app a1.1 TOk.nil; simpa [proc0] using this, by simp only [proc0]; omega, .inl rfl, fun hx => absurd rfl hx, .inl rfl⟩
def Shl (W : Wld) : Prop := ∀ q ∈ W.procs, dpL q.todo ≤ 3
theorem Shl_open {p : List (List Stm)} (h : progOk p = true) : Shl (open0 p) := by
 obtain ⟨h1, _, _⟩ := prog_parts h
 intro q hq
 simp only [open0, List.mem_map] at hq
 obtain ⟨l, hl, rfl⟩ := hq
 have a1 := h1 l hl
 simp only [stmtsOk, Bool.and_eq_true] at a1
 exact dpL_ok 3 l 3 (-1) a1.1 (by omega)
theorem Shl.out {W : Wld} (h : Shl W) : W.out = W := by
 obtain ⟨ps, w1, w2, w3, w4, w5, w6, w7, w8⟩ := W
 show Wld.mk _ _ _ _ _ _ _ _ _ = Wld.mk _ _ _ _ _ _ _ _ _
 congr 1
 have h' : ∀ q ∈ ps, outP q = q := fun q hq => by
  have := h q hq
  simp only [outP]
  rw [cpL_id 4 q.todo (by omega)]
 clear h
 show ps.map outP = ps
 induction ps with
 | nil => rfl
 | cons q ps ih => rw [List.map_cons, h' q (List.mem_cons_self ..), ih fun x hx => h' x (List.mem_cons_of_mem _ hx)]
theorem Shl_upd {W : Wld} {who : Nat} {f : Prc → Prc} (h : Shl W) (hf : ∀ p, W.procs[who]? = some p → dpL (f p).todo ≤ 3) : Shl (W.upd who f) := by
 intro q hq
 rcases mem_updL' _ _ hq with hq | ⟨x, hx, rfl⟩
 ·exact h q hq
 ·exact hf x hx
theorem Shl_of {W V : Wld} (h : Shl W) (e : V.procs = W.procs) : Shl V := by unfold Shl; rw [e]; exact h
theorem dp_tail (L : List Stm) : dpL L.tail ≤ dpL L := by
 cases L with
 | nil => simp [dpL]
 | cons s r => simp only [List.tail_cons, dpL]; omega
theorem set_todo (p : Prc) (k v : Int) : (p.set k v).todo = p.todo := by unfold Prc.set; split; rfl; split <;> rfl
theorem ite_shl {c : Prop} [Decidable c] {A B : Wld} (h1 : Shl A) (h2 : Shl B) : Shl (if c then A else B) := by
 by_cases h : c
 ·rw [if_pos h]; exact h1
 ·rw [if_neg h]; exact h2
theorem Shl.step {W : Wld} (h : Shl W) (who : Nat) : Shl (W.step who) := by
 unfold Wld.step
 split
 ·rename_i p hp
  have hpd := h p (List.mem_of_getElem? hp)
  split
  ·exact Shl_upd (Shl_of h (setRm_procs ..)) fun q hq => by rw [setRm_procs] at hq; rw [hp] at hq; cases hq; exact hpd
  ·split
   ·exact h
   ·rename_i s r hT
    have hP : Shl (W.upd who pop) := Shl_upd h fun q hq => by rw [hp] at hq; cases hq; have := dp_tail p.todo; simp only [pop]; omega
    have hPp : (W.upd who pop).procs[who]? = some (pop p) := by
     show (updL _ _ _)[who]? = _
     rw [updL_get, hp]; rfl
    have hpt : (pop p).todo = r := by simp [pop, hT]
    have hsd : dpS s ≤ 3 ∧ dpL r ≤ 3 := by rw [hT] at hpd; simp only [dpL] at hpd; omega
    have hse := dpS_eq s
    have hlv : ∀ a, dpS (leaveS a) ≤ 3 := fun a => by simp [leaveS, dpS, dpL]
    unfold Wld.stepS
    refine ite_shl ?_ ?_
    ·exact Shl_upd hP fun q hq => by rw [hPp] at hq; cases hq; rw [set_todo, hpt]; exact hsd.2
    refine ite_shl ?_ ?_
    ·exact Shl_upd hP fun q hq => by rw [hPp] at hq; cases hq; rw [set_todo, hpt]; exact hsd.2
    refine ite_shl ?_ ?_
    ·exact Shl_upd hP fun q hq => by rw [hPp] at hq; cases hq; rw [set_todo, hpt]; exact hsd.2
    refine ite_shl ?_ ?_
    ·exact Shl_of hP (setCell_procs ..)
    refine ite_shl ?_ ?_
    ·exact Shl_of hP J
    refine ite_shl ?_ ?_
    ·refine Shl_upd hP fun q hq => ?_
     rw [hPp] at hq; cases hq
     simp only [dpL_append, hpt]
     split <;> omega
    refine ite_shl ?_ ?_
    ·refine Shl_upd hP fun q hq => ?_
     rw [hPp] at hq; cases hq
     simp only [dpL_append, hpt]
     split
     ·simp only [dpL]; omega
     ·simp only [dpL_append, dpL]; omega
    refine ite_shl ?_ ?_
    ·refine Shl_upd (Shl_of hP (setRm_procs ..)) fun q hq => ?_
     rw [setRm_procs, hPp] at hq; cases hq
     have := hlv s.a
     simp only [dpL_append, hpt, dpL]; omega
    refine ite_shl ?_ ?_
    ·refine Shl_of (Shl_upd (f := fun p => { p with mode := 1, on := s.a }) (Shl_of hP (setRm_procs _ _ 0)) fun q hq => ?_) (setQue_procs ..)
     rw [setRm_procs, hPp] at hq; cases hq
     show dpL (pop p).todo ≤ 3
     rw [hpt]; exact hsd.2
    refine ite_shl ?_ ?_
    ·unfold Wld.signal
     split
     ·exact hP
     ·refine Shl_of (Shl_upd (f := fun p => { p with mode := 2, on := 0 }) hP fun q hq => ?_) (setQue_procs ..)
      exact hP q (List.mem_of_getElem? hq)
    refine ite_shl ?_ ?_
    ·refine Shl_upd (Shl_of hP (setRm_procs ..)) fun q hq => ?_
     rw [setRm_procs, hPp] at hq; cases hq
     show dpL (pop p).todo ≤ 3
     rw [hpt]; exact hsd.2
    ·exact hP
 ·exact h
end
section
attribute [local irreducible] X Pure Mod
theorem g_boolY : Tryz.prog.eqGuardType Tryz.prog.depth 4 = false := by kernel_rfl
theorem u_boolY : Tryz.prog.underlying 4 = some .bool := by kernel_rfl
def EqS (s : Stm) : Prop := ∀ (cs ds : List Value) (G : PH), Stm.rep G s cs → Stm.rep G s ds → Pure Tryz.prog 55 [.agg cs.toArray, .agg ds.toArray] G fun v' G' => v' = .bool true ∧ G' = G
def EqL (L : List Stm) : Prop := ∀ (v u : Value) (G : PH), Sts G L v → Sts G L u → Pure Tryz.prog 24 [v, u] G fun v' G' => v' = .bool true ∧ G' = G
theorem c_eqStmt (s : Stm) (hx : EqL s.body) (hy : EqL s.els) : EqS s := by
 intro cs ds G hrep hrep'
 obtain ⟨k, a, b, n, x, y⟩ := s
 obtain ⟨vx, vy, rfl, _, _, _, _, hvx, hvy⟩ := Stm.rep_iff.1 hrep
 obtain ⟨ux, uy, rfl, _, _, _, _, hux, huy⟩ := Stm.rep_iff.1 hrep'
 simp only [Stm.body, Stm.els] at hx hy
 have hcx := hx _ _ G hvx hux
 have hcy := hy _ _ G hvy huy
 obtain ⟨Ax, cx, rfl, _⟩ := id hvx
 obtain ⟨Ay, cy, rfl, _⟩ := id hvy
 obtain ⟨Bx, ex, rfl, _⟩ := id hux
 obtain ⟨By, ey, rfl, _⟩ := id huy
 refine Pure.intro Tryz.func55 Tryz.ntmps55 J J fun w => ?_; refine Va J J ?_;refine S_box J J J J J fun b1 => ?_;refine Va J J ?_;refine S_box J J J J J fun b2 => ?_;refine Va J J ?_;refine RF J (by simp) ?_;refine Va J J ?_;refine RF J (by simp) ?_;refine Va J J ?_;refine RF J (by simp) ?_;refine Va J J ?_;refine RF J (by simp) ?_;refine Va J J ?_;refine S_call Tryz.call24 hcx J J J ?_;rintro v1 G1 ⟨rfl, rfl⟩ _
 refine Va J J ?_;refine RF J J ?_;refine Va J J ?_;refine S_call Tryz.call24 hcy J J J ?_;rintro v2 G2 ⟨rfl, rfl⟩ _
 refine Va J J ?_;refine RF J J ?_;refine Va J J ?_;exact S_retp (Res.t1 Tryz.results55 J J) XR ⟨J, J⟩
theorem c_eqStmtS (L : List Stm) (hs : ∀ k (hk : k < L.length), EqS L[k]) : EqL L := by
 intro v u G hv hu
 obtain ⟨A, c, rfl, _⟩ := id hv
 obtain ⟨B, e, rfl, _⟩ := id hu
 refine Pure.intro Tryz.func24 Tryz.ntmps24 J J fun w => ?_; refine Va J J ?_;refine RF J (by simp) ?_;refine Va J J ?_;refine S_loop (α := Nat) (fun k => k ≤ L.length) (fun k => L.length - k) []
  (fun k => [(5, .val (.int .i64 (k : Nat))), (0, .val (.slice A L.length c)), (1, .val (.slice B L.length e))]) (fun _ => []) (fun _ => G) 0 (Nat.zero_le _) rfl ⟨⟨_, rfl, rfl⟩, ⟨_, rfl, rfl⟩, ⟨_, rfl, rfl⟩, trivial⟩ .nil ?_
 rintro k hk
 refine Va J J ?_
 refine S_condp J (fun h5 => ?_) (fun h5 => ?_) <;> refine Va J J ?_
 ·have hkl : k < L.length := by omega
  obtain ⟨ad, cs, rfl, hcell, hrep⟩ := Sr_at hv hkl
  obtain ⟨ae, ds, rfl, dcell, drep⟩ := Sr_at hu hkl
  refine Ds J J J ?_;refine Da J J ?_;refine D_val 2 J J J J J J J J J (V_index Tk J J J J (by omega) (by omega)) ?_;refine D_val 6 J J J J J J J J J (V_index Tk J J J J (by omega) (by omega)) ?_;refine Da J J ?_;refine D_val 3 J J J J J J J J J (V_loadA Tk J J (Stm.rep_len hrep) hcell) ?_;refine D_val 7 J J J J J J J J J (V_loadA Tk J J (Stm.rep_len drep) dcell) ?_;refine Da J J ?_;refine D_sole 8 J J (N_call 8 Tryz.call55 (hs k hkl _ _ _ hrep drep) J J J J J J J J J J ?_)
  rintro v1 G1 ⟨rfl, rfl⟩ _
  refine Da J J ?_;refine DD ?_;refine Va J J ?_;refine RF J J ?_;refine Va J J ?_;refine S_add J J J J (by omega) ?_;refine Va J J ?_;exact S_again (k + 1) (by omega) (by omega) J ⟨⟨_, J, by simp [denO]⟩, ⟨_, J, J⟩, ⟨_, J, J⟩, trivial⟩ .nil
 ·exact S_retp (Res.t1 Tryz.results24 J J) XR ⟨J, J⟩
theorem EqL_of (L : List Stm) (h : ∀ k (hk : k < L.length), EqL L[k].body ∧ EqL L[k].els) : EqL L :=
 c_eqStmtS L fun k hk => c_eqStmt _ (h k hk).1 (h k hk).2
mutual
theorem EqL_stm : ∀ (s : Stm), EqL s.body ∧ EqL s.els
 | .mk k a b n x y => ⟨EqL_all x, EqL_all y⟩
theorem EqL_at : ∀ (L : List Stm) (k : Nat) (hk : k < L.length), EqL L[k].body ∧ EqL L[k].els
 | [], k, hk => absurd hk (by simp)
 | s :: L, 0, _ => EqL_stm s
 | s :: L, k + 1, hk => EqL_at L k (by simpa using hk)
theorem EqL_all : ∀ (L : List Stm), EqL L
 | L => EqL_of L (EqL_at L)
end
theorem c_eqSS (p : List (List Stm)) (v u : Value) (G : PH) (hv : Prg G p v) (hu : Prg G p u) : Pure Tryz.prog 10 [v, u] G fun v' G' => v' = .bool true ∧ G' = G := by
 obtain ⟨A, c, rfl, _⟩ := id hv
 obtain ⟨B, e, rfl, _⟩ := id hu
 refine Pure.intro Tryz.func10 Tryz.ntmps10 J J fun w => ?_; refine Va J J ?_;refine RF J (by simp) ?_;refine Va J J ?_;refine S_loop (α := Nat) (fun k => k ≤ p.length) (fun k => p.length - k) []
  (fun k => [(5, .val (.int .i64 (k : Nat))), (0, .val (.slice A p.length c)), (1, .val (.slice B p.length e))]) (fun _ => []) (fun _ => G) 0 (Nat.zero_le _) rfl ⟨⟨_, rfl, rfl⟩, ⟨_, rfl, rfl⟩, ⟨_, rfl, rfl⟩, trivial⟩ .nil ?_
 rintro k hk
 refine Va J J ?_
 refine S_condp J (fun h5 => ?_) (fun h5 => ?_) <;> refine Va J J ?_
 ·have hkl : k < p.length := by omega
  obtain ⟨ad, cs, rfl, hcell, x1, rfl, hx1⟩ := Sr_at hv hkl
  obtain ⟨ae, ds, rfl, dcell, x2, rfl, hx2⟩ := Sr_at hu hkl
  have hq := EqL_all p[k] _ _ G hx1 hx2
  generalize p[k] = q at hq hx1 hx2
  obtain ⟨A1, c1, rfl, _⟩ := id hx1
  obtain ⟨A2, c2, rfl, _⟩ := id hx2
  refine Ds J J J ?_;refine Da J J ?_;refine D_val 2 J J J J J J J J J (V_index Tk J J J J (by omega) (by omega)) ?_;refine D_val 6 J J J J J J J J J (V_index Tk J J J J (by omega) (by omega)) ?_;refine Da J J ?_;refine D_val 3 J J J J J J J J J (V_load Tk J J J (by simpa [add_zero'] using gcells_at hcell 0 _ J)) ?_;refine D_val 7 J J J J J J J J J (V_load Tk J J J (by simpa [add_zero'] using gcells_at dcell 0 _ J)) ?_
  refine Da J J ?_;refine D_sole 8 J J (N_call 8 Tryz.call24 (hq) J J J J J J J J J J ?_)
  rintro v1 G1 ⟨rfl, rfl⟩ _
  refine Da J J ?_;refine DD ?_;refine Va J J ?_;refine RF J J ?_;refine Va J J ?_;refine S_add J J J J (by omega) ?_;refine Va J J ?_;exact S_again (k + 1) (by omega) (by omega) J ⟨⟨_, J, by simp [denO]⟩, ⟨_, J, J⟩, ⟨_, J, J⟩, trivial⟩ .nil
 ·exact S_retp (Res.t1 Tryz.results10 J J) XR ⟨J, J⟩
end
section
attribute [local irreducible] X Pure Mod
def wRep (G : PH) (W : Wld) (cs : List Value) : Prop := WG G W (.agg cs.toArray)
theorem wRep_le {G G' : PH} (hl : G.le G') {W : Wld} {cs : List Value} (h : wRep G W cs) : wRep G' W cs := WG_le hl h
theorem wRep_five {G : PH} {W : Wld} {cs : List Value} (h : wRep G W cs) : ∃ vp vc vr vs vd, cs = [vp, vc, vr, vs, vd] := by
 obtain ⟨vp, vc, vr, vs, vd, e, _⟩ := h
 exact ⟨vp, vc, vr, vs, vd, by simpa using congrArg (fun v => match v with | .agg x => x.toList | _ => []) e⟩
abbrev WsG (G : PH) (Ws : List Wld) (v : Value) : Prop := Sr G 5 (wRep G) Ws v
theorem WsG_le {G G' : PH} (hl : G.le G') {Ws : List Wld} {v : Value} (h : WsG G Ws v) : WsG G' Ws v := Sr_mono hl (fun _ _ _ h => wRep_le hl h) h
end
section
attribute [local irreducible] X Pure Mod
theorem c_eqIntS (L : List Int) (v u : Value) (G : PH) (hv : IntsU G L v) (hu : IntsU G L u) : Pure Tryz.prog 65 [v, u] G fun v' G' => v' = .bool true ∧ G' = G := by
 obtain ⟨A, c, rfl, hnL, _⟩ := id hv
 obtain ⟨B, e, rfl, _⟩ := id hu
 refine Pure.intro Tryz.func65 Tryz.ntmps65 J J fun w => ?_; refine Va J J ?_;refine RF J (by simp) ?_;refine Va J J ?_;refine S_loop (α := Nat) (fun k => k ≤ L.length) (fun k => L.length - k) []
  (fun k => [(5, .val (.int .i64 (k : Nat))), (0, .val (.slice A L.length c)), (1, .val (.slice B L.length e))]) (fun _ => []) (fun _ => G) 0 (Nat.zero_le _) rfl ⟨⟨_, rfl, rfl⟩, ⟨_, rfl, rfl⟩, ⟨_, rfl, rfl⟩, trivial⟩ .nil ?_
 rintro k hk
 refine Va J J ?_
 refine S_condp J (fun h5 => ?_) (fun h5 => ?_) <;> refine Va J J ?_
 ·have hkl : k < L.length := by omega
  obtain ⟨ad, cs, rfl, hcell, rfl⟩ := Sr_at hv hkl
  obtain ⟨ae, ds, rfl, dcell, rfl⟩ := Sr_at hu hkl
  generalize L[k] = q at hcell dcell
  refine Ds J J J ?_;refine Da J J ?_;refine D_val 2 J J J J J J J J J (V_index Tk J J J J (by omega) (by omega)) ?_;refine D_val 6 J J J J J J J J J (V_index Tk J J J J (by omega) (by omega)) ?_;refine Da J J ?_;refine D_val 3 J J J J J J J J J (V_load Tk J J J (by simpa [add_zero'] using gcells_at hcell 0 _ J)) ?_;refine D_val 7 J J J J J J J J J (V_load Tk J J J (by simpa [add_zero'] using gcells_at dcell 0 _ J)) ?_
  refine Da J J ?_;refine DD ?_;refine Va J J ?_;refine RF J (by simp) ?_;refine Va J J ?_;refine S_add J J J J (by omega) ?_;refine Va J J ?_;exact S_again (k + 1) (by omega) (by omega) J ⟨⟨_, J, by simp [denO]⟩, ⟨_, J, J⟩, ⟨_, J, J⟩, trivial⟩ .nil
 ·exact S_retp (Res.t1 Tryz.results65 J J) XR ⟨J, J⟩
abbrev IntsS (G : PH) (l : List (List Int)) (v : Value) : Prop := Sr G 1 (intsRep G) l v
theorem c_eqIntSS (L : List (List Int)) (v u : Value) (G : PH) (hv : IntsS G L v) (hu : IntsS G L u) : Pure Tryz.prog 66 [v, u] G fun v' G' => v' = .bool true ∧ G' = G := by
 obtain ⟨A, c, rfl, hnL, _⟩ := id hv
 obtain ⟨B, e, rfl, _⟩ := id hu
 refine Pure.intro Tryz.func66 Tryz.ntmps66 J J fun w => ?_; refine Va J J ?_;refine RF J (by simp) ?_;refine Va J J ?_;refine S_loop (α := Nat) (fun k => k ≤ L.length) (fun k => L.length - k) []
  (fun k => [(5, .val (.int .i64 (k : Nat))), (0, .val (.slice A L.length c)), (1, .val (.slice B L.length e))]) (fun _ => []) (fun _ => G) 0 (Nat.zero_le _) rfl ⟨⟨_, rfl, rfl⟩, ⟨_, rfl, rfl⟩, ⟨_, rfl, rfl⟩, trivial⟩ .nil ?_
 rintro k hk
 refine Va J J ?_
 refine S_condp J (fun h5 => ?_) (fun h5 => ?_) <;> refine Va J J ?_
 ·have hkl : k < L.length := by omega
  obtain ⟨ad, cs, rfl, hcell, x1, rfl, hx1⟩ := Sr_at hv hkl
  obtain ⟨ae, ds, rfl, dcell, x2, rfl, hx2⟩ := Sr_at hu hkl
  have hq := c_eqIntS L[k] _ _ G hx1 hx2
  generalize L[k] = q at hq hx1 hx2
  obtain ⟨A1, c1, rfl, _⟩ := id hx1
  obtain ⟨A2, c2, rfl, _⟩ := id hx2
  refine Ds J J J ?_;refine Da J J ?_;refine D_val 2 J J J J J J J J J (V_index Tk J J J J (by omega) (by omega)) ?_;refine D_val 6 J J J J J J J J J (V_index Tk J J J J (by omega) (by omega)) ?_;refine Da J J ?_;refine D_val 3 J J J J J J J J J (V_load Tk J J J (by simpa [add_zero'] using gcells_at hcell 0 _ J)) ?_;refine D_val 7 J J J J J J J J J (V_load Tk J J J (by simpa [add_zero'] using gcells_at dcell 0 _ J)) ?_
  refine Da J J ?_;refine D_sole 8 J J (N_call 8 Tryz.call65 (hq) J J J J J J J J J J ?_)
  rintro v1 G1 ⟨rfl, rfl⟩ _
  refine Da J J ?_;refine DD ?_;refine Va J J ?_;refine RF J J ?_;refine Va J J ?_;refine S_add J J J J (by omega) ?_;refine Va J J ?_;exact S_again (k + 1) (by omega) (by omega) J ⟨⟨_, J, by simp [denO]⟩, ⟨_, J, J⟩, ⟨_, J, J⟩, trivial⟩ .nil
 ·exact S_retp (Res.t1 Tryz.results66 J J) XR ⟨J, J⟩
theorem c_eqSay (x : Int × Int) (G : PH) : Pure Tryz.prog 82 [.agg #[.int .i64 x.1, .int .i64 x.2], .agg #[.int .i64 x.1, .int .i64 x.2]] G fun v' G' => v' = .bool true ∧ G' = G := by
 refine Pure.intro Tryz.func82 Tryz.ntmps82 J J fun w => ?_; refine Va J J ?_;refine S_box J J J J J fun b1 => ?_;refine Va J J ?_;refine S_box J J J J J fun b2 => ?_;refine Va J J ?_;refine RF J (by simp) ?_;refine Va J J ?_;refine RF J (by simp) ?_;refine Va J J ?_;exact S_retp (Res.t1 Tryz.results82 J J) XR ⟨J, J⟩
theorem c_eqSayS (L : List (Int × Int)) (v u : Value) (G : PH) (hv : SaysU G L v) (hu : SaysU G L u) : Pure Tryz.prog 67 [v, u] G fun v' G' => v' = .bool true ∧ G' = G := by
 obtain ⟨A, c, rfl, hnL, _⟩ := id hv
 obtain ⟨B, e, rfl, _⟩ := id hu
 refine Pure.intro Tryz.func67 Tryz.ntmps67 J J fun w => ?_; refine Va J J ?_;refine RF J (by simp) ?_;refine Va J J ?_;refine S_loop (α := Nat) (fun k => k ≤ L.length) (fun k => L.length - k) []
  (fun k => [(5, .val (.int .i64 (k : Nat))), (0, .val (.slice A L.length c)), (1, .val (.slice B L.length e))]) (fun _ => []) (fun _ => G) 0 (Nat.zero_le _) rfl ⟨⟨_, rfl, rfl⟩, ⟨_, rfl, rfl⟩, ⟨_, rfl, rfl⟩, trivial⟩ .nil ?_
 rintro k hk
 refine Va J J ?_
 refine S_condp J (fun h5 => ?_) (fun h5 => ?_) <;> refine Va J J ?_
 ·have hkl : k < L.length := by omega
  obtain ⟨ad, cs, rfl, hcell, rfl⟩ := Sr_at hv hkl
  obtain ⟨ae, ds, rfl, dcell, rfl⟩ := Sr_at hu hkl
  have hq := c_eqSay L[k] G
  generalize L[k] = q at hq hcell dcell
  refine Ds J J J ?_;refine Da J J ?_;refine D_val 2 J J J J J J J J J (V_index Tk J J J J (by omega) (by omega)) ?_;refine D_val 6 J J J J J J J J J (V_index Tk J J J J (by omega) (by omega)) ?_;refine Da J J ?_;refine D_val 3 J J J J J J J J J (V_loadA Tk J J J (by simpa using hcell)) ?_;refine D_val 7 J J J J J J J J J (V_loadA Tk J J J (by simpa using dcell)) ?_;refine Da J J ?_;refine D_sole 8 J J (N_call 8 Tryz.call82 (hq) J J J J J J J J J J ?_)
  rintro v1 G1 ⟨rfl, rfl⟩ _
  refine Da J J ?_;refine DD ?_;refine Va J J ?_;refine RF J J ?_;refine Va J J ?_;refine S_add J J J J (by omega) ?_;refine Va J J ?_;exact S_again (k + 1) (by omega) (by omega) J ⟨⟨_, J, by simp [denO]⟩, ⟨_, J, J⟩, ⟨_, J, J⟩, trivial⟩ .nil
 ·exact S_retp (Res.t1 Tryz.results67 J J) XR ⟨J, J⟩
abbrev PrcsG (G : PH) (l : List Prc) (v : Value) : Prop := Sr G 5 (prcRep G) l v
theorem c_eqProc (p : Prc) (cs ds : List Value) (G : PH) (h1 : prcRep G p cs) (h2 : prcRep G p ds) : Pure Tryz.prog 81 [.agg cs.toArray, .agg ds.toArray] G fun v' G' => v' = .bool true ∧ G' = G := by
 obtain ⟨vr, vt, rfl, hr, ht⟩ := h1
 obtain ⟨ur, ut, rfl, hr', ht'⟩ := h2
 have e1 := c_eqIntS _ _ _ G hr hr'
 have e2 := EqL_all p.todo _ _ G ht ht'
 obtain ⟨A1, c1, rfl, _⟩ := id hr
 obtain ⟨A2, c2, rfl, _⟩ := id ht
 obtain ⟨A3, c3, rfl, _⟩ := id hr'
 obtain ⟨A4, c4, rfl, _⟩ := id ht'
 refine Pure.intro Tryz.func81 Tryz.ntmps81 J J fun w => ?_; refine Va J J ?_;refine S_box J J J J J fun b1 => ?_;refine Va J J ?_;refine S_box J J J J J fun b2 => ?_;refine Va J J ?_;refine S_call Tryz.call65 e1 J J J ?_;rintro v1 G1 ⟨rfl, rfl⟩ _
 refine Va J J ?_;refine RF J J ?_;refine Va J J ?_;refine S_call Tryz.call24 e2 J J J ?_;rintro v1 G1 ⟨rfl, rfl⟩ _
 refine Va J J ?_;refine RF J J ?_;refine Va J J ?_;refine RF J (by simp) ?_;refine Va J J ?_;refine RF J (by simp) ?_;refine Va J J ?_;refine RF J (by simp) ?_;refine Va J J ?_;exact S_retp (Res.t1 Tryz.results81 J J) XR ⟨J, J⟩
theorem prcRep_len {G : PH} {p : Prc} {cs : List Value} (h : prcRep G p cs) : cs.length = 5 := by
 obtain ⟨vr, vt, rfl, _⟩ := h; rfl
theorem c_eqProcS (L : List Prc) (v u : Value) (G : PH) (hv : PrcsG G L v) (hu : PrcsG G L u) : Pure Tryz.prog 64 [v, u] G fun v' G' => v' = .bool true ∧ G' = G := by
 obtain ⟨A, c, rfl, hnL, _⟩ := id hv
 obtain ⟨B, e, rfl, _⟩ := id hu
 refine Pure.intro Tryz.func64 Tryz.ntmps64 J J fun w => ?_; refine Va J J ?_;refine RF J (by simp) ?_;refine Va J J ?_;refine S_loop (α := Nat) (fun k => k ≤ L.length) (fun k => L.length - k) []
  (fun k => [(5, .val (.int .i64 (k : Nat))), (0, .val (.slice A L.length c)), (1, .val (.slice B L.length e))]) (fun _ => []) (fun _ => G) 0 (Nat.zero_le _) rfl ⟨⟨_, rfl, rfl⟩, ⟨_, rfl, rfl⟩, ⟨_, rfl, rfl⟩, trivial⟩ .nil ?_
 rintro k hk
 refine Va J J ?_
 refine S_condp J (fun h5 => ?_) (fun h5 => ?_) <;> refine Va J J ?_
 ·have hkl : k < L.length := by omega
  obtain ⟨ad, cs, rfl, hcell, h1⟩ := Sr_at hv hkl
  obtain ⟨ae, ds, rfl, dcell, h2⟩ := Sr_at hu hkl
  have hq := c_eqProc L[k] _ _ G h1 h2
  generalize L[k] = q at hq h1 h2
  refine Ds J J J ?_;refine Da J J ?_;refine D_val 2 J J J J J J J J J (V_index Tk J J J J (by omega) (by omega)) ?_;refine D_val 6 J J J J J J J J J (V_index Tk J J J J (by omega) (by omega)) ?_;refine Da J J ?_;refine D_val 3 J J J J J J J J J (V_loadA Tk J J (prcRep_len h1) (by simpa using hcell)) ?_;refine D_val 7 J J J J J J J J J (V_loadA Tk J J (prcRep_len h2) (by simpa using dcell)) ?_;refine Da J J ?_
  refine D_sole 8 J J (N_call 8 Tryz.call81 (hq) J J J J J J J J J J ?_)
  rintro v1 G1 ⟨rfl, rfl⟩ _
  refine Da J J ?_;refine DD ?_;refine Va J J ?_;refine RF J J ?_;refine Va J J ?_;refine S_add J J J J (by omega) ?_;refine Va J J ?_;exact S_again (k + 1) (by omega) (by omega) J ⟨⟨_, J, by simp [denO]⟩, ⟨_, J, J⟩, ⟨_, J, J⟩, trivial⟩ .nil
 ·exact S_retp (Res.t1 Tryz.results64 J J) XR ⟨J, J⟩
theorem c_eqWorld (W : Wld) (cs ds : List Value) (G : PH) (h1 : wRep G W cs) (h2 : wRep G W ds) : Pure Tryz.prog 32 [.agg cs.toArray, .agg ds.toArray] G fun v' G' => v' = .bool true ∧ G' = G := by
 obtain ⟨vp, vc, vr, vs, vd, rfl⟩ := wRep_five h1
 obtain ⟨up, uc, ur, us, ud, rfl⟩ := wRep_five h2
 obtain ⟨p1, c1, r1, s1, d1, ee, hp, hc, hr, hs, hd⟩ := h1
 obtain ⟨rfl, rfl, rfl, rfl, rfl⟩ : vp = p1 ∧ vc = c1 ∧ vr = r1 ∧ vs = s1 ∧ vd = d1 := by
  have := (congrArg (fun v => match v with | .agg x => x.toList | _ => []) ee : [vp, vc, vr, vs, vd] = [p1, c1, r1, s1, d1])
  simpa using this
 obtain ⟨p2, c2, r2, s2, d2, ee', hp', hc', hr', hs', hd'⟩ := h2
 obtain ⟨rfl, rfl, rfl, rfl, rfl⟩ : up = p2 ∧ uc = c2 ∧ ur = r2 ∧ us = s2 ∧ ud = d2 := by
  have := (congrArg (fun v => match v with | .agg x => x.toList | _ => []) ee' : [up, uc, ur, us, ud] = [p2, c2, r2, s2, d2])
  simpa using this
 have e1 := c_eqProcS _ _ _ G hp hp'
 have e2 := c_eqIntS _ _ _ G hc hc'
 have e3 := c_eqIntS _ _ _ G hr hr'
 have e4 := c_eqIntSS _ _ _ G hs hs'
 have e5 := c_eqSayS _ _ _ G hd hd'
 obtain ⟨A1, k1, rfl, _⟩ := id hp
 obtain ⟨A2, k2, rfl, _⟩ := id hc
 obtain ⟨A3, k3, rfl, _⟩ := id hr
 obtain ⟨A4, k4, rfl, _⟩ := id hs
 obtain ⟨A5, k5, rfl, _⟩ := id hd
 obtain ⟨B1, l1, rfl, _⟩ := id hp'
 obtain ⟨B2, l2, rfl, _⟩ := id hc'
 obtain ⟨B3, l3, rfl, _⟩ := id hr'
 obtain ⟨B4, l4, rfl, _⟩ := id hs'
 obtain ⟨B5, l5, rfl, _⟩ := id hd'
 refine Pure.intro Tryz.func32 Tryz.ntmps32 J J fun w => ?_; refine Va J J ?_;refine S_box J J J J J fun b1 => ?_;refine Va J J ?_;refine S_box J J J J J fun b2 => ?_;refine Va J J ?_;refine S_call Tryz.call64 e1 J J J ?_;rintro v1 G1 ⟨rfl, rfl⟩ _
 refine Va J J ?_;refine RF J J ?_;refine Va J J ?_;refine S_call Tryz.call65 e2 J J J ?_;rintro v1 G1 ⟨rfl, rfl⟩ _
 refine Va J J ?_;refine RF J J ?_;refine Va J J ?_;refine S_call Tryz.call65 e3 J J J ?_;rintro v1 G1 ⟨rfl, rfl⟩ _
 refine Va J J ?_;refine RF J J ?_;refine Va J J ?_;refine S_call Tryz.call66 e4 J J J ?_;rintro v1 G1 ⟨rfl, rfl⟩ _
 refine Va J J ?_;refine RF J J ?_;refine Va J J ?_;refine S_call Tryz.call67 e5 J J J ?_;rintro v1 G1 ⟨rfl, rfl⟩ _
 refine Va J J ?_;refine RF J J ?_;refine Va J J ?_;exact S_retp (Res.t1 Tryz.results32 J J) XR ⟨J, J⟩
theorem wRep_len {G : PH} {W : Wld} {cs : List Value} (h : wRep G W cs) : cs.length = 5 := by
 obtain ⟨vp, vc, vr, vs, vd, rfl⟩ := wRep_five h; rfl
end
section
attribute [local irreducible] X Pure Mod
theorem cells_dn {G H : PH} (hl : H.le G) : ∀ (r : List Shp) (cs : List Value) (ad : Addr), cs.length = r.length → gcells G ad cs → LiesR H r ad → gcells H ad cs ∧ LiesL H r cs
 | [], [], _, _, _, _ => ⟨trivial, by simp [LiesL]⟩
 | s :: r, v :: cs, ad, hn, hg, hr => by
  simp only [LiesR] at hr
  obtain ⟨⟨u, h1, h2⟩, h3⟩ := hr
  have hu := wcell_g h1
  have hv : gcell G ad = some v := hg.1
  rw [gcell_le hl hu] at hv
  cases hv
  obtain ⟨i1, i2⟩ := cells_dn hl r cs (ad.add 1) (by simpa using hn) hg.2 h3
  exact ⟨⟨hu, i1⟩, by simp only [LiesL]; exact ⟨h2, i2⟩⟩
 | [], _ :: _, _, hn, _, _ => by simp at hn
 | _ :: _, [], _, hn, _, _ => by simp at hn
theorem Rw_dn {α : Type} {G H : PH} (hl : H.le G) {sz : Nat} {rep rep' : α → List Value → Prop} {f : α → List Shp} (hf : ∀ x, (f x).length = sz) (hc : ∀ x cs, rep x cs → cs.length = sz) : ∀ (l : List α) (ad : Addr), Rw G sz rep l ad → LiesR H (l.flatMap f) ad → (∀ x ∈ l, ∀ cs, rep x cs → LiesL H (f x) cs → rep' x cs) → Rw H sz rep' l ad
 | [], _, _, _, _ => trivial
 | x :: l, ad, h, hL, hr => by
  obtain ⟨⟨cs, h1, h2⟩, h3⟩ := h
  rw [List.flatMap_cons] at hL
  obtain ⟨g1, g2⟩ := LiesR_append.1 hL
  rw [hf] at g2
  obtain ⟨i1, i2⟩ := cells_dn hl (f x) cs ad (by rw [hc x cs h2, hf]) h1 g1
  exact ⟨⟨cs, i1, hr x (List.mem_cons_self ..) cs h2 i2⟩, Rw_dn hl hf hc l _ h3 g2 fun y hy => hr y (List.mem_cons_of_mem _ hy)⟩
theorem Sr_dn {α : Type} {G H : PH} (hl : H.le G) {sz : Nat} {rep rep' : α → List Value → Prop} {f : α → List Shp} (hf : ∀ x, (f x).length = sz) (hc : ∀ x cs, rep x cs → cs.length = sz) {l : List α} {v : Value} (h : Sr G sz rep l v) (hL : Lies H (.sl sz (l.flatMap f)) v) (hr : ∀ x ∈ l, ∀ cs, rep x cs → LiesL H (f x) cs → rep' x cs) : Sr H sz rep' l v := by
 obtain ⟨A, c, rfl, h2, h3, h4, h5⟩ := h
 refine ⟨A, c, J, h2, h3, h4, ?_⟩
 rcases h5 with h5 | ⟨ad, rfl, h6⟩
 ·exact .inl h5
 ·by_cases hn : l.length = 0
  ·exact .inl hn
  refine .inr ⟨ad, J, Rw_dn hl hf hc l ad h6 ?_ hr⟩
  simp only [Lies] at hL
  obtain ⟨A', n', c', e, _, _, _, _, h7⟩ := hL
  cases e
  rcases h7 with h7 | ⟨ad', e, h8⟩
  ·exact absurd h7 hn
  ·cases e; exact h8
theorem fm_int {α : Type} : ∀ l : List α, l.flatMap (fun _ => [Shp.int]) = tcI l.length
 | [] => rfl
 | x :: l => by rw [List.flatMap_cons, fm_int l]; rfl
theorem fm_int2 {α : Type} : ∀ l : List α, l.flatMap (fun _ => [Shp.int, Shp.int]) = tcI (l.length * 2)
 | [] => rfl
 | x :: l => by rw [List.flatMap_cons, fm_int2 l, List.length_cons, Nat.succ_mul]; rfl
theorem fm_tcT : ∀ l : List Stm, l.flatMap tcS = tcT l
 | [] => rfl
 | x :: l => by rw [List.flatMap_cons, fm_tcT l]; rfl
theorem IntsU_dn {G H : PH} (hl : H.le G) {l : List Int} {v : Value} (h : IntsU G l v) (hL : Lies H (shI l.length) v) : IntsU H l v :=
 Sr_dn (f := fun _ => [Shp.int]) hl (fun _ => rfl) (fun x cs h => by rw [show cs = _ from h]; rfl) h (by rw [fm_int]; exact hL) fun _ _ _ h _ => h
theorem SaysU_dn {G H : PH} (hl : H.le G) {l : List (Int × Int)} {v : Value} (h : SaysU G l v) (hL : Lies H (shY l.length) v) : SaysU H l v :=
 Sr_dn (f := fun _ => [Shp.int, Shp.int]) hl (fun _ => rfl) (fun x cs h => by rw [show cs = _ from h]; rfl) h (by rw [fm_int2]; exact hL) fun _ _ _ h _ => h
mutual
theorem Stm.rep_dn {G H : PH} (hl : H.le G) : ∀ (s : Stm) (cs : List Value), Stm.rep G s cs → LiesL H (tcS s) cs → Stm.rep H s cs
 | .mk k a b n x y, cs, h, hL => by
  obtain ⟨vx, vy, rfl, h1, h2, h3, h4, h5, h6⟩ := Stm.rep_iff.1 h
  simp only [tcS, LiesL] at hL
  obtain ⟨_, _, _, _, g5, g6, _⟩ := hL
  refine Stm.rep_iff.2 ⟨vx, vy, J, h1, h2, h3, h4, ?_, ?_⟩
  ·exact Sr_dn (f := tcS) hl tcS_len (fun x cs h => Stm.rep_len h) h5 (by rw [fm_tcT]; exact g5) (Stm.reps_dn hl x)
  ·exact Sr_dn (f := tcS) hl tcS_len (fun x cs h => Stm.rep_len h) h6 (by rw [fm_tcT]; exact g6) (Stm.reps_dn hl y)
theorem Stm.reps_dn {G H : PH} (hl : H.le G) : ∀ (L : List Stm), ∀ s ∈ L, ∀ cs, Stm.rep G s cs → LiesL H (tcS s) cs → Stm.rep H s cs
 | [], s, hs, _, _, _ => by cases hs
 | t :: L, s, hs, cs, h, hL => by
  rcases List.mem_cons.1 hs with e | hs'
  ·rw [e] at h hL ⊢; exact Stm.rep_dn hl t cs h hL
  ·exact Stm.reps_dn hl L s hs' cs h hL
end
theorem Sts_dn {G H : PH} (hl : H.le G) {L : List Stm} {v : Value} (h : Sts G L v) (hL : Lies H (shT L) v) : Sts H L v :=
 Sr_dn (f := tcS) hl tcS_len (fun x cs h => Stm.rep_len h) h (by rw [fm_tcT]; exact hL) (Stm.reps_dn hl L)
theorem WG_dn {G H : PH} (hl : H.le G) {W : Wld} {cs : List Value} (h : wRep G W cs) (hL : LiesL H (tcW (wsh W)) cs) : wRep H W cs := by
 obtain ⟨vp, vc, vr, vs, vd, rfl⟩ := wRep_five h
 obtain ⟨_, _, _, _, _, e, h1, h2, h3, h4, h5⟩ := h
 cases e
 simp only [tcW, LiesL] at hL
 obtain ⟨g1, g2, g3, g4, g5, _⟩ := hL
 refine ⟨_, _, _, _, _, J, ?_, IntsU_dn hl h2 g2, IntsU_dn hl h3 g3, ?_, SaysU_dn hl h5 g5⟩
 ·refine Sr_dn (f := fun p => tcP (psh p)) hl (fun _ => J) (fun x cs h => prcRep_len h) h1 (by
   have := g1
   simp only [shP, wsh, List.flatMap_map] at this
   exact this) fun p _ cs hp hL => ?_
  obtain ⟨u, t, rfl, i1, i2⟩ := hp
  simp only [tcP, psh, LiesL] at hL
  exact ⟨u, t, J, IntsU_dn hl i1 hL.1, Sts_dn hl i2 hL.2.1⟩
 ·refine Sr_dn (f := fun q : List Int => [shI q.length]) hl (fun _ => rfl) (fun x cs h => by obtain ⟨u, rfl, _⟩ := h; rfl) h4 (by
   have := g4
   simp only [shII, wsh, List.map_cons, List.map_nil] at this
   simpa only [List.flatMap_cons, List.flatMap_nil, List.append_nil, List.singleton_append] using this) fun q _ cs hq hL => ?_
  obtain ⟨u, rfl, i1⟩ := hq
  simp only [LiesL] at hL
  exact ⟨u, J, IntsU_dn hl i1 hL.1⟩
theorem WsG_dn {G H : PH} (hl : H.le G) {Ws : List Wld} {v : Value} (h : WsG G Ws v) (hL : Lies H (shW (Ws.map wsh)) v) : WsG H Ws v :=
 Sr_dn (f := fun W => tcW (wsh W)) hl (fun _ => rfl) (fun x cs h => by obtain ⟨_, _, _, _, _, rfl⟩ := wRep_five h; rfl) h (by
  have := hL
  simp only [shW, List.flatMap_map] at this
  exact this) fun W _ cs hW hL => WG_dn hl hW hL
theorem numR_fm {α : Type} {f : α → List Shp} {b : Nat} : ∀ (l : List α), (∀ x ∈ l, numR (f x) ≤ b) → numR (l.flatMap f) ≤ l.length * b
 | [], _ => by simp [numR]
 | x :: l, h => by
  rw [List.flatMap_cons, numR_append, List.length_cons, Nat.succ_mul]
  have h1 := h x (List.mem_cons_self ..)
  have h2 := numR_fm l fun y hy => h y (List.mem_cons_of_mem _ hy)
  omega
mutual
theorem num_cntS : ∀ s : Stm, numR (tcS s) ≤ 4 * (1 + s.cnt)
 | .mk k a b n x y => by
  have h1 := num_cntL x
  have h2 := num_cntL y
  simp only [tcS, numR, numC, Stm.cnt]
  omega
theorem num_cntL : ∀ L : List Stm, numR (tcT L) ≤ 4 * cntL L
 | [] => by simp [tcT, numR]
 | s :: r => by
  have h1 := num_cntS s
  have h2 := num_cntL r
  simp only [tcT, numR_append, cntL]
  omega
end
theorem num_cntP : ∀ p : List (List Stm), numV (shTT p) ≤ 4 * cntP p
 | [] => by simp [shTT, numV, numR]
 | l :: r => by
  have h1 := num_cntL l
  have h2 := num_cntP r
  simp only [shTT, numV, List.map_cons, numR, numC, shT, cntP] at h2 ⊢
  omega
def NB : Nat → Nat
 | 0 => 0
 | n + 1 => 1000 * (4 + 2 * NB n)
theorem num_mx : ∀ (n : Nat) (L : List Stm), dpL L ≤ n → mx L ≤ 1000 → numR (tcT L) ≤ NB n
 | 0, [], _, _ => by simp [tcT, numR]
 | 0, s :: L, h, _ => by simp only [dpL, dpS_eq] at h; omega
 | n + 1, L, h, hm => by
  obtain ⟨K, hK⟩ : ∃ K, K = 4 + 2 * NB n := ⟨_, rfl⟩
  have key : ∀ (L : List Stm), dpL L ≤ n + 1 → mx L ≤ 1000 → numR (tcT L) ≤ L.length * K := by
   intro L
   induction L with
   | nil => intro _ _; simp [tcT, numR]
   | cons s L ih =>
    intro h hm
    simp only [dpL, mx] at h hm
    have a1 := ih (by omega) (by omega)
    obtain ⟨k, a, b, m, x, y⟩ := s
    simp only [dpS, mxS] at h hm
    have b1 := num_mx n x (by omega) (by omega)
    have b2 := num_mx n y (by omega) (by omega)
    simp only [tcT, tcS, numR_append, List.cons_append, List.nil_append, numR, numC, List.length_cons, Nat.succ_mul]
    omega
  have hk := key L h hm
  have hl := len_mx L
  have := Nat.mul_le_mul_right K (show L.length ≤ 1000 by omega)
  simp only [NB, ← hK]
  omega
end
section

end
section
theorem run_eqB {P : Program} (w : World) {t : TypeId} (ht : P.underlying t = some .bool) (p q : Bool) : (Op.equal t (.bool p) (.bool q)).run P w = .ok (decide (p = q)) w := by
 have h : ∀ d : Nat, (Op.equalIn (d + 1) t (.bool p) (.bool q)).run P w = .ok (decide (p = q)) w := fun d => by
  cases p <;> cases q <;> simp [Op.equalIn, run_underlying ht]
 simp [Op.equal, Op.maxDepth, h 9999]
section
variable {C : Ctx} {E : Env} {ι : Ids} {L : List Ent} {G : PH} {d : Option Nat} {ty : Nat} {pos : String} {af : Array Edge} {g : Option (Nat × Bool)}
theorem V_neqB {t t' : Nat} {x y : Operand} {p q : Bool} (hg : C.P.eqGuardType C.P.depth t = false) (ht : C.P.underlying t = some .bool) (hx : ev E x = some (.val (.bool p))) (hy : ev E y = some (.val (.bool q))) : Vl C ι E L G ⟨d, .binOp .neq t x y t', ty, pos, af, g⟩ (.bool (!decide (p = q))) := by
 intro a w hE hw
 have ex := ev_sound hE hx
 have ey := ev_sound hE hy
 simp only [denO, Option.some.injEq] at ex ey
 simp only [execOp, ← ex, ← ey]
 simp [eqGuard, hg, binOp, run_eqB w ht]
end
end
section
def tx (l : List UInt8) : Value := .string ⟨l.toArray⟩
theorem ba_append (l m : List UInt8) : ((⟨l.toArray⟩ : ByteArray) ++ ⟨m.toArray⟩) = ⟨(l ++ m).toArray⟩ := by
 apply ByteArray.ext
 show ((⟨l.toArray⟩ : ByteArray) ++ ⟨m.toArray⟩).data = _
 rw [ByteArray.data_append]; simp
section
variable {C : Ctx} {all : Array Oper} {l : List Oper} {k : List It} {E : Env} {ι : Ids} {L : List Ent} {G : PH} {d : Option Nat} {ty : Nat} {pos : String} {af : Array Edge} {g : Option (Nat × Bool)}
theorem V_addT {t t' : Nat} {x y : Operand} {p q : List UInt8} {a b : ByteArray} (hx : ev E x = some (.val (.string a))) (hy : ev E y = some (.val (.string b))) (ha : a = ⟨p.toArray⟩) (hb : b = ⟨q.toArray⟩) (hn : p.length + q.length ≤ 9223372036854775807) : Vl C ι E L G ⟨d, .binOp .add t x y t', ty, pos, af, g⟩ (tx (p ++ q)) := by
 intro a' w hE hw
 have ex := ev_sound hE hx
 have ey := ev_sound hE hy
 simp only [denO, Option.some.injEq] at ex ey
 subst ha hb
 have := run_string_add_sum (P := C.P) (w := w) ⟨p.toArray⟩ ⟨q.toArray⟩ (by simpa [ByteArray.size] using hn)
 simp only [execOp, ← ex, ← ey]
 simp [eqGuard, binOp, this, ba_append, tx]
theorem ba_beq (a b : ByteArray) : (a == b) = decide (a = b) := by
 cases a with
 | mk x =>
  cases b with
  | mk y =>
   show (x == y) = _
   by_cases h : x = y
   ·subst h; simp
   ·rw [decide_eq_false (by simpa using h)]; exact beq_eq_false_iff_ne.2 h
theorem tx_inj {l m : List UInt8} : (⟨l.toArray⟩ : ByteArray) = ⟨m.toArray⟩ ↔ l = m := by
 constructor
 ·intro h
  have := congrArg (fun b : ByteArray => b.data.toList) h
  simpa using this
 ·rintro rfl; rfl
theorem V_eqT {t t' : Nat} {x y : Operand} {p q : List UInt8} (hg : C.P.eqGuardType C.P.depth t = false) (hx : ev E x = some (.val (tx p))) (hy : ev E y = some (.val (tx q))) : Vl C ι E L G ⟨d, .binOp .eql t x y t', ty, pos, af, g⟩ (.bool (decide (p = q))) := by
 intro a' w hE hw
 have ex := ev_sound hE hx
 have ey := ev_sound hE hy
 simp only [denO, Option.some.injEq, tx] at ex ey
 simp only [execOp, ← ex, ← ey]
 simp [eqGuard, hg, binOp, Op.stringOp]
 by_cases h : p = q <;> simp [h]
theorem V_convT {t t' e : Nat} {x : Operand} {ad : Addr} {c : Nat} {p : List UInt8} (hs : C.P.underlying t = some (.slice e)) (he : C.P.underlying e = some (.int .u8)) (hd : C.P.underlying t' = some .string) (hx : ev E x = some (.val (.slice (some ad) p.length c))) (hc : ∀ j (hj : j < p.length), gcell G (ad.add j) = some (.int .u8 (p[j].toNat : Int))) : Vl C ι E L G ⟨d, .convert t t' x, ty, pos, af, g⟩ (tx p) := by
 intro a w hE hw
 have ex := ev_sound hE hx
 simp only [denO, Option.some.injEq] at ex
 have := run_convert_bytes_back (P := C.P) w t t' e ad c p hs he hd fun j hj => gcell_emb hw.emb (hc j hj)
 simp only [execOp, ← ex]
 simp [this, tx]
end
def entT (x : List UInt8 × Nat) : MapEntry := { key := tx x.1, val := .bool true, born := x.2 }
def mapT (ts : List (List UInt8)) : Obj := .map (ts.zipIdx.map entT).toArray ts.length
theorem mapT_push (ts : List (List UInt8)) (t : List UInt8) : Obj.map ((ts.zipIdx.map entT).toArray.push { key := tx t, val := .bool true, born := ts.length }) (ts.length + 1) = mapT (ts ++ [t]) := by
 simp [mapT, List.zipIdx_append, entT]
theorem findNow_T {x : List UInt8} : ∀ {ts : List (List UInt8)} {n i : Nat}, ∃ r, Instr.findNow .string (tx x) ((ts.zipIdx n).map entT) i = some r ∧ r.map (·.2) = if x ∈ ts then some (.bool true) else none := by
 intro ts
 induction ts with
 | nil => intro n i; exact ⟨none, J, J⟩
 | cons t ts ih =>
  intro n i
  simp only [List.zipIdx_cons, List.map_cons, entT, Instr.findNow, tx, Instr.sameNow]
  by_cases h : x = t
  ·subst h
   have h1 : ((⟨x.toArray⟩ : ByteArray) == ⟨x.toArray⟩) = true := by rw [ba_beq]; simp
   simp [h1]
  ·have h1 : ((⟨x.toArray⟩ : ByteArray) == ⟨t.toArray⟩) = false := by rw [ba_beq]; exact decide_eq_false fun e => h (tx_inj.1 e)
   obtain ⟨r, hr, hm⟩ := ih (n := n + 1) (i := i + 1)
   refine ⟨r, ?_, ?_⟩
   ·simp only [h1]; exact hr
   ·rw [hm]; simp [h]
section
variable {C : Ctx} {all : Array Oper} {l : List Oper} {k : List It} {E : Env} {ι : Ids} {L : List Ent} {G : PH}
theorem S_lookT (κ : Nat) {d t kt et b : Nat} {m x : Operand} {p : List UInt8} {ts : List (List UInt8)} {ty : Nat} {pos : String} {af : Array Edge} {g : Option (Nat × Bool)}
  (hu : C.P.underlying t = some (.map kt et)) (hk' : C.P.underlying kt = some .string) (hz : ∀ w, (zeroValue et).run C.P w = .ok (.bool false) w) (hg : guardOf all E g = .on) (hN : Nat.ble (d + 1) C.n = true) (hm : ev E m = some (.val (.map (some b)))) (hx : ev E x = some (.val (tx p)))
  (hL : getH κ L = some (objHP b (mapT ts))) (hk : X C (.ops all l :: k) ((d, .val (.bool (decide (p ∈ ts)))) :: E) ι L G) : X C (.ops all (⟨some d, .lookup t m x false, ty, pos, af, g⟩ :: l) :: k) E ι L G := by
 intro a w h1 h2 h3 h4
 have em := ev_sound h3 hm
 have ex := ev_sound h3 hx
 simp only [denO, Option.some.injEq] at em ex
 obtain ⟨S, hA, hSG, hturn⟩ := h4.turn hL
 have hb : w.heap[b]? = some (.map (ts.zipIdx.map entT).toArray ts.length) := hA.1
 obtain ⟨r, hr1, hr2⟩ := findNow_T (x := p) (ts := ts) (n := 0) (i := 0)
 have hf := MapKept.run_findKey (P := C.P) (w := w) hk' hr1
 have hrun : (execOp a.eval ⟨some d, .lookup t m x false, ty, pos, af, g⟩).run C.P w = .ok (.value (.bool (decide (p ∈ ts)))) w := by
  have hc := MapKept.run_checkKey (P := C.P) (w := w) (k := tx p) hk' (by simp [MapKept.IsKey, tx]) ((ts.zipIdx.map entT).toArray).isEmpty 9999
  simp only [execOp, ← em, ← ex]
  cases r with
  | none =>
   have hn : p ∉ ts := by intro h; rw [if_pos h] at hr2; cases hr2
   simp at hc
   simp [Instr.lookup, run_underlying hu, MapKept.run_getObj_map hb, hc, hf, hz, Result.andThen, hn]
  | some q =>
   have hn : p ∈ ts := by
    by_cases h : p ∈ ts
    ·exact h
    ·rw [if_neg h] at hr2; cases hr2
   rw [if_pos hn] at hr2
   simp only [Option.map_some, Option.some.injEq] at hr2
   simp at hc
   simp [Instr.lookup, run_underlying hu, MapKept.run_getObj_map hb, hc, hf, Result.andThen, hn, hr2]
 have hdn : d < a.tmps.size := by rw [h2]; exact Nat.le_of_ble_eq_true hN
 refine wpE_val (guardOf_on h3 hg) (by intro c h; cases h) hrun ?_;exact hk _ _ h1 (by simp [Act.put, h2]) (h3.put hdn J) h4
end
end
section
open Go.Lib (itoa join)
attribute [local irreducible] X Pure Mod
def lineT (word : List UInt8) (l : List Int) : List UInt8 := word ++ l.flatMap (fun n => 32 :: itoa n) ++ [10]
def fourT (k a b n : Int) : List UInt8 := itoa k ++ [44] ++ itoa a ++ [44] ++ itoa b ++ [44] ++ itoa n
def todoT : Nat → List Stm → List UInt8
 | 0, _ => [40, 41]
 | d + 1, L => [40] ++ L.flatMap (fun s => fourT s.kind s.a s.b s.n ++ todoT d s.body ++ todoT d s.els) ++ [41]
def stmT (d : Nat) (s : Stm) : List UInt8 := fourT s.kind s.a s.b s.n ++ todoT d s.body ++ todoT d s.els
theorem todoT_succ (d : Nat) (L : List Stm) : todoT (d + 1) L = [40] ++ L.flatMap (stmT d) ++ [41] := rfl
def wProc : List UInt8 := [112, 114, 111, 99]
def wRegs : List UInt8 := [114, 101, 103, 115]
def wCells : List UInt8 := [99, 101, 108, 108, 115]
def wRooms : List UInt8 := [114, 111, 111, 109, 115]
def wSign : List UInt8 := [115, 105, 103, 110]
def wSaid : List UInt8 := [115, 97, 105, 100]
def procT (p : Prc) : List UInt8 := lineT wProc [p.mode, p.on, p.room] ++ lineT wRegs [p.r0, p.r1, p.r2] ++ todoT 6 p.todo ++ [10]
def saidT (s : Int × Int) : List UInt8 := lineT wSaid [s.1, s.2]
def wText (W : Wld) : List UInt8 := W.procs.flatMap procT ++ lineT wCells [W.c0, W.c1, W.c2] ++ lineT wRooms [W.m0, W.m1] ++ lineT wSign W.q0 ++ lineT wSign W.q1 ++ W.said.flatMap saidT
theorem flatMap_len {α : Type} {f : α → List UInt8} {c : Nat} : ∀ (l : List α), (∀ x ∈ l, (f x).length ≤ c) → (l.flatMap f).length ≤ c * l.length
 | [], _ => by simp
 | x :: l, h => by
  have h1 := h x (List.mem_cons_self ..)
  have h2 := flatMap_len l fun y hy => h y (List.mem_cons_of_mem _ hy)
  simp only [List.flatMap_cons, List.length_append, List.length_cons, Nat.mul_add_one]
  omega
theorem itoa_len {n : Int} (h : I64 n) : (itoa n).length ≤ 21 := Lib.itoa_length_le n h.1 h.2
theorem lineT_len {w : List UInt8} {l : List Int} (h : ∀ n ∈ l, I64 n) : (lineT w l).length ≤ w.length + 22 * l.length + 1 := by
 have := flatMap_len (c := 22) (f := fun n => 32 :: itoa n) l fun n hn => by have := itoa_len (h n hn); simp only [List.length_cons]; omega
 simp only [lineT, List.length_append, List.length_singleton]
 omega
theorem fourT_len {k a b n : Int} (hk : I64 k) (ha : I64 a) (hb : I64 b) (hn : I64 n) : (fourT k a b n).length ≤ 87 := by
 have h1 := itoa_len hk
 have h2 := itoa_len ha
 have h3 := itoa_len hb
 have h4 := itoa_len hn
 simp only [fourT, List.length_append, List.length_singleton]
 omega
mutual
def iS : Stm → Prop
 | .mk k a b n x y => I64 k ∧ I64 a ∧ I64 b ∧ I64 n ∧ iL x ∧ iL y
def iL : List Stm → Prop
 | [] => True
 | s :: r => iS s ∧ iL r
end
theorem iL_mem : ∀ {L : List Stm} {s : Stm}, iL L → s ∈ L → iS s
 | x :: r, s, h, hs => by
  rcases List.mem_cons.1 hs with rfl | hs
  ·exact h.1
  ·exact iL_mem h.2 hs
def tB : Nat → Nat
 | 0 => 2
 | d + 1 => 2 + 1000 * (87 + 2 * tB d)
theorem tB_two (e : Nat) : 2 ≤ tB e := by cases e <;> simp only [tB] <;> omega
theorem mx_mem {L : List Stm} {s : Stm} (h : s ∈ L) : mxS s ≤ mx L := by
 induction L with
 | nil => cases h
 | cons t M ih =>
  simp only [mx]
  rcases List.mem_cons.1 h with rfl | h
  ·omega
  ·have := ih h; omega
theorem dp_memS {L : List Stm} {s : Stm} (h : s ∈ L) : dpS s ≤ dpL L := by
 induction L with
 | nil => cases h
 | cons x r ih =>
  simp only [dpL]
  rcases List.mem_cons.1 h with rfl | h
  ·omega
  ·have := ih h; omega
theorem todoT_len : ∀ (e d : Nat) (L : List Stm), dpL L ≤ e → iL L → mx L ≤ 1000 → (todoT d L).length ≤ tB e
 | e, 0, L, _, _, _ => by have := tB_two e; simpa [todoT] using this
 | 0, d + 1, L, hd, _, _ => by
  cases L with
  | nil => simp [todoT, tB]
  | cons s r =>
   have := dp_memS (List.mem_cons_self (a := s) (l := r))
   have := dpS_eq s
   omega
 | e + 1, d + 1, L, hd, hi, hm => by
  have hl := len_mx L
  have := flatMap_len (c := 87 + 2 * tB e) (f := stmT d) L fun s hs => by
   have h1 := iL_mem hi hs
   have h2 := mx_mem hs
   have h0 := dp_memS hs
   rw [mxS_eq] at h2
   rw [dpS_eq] at h0
   obtain ⟨k, a, b, n, x, y⟩ := s
   obtain ⟨hk, ha, hb, hn, hx, hy⟩ := h1
   simp only [Stm.body, Stm.els] at h2 h0
   have h3 := fourT_len hk ha hb hn
   have h4 := todoT_len e d x (by omega) hx (by omega)
   have h5 := todoT_len e d y (by omega) hy (by omega)
   simp only [stmT, Stm.kind, Stm.a, Stm.b, Stm.n, Stm.body, Stm.els, List.length_append]
   omega
  rw [todoT_succ]
  simp only [List.length_append, List.length_singleton, tB]
  have h6 : (87 + 2 * tB e) * L.length ≤ (87 + 2 * tB e) * 1000 := Nat.mul_le_mul_left _ (by omega)
  omega
end
section
attribute [local irreducible] X Pure Mod
theorem iL_app {L M : List Stm} (h1 : iL L) (h2 : iL M) : iL (L ++ M) := by
 induction L with
 | nil => exact h2
 | cons s L ih => exact ⟨h1.1, ih h1.2⟩
mutual
theorem iS_rep {G : PH} : ∀ {s : Stm} {cs : List Value}, Stm.rep G s cs → iS s
 | .mk k a b n x y, cs, h => by
  obtain ⟨vx, vy, rfl, h1, h2, h3, h4, hx, hy⟩ := Stm.rep_iff.1 h
  exact ⟨h1, h2, h3, h4, iL_rep hx, iL_rep hy⟩
theorem iL_rep {G : PH} : ∀ {L : List Stm} {v : Value}, Sts G L v → iL L
 | [], v, h => trivial
 | s :: r, v, h => by
  obtain ⟨A, c, e, h1, h2, h3, h4⟩ := h
  rcases h4 with h4 | ⟨ad, h5, h6⟩
  ·simp at h4
  ·obtain ⟨⟨cs, _, hc⟩, hr⟩ := h6
   exact ⟨iS_rep hc, iR_rep hr⟩
theorem iR_rep {G : PH} : ∀ {L : List Stm} {ad : Addr}, Rw G 6 (Stm.rep G) L ad → iL L
 | [], _, _ => trivial
 | s :: r, ad, h => ⟨iS_rep h.1.choose_spec.2, iR_rep h.2⟩
end
structure PNm (p : Prc) : Prop where
 r0 : I64 p.r0
 r1 : I64 p.r1
 r2 : I64 p.r2
 on : I64 p.on
 td : iL p.todo
structure Nm (W : Wld) : Prop where
 pr : ∀ p ∈ W.procs, PNm p
 c0 : I64 W.c0
 c1 : I64 W.c1
 c2 : I64 W.c2
 sd : ∀ s ∈ W.said, I64 s.1 ∧ I64 s.2
theorem cutN_i (n : Int) : I64 (cutN n) := by
 unfold cutN I64
 split
 ·omega
 ·split <;> omega
theorem b2i_i (b : Bool) : I64 (b2i b) := by cases b <;> simp [b2i, I64]
theorem numDo_i (op a b : Int) : I64 (numDo op a b).1 := by
 unfold numDo
 split
 ·show I64 (doOp op a b)
  unfold doOp
  split
  ·exact cutN_i _
  split
  ·exact cutN_i _
  split
  ·exact cutN_i _
  split
  ·exact b2i_i _
  split
  ·exact b2i_i _
  ·simp [I64]
 ·simp [I64]
theorem PNm.set {p : Prc} (h : PNm p) (k : Int) {v : Int} (hv : I64 v) : PNm (p.set k v) := by
 unfold Prc.set
 split
 ·exact ⟨hv, h.r1, h.r2, h.on, h.td⟩
 split
 ·exact ⟨h.r0, hv, h.r2, h.on, h.td⟩
 ·exact ⟨h.r0, h.r1, hv, h.on, h.td⟩
theorem PNm.get {p : Prc} (h : PNm p) (k : Int) : I64 (p.get k) := by
 unfold Prc.get
 split
 ·exact h.r0
 split
 ·exact h.r1
 ·exact h.r2
theorem Nm.upd {W : Wld} (h : Nm W) {who : Nat} {f : Prc → Prc} (hf : ∀ p, W.procs[who]? = some p → PNm p → PNm (f p)) : Nm (W.upd who f) :=
 ⟨fun q hq => by
  rcases mem_updL' _ _ hq with hq | ⟨x, hx, rfl⟩
  ·exact h.pr q hq
  ·exact hf x hx (h.pr x (List.mem_of_getElem? hx)), h.c0, h.c1, h.c2, h.sd⟩
theorem Nm.of {W V : Wld} (h : Nm W) (hp : V.procs = W.procs) (h0 : V.c0 = W.c0) (h1 : V.c1 = W.c1) (h2 : V.c2 = W.c2) (hs : V.said = W.said) : Nm V :=
 ⟨by rw [hp]; exact h.pr, by rw [h0]; exact h.c0, by rw [h1]; exact h.c1, by rw [h2]; exact h.c2, by rw [hs]; exact h.sd⟩
theorem Nm.setRm {W : Wld} (h : Nm W) (a v : Int) : Nm (W.setRm a v) := by
 unfold Wld.setRm
 split <;> exact h.of J J J J J
theorem Nm.setQue {W : Wld} (h : Nm W) (a : Int) (q : List Int) : Nm (W.setQue a q) := by
 unfold Wld.setQue
 split <;> exact h.of J J J J J
theorem Nm.setCell {W : Wld} (h : Nm W) (a : Int) {v : Int} (hv : I64 v) : Nm (W.setCell a v) := by
 unfold Wld.setCell
 split
 ·exact ⟨h.pr, hv, h.c1, h.c2, h.sd⟩
 split
 ·exact ⟨h.pr, h.c0, hv, h.c2, h.sd⟩
 ·exact ⟨h.pr, h.c0, h.c1, hv, h.sd⟩
theorem Nm.cell {W : Wld} (h : Nm W) (k : Int) : I64 (W.cell k) := by
 unfold Wld.cell
 split
 ·exact h.c0
 split
 ·exact h.c1
 ·exact h.c2
theorem Nm.reg {W : Wld} (h : Nm W) (who : Nat) (k : Int) : I64 (W.reg who k) := by
 unfold Wld.reg
 split
 ·rename_i p hp
  exact (h.pr p (List.mem_of_getElem? hp)).get k
 ·simp [I64]
theorem ite_nm {c : Prop} [Decidable c] {A B : Wld} (h1 : c → Nm A) (h2 : ¬ c → Nm B) : Nm (if c then A else B) := by
 by_cases h : c
 ·rw [if_pos h]; exact h1 h
 ·rw [if_neg h]; exact h2 h
theorem ite_iL {c : Prop} [Decidable c] {A B : List Stm} (h1 : iL A) (h2 : iL B) : iL (if c then A else B) := by
 by_cases h : c
 ·rw [if_pos h]; exact h1
 ·rw [if_neg h]; exact h2
theorem Nm.step {W : Wld} {B who : Nat} (hI : Inv W B) (h : Nm W) (hw : who < W.procs.length) : Nm (W.step who) := by
 have hp : W.procs[who]? = some W.procs[who] := List.getElem?_eq_getElem hw
 have hpm : W.procs[who] ∈ W.procs := List.getElem_mem hw
 have hn3 := hI.n3
 generalize W.procs[who] = p at hp hpm
 have hP := h.pr p hpm
 by_cases hm : p.mode = 2
 ·have e : W.step who = (W.setRm p.room ((who : Int) + 1)).upd who (fun p => { p with mode := 0 }) := by simp [Wld.step, hp, hm]
  rw [e]
  exact (h.setRm _ _).upd fun q _ hq => ⟨hq.r0, hq.r1, hq.r2, hq.on, hq.td⟩
 rcases hT : p.todo with _ | ⟨s, r⟩
 ·have e : W.step who = W := by simp [Wld.step, hp, hm, hT]
  rw [e]; exact h
 rw [step_eq hp hm hT]
 have htd := hP.td
 rw [hT] at htd
 obtain ⟨hs, hr⟩ := htd
 have hpop : Nm (W.upd who pop) := h.upd fun q hq hQ => by
  rw [hp] at hq; cases hq
  exact ⟨hQ.r0, hQ.r1, hQ.r2, hQ.on, by show iL p.todo.tail; rw [hT]; exact hr⟩
 have htd : ∀ (T : List Stm), iL T → Nm ((W.upd who pop).upd who fun q => { q with todo := T ++ q.todo }) := fun T hTT => hpop.upd fun q _ hQ => ⟨hQ.r0, hQ.r1, hQ.r2, hQ.on, iL_app hTT hQ.td⟩
 obtain ⟨k, a, b, n, x, y⟩ := s
 obtain ⟨ik, ia, ib, iN, ix, iy⟩ := hs
 unfold Wld.stepS
 simp only [Stm.kind, Stm.a, Stm.b, Stm.n, Stm.body, Stm.els]
 refine ite_nm (fun _ => hpop.upd fun q _ hQ => hQ.set _ iN) fun _ => ?_;refine ite_nm (fun _ => hpop.upd fun q _ hQ => hQ.set _ (numDo_i _ _ _)) fun _ => ?_;refine ite_nm (fun _ => hpop.upd fun q _ hQ => hQ.set _ (hpop.cell _)) fun _ => ?_;refine ite_nm (fun _ => hpop.setCell _ (hpop.reg _ _)) fun _ => ?_;refine ite_nm (fun _ => ⟨hpop.pr, hpop.c0, hpop.c1, hpop.c2, fun z hz => ?_⟩) fun _ => ?_
 ·rcases List.mem_append.1 hz with hz | hz
  ·exact hpop.sd z hz
  ·rw [List.mem_singleton.1 hz]
   exact ⟨by unfold I64; simp only; omega, hpop.reg _ _⟩
 refine ite_nm (fun _ => htd _ (ite_iL iy ix)) fun _ => ?_;refine ite_nm (fun _ => htd _ (ite_iL trivial (iL_app ix ⟨⟨ik, ia, ib, iN, ix, iy⟩, trivial⟩))) fun _ => ?_;refine ite_nm (fun _ => (hpop.setRm _ _).upd fun q _ hQ => ⟨hQ.r0, hQ.r1, hQ.r2, hQ.on, iL_app (iL_app ix ⟨⟨by simp [I64], ia, by simp [I64], by simp [I64], trivial, trivial⟩, trivial⟩) hQ.td⟩) fun _ => ?_;refine ite_nm (fun _ => Nm.setQue (Nm.upd (f := fun p => { p with mode := 1, on := a }) (hpop.setRm _ _) fun q _ hQ => ⟨hQ.r0, hQ.r1, hQ.r2, ia, hQ.td⟩) _ _) fun _ => ?_
 refine ite_nm (fun _ => ?_) fun _ => ?_
 ·unfold Wld.signal
  split
  ·exact hpop
  ·exact Nm.setQue (hpop.upd (f := fun p => { p with mode := 2, on := 0 }) fun q _ hQ => ⟨hQ.r0, hQ.r1, hQ.r2, by simp [I64], hQ.td⟩) _ _
 refine ite_nm (fun _ => (hpop.setRm _ _).upd fun q _ hQ => ⟨hQ.r0, hQ.r1, hQ.r2, hQ.on, hQ.td⟩) fun _ => hpop
def RmB (W : Wld) : Prop := W.m0 ≤ 3 ∧ W.m1 ≤ 3
theorem RmB.setRm {W : Wld} (h : RmB W) (a : Int) {v : Int} (hv : v ≤ 3) : RmB (W.setRm a v) := by
 unfold Wld.setRm
 split
 ·exact ⟨hv, h.2⟩
 ·exact ⟨h.1, hv⟩
theorem RmB.setQue {W : Wld} (h : RmB W) (a : Int) (q : List Int) : RmB (W.setQue a q) := by
 unfold Wld.setQue
 split <;> exact h
theorem RmB.setCell {W : Wld} (h : RmB W) (a v : Int) : RmB (W.setCell a v) := by
 unfold Wld.setCell
 split
 ·exact h
 split <;> exact h
theorem RmB.upd {W : Wld} (h : RmB W) (i : Nat) (f : Prc → Prc) : RmB (W.upd i f) := h
theorem ite_rm {c : Prop} [Decidable c] {A B : Wld} (h1 : RmB A) (h2 : RmB B) : RmB (if c then A else B) := by
 split
 ·exact h1
 ·exact h2
theorem RmB.step {W : Wld} {who : Nat} (h : RmB W) (hw : who < W.procs.length) (h3 : W.procs.length ≤ 3) : RmB (W.step who) := by
 have hv : ((who : Int) + 1) ≤ 3 := by omega
 unfold Wld.step
 split
 ·split
  ·exact (h.setRm _ hv : RmB (W.setRm _ _))
  split
  ·exact h
  ·unfold Wld.stepS
   have hp : RmB (W.upd who pop) := h
   refine ite_rm hp (ite_rm hp (ite_rm hp (ite_rm (hp.setCell _ _) (ite_rm hp (ite_rm hp (ite_rm hp (ite_rm (hp.setRm _ hv : RmB ((W.upd who pop).setRm _ _)) (ite_rm ?_ (ite_rm ?_ (ite_rm (hp.setRm _ (by omega) : RmB ((W.upd who pop).setRm _ _)) hp))))))))))
   ·exact RmB.setQue (RmB.upd (hp.setRm _ (by omega)) _ _) _ _
   ·unfold Wld.signal
    split
    ·exact hp
    ·exact RmB.setQue (RmB.upd hp _ _) _ _
 ·exact h
end
section
attribute [local irreducible] X Pure Mod
def hasW (Ws : List Wld) (W : Wld) : Bool := Ws.any fun V => decide (wText V = wText W)
def addW (Ws : List Wld) (W : Wld) : List Wld := if hasW Ws W then Ws else Ws ++ [W]
def roundW (W : Wld) : List Nat → List Wld → Option (List Wld)
 | [], Ws => some Ws
 | who :: r, Ws => if codeOf W (who : Nat) = 0 then (if 120 < (addW Ws (W.step who)).length then none else roundW W r (addW Ws (W.step who))) else roundW W r Ws
def allF : Nat → Nat → List Wld → Option (List Wld)
 | 0, _, _ => none
 | f + 1, k, Ws => match Ws[k]? with
  | none => some Ws
  | some W => match roundW W (List.range W.procs.length) Ws with
   | none => none
   | some Ws' => allF f (k + 1) Ws'
def allW (p : List (List Stm)) : Option (List Wld) := allF 122 0 [open0 p]
structure Wok (W : Wld) (B : Nat) : Prop where
 inv : Inv W B
 shl : Shl W
 nm : Nm W
 rb : RmB W
structure Wsok (n : Nat) (Ws : List Wld) : Prop where
 ok : ∀ (i : Nat) W, Ws[i]? = some W → Wok W i ∧ W.procs.length = n
 nd : Ws.Pairwise fun V W => wText V ≠ wText W
 le : Ws.length ≤ 120
theorem Wok.mono {W : Wld} {B B' : Nat} (h : Wok W B) (hB : B ≤ B') : Wok W B' := ⟨h.inv.mono hB, h.shl, h.nm, h.rb⟩
theorem Wok.step {W : Wld} {B who : Nat} (h : Wok W B) (hw : who < W.procs.length) (hc : codeOf W (who : Nat) = 0) : Wok (W.step who) (B + 1) :=
 ⟨h.inv.step hw hc, h.shl.step who, h.nm.step h.inv hw, h.rb.step hw h.inv.n3⟩
theorem addW_pre (Ws : List Wld) (W : Wld) : Ws <+: addW Ws W := by unfold addW; split <;> simp
theorem Wsok.add {n : Nat} {Ws : List Wld} {W : Wld} {B : Nat} (h : Wsok n Ws) (hW : Wok W B) (hB : B ≤ Ws.length) (hn : W.procs.length = n) (hl : ¬ 120 < (addW Ws W).length) : Wsok n (addW Ws W) := by
 unfold addW at hl ⊢
 split
 ·exact h
 ·rename_i hh
  rw [if_neg hh] at hl
  refine ⟨fun i V hV => ?_, ?_, by omega⟩
  ·rcases Nat.lt_trichotomy i Ws.length with hi | hi | hi
   ·rw [List.getElem?_append_left hi] at hV; exact h.ok i V hV
   ·subst hi
    rw [List.getElem?_append_right (Nat.le_refl _)] at hV
    simp at hV
    subst hV
    exact ⟨hW.mono hB, hn⟩
   ·rw [List.getElem?_eq_none (by simp; omega)] at hV; cases hV
  ·refine List.pairwise_append.2 ⟨h.nd, by simp, fun V hV V' hV' => ?_⟩
   rw [List.mem_singleton.1 hV']
   intro e
   exact hh (List.any_eq_true.2 ⟨V, hV, decide_eq_true e⟩)
theorem roundW_ok {n : Nat} {W : Wld} {B : Nat} (hW : Wok W B) (hn : W.procs.length = n) : ∀ (l : List Nat) (Ws Ws' : List Wld), (∀ w ∈ l, w < n) → Wsok n Ws → B < Ws.length → roundW W l Ws = some Ws' → Wsok n Ws' ∧ Ws <+: Ws'
 | [], Ws, Ws', _, h, _, e => by cases e; exact ⟨h, List.prefix_refl _⟩
 | who :: r, Ws, Ws', hl, h, hB, e => by
  have hw := hl who (List.mem_cons_self ..)
  have hr : ∀ w ∈ r, w < n := fun w hw => hl w (List.mem_cons_of_mem _ hw)
  rw [roundW] at e
  split at e
  ·rename_i hc
   split at e
   ·cases e
   ·rename_i h120
    have hstep := hW.step (by omega) hc
    have ha := h.add hstep (by omega) (by rw [Wld.step_len]; exact hn) h120
    have hp := addW_pre Ws (W.step who)
    obtain ⟨h1, h2⟩ := roundW_ok hW hn r _ _ hr ha (Nat.lt_of_lt_of_le hB hp.length_le) e
    exact ⟨h1, hp.trans h2⟩
  ·exact roundW_ok hW hn r Ws Ws' hr h hB e
theorem allF_ok {n : Nat} : ∀ (f k : Nat) (Ws Ws' : List Wld), Wsok n Ws → allF f k Ws = some Ws' → Wsok n Ws' ∧ Ws <+: Ws'
 | 0, _, _, _, _, e => by cases e
 | f + 1, k, Ws, Ws', h, e => by
  rw [allF] at e
  split at e
  ·cases e; exact ⟨h, List.prefix_refl _⟩
  ·rename_i W hW
   have hk := (List.getElem?_eq_some_iff.1 hW).1
   split at e
   ·cases e
   ·rename_i Ws2 h2
    obtain ⟨hok, hn⟩ := h.ok k W hW
    obtain ⟨h3, h4⟩ := roundW_ok hok hn _ _ _ (fun w hw => by rw [← hn]; exact List.mem_range.1 hw) h hk h2
    obtain ⟨h5, h6⟩ := allF_ok f (k + 1) Ws2 Ws' h3 e
    exact ⟨h5, h4.trans h6⟩
theorem Nm_open {p : List (List Stm)} (h : ∀ l ∈ p, iL l) : Nm (open0 p) := by
 refine ⟨fun q hq => ?_, by simp [open0, I64], by simp [open0, I64], by simp [open0, I64], by simp [open0]⟩
 obtain ⟨l, hl, rfl⟩ := List.mem_map.1 hq
 exact ⟨by simp [proc0, I64], by simp [proc0, I64], by simp [proc0, I64], by simp [proc0, I64], h l hl⟩
theorem open_ok {p : List (List Stm)} (hp : progOk p = true) (hs : ∀ l ∈ p, Sh l) (hi : ∀ l ∈ p, iL l) : Wsok p.length [open0 p] := by
 refine ⟨fun i W hW => ?_, by simp, by simp⟩
 cases i with
 | zero =>
  simp at hW
  subst hW
  exact ⟨⟨Inv_open hp hs, Shl_open hp, Nm_open hi, by simp [open0], by simp [open0]⟩, by simp [open0]⟩
 | succ i => simp at hW
theorem allW_ok {p : List (List Stm)} {Ws : List Wld} (hp : progOk p = true) (hs : ∀ l ∈ p, Sh l) (hi : ∀ l ∈ p, iL l) (h : allW p = some Ws) : Wsok p.length Ws := (allF_ok 122 0 _ _ (open_ok hp hs hi) h).1
theorem prg_iL {G : PH} {p : List (List Stm)} {v : Value} (h : Prg G p v) : ∀ l ∈ p, iL l := by
 intro l hl
 obtain ⟨k, hk, rfl⟩ := List.getElem_of_mem hl
 obtain ⟨A, c, rfl, _⟩ := id h
 obtain ⟨ad, cs, _, _, v', _, hv⟩ := Sr_at h hk
 exact iL_rep hv
def finalW (W : Wld) : Bool := (List.range W.procs.length).all fun who => !decide (codeOf W (who : Nat) = 0)
def endsW (Ws : List Wld) : List Wld := Ws.filter finalW
end
section
section
variable {C : Ctx} {ks : List Nat} {all : Array Oper} {k : List It} {E : Env} {ι : Ids} {L : List Ent} {G : PH} {R : List Nat} {pend l : List Pd}
theorem N_turnV (j : Nat) {o : Oper} {R' : List Nat} {pend' : List Pd} {E' : Env} (ho : nthOp j all.toList = some o) (hR : strN (remN j R) = some R') (hp' : strP (dropP (edgeN o.after.toList) pend) = some pend') (hE : strE (penv (takeP (edgeN o.after.toList) pend) ++ E) = some E')
  (hx : (∀ (E'' : Env) (ι' : Ids) (L' : List Ent) (G' : PH), (∀ p ∈ pend', PdOk C ks all E'' ι' L' G' pend' p) → D C ks all k R' pend' E'' ι' L' G' → X C (.ops all [] :: .stop (DR C all k R' pend') :: k) E'' ι' L' G') →
   X C (.ops all [o] :: .stop (DR C all k R' pend') :: k) E' ι L G) : Nx C ks all k R pend E ι L G j := by
 refine N_eff j ho hR hp' hE fun hok hp hdis => hx fun E'' ι' L' G' hrc h => ?_
 intro a w h1 h2 h3 h4
 refine wpE_nil (h hok hrc ?_ _ _ h1 h2 h3 h4)
 intro p hpm hR'
 have hp' := strP_eq hp'
 have hR := strN_eq hR
 rw [dropP_eq] at hp'
 rw [remN_eq] at hR
 subst hp' hR
 exact hdis p (List.mem_filter.1 hpm).1 (List.mem_filter.1 hR').1
theorem pk_re {T : Tab} (hT : tabOk C.P T) {q : Pd} {l : List Pd} (h : rechk ks T C.n ι all L (penv pend ++ E) E [q] = some [q]) (hl : ∀ p ∈ l, PdOk C ks all E ι L G pend p) : ∀ p ∈ q :: l, PdOk C ks all E ι L G pend p := fun p hp => by
 rcases List.mem_cons.1 hp with rfl | hp
 ·exact rechk_sound hT J _ _ h p (List.mem_cons_self ..)
 ·exact hl p hp
theorem pk_all {T : Tab} (hT : tabOk C.P T) (h : rechk ks T C.n ι all L (penv pend ++ E) E l = some l) : ∀ p ∈ l, PdOk C ks all E ι L G pend p := rechk_sound hT rfl _ _ h
theorem pk_val {q : Pd} {l : List Pd} {d : Nat} {op : Op} {ty : Nat} {pos : String} {af : Array Edge} {g : Option (Nat × Bool)} {s : Sym} {v : Value} (ho : nthOp q.i all.toList = some ⟨some d, op, ty, pos, af, g⟩) (hd : some d = some q.d) (hN : Nat.ble (q.d + 1) C.n = true) (hf : look q.d E = none) (hks : memN q.d ks = false) (hsv : q.sv = some (s, v)) (hden : denO ι s = some v)
  (hg : guardOf all (penv pend ++ E) g = .on) (hV : Vl C ι (penv pend ++ E) L G ⟨some d, op, ty, pos, af, g⟩ v) (hl : ∀ p ∈ l, PdOk C ks all E ι L G pend p) : ∀ p ∈ q :: l, PdOk C ks all E ι L G pend p := fun p hp => by
 rcases List.mem_cons.1 hp with rfl | hp
 ·refine ⟨_, by simpa using nthOp_eq ho, hd, Nat.le_of_ble_eq_true hN, hf, memN_false hks, ?_⟩
  rw [hsv]
  exact ⟨hden, hg, hV⟩
 ·exact hl p hp
end
section
variable {C : Ctx} {E : Env} {ι : Ids} {L : List Ent} {G : PH} {d : Option Nat} {ty : Nat} {pos : String} {af : Array Edge} {g : Option (Nat × Bool)}
theorem V_addS {t t' : Nat} {x y : Operand} {a b : ByteArray} (hx : ev E x = some (.val (.string a))) (hy : ev E y = some (.val (.string b))) (hn : a.size + b.size ≤ 9223372036854775807) : Vl C ι E L G ⟨d, .binOp .add t x y t', ty, pos, af, g⟩ (.string (a ++ b)) := by
 intro a' w hE hw
 have ex := ev_sound hE hx
 have ey := ev_sound hE hy
 simp only [denO, Option.some.injEq] at ex ey
 have := run_string_add_sum (P := C.P) (w := w) a b hn
 simp only [execOp, ← ex, ← ey]
 simp [eqGuard, binOp, this]
theorem sz_tx (l : List UInt8) : (⟨l.toArray⟩ : ByteArray).size = l.length := by simp [ByteArray.size]
end
end
end Go.Proofs.YtcbdilccmjpnbaaGreatDoor
