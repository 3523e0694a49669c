/- Walks of the program's functions, one after the other (part 6); without conditions of their own. -/
import Derived.Test.YtlmkipckihgehaaGreatWM5
import Derived.Test.YtlmkipckihgehaaGreatWM2
set_option linter.unusedVariables false
set_option linter.unusedSimpArgs false
set_option maxRecDepth 100000
set_option maxHeartbeats 4000000
open Go.RowKit
namespace Go.Proofs.YtlmkipckihgehaaGreat
section
attribute [local irreducible] X Pure Mod
def Wld.stepS (W : Wld) (who : Nat) (s : Stm) : Wld :=
 if s.kind = 1 then W.upd who (·.set s.a s.n)
 else if s.kind = 2 then W.upd who (fun p => p.set s.a (numDo s.n (p.get s.a) (p.get s.b)).1)
 else if s.kind = 3 then W.upd who (·.set s.a (W.cell s.b))
 else if s.kind = 4 then W.setCell s.a (W.reg who s.b)
 else if s.kind = 5 then { W with said := W.said ++ [((who : Int), W.reg who s.a)] }
 else if s.kind = 6 then W.upd who (fun p => { p with todo := (if W.reg who s.a = 0 then s.els else s.body) ++ p.todo })
 else if s.kind = 7 then W.upd who (fun p => { p with todo := (if W.reg who s.a = 0 then [] else s.body ++ [s]) ++ p.todo })
 else if s.kind = 8 then (W.setRm s.a ((who : Int) + 1)).upd who (fun p => { p with room := s.a, todo := (s.body ++ [leaveS s.a]) ++ p.todo })
 else if s.kind = 9 then ((W.setRm (W.room who) 0).upd who (fun p => { p with mode := 1, on := s.a })).setQue s.a (W.que s.a ++ [(who : Int)])
 else if s.kind = 10 then W.signal s.a
 else if s.kind = 12 then (W.setRm s.a 0).upd who (fun p => { p with room := -1 })
 else W
def pop (p : Prc) : Prc := { p with todo := p.todo.tail }
def Wld.step (W : Wld) (who : Nat) : Wld := match W.procs[who]? with
 | some p => if p.mode = 2 then (W.setRm p.room ((who : Int) + 1)).upd who (fun p => { p with mode := 0 }) else match p.todo with
  | [] => W
  | s :: _ => (W.upd who pop).stepS who s
 | none => W
def is2 (a : Int) : Prop := a = 0 ∨ a = 1
def is3 (a : Int) : Prop := a = 0 ∨ a = 1 ∨ a = 2
structure SOk (s : Stm) (room : Int) : Prop where
 r1 : s.kind = 1 ∨ s.kind = 5 → is3 s.a
 r2 : s.kind = 2 ∨ s.kind = 3 ∨ s.kind = 4 → is3 s.a ∧ is3 s.b
 r6 : s.kind = 6 ∨ s.kind = 7 → is3 s.a ∧ s.body.length ≤ 1000 ∧ s.els.length ≤ 1000
 r8 : s.kind = 8 → is2 s.a ∧ s.body.length ≤ 1000
 r9 : s.kind = 9 → is2 s.a ∧ is2 room
 r10 : s.kind = 10 ∨ s.kind = 12 → is2 s.a
structure Rdy (W : Wld) : Prop where
 n1 : 1 ≤ W.procs.length
 n3 : W.procs.length ≤ 3
 sd : W.said.length ≤ 1000000
 q0 : W.q0.length ≤ 1000000
 q1 : W.q1.length ≤ 1000000
 f0 : ∀ f ∈ W.q0, 0 ≤ f ∧ f < W.procs.length
 f1 : ∀ f ∈ W.q1, 0 ≤ f ∧ f < W.procs.length
 tl : ∀ p ∈ W.procs, p.todo.length ≤ 1000000
abbrev DoPost (b : Nat) (W' : Wld) : Value → PH → HP → Prop := fun _ G' A' => ∃ ts', A' = worldP b W' ts' ∧ Tds G' W'.procs ts'
theorem Mod.post {P : Program} {f : FuncId} {vs : List Value} {G : PH} {A : HP} {Post Post' : Value → PH → HP → Prop} (h : Mod P f vs G A Post) (hp : ∀ v G' A', Post v G' A' → Post' v G' A') : Mod P f vs G A Post' := by
 unfold Mod at h ⊢
 exact fun w S h1 h2 h3 => (h w S h1 h2 h3).mono fun e w' ⟨v, G', A', S', q1, q2, q3⟩ => ⟨v, G', A', S', q1, hp v G' A' q2, q3⟩
theorem upd_tds {G : PH} {f : Prc → Prc} (hf : ∀ p, (f p).todo = p.todo) : ∀ {ps : List Prc} {ts : List Value} {i : Nat}, Tds G ps ts → Tds G (updL f i ps) ts
 | [], _, i, h => by cases i <;> exact h
 | p :: ps, t :: ts, 0, h => ⟨by rw [hf]; exact h.1, h.2⟩
 | p :: ps, t :: ts, i + 1, h => ⟨h.1, upd_tds hf h.2⟩
 | _ :: _, [], _, h => absurd h id
theorem Prc.set_todo (p : Prc) (k v : Int) : (p.set k v).todo = p.todo := by
 unfold Prc.set
 split
 ·rfl
 ·split <;> rfl
theorem setRm_procs (W : Wld) (a v : Int) : (W.setRm a v).procs = W.procs := by unfold Wld.setRm; split <;> rfl
theorem setCell_procs (W : Wld) (a v : Int) : (W.setCell a v).procs = W.procs := by
 unfold Wld.setCell
 split
 ·rfl
 ·split <;> rfl
theorem setQue_procs (W : Wld) (a : Int) (q : List Int) : (W.setQue a q).procs = W.procs := by unfold Wld.setQue; split <;> rfl
theorem signal_tds {G : PH} {W : Wld} {ts : List Value} (a : Int) (h : Tds G W.procs ts) : Tds G (W.signal a).procs ts := by
 unfold Wld.signal
 split
 ·exact h
 ·rw [setQue_procs]; exact upd_tds (f := fun p => { p with mode := 2, on := 0 }) (fun _ => J) h
theorem do_any (W : Wld) (who : Nat) (b : Nat) (ts : List Value) (G : PH) (hr : Rdy W) (ht : Tds G W.procs ts) (hw : who < W.procs.length) (s : Stm) (hs : SOk s (W.room who)) (hi : I64 s.kind ∧ I64 s.a ∧ I64 s.b ∧ I64 s.n)
  (A1 : Option Addr) (c1 : Nat) (A2 : Option Addr) (c2 : Nat) (hx : Sts G s.body (.slice A1 s.body.length c1)) (hy : Sts G s.els (.slice A2 s.els.length c2)) :
  ∃ t rv f, deedV s.kind s.a s.b s.n (.slice A1 s.body.length c1) (.slice A2 s.els.length c2) = .iface t rv ∧ (∀ args w, (callMethod (.iface t rv) "loop.example/changeringer/impl.do" args).run Tryz.prog w = .ok (.enter f (#[rv] ++ args)) w) ∧
   Mod Tryz.prog f [rv, .pointer (some ⟨b, 0, none⟩), .int .i64 (who : Nat)] G (worldP b W ts) (DoPost b (W.stepS who s)) := by
 obtain ⟨k, a, bb, n, x, y⟩ := s
 simp only [Stm.kind, Stm.a, Stm.b, Stm.n, Stm.body, Stm.els] at hs hi hx hy ⊢
 by_cases e1 : k = 1
 ·subst e1
  exact ⟨_, _, 153, rfl, fun args w => by kernel_rfl, (c_dNum W who b ts G hr.n1 hr.n3 ht hw a n (hs.r1 (.inl rfl))).post fun v G' A' ⟨h1, h2⟩ => ⟨ts, h2, by rw [h1]; exact upd_tds (fun p => Prc.set_todo _ _ _) ht⟩⟩
 by_cases e2 : k = 2
 ·subst e2
  obtain ⟨h1, h2⟩ := hs.r2 (.inl rfl)
  exact ⟨_, _, 154, rfl, fun args w => by kernel_rfl, (c_dOp W who b ts G hr.n1 hr.n3 ht hw a bb n h1 h2).post fun v G' A' ⟨h1, h2⟩ => ⟨ts, h2, by rw [h1]; exact upd_tds (fun p => Prc.set_todo _ _ _) ht⟩⟩
 by_cases e3 : k = 3
 ·subst e3
  obtain ⟨h1, h2⟩ := hs.r2 (.inr (.inl rfl))
  exact ⟨_, _, 163, rfl, fun args w => by kernel_rfl, (c_dLoad W who b ts G hr.n1 hr.n3 ht hw a bb h1 h2).post fun v G' A' ⟨h1, h2⟩ => ⟨ts, h2, by rw [h1]; exact upd_tds (fun p => Prc.set_todo _ _ _) ht⟩⟩
 by_cases e4 : k = 4
 ·subst e4
  obtain ⟨h1, h2⟩ := hs.r2 (.inr (.inr rfl))
  exact ⟨_, _, 164, rfl, fun args w => by kernel_rfl, (c_dStore W who b ts G hr.n1 hr.n3 ht hw a bb h1 h2).post fun v G' A' ⟨h1, h2⟩ => ⟨ts, h2, by rw [h1]; show Tds G (W.setCell a (W.reg who bb)).procs ts; rw [setCell_procs]; exact ht⟩⟩
 by_cases e5 : k = 5
 ·subst e5
  exact ⟨_, _, 165, rfl, fun args w => by kernel_rfl, (c_dSay W who b ts G hr.n1 hr.n3 ht hw hr.sd a (hs.r1 (.inr rfl))).post fun v G' A' ⟨h1, h2⟩ => ⟨ts, h2, by rw [h1]; exact ht⟩⟩
 by_cases e6 : k = 6
 ·subst e6
  obtain ⟨h1, h2, h3⟩ := hs.r6 (.inl rfl)
  exact ⟨_, _, 166, rfl, fun args w => by kernel_rfl, (c_dIf W who b ts G hr.n1 hr.n3 ht hw hr.tl 6 a bb n x y _ _ hx hy h2 h3 h1).post fun v G' A' ⟨tv, h1, h2⟩ => ⟨_, h1, h2⟩⟩
 by_cases e7 : k = 7
 ·subst e7
  obtain ⟨h1, h2, h3⟩ := hs.r6 (.inr rfl)
  exact ⟨_, _, 169, rfl, fun args w => by kernel_rfl, (c_dWhile W who b ts G hr.n1 hr.n3 ht hw hr.tl 7 a bb n x y _ _ hx hy hi h2 h1).post fun v G' A' ⟨tv, h1, h2⟩ => ⟨_, h1, h2⟩⟩
 by_cases e8 : k = 8
 ·subst e8
  obtain ⟨h1, h2⟩ := hs.r8 rfl
  exact ⟨_, _, 171, rfl, fun args w => by kernel_rfl, (c_dIn W who b ts G hr.n1 hr.n3 ht hw hr.tl 8 a bb n x _ _ _ _ hx h2 h1).post fun v G' A' ⟨tv, h1, h2⟩ => ⟨_, h1, h2⟩⟩
 by_cases e9 : k = 9
 ·subst e9
  obtain ⟨h1, h2⟩ := hs.r9 rfl
  exact ⟨_, _, 172, rfl, fun args w => by kernel_rfl, (c_dWait W who b ts G hr.n1 hr.n3 ht hw hr.q0 hr.q1 h2 a h1).post fun v G' A' ⟨h1, h2⟩ => ⟨ts, h2, by
   rw [h1]
   show Tds G (((W.setRm (W.room who) 0).upd who (fun p => { p with mode := 1, on := a })).setQue a (W.que a ++ [(who : Int)])).procs ts
   rw [setQue_procs]
   refine upd_tds (f := fun p => { p with mode := 1, on := a }) (fun _ => J) ?_
   rw [setRm_procs]; exact ht⟩⟩
 by_cases e10 : k = 10
 ·subst e10
  exact ⟨_, _, 173, rfl, fun args w => by kernel_rfl, (c_dSignal W who b ts G hr.n1 hr.n3 ht hr.q0 hr.q1 hr.f0 hr.f1 a (hs.r10 (.inl rfl))).post fun v G' A' ⟨h1, h2⟩ => ⟨ts, h2, by rw [h1]; exact signal_tds a ht⟩⟩
 by_cases e12 : k = 12
 ·subst e12
  exact ⟨_, _, 174, rfl, fun args w => by kernel_rfl, (c_dLeave W who b ts G hr.n1 hr.n3 ht hw a (hs.r10 (.inr rfl))).post fun v G' A' ⟨h1, h2⟩ => ⟨ts, h2, by
   rw [h1]
   show Tds G ((W.setRm a 0).upd who (fun p => { p with room := -1 })).procs ts
   refine upd_tds (f := fun p => { p with room := -1 }) (fun _ => J) ?_
   rw [setRm_procs]; exact ht⟩⟩
 ·refine ⟨160, .agg #[], 175, by simp [deedV, e1, e2, e3, e4, e5, e6, e7, e8, e9, e10, e12], fun args w => by kernel_rfl, (c_dYield _ b G _).post fun v G' A' ⟨h1, h2⟩ => ⟨ts, ?_, ?_⟩⟩
  ·rw [h2]; simp [Wld.stepS, Stm.kind, e1, e2, e3, e4, e5, e6, e7, e8, e9, e10, e12]
  ·rw [h1]; simp [Wld.stepS, Stm.kind, e1, e2, e3, e4, e5, e6, e7, e8, e9, e10, e12]; exact ht
theorem Sts_tail {G : PH} {s : Stm} {r : List Stm} {A : Option Addr} {c : Nat} (h : Sts G (s :: r) (.slice A (r.length + 1) c)) : Sts G r (.slice (if c = 1 then A else A.map (·.add (1 * 6))) r.length (c - 1)) := by
 obtain ⟨A', c', e, h1, h2, h3, h4⟩ := h
 cases e
 simp only [List.length_cons] at h1 h2 h4
 refine ⟨_, _, J, by omega, by omega, by omega, ?_⟩
 rcases h4 with h4 | ⟨ad, rfl, h5⟩
 ·omega
 ·by_cases hr : r.length = 0
  ·exact .inl hr
  ·right
   rw [if_neg (by omega)]
   exact ⟨_, J, h5.2⟩
theorem mem_updL {α : Type} {f : α → α} {x : α} : ∀ {l : List α} {i : Nat}, x ∈ updL f i l → x ∈ l ∨ ∃ y ∈ l, x = f y
 | [], i, h => by cases i <;> cases h
 | y :: l, 0, h => by
  rcases List.mem_cons.1 h with rfl | h
  ·exact .inr ⟨y, List.mem_cons_self .., J⟩
  ·exact .inl (List.mem_cons_of_mem _ h)
 | y :: l, i + 1, h => by
  rcases List.mem_cons.1 h with rfl | h
  ·exact .inl (List.mem_cons_self ..)
  ·rcases mem_updL h with h | ⟨z, hz, rfl⟩
   ·exact .inl (List.mem_cons_of_mem _ h)
   ·exact .inr ⟨z, List.mem_cons_of_mem _ hz, J⟩
theorem length_updL {α : Type} {f : α → α} : ∀ (l : List α) (i : Nat), (updL f i l).length = l.length
 | [], i => by cases i <;> rfl
 | y :: l, 0 => rfl
 | y :: l, i + 1 => by simp [updL, length_updL l i]
theorem Rdy.pop {W : Wld} (h : Rdy W) (who : Nat) : Rdy (W.upd who pop) := by
 refine ⟨?_, ?_, h.sd, h.q0, h.q1, ?_, ?_, ?_⟩
 ·show 1 ≤ (updL _ _ _).length; rw [length_updL]; exact h.n1
 ·show (updL _ _ _).length ≤ 3; rw [length_updL]; exact h.n3
 ·show ∀ f ∈ W.q0, 0 ≤ f ∧ f < (updL _ _ _).length; rw [length_updL]; exact h.f0
 ·show ∀ f ∈ W.q1, 0 ≤ f ∧ f < (updL _ _ _).length; rw [length_updL]; exact h.f1
 ·intro p hp
  rcases mem_updL (show p ∈ updL Go.Proofs.YtlmkipckihgehaaGreat.pop who W.procs from hp) with hp | ⟨q, hq, rfl⟩
  ·exact h.tl p hp
  ·have := h.tl q hq
   simp only [Go.Proofs.YtlmkipckihgehaaGreat.pop, List.length_tail]; omega
theorem step_eq {W : Wld} {who : Nat} {p : Prc} {s : Stm} {r : List Stm} (hp : W.procs[who]? = some p) (hm : p.mode ≠ 2) (ht : p.todo = s :: r) : W.step who = (W.upd who pop).stepS who s := by
 simp [Wld.step, hp, hm, ht]
theorem c_step (W : Wld) (who : Nat) (b : Nat) (ts : List Value) (G : PH) (hr : Rdy W) (ht : Tds G W.procs ts) (hw : who < W.procs.length) (hc : ∀ p, W.procs[who]? = some p → (p.mode = 2 → is2 p.room) ∧ (p.mode ≠ 2 → ∃ s r, p.todo = s :: r ∧ SOk s p.room)) :
  Mod Tryz.prog 48 [.pointer (some ⟨b, 0, none⟩), .int .i64 (who : Nat)] G (worldP b W ts) (DoPost b (W.step who)) := by
 have hste : ∀ p s r, W.procs[who]? = some p → p.mode ≠ 2 → p.todo = s :: r → W.step who = (W.upd who pop).stepS who s := fun p s r h1 h2 h3 => step_eq h1 h2 h3
 refine Mod.intro Tryz.func48 Tryz.ntmps48 J J fun w S => ?_;obtain ⟨ps, x0, x1, x2, m0, m1, q0, q1, sd⟩ := W
 rcases shape hr.n1 hr.n3 ht with ⟨⟨a0, a1, a2, td0, mo0, on0, ro0⟩, A0, k0, rfl, rfl, s0⟩ | ⟨⟨a0, a1, a2, td0, mo0, on0, ro0⟩, A0, k0, ⟨b0, b1, b2, td1, mo1, on1, ro1⟩, A1, k1, rfl, rfl, s0, s1⟩ | ⟨⟨a0, a1, a2, td0, mo0, on0, ro0⟩, A0, k0, ⟨b0, b1, b2, td1, mo1, on1, ro1⟩, A1, k1, ⟨d0, d1, d2, td2, mo2, on2, ro2⟩, A2, k2, rfl, rfl, s0, s1, s2⟩
 ·obtain rfl : who = 0 := by simpa using hw
  have hc' := hc _ rfl
  simp only at hc'
  by_cases hm : mo0 = 2
  ·subst hm
   have hro := hc'.1 rfl
   refine OpP 1 0 J J J J fun bp bc br bs bg kp sp asd ksd aq0 kq0 aq1 kq1 kc spc kr spr ks sps kg spg hbg hmk => ?_; obtain ⟨g0, rfl⟩ := len1 hbg; clear hbg; refine NM J J ?_; dsimp only [wEnts, wCels, procCs, regEs, WX.of, vi]
   refine Va J J ?_
   rcases hro with rfl | rfl <;>
   ·refine RT J J ?_
    refine Va J J ?_;refine Ds J J J ?_;refine Da J J ?_;refine D_val 10 J J J J J J J J J (V_add J J (by omega)) ?_;refine Da J J ?_;refine Ns 12 J J J J J J J J J ?_;refine Da J J ?_;refine Ns 15 J J J J J J J J J ?_;refine DD ?_;refine Va J J ?_;exact RK (1007 :: wKeys 1) (Res.t0 Tryz.results48) ⟨[_], J, ht⟩ (Wpp [_] kg spg J ‹_› J J J J J J J J) J (.blk J J (Wsub 5 J J J J J J J J J J J J J J J J (Bs 3 J J J J .nil))) XR
  ·obtain ⟨s, r, rfl, hs⟩ := hc'.2 hm
   have hst := hste _ s r rfl hm rfl
   obtain ⟨ad, vx, vy, rfl, hcs, hx, hy, i1, i2, i3, i4⟩ := Sts_head s0
   obtain ⟨Ax, cx, rfl, _⟩ := id hx
   obtain ⟨Ay, cy, rfl, _⟩ := id hy
   obtain ⟨t, rv, f, hd, hcm, hmod⟩ := do_any _ 0 b [_] G (hr.pop 0) (Tds_upd (PH.le.refl G) pop hw ht (Sts_tail s0)) (by show 0 < (updL _ _ _).length; rw [length_updL]; exact hw) s hs ⟨i1, i2, i3, i4⟩ Ax cx Ay cy hx hy
   refine OpP 1 0 J J J J fun bp bc br bs bg kp sp asd ksd aq0 kq0 aq1 kq1 kc spc kr spr ks sps kg spg hbg hmk => ?_; obtain ⟨g0, rfl⟩ := len1 hbg; clear hbg; refine NM J J ?_; dsimp only [wEnts, wCels, procCs, regEs, WX.of, vi]
   refine Va J J ?_;refine RF J (by simp [hm]) ?_;refine Va J J ?_
   refine S_index Tk J J J J J J (by omega) (by simp <;> omega) ?_
   refine S_loadA Tk J J J J J (by simpa [add_zero'] using hcs) ?_;refine Va J J ?_;refine AZ ZT_ok J J J J fun b5 => ?_;refine Va J J ?_;refine S_valV J J J (V_slice1 Tk J J J) ?_;refine Va J J ?_;refine S_call Tryz.call85 (c_deedOf _ _ _ _ _ _ _ _ _ _ _) J J J ?_;rintro v G' ⟨rfl, rfl⟩ _
   rw [hd]
   refine Va J J ?_;refine S_invokePk 9 (1007 :: wKeys 1) hcm hmod (Wpp [_] kg spg J ‹_› J J J J J J J J) J (.blk J J (Wsub 5 J J J J J J J J J J J J J J J J (Bs 3 J J J J .nil))) J J J J ?_;rintro v G' A' ⟨ts', rfl, htd⟩ hext
   refine Va J J ?_;exact S_endm 9 (Res.t0 Tryz.results48) J hext ⟨ts', by rw [hst], by rw [hst]; exact htd⟩
 ·rcases (by simp at hw; omega : who = 0 ∨ who = 1) with rfl | rfl
  ·have hc' := hc _ rfl
   simp only at hc'
   by_cases hm : mo0 = 2
   ·subst hm
    have hro := hc'.1 rfl
    refine OpP 1 0 J J J J fun bp bc br bs bg kp sp asd ksd aq0 kq0 aq1 kq1 kc spc kr spr ks sps kg spg hbg hmk => ?_; obtain ⟨g0, g1, rfl⟩ := len2 hbg; clear hbg; refine NM J J ?_; dsimp only [wEnts, wCels, procCs, regEs, WX.of, vi]
    refine Va J J ?_
    rcases hro with rfl | rfl <;>
    ·refine RT J J ?_
     refine Va J J ?_;refine Ds J J J ?_;refine Da J J ?_;refine D_val 10 J J J J J J J J J (V_add J J (by omega)) ?_;refine Da J J ?_;refine Ns 12 J J J J J J J J J ?_;refine Da J J ?_;refine Ns 15 J J J J J J J J J ?_;refine DD ?_;refine Va J J ?_;exact RK (1007 :: wKeys 2) (Res.t0 Tryz.results48) ⟨[_,_], J, ht⟩ (Wpp [_, _] kg spg J ‹_› J J J J J J J J) J (.blk J J (Wsub 10 J J J J J J J J J J J J J J J J (Bs 3 J J J J (Bs 3 J J J J .nil)))) XR
   ·obtain ⟨s, r, rfl, hs⟩ := hc'.2 hm
    have hst := hste _ s r rfl hm rfl
    obtain ⟨ad, vx, vy, rfl, hcs, hx, hy, i1, i2, i3, i4⟩ := Sts_head s0
    obtain ⟨Ax, cx, rfl, _⟩ := id hx
    obtain ⟨Ay, cy, rfl, _⟩ := id hy
    obtain ⟨t, rv, f, hd, hcm, hmod⟩ := do_any _ 0 b [_,_] G (hr.pop 0) (Tds_upd (PH.le.refl G) pop hw ht (Sts_tail s0)) (by show 0 < (updL _ _ _).length; rw [length_updL]; exact hw) s hs ⟨i1, i2, i3, i4⟩ Ax cx Ay cy hx hy
    refine OpP 1 0 J J J J fun bp bc br bs bg kp sp asd ksd aq0 kq0 aq1 kq1 kc spc kr spr ks sps kg spg hbg hmk => ?_; obtain ⟨g0, g1, rfl⟩ := len2 hbg; clear hbg; refine NM J J ?_; dsimp only [wEnts, wCels, procCs, regEs, WX.of, vi]
    refine Va J J ?_;refine RF J (by simp [hm]) ?_;refine Va J J ?_
    refine S_index Tk J J J J J J (by omega) (by simp <;> omega) ?_
    refine S_loadA Tk J J J J J (by simpa [add_zero'] using hcs) ?_;refine Va J J ?_;refine AZ ZT_ok J J J J fun b5 => ?_;refine Va J J ?_;refine S_valV J J J (V_slice1 Tk J J J) ?_;refine Va J J ?_;refine S_call Tryz.call85 (c_deedOf _ _ _ _ _ _ _ _ _ _ _) J J J ?_;rintro v G' ⟨rfl, rfl⟩ _
    rw [hd]
    refine Va J J ?_;refine S_invokePk 9 (1007 :: wKeys 2) hcm hmod (Wpp [_, _] kg spg J ‹_› J J J J J J J J) J (.blk J J (Wsub 10 J J J J J J J J J J J J J J J J (Bs 3 J J J J (Bs 3 J J J J .nil)))) J J J J ?_;rintro v G' A' ⟨ts', rfl, htd⟩ hext
    refine Va J J ?_;exact S_endm 9 (Res.t0 Tryz.results48) J hext ⟨ts', by rw [hst], by rw [hst]; exact htd⟩
  ·have hc' := hc _ rfl
   simp only at hc'
   by_cases hm : mo1 = 2
   ·subst hm
    have hro := hc'.1 rfl
    refine OpP 1 0 J J J J fun bp bc br bs bg kp sp asd ksd aq0 kq0 aq1 kq1 kc spc kr spr ks sps kg spg hbg hmk => ?_; obtain ⟨g0, g1, rfl⟩ := len2 hbg; clear hbg; refine NM J J ?_; dsimp only [wEnts, wCels, procCs, regEs, WX.of, vi]
    refine Va J J ?_
    rcases hro with rfl | rfl <;>
    ·refine RT J J ?_
     refine Va J J ?_;refine Ds J J J ?_;refine Da J J ?_;refine D_val 10 J J J J J J J J J (V_add J J (by omega)) ?_;refine Da J J ?_;refine Ns 12 J J J J J J J J J ?_;refine Da J J ?_;refine Ns 15 J J J J J J J J J ?_;refine DD ?_;refine Va J J ?_;exact RK (1007 :: wKeys 2) (Res.t0 Tryz.results48) ⟨[_,_], J, ht⟩ (Wpp [_, _] kg spg J ‹_› J J J J J J J J) J (.blk J J (Wsub 10 J J J J J J J J J J J J J J J J (Bs 3 J J J J (Bs 3 J J J J .nil)))) XR
   ·obtain ⟨s, r, rfl, hs⟩ := hc'.2 hm
    have hst := hste _ s r rfl hm rfl
    obtain ⟨ad, vx, vy, rfl, hcs, hx, hy, i1, i2, i3, i4⟩ := Sts_head s1
    obtain ⟨Ax, cx, rfl, _⟩ := id hx
    obtain ⟨Ay, cy, rfl, _⟩ := id hy
    obtain ⟨t, rv, f, hd, hcm, hmod⟩ := do_any _ 1 b [_,_] G (hr.pop 1) (Tds_upd (PH.le.refl G) pop hw ht (Sts_tail s1)) (by show 1 < (updL _ _ _).length; rw [length_updL]; exact hw) s hs ⟨i1, i2, i3, i4⟩ Ax cx Ay cy hx hy
    refine OpP 1 0 J J J J fun bp bc br bs bg kp sp asd ksd aq0 kq0 aq1 kq1 kc spc kr spr ks sps kg spg hbg hmk => ?_; obtain ⟨g0, g1, rfl⟩ := len2 hbg; clear hbg; refine NM J J ?_; dsimp only [wEnts, wCels, procCs, regEs, WX.of, vi]
    refine Va J J ?_;refine RF J (by simp [hm]) ?_;refine Va J J ?_
    refine S_index Tk J J J J J J (by omega) (by simp <;> omega) ?_
    refine S_loadA Tk J J J J J (by simpa [add_zero'] using hcs) ?_;refine Va J J ?_;refine AZ ZT_ok J J J J fun b5 => ?_;refine Va J J ?_;refine S_valV J J J (V_slice1 Tk J J J) ?_;refine Va J J ?_;refine S_call Tryz.call85 (c_deedOf _ _ _ _ _ _ _ _ _ _ _) J J J ?_;rintro v G' ⟨rfl, rfl⟩ _
    rw [hd]
    refine Va J J ?_;refine S_invokePk 9 (1007 :: wKeys 2) hcm hmod (Wpp [_, _] kg spg J ‹_› J J J J J J J J) J (.blk J J (Wsub 10 J J J J J J J J J J J J J J J J (Bs 3 J J J J (Bs 3 J J J J .nil)))) J J J J ?_;rintro v G' A' ⟨ts', rfl, htd⟩ hext
    refine Va J J ?_;exact S_endm 9 (Res.t0 Tryz.results48) J hext ⟨ts', by rw [hst], by rw [hst]; exact htd⟩
 ·rcases (by simp at hw; omega : who = 0 ∨ who = 1 ∨ who = 2) with rfl | rfl | rfl
  ·have hc' := hc _ rfl
   simp only at hc'
   by_cases hm : mo0 = 2
   ·subst hm
    have hro := hc'.1 rfl
    refine OpP 1 0 J J J J fun bp bc br bs bg kp sp asd ksd aq0 kq0 aq1 kq1 kc spc kr spr ks sps kg spg hbg hmk => ?_; obtain ⟨g0, g1, g2, rfl⟩ := len3 hbg; clear hbg; refine NM J J ?_; dsimp only [wEnts, wCels, procCs, regEs, WX.of, vi]
    refine Va J J ?_
    rcases hro with rfl | rfl <;>
    ·refine RT J J ?_
     refine Va J J ?_;refine Ds J J J ?_;refine Da J J ?_;refine D_val 10 J J J J J J J J J (V_add J J (by omega)) ?_;refine Da J J ?_;refine Ns 12 J J J J J J J J J ?_;refine Da J J ?_;refine Ns 15 J J J J J J J J J ?_;refine DD ?_;refine Va J J ?_;exact RK (1007 :: wKeys 3) (Res.t0 Tryz.results48) ⟨[_,_,_], J, ht⟩ (Wpp [_, _, _] kg spg J ‹_› J J J J J J J J) J (.blk J J (Wsub 15 J J J J J J J J J J J J J J J J (Bs 3 J J J J (Bs 3 J J J J (Bs 3 J J J J .nil))))) XR
   ·obtain ⟨s, r, rfl, hs⟩ := hc'.2 hm
    have hst := hste _ s r rfl hm rfl
    obtain ⟨ad, vx, vy, rfl, hcs, hx, hy, i1, i2, i3, i4⟩ := Sts_head s0
    obtain ⟨Ax, cx, rfl, _⟩ := id hx
    obtain ⟨Ay, cy, rfl, _⟩ := id hy
    obtain ⟨t, rv, f, hd, hcm, hmod⟩ := do_any _ 0 b [_,_,_] G (hr.pop 0) (Tds_upd (PH.le.refl G) pop hw ht (Sts_tail s0)) (by show 0 < (updL _ _ _).length; rw [length_updL]; exact hw) s hs ⟨i1, i2, i3, i4⟩ Ax cx Ay cy hx hy
    refine OpP 1 0 J J J J fun bp bc br bs bg kp sp asd ksd aq0 kq0 aq1 kq1 kc spc kr spr ks sps kg spg hbg hmk => ?_; obtain ⟨g0, g1, g2, rfl⟩ := len3 hbg; clear hbg; refine NM J J ?_; dsimp only [wEnts, wCels, procCs, regEs, WX.of, vi]
    refine Va J J ?_;refine RF J (by simp [hm]) ?_;refine Va J J ?_
    refine S_index Tk J J J J J J (by omega) (by simp <;> omega) ?_
    refine S_loadA Tk J J J J J (by simpa [add_zero'] using hcs) ?_;refine Va J J ?_;refine AZ ZT_ok J J J J fun b5 => ?_;refine Va J J ?_;refine S_valV J J J (V_slice1 Tk J J J) ?_;refine Va J J ?_;refine S_call Tryz.call85 (c_deedOf _ _ _ _ _ _ _ _ _ _ _) J J J ?_;rintro v G' ⟨rfl, rfl⟩ _
    rw [hd]
    refine Va J J ?_;refine S_invokePk 9 (1007 :: wKeys 3) hcm hmod (Wpp [_, _, _] kg spg J ‹_› J J J J J J J J) J (.blk J J (Wsub 15 J J J J J J J J J J J J J J J J (Bs 3 J J J J (Bs 3 J J J J (Bs 3 J J J J .nil))))) J J J J ?_;rintro v G' A' ⟨ts', rfl, htd⟩ hext
    refine Va J J ?_;exact S_endm 9 (Res.t0 Tryz.results48) J hext ⟨ts', by rw [hst], by rw [hst]; exact htd⟩
  ·have hc' := hc _ rfl
   simp only at hc'
   by_cases hm : mo1 = 2
   ·subst hm
    have hro := hc'.1 rfl
    refine OpP 1 0 J J J J fun bp bc br bs bg kp sp asd ksd aq0 kq0 aq1 kq1 kc spc kr spr ks sps kg spg hbg hmk => ?_; obtain ⟨g0, g1, g2, rfl⟩ := len3 hbg; clear hbg; refine NM J J ?_; dsimp only [wEnts, wCels, procCs, regEs, WX.of, vi]
    refine Va J J ?_
    rcases hro with rfl | rfl <;>
    ·refine RT J J ?_
     refine Va J J ?_;refine Ds J J J ?_;refine Da J J ?_;refine D_val 10 J J J J J J J J J (V_add J J (by omega)) ?_;refine Da J J ?_;refine Ns 12 J J J J J J J J J ?_;refine Da J J ?_;refine Ns 15 J J J J J J J J J ?_;refine DD ?_;refine Va J J ?_;exact RK (1007 :: wKeys 3) (Res.t0 Tryz.results48) ⟨[_,_,_], J, ht⟩ (Wpp [_, _, _] kg spg J ‹_› J J J J J J J J) J (.blk J J (Wsub 15 J J J J J J J J J J J J J J J J (Bs 3 J J J J (Bs 3 J J J J (Bs 3 J J J J .nil))))) XR
   ·obtain ⟨s, r, rfl, hs⟩ := hc'.2 hm
    have hst := hste _ s r rfl hm rfl
    obtain ⟨ad, vx, vy, rfl, hcs, hx, hy, i1, i2, i3, i4⟩ := Sts_head s1
    obtain ⟨Ax, cx, rfl, _⟩ := id hx
    obtain ⟨Ay, cy, rfl, _⟩ := id hy
    obtain ⟨t, rv, f, hd, hcm, hmod⟩ := do_any _ 1 b [_,_,_] G (hr.pop 1) (Tds_upd (PH.le.refl G) pop hw ht (Sts_tail s1)) (by show 1 < (updL _ _ _).length; rw [length_updL]; exact hw) s hs ⟨i1, i2, i3, i4⟩ Ax cx Ay cy hx hy
    refine OpP 1 0 J J J J fun bp bc br bs bg kp sp asd ksd aq0 kq0 aq1 kq1 kc spc kr spr ks sps kg spg hbg hmk => ?_; obtain ⟨g0, g1, g2, rfl⟩ := len3 hbg; clear hbg; refine NM J J ?_; dsimp only [wEnts, wCels, procCs, regEs, WX.of, vi]
    refine Va J J ?_;refine RF J (by simp [hm]) ?_;refine Va J J ?_
    refine S_index Tk J J J J J J (by omega) (by simp <;> omega) ?_
    refine S_loadA Tk J J J J J (by simpa [add_zero'] using hcs) ?_;refine Va J J ?_;refine AZ ZT_ok J J J J fun b5 => ?_;refine Va J J ?_;refine S_valV J J J (V_slice1 Tk J J J) ?_;refine Va J J ?_;refine S_call Tryz.call85 (c_deedOf _ _ _ _ _ _ _ _ _ _ _) J J J ?_;rintro v G' ⟨rfl, rfl⟩ _
    rw [hd]
    refine Va J J ?_;refine S_invokePk 9 (1007 :: wKeys 3) hcm hmod (Wpp [_, _, _] kg spg J ‹_› J J J J J J J J) J (.blk J J (Wsub 15 J J J J J J J J J J J J J J J J (Bs 3 J J J J (Bs 3 J J J J (Bs 3 J J J J .nil))))) J J J J ?_;rintro v G' A' ⟨ts', rfl, htd⟩ hext
    refine Va J J ?_;exact S_endm 9 (Res.t0 Tryz.results48) J hext ⟨ts', by rw [hst], by rw [hst]; exact htd⟩
  ·have hc' := hc _ rfl
   simp only at hc'
   by_cases hm : mo2 = 2
   ·subst hm
    have hro := hc'.1 rfl
    refine OpP 1 0 J J J J fun bp bc br bs bg kp sp asd ksd aq0 kq0 aq1 kq1 kc spc kr spr ks sps kg spg hbg hmk => ?_; obtain ⟨g0, g1, g2, rfl⟩ := len3 hbg; clear hbg; refine NM J J ?_; dsimp only [wEnts, wCels, procCs, regEs, WX.of, vi]
    refine Va J J ?_
    rcases hro with rfl | rfl <;>
    ·refine RT J J ?_
     refine Va J J ?_;refine Ds J J J ?_;refine Da J J ?_;refine D_val 10 J J J J J J J J J (V_add J J (by omega)) ?_;refine Da J J ?_;refine Ns 12 J J J J J J J J J ?_;refine Da J J ?_;refine Ns 15 J J J J J J J J J ?_;refine DD ?_;refine Va J J ?_;exact RK (1007 :: wKeys 3) (Res.t0 Tryz.results48) ⟨[_,_,_], J, ht⟩ (Wpp [_, _, _] kg spg J ‹_› J J J J J J J J) J (.blk J J (Wsub 15 J J J J J J J J J J J J J J J J (Bs 3 J J J J (Bs 3 J J J J (Bs 3 J J J J .nil))))) XR
   ·obtain ⟨s, r, rfl, hs⟩ := hc'.2 hm
    have hst := hste _ s r rfl hm rfl
    obtain ⟨ad, vx, vy, rfl, hcs, hx, hy, i1, i2, i3, i4⟩ := Sts_head s2
    obtain ⟨Ax, cx, rfl, _⟩ := id hx
    obtain ⟨Ay, cy, rfl, _⟩ := id hy
    obtain ⟨t, rv, f, hd, hcm, hmod⟩ := do_any _ 2 b [_,_,_] G (hr.pop 2) (Tds_upd (PH.le.refl G) pop hw ht (Sts_tail s2)) (by show 2 < (updL _ _ _).length; rw [length_updL]; exact hw) s hs ⟨i1, i2, i3, i4⟩ Ax cx Ay cy hx hy
    refine OpP 1 0 J J J J fun bp bc br bs bg kp sp asd ksd aq0 kq0 aq1 kq1 kc spc kr spr ks sps kg spg hbg hmk => ?_; obtain ⟨g0, g1, g2, rfl⟩ := len3 hbg; clear hbg; refine NM J J ?_; dsimp only [wEnts, wCels, procCs, regEs, WX.of, vi]
    refine Va J J ?_;refine RF J (by simp [hm]) ?_;refine Va J J ?_
    refine S_index Tk J J J J J J (by omega) (by simp <;> omega) ?_
    refine S_loadA Tk J J J J J (by simpa [add_zero'] using hcs) ?_;refine Va J J ?_;refine AZ ZT_ok J J J J fun b5 => ?_;refine Va J J ?_;refine S_valV J J J (V_slice1 Tk J J J) ?_;refine Va J J ?_;refine S_call Tryz.call85 (c_deedOf _ _ _ _ _ _ _ _ _ _ _) J J J ?_;rintro v G' ⟨rfl, rfl⟩ _
    rw [hd]
    refine Va J J ?_;refine S_invokePk 9 (1007 :: wKeys 3) hcm hmod (Wpp [_, _, _] kg spg J ‹_› J J J J J J J J) J (.blk J J (Wsub 15 J J J J J J J J J J J J J J J J (Bs 3 J J J J (Bs 3 J J J J (Bs 3 J J J J .nil))))) J J J J ?_;rintro v G' A' ⟨ts', rfl, htd⟩ hext
    refine Va J J ?_;exact S_endm 9 (Res.t0 Tryz.results48) J hext ⟨ts', by rw [hst], by rw [hst]; exact htd⟩
end
section
attribute [local irreducible] X Pure Mod
theorem c_l3Code (W : Wld) (who : Int) (cs : List Value) (ts : List Value) (G : PH) (h1 : 1 ≤ W.procs.length) (h3 : W.procs.length ≤ 3) (ht : Tds G W.procs ts) (hh : ∀ p ∈ W.procs, HeadOk p) (hm : 0 ≤ W.m0 ∧ 0 ≤ W.m1) :
  Mod Tryz.prog 59 [.agg cs.toArray, .int .i64 who] G (worldV cs W ts) fun v G' A' => v = .int .i64 (codeOf W who) ∧ G' = G ∧ A' = worldV cs W ts := by
 refine Mod.intro Tryz.func59 Tryz.ntmps59 J J fun w S => ?_;obtain ⟨ps, x0, x1, x2, m0, m1, q0, q1, sd⟩ := W
 replace hm : 0 ≤ m0 ∧ 0 ≤ m1 := hm
 rcases shape h1 h3 ht with ⟨⟨a0, a1, a2, td0, mo0, on0, ro0⟩, A0, k0, rfl, rfl, s0⟩ | ⟨⟨a0, a1, a2, td0, mo0, on0, ro0⟩, A0, k0, ⟨b0, b1, b2, td1, mo1, on1, ro1⟩, A1, k1, rfl, rfl, s0, s1⟩ | ⟨⟨a0, a1, a2, td0, mo0, on0, ro0⟩, A0, k0, ⟨b0, b1, b2, td1, mo1, on1, ro1⟩, A1, k1, ⟨d0, d1, d2, td2, mo2, on2, ro2⟩, A2, k2, rfl, rfl, s0, s1, s2⟩
 ·have hh0 := hh _ (List.mem_cons_self ..)
  by_cases hw : who < 0 ∨ 1 ≤ who
  ·refine OvV 1 0 J J J J fun bp bc br bs bg kp sp asd ksd aq0 kq0 aq1 kq1 kc spc kr spr ks sps kg spg hbg hmk hce => ?_; subst hce; obtain ⟨g0, rfl⟩ := len1 hbg; clear hbg; refine NM J J ?_; dsimp only [wEnts, wCels, procCs, regEs, WX.of, vi]
   refine Va J J ?_;refine S_box J J J J J fun b2 => ?_;refine Va J J ?_
   refine RT J (by simp <;> omega) ?_
   refine Va J J ?_
   exact RK (wKeys 1) (Res.t1 Tryz.results59 J J) ⟨by rw [codeOf, if_pos (by simp <;> omega)], rfl, rfl⟩ (Wvp [_] kg spg rfl ‹_› rfl rfl rfl rfl rfl rfl rfl rfl rfl) rfl (Wsub 5 rfl rfl rfl rfl rfl rfl rfl rfl rfl rfl rfl rfl rfl rfl rfl rfl (Bs 3 rfl rfl rfl rfl .nil)) XR
  obtain rfl : who = 0 := by omega
  refine OvV 1 0 J J J J fun bp bc br bs bg kp sp asd ksd aq0 kq0 aq1 kq1 kc spc kr spr ks sps kg spg hbg hmk hce => ?_; subst hce; obtain ⟨g0, rfl⟩ := len1 hbg; clear hbg; refine NM J J ?_; dsimp only [wEnts, wCels, procCs, regEs, WX.of, vi]
  refine Va J J ?_;refine S_box J J J J J fun b2 => ?_;refine Va J J ?_;refine RF J J ?_;refine Va J J ?_;refine AZ ZT_ok J J J J fun b5 => ?_;refine Va J J ?_
  by_cases hm1 : mo0 = 1
  ·refine GT J J (by simp [hm1]) ?_
   refine Va J J ?_;exact RK (wKeys 1) (Res.t1 Tryz.results59 J J) ⟨by simp [codeOf, codeP, hm1], J, J⟩ (Wvp [_] kg spg J ‹_› J J J J J J J J J) J (Wsub 5 J J J J J J J J J J J J J J J J (Bs 3 J J J J .nil)) XR
  refine GF J J (by simp [hm1]) ?_
  by_cases hm2 : mo0 = 2
  ·subst hm2
   have hro := hh0.1 rfl
   simp only at hro
   rcases hro with rfl | rfl <;>
   ·refine Va J J ?_
    refine GT J J J ?_;refine Va J J ?_
    refine S_condp J (fun h => ?_) (fun h => ?_) <;> refine Va J J ?_
    ·exact RK (wKeys 1) (Res.t1 Tryz.results59 J J) ⟨by first | (simp [codeOf, codeP, Wld.rm, show ¬ m0 = 0 by omega]; done) | (simp [codeOf, codeP, Wld.rm, show ¬ m1 = 0 by omega]; done), rfl, rfl⟩ (Wvp [_] kg spg rfl ‹_› rfl rfl rfl rfl rfl rfl rfl rfl rfl) rfl (Wsub 5 rfl rfl rfl rfl rfl rfl rfl rfl rfl rfl rfl rfl rfl rfl rfl rfl (Bs 3 rfl rfl rfl rfl .nil)) XR
    ·refine RT J J ?_
     refine Va J J ?_;exact RK (wKeys 1) (Res.t1 Tryz.results59 J J) ⟨by first | (simp [codeOf, codeP, Wld.rm, show m0 = 0 by omega]; done) | (simp [codeOf, codeP, Wld.rm, show m1 = 0 by omega]; done), rfl, rfl⟩ (Wvp [_] kg spg rfl ‹_› rfl rfl rfl rfl rfl rfl rfl rfl rfl) rfl (Wsub 5 rfl rfl rfl rfl rfl rfl rfl rfl rfl rfl rfl rfl rfl rfl rfl rfl (Bs 3 rfl rfl rfl rfl .nil)) XR
  refine Va J J ?_;refine GF J J (by simp [hm2]) ?_;refine Va J J ?_;refine RF J (by simp [hm2]) ?_;refine Va J J ?_
  rcases hTD : td0 with _ | ⟨s, r⟩
  ·subst hTD
   refine RT J J ?_;refine Va J J ?_;exact RK (wKeys 1) (Res.t1 Tryz.results59 J J) ⟨by simp [codeOf, codeP, hm1, hm2], J, J⟩ (Wvp [_] kg spg J ‹_› J J J J J J J J J) J (Wsub 5 J J J J J J J J J J J J J J J J (Bs 3 J J J J .nil)) XR
  subst hTD
  obtain ⟨ad, vx, vy, rfl, hcs, _⟩ := Sts_head s0
  refine RF J (by simp <;> omega) ?_
  refine Va J J ?_
  by_cases hk8 : s.kind = 8
  ·have hsa := hh0.2 s r rfl hk8
   obtain ⟨sk, sa, sb, sn, sx, sy⟩ := s
   simp only [Stm.kind, Stm.a] at hk8 hsa hcs
   subst hk8
   rcases hsa with rfl | rfl <;>
   ·refine Ds J J J ?_
    refine Da J J ?_
    refine D_val 2 J J J J J J J J J (V_index Tk J J J J (by omega) (by simp <;> omega)) ?_
    refine Da J J ?_;refine D_val 4 J J J J J J J J J (V_load Tk J J J (by simpa [add_add', add_zero'] using gcells_at hcs 0 _ J)) ?_;refine Da J J ?_;refine D_setP 54 (b := true) J J ?_;refine Da J J ?_
    refine D_val 11 J J J J J J J J J (V_index Tk J J J J (by omega) (by simp <;> omega)) ?_
    refine Da J J ?_;refine D_val 13 J J J J J J J J J (V_load Tk J J J (by simpa [add_add', add_zero'] using gcells_at hcs 1 _ J)) ?_;refine Da J J ?_;refine DD ?_;refine Va J J ?_
    refine S_condp J (fun h => ?_) (fun h => ?_) <;> refine Va J J ?_
    ·exact RK (wKeys 1) (Res.t1 Tryz.results59 J J) ⟨by first | (simp [codeOf, codeP, Wld.rm, hm1, hm2, Stm.kind, Stm.a, show ¬ m0 = 0 by omega]; done) | (simp [codeOf, codeP, Wld.rm, hm1, hm2, Stm.kind, Stm.a, show ¬ m1 = 0 by omega]; done), rfl, rfl⟩ (Wvp [_] kg spg rfl ‹_› rfl rfl rfl rfl rfl rfl rfl rfl rfl) rfl (Wsub 5 rfl rfl rfl rfl rfl rfl rfl rfl rfl rfl rfl rfl rfl rfl rfl rfl (Bs 3 rfl rfl rfl rfl .nil)) XR
    ·exact RK (wKeys 1) (Res.t1 Tryz.results59 J J) ⟨by first | (simp [codeOf, codeP, Wld.rm, hm1, hm2, Stm.kind, Stm.a, show m0 = 0 by omega]; done) | (simp [codeOf, codeP, Wld.rm, hm1, hm2, Stm.kind, Stm.a, show m1 = 0 by omega]; done), rfl, rfl⟩ (Wvp [_] kg spg rfl ‹_› rfl rfl rfl rfl rfl rfl rfl rfl rfl) rfl (Wsub 5 rfl rfl rfl rfl rfl rfl rfl rfl rfl rfl rfl rfl rfl rfl rfl rfl (Bs 3 rfl rfl rfl rfl .nil)) XR
  refine Ds J J J ?_;refine Da J J ?_
  refine D_val 2 J J J J J J J J J (V_index Tk J J J J (by omega) (by simp <;> omega)) ?_
  refine Da J J ?_;refine D_val 4 J J J J J J J J J (V_load Tk J J J (by simpa [add_add', add_zero'] using gcells_at hcs 0 _ J)) ?_;refine Da J J ?_;refine D_split 54 J (fun _ => J) (fun h => absurd h (by simp [hk8])) (fun h => ?_)
  refine Da J J ?_;refine DD ?_;refine Va J J ?_;exact RK (wKeys 1) (Res.t1 Tryz.results59 J J) ⟨by simp [codeOf, codeP, hm1, hm2, hk8], J, J⟩ (Wvp [_] kg spg J ‹_› J J J J J J J J J) J (Wsub 5 J J J J J J J J J J J J J J J J (Bs 3 J J J J .nil)) XR
 ·have hh0 := hh _ (List.mem_cons_self ..)
  have hh1 := hh _ (List.mem_cons_of_mem _ (List.mem_cons_self ..))
  by_cases hw : who < 0 ∨ 2 ≤ who
  ·refine OvV 1 0 J J J J fun bp bc br bs bg kp sp asd ksd aq0 kq0 aq1 kq1 kc spc kr spr ks sps kg spg hbg hmk hce => ?_; subst hce; obtain ⟨g0, g1, rfl⟩ := len2 hbg; clear hbg; refine NM J J ?_; dsimp only [wEnts, wCels, procCs, regEs, WX.of, vi]
   refine Va J J ?_;refine S_box J J J J J fun b2 => ?_;refine Va J J ?_
   refine RT J (by simp <;> omega) ?_
   refine Va J J ?_
   exact RK (wKeys 2) (Res.t1 Tryz.results59 J J) ⟨by rw [codeOf, if_pos (by simp <;> omega)], rfl, rfl⟩ (Wvp [_, _] kg spg rfl ‹_› rfl rfl rfl rfl rfl rfl rfl rfl rfl) rfl (Wsub 10 rfl rfl rfl rfl rfl rfl rfl rfl rfl rfl rfl rfl rfl rfl rfl rfl (Bs 3 rfl rfl rfl rfl (Bs 3 rfl rfl rfl rfl .nil))) XR
  rcases (by omega : who = 0 ∨ who = 1) with rfl | rfl
  ·refine OvV 1 0 J J J J fun bp bc br bs bg kp sp asd ksd aq0 kq0 aq1 kq1 kc spc kr spr ks sps kg spg hbg hmk hce => ?_; subst hce; obtain ⟨g0, g1, rfl⟩ := len2 hbg; clear hbg; refine NM J J ?_; dsimp only [wEnts, wCels, procCs, regEs, WX.of, vi]
   refine Va J J ?_;refine S_box J J J J J fun b2 => ?_;refine Va J J ?_;refine RF J J ?_;refine Va J J ?_;refine AZ ZT_ok J J J J fun b5 => ?_;refine Va J J ?_
   by_cases hm1 : mo0 = 1
   ·refine GT J J (by simp [hm1]) ?_
    refine Va J J ?_;exact RK (wKeys 2) (Res.t1 Tryz.results59 J J) ⟨by simp [codeOf, codeP, hm1], J, J⟩ (Wvp [_, _] kg spg J ‹_› J J J J J J J J J) J (Wsub 10 J J J J J J J J J J J J J J J J (Bs 3 J J J J (Bs 3 J J J J .nil))) XR
   refine GF J J (by simp [hm1]) ?_
   by_cases hm2 : mo0 = 2
   ·subst hm2
    have hro := hh0.1 rfl
    simp only at hro
    rcases hro with rfl | rfl <;>
    ·refine Va J J ?_
     refine GT J J J ?_;refine Va J J ?_
     refine S_condp J (fun h => ?_) (fun h => ?_) <;> refine Va J J ?_
     ·exact RK (wKeys 2) (Res.t1 Tryz.results59 J J) ⟨by first | (simp [codeOf, codeP, Wld.rm, show ¬ m0 = 0 by omega]; done) | (simp [codeOf, codeP, Wld.rm, show ¬ m1 = 0 by omega]; done), rfl, rfl⟩ (Wvp [_, _] kg spg rfl ‹_› rfl rfl rfl rfl rfl rfl rfl rfl rfl) rfl (Wsub 10 rfl rfl rfl rfl rfl rfl rfl rfl rfl rfl rfl rfl rfl rfl rfl rfl (Bs 3 rfl rfl rfl rfl (Bs 3 rfl rfl rfl rfl .nil))) XR
     ·refine RT J J ?_
      refine Va J J ?_;exact RK (wKeys 2) (Res.t1 Tryz.results59 J J) ⟨by first | (simp [codeOf, codeP, Wld.rm, show m0 = 0 by omega]; done) | (simp [codeOf, codeP, Wld.rm, show m1 = 0 by omega]; done), rfl, rfl⟩ (Wvp [_, _] kg spg rfl ‹_› rfl rfl rfl rfl rfl rfl rfl rfl rfl) rfl (Wsub 10 rfl rfl rfl rfl rfl rfl rfl rfl rfl rfl rfl rfl rfl rfl rfl rfl (Bs 3 rfl rfl rfl rfl (Bs 3 rfl rfl rfl rfl .nil))) XR
   refine Va J J ?_;refine GF J J (by simp [hm2]) ?_;refine Va J J ?_;refine RF J (by simp [hm2]) ?_;refine Va J J ?_
   rcases hTD : td0 with _ | ⟨s, r⟩
   ·subst hTD
    refine RT J J ?_;refine Va J J ?_;exact RK (wKeys 2) (Res.t1 Tryz.results59 J J) ⟨by simp [codeOf, codeP, hm1, hm2], J, J⟩ (Wvp [_, _] kg spg J ‹_› J J J J J J J J J) J (Wsub 10 J J J J J J J J J J J J J J J J (Bs 3 J J J J (Bs 3 J J J J .nil))) XR
   subst hTD
   obtain ⟨ad, vx, vy, rfl, hcs, _⟩ := Sts_head s0
   refine RF J (by simp <;> omega) ?_
   refine Va J J ?_
   by_cases hk8 : s.kind = 8
   ·have hsa := hh0.2 s r rfl hk8
    obtain ⟨sk, sa, sb, sn, sx, sy⟩ := s
    simp only [Stm.kind, Stm.a] at hk8 hsa hcs
    subst hk8
    rcases hsa with rfl | rfl <;>
    ·refine Ds J J J ?_
     refine Da J J ?_
     refine D_val 2 J J J J J J J J J (V_index Tk J J J J (by omega) (by simp <;> omega)) ?_
     refine Da J J ?_;refine D_val 4 J J J J J J J J J (V_load Tk J J J (by simpa [add_add', add_zero'] using gcells_at hcs 0 _ J)) ?_;refine Da J J ?_;refine D_setP 54 (b := true) J J ?_;refine Da J J ?_
     refine D_val 11 J J J J J J J J J (V_index Tk J J J J (by omega) (by simp <;> omega)) ?_
     refine Da J J ?_;refine D_val 13 J J J J J J J J J (V_load Tk J J J (by simpa [add_add', add_zero'] using gcells_at hcs 1 _ J)) ?_;refine Da J J ?_;refine DD ?_;refine Va J J ?_
     refine S_condp J (fun h => ?_) (fun h => ?_) <;> refine Va J J ?_
     ·exact RK (wKeys 2) (Res.t1 Tryz.results59 J J) ⟨by first | (simp [codeOf, codeP, Wld.rm, hm1, hm2, Stm.kind, Stm.a, show ¬ m0 = 0 by omega]; done) | (simp [codeOf, codeP, Wld.rm, hm1, hm2, Stm.kind, Stm.a, show ¬ m1 = 0 by omega]; done), rfl, rfl⟩ (Wvp [_, _] kg spg rfl ‹_› rfl rfl rfl rfl rfl rfl rfl rfl rfl) rfl (Wsub 10 rfl rfl rfl rfl rfl rfl rfl rfl rfl rfl rfl rfl rfl rfl rfl rfl (Bs 3 rfl rfl rfl rfl (Bs 3 rfl rfl rfl rfl .nil))) XR
     ·exact RK (wKeys 2) (Res.t1 Tryz.results59 J J) ⟨by first | (simp [codeOf, codeP, Wld.rm, hm1, hm2, Stm.kind, Stm.a, show m0 = 0 by omega]; done) | (simp [codeOf, codeP, Wld.rm, hm1, hm2, Stm.kind, Stm.a, show m1 = 0 by omega]; done), rfl, rfl⟩ (Wvp [_, _] kg spg rfl ‹_› rfl rfl rfl rfl rfl rfl rfl rfl rfl) rfl (Wsub 10 rfl rfl rfl rfl rfl rfl rfl rfl rfl rfl rfl rfl rfl rfl rfl rfl (Bs 3 rfl rfl rfl rfl (Bs 3 rfl rfl rfl rfl .nil))) XR
   refine Ds J J J ?_;refine Da J J ?_
   refine D_val 2 J J J J J J J J J (V_index Tk J J J J (by omega) (by simp <;> omega)) ?_
   refine Da J J ?_;refine D_val 4 J J J J J J J J J (V_load Tk J J J (by simpa [add_add', add_zero'] using gcells_at hcs 0 _ J)) ?_;refine Da J J ?_;refine D_split 54 J (fun _ => J) (fun h => absurd h (by simp [hk8])) (fun h => ?_)
   refine Da J J ?_;refine DD ?_;refine Va J J ?_;exact RK (wKeys 2) (Res.t1 Tryz.results59 J J) ⟨by simp [codeOf, codeP, hm1, hm2, hk8], J, J⟩ (Wvp [_, _] kg spg J ‹_› J J J J J J J J J) J (Wsub 10 J J J J J J J J J J J J J J J J (Bs 3 J J J J (Bs 3 J J J J .nil))) XR
  ·refine OvV 1 0 J J J J fun bp bc br bs bg kp sp asd ksd aq0 kq0 aq1 kq1 kc spc kr spr ks sps kg spg hbg hmk hce => ?_; subst hce; obtain ⟨g0, g1, rfl⟩ := len2 hbg; clear hbg; refine NM J J ?_; dsimp only [wEnts, wCels, procCs, regEs, WX.of, vi]
   refine Va J J ?_;refine S_box J J J J J fun b2 => ?_;refine Va J J ?_;refine RF J J ?_;refine Va J J ?_;refine AZ ZT_ok J J J J fun b5 => ?_;refine Va J J ?_
   by_cases hm1 : mo1 = 1
   ·refine GT J J (by simp [hm1]) ?_
    refine Va J J ?_;exact RK (wKeys 2) (Res.t1 Tryz.results59 J J) ⟨by simp [codeOf, codeP, hm1], J, J⟩ (Wvp [_, _] kg spg J ‹_› J J J J J J J J J) J (Wsub 10 J J J J J J J J J J J J J J J J (Bs 3 J J J J (Bs 3 J J J J .nil))) XR
   refine GF J J (by simp [hm1]) ?_
   by_cases hm2 : mo1 = 2
   ·subst hm2
    have hro := hh1.1 rfl
    simp only at hro
    rcases hro with rfl | rfl <;>
    ·refine Va J J ?_
     refine GT J J J ?_;refine Va J J ?_
     refine S_condp J (fun h => ?_) (fun h => ?_) <;> refine Va J J ?_
     ·exact RK (wKeys 2) (Res.t1 Tryz.results59 J J) ⟨by first | (simp [codeOf, codeP, Wld.rm, show ¬ m0 = 0 by omega]; done) | (simp [codeOf, codeP, Wld.rm, show ¬ m1 = 0 by omega]; done), rfl, rfl⟩ (Wvp [_, _] kg spg rfl ‹_› rfl rfl rfl rfl rfl rfl rfl rfl rfl) rfl (Wsub 10 rfl rfl rfl rfl rfl rfl rfl rfl rfl rfl rfl rfl rfl rfl rfl rfl (Bs 3 rfl rfl rfl rfl (Bs 3 rfl rfl rfl rfl .nil))) XR
     ·refine RT J J ?_
      refine Va J J ?_;exact RK (wKeys 2) (Res.t1 Tryz.results59 J J) ⟨by first | (simp [codeOf, codeP, Wld.rm, show m0 = 0 by omega]; done) | (simp [codeOf, codeP, Wld.rm, show m1 = 0 by omega]; done), rfl, rfl⟩ (Wvp [_, _] kg spg rfl ‹_› rfl rfl rfl rfl rfl rfl rfl rfl rfl) rfl (Wsub 10 rfl rfl rfl rfl rfl rfl rfl rfl rfl rfl rfl rfl rfl rfl rfl rfl (Bs 3 rfl rfl rfl rfl (Bs 3 rfl rfl rfl rfl .nil))) XR
   refine Va J J ?_;refine GF J J (by simp [hm2]) ?_;refine Va J J ?_;refine RF J (by simp [hm2]) ?_;refine Va J J ?_
   rcases hTD : td1 with _ | ⟨s, r⟩
   ·subst hTD
    refine RT J J ?_;refine Va J J ?_;exact RK (wKeys 2) (Res.t1 Tryz.results59 J J) ⟨by simp [codeOf, codeP, hm1, hm2], J, J⟩ (Wvp [_, _] kg spg J ‹_› J J J J J J J J J) J (Wsub 10 J J J J J J J J J J J J J J J J (Bs 3 J J J J (Bs 3 J J J J .nil))) XR
   subst hTD
   obtain ⟨ad, vx, vy, rfl, hcs, _⟩ := Sts_head s1
   refine RF J (by simp <;> omega) ?_
   refine Va J J ?_
   by_cases hk8 : s.kind = 8
   ·have hsa := hh1.2 s r rfl hk8
    obtain ⟨sk, sa, sb, sn, sx, sy⟩ := s
    simp only [Stm.kind, Stm.a] at hk8 hsa hcs
    subst hk8
    rcases hsa with rfl | rfl <;>
    ·refine Ds J J J ?_
     refine Da J J ?_
     refine D_val 2 J J J J J J J J J (V_index Tk J J J J (by omega) (by simp <;> omega)) ?_
     refine Da J J ?_;refine D_val 4 J J J J J J J J J (V_load Tk J J J (by simpa [add_add', add_zero'] using gcells_at hcs 0 _ J)) ?_;refine Da J J ?_;refine D_setP 54 (b := true) J J ?_;refine Da J J ?_
     refine D_val 11 J J J J J J J J J (V_index Tk J J J J (by omega) (by simp <;> omega)) ?_
     refine Da J J ?_;refine D_val 13 J J J J J J J J J (V_load Tk J J J (by simpa [add_add', add_zero'] using gcells_at hcs 1 _ J)) ?_;refine Da J J ?_;refine DD ?_;refine Va J J ?_
     refine S_condp J (fun h => ?_) (fun h => ?_) <;> refine Va J J ?_
     ·exact RK (wKeys 2) (Res.t1 Tryz.results59 J J) ⟨by first | (simp [codeOf, codeP, Wld.rm, hm1, hm2, Stm.kind, Stm.a, show ¬ m0 = 0 by omega]; done) | (simp [codeOf, codeP, Wld.rm, hm1, hm2, Stm.kind, Stm.a, show ¬ m1 = 0 by omega]; done), rfl, rfl⟩ (Wvp [_, _] kg spg rfl ‹_› rfl rfl rfl rfl rfl rfl rfl rfl rfl) rfl (Wsub 10 rfl rfl rfl rfl rfl rfl rfl rfl rfl rfl rfl rfl rfl rfl rfl rfl (Bs 3 rfl rfl rfl rfl (Bs 3 rfl rfl rfl rfl .nil))) XR
     ·exact RK (wKeys 2) (Res.t1 Tryz.results59 J J) ⟨by first | (simp [codeOf, codeP, Wld.rm, hm1, hm2, Stm.kind, Stm.a, show m0 = 0 by omega]; done) | (simp [codeOf, codeP, Wld.rm, hm1, hm2, Stm.kind, Stm.a, show m1 = 0 by omega]; done), rfl, rfl⟩ (Wvp [_, _] kg spg rfl ‹_› rfl rfl rfl rfl rfl rfl rfl rfl rfl) rfl (Wsub 10 rfl rfl rfl rfl rfl rfl rfl rfl rfl rfl rfl rfl rfl rfl rfl rfl (Bs 3 rfl rfl rfl rfl (Bs 3 rfl rfl rfl rfl .nil))) XR
   refine Ds J J J ?_;refine Da J J ?_
   refine D_val 2 J J J J J J J J J (V_index Tk J J J J (by omega) (by simp <;> omega)) ?_
   refine Da J J ?_;refine D_val 4 J J J J J J J J J (V_load Tk J J J (by simpa [add_add', add_zero'] using gcells_at hcs 0 _ J)) ?_;refine Da J J ?_;refine D_split 54 J (fun _ => J) (fun h => absurd h (by simp [hk8])) (fun h => ?_)
   refine Da J J ?_;refine DD ?_;refine Va J J ?_;exact RK (wKeys 2) (Res.t1 Tryz.results59 J J) ⟨by simp [codeOf, codeP, hm1, hm2, hk8], J, J⟩ (Wvp [_, _] kg spg J ‹_› J J J J J J J J J) J (Wsub 10 J J J J J J J J J J J J J J J J (Bs 3 J J J J (Bs 3 J J J J .nil))) XR
 ·have hh0 := hh _ (List.mem_cons_self ..)
  have hh1 := hh _ (List.mem_cons_of_mem _ (List.mem_cons_self ..))
  have hh2 := hh _ (List.mem_cons_of_mem _ (List.mem_cons_of_mem _ (List.mem_cons_self ..)))
  by_cases hw : who < 0 ∨ 3 ≤ who
  ·refine OvV 1 0 J J J J fun bp bc br bs bg kp sp asd ksd aq0 kq0 aq1 kq1 kc spc kr spr ks sps kg spg hbg hmk hce => ?_; subst hce; obtain ⟨g0, g1, g2, rfl⟩ := len3 hbg; clear hbg; refine NM J J ?_; dsimp only [wEnts, wCels, procCs, regEs, WX.of, vi]
   refine Va J J ?_;refine S_box J J J J J fun b2 => ?_;refine Va J J ?_
   refine RT J (by simp <;> omega) ?_
   refine Va J J ?_
   exact RK (wKeys 3) (Res.t1 Tryz.results59 J J) ⟨by rw [codeOf, if_pos (by simp <;> omega)], rfl, rfl⟩ (Wvp [_, _, _] kg spg rfl ‹_› rfl rfl rfl rfl rfl rfl rfl rfl rfl) rfl (Wsub 15 rfl rfl rfl rfl rfl rfl rfl rfl rfl rfl rfl rfl rfl rfl rfl rfl (Bs 3 rfl rfl rfl rfl (Bs 3 rfl rfl rfl rfl (Bs 3 rfl rfl rfl rfl .nil)))) XR
  rcases (by omega : who = 0 ∨ who = 1 ∨ who = 2) with rfl | rfl | rfl
  ·refine OvV 1 0 J J J J fun bp bc br bs bg kp sp asd ksd aq0 kq0 aq1 kq1 kc spc kr spr ks sps kg spg hbg hmk hce => ?_; subst hce; obtain ⟨g0, g1, g2, rfl⟩ := len3 hbg; clear hbg; refine NM J J ?_; dsimp only [wEnts, wCels, procCs, regEs, WX.of, vi]
   refine Va J J ?_;refine S_box J J J J J fun b2 => ?_;refine Va J J ?_;refine RF J J ?_;refine Va J J ?_;refine AZ ZT_ok J J J J fun b5 => ?_;refine Va J J ?_
   by_cases hm1 : mo0 = 1
   ·refine GT J J (by simp [hm1]) ?_
    refine Va J J ?_;exact RK (wKeys 3) (Res.t1 Tryz.results59 J J) ⟨by simp [codeOf, codeP, hm1], J, J⟩ (Wvp [_, _, _] kg spg J ‹_› J J J J J J J J J) J (Wsub 15 J J J J J J J J J J J J J J J J (Bs 3 J J J J (Bs 3 J J J J (Bs 3 J J J J .nil)))) XR
   refine GF J J (by simp [hm1]) ?_
   by_cases hm2 : mo0 = 2
   ·subst hm2
    have hro := hh0.1 rfl
    simp only at hro
    rcases hro with rfl | rfl <;>
    ·refine Va J J ?_
     refine GT J J J ?_;refine Va J J ?_
     refine S_condp J (fun h => ?_) (fun h => ?_) <;> refine Va J J ?_
     ·exact RK (wKeys 3) (Res.t1 Tryz.results59 J J) ⟨by first | (simp [codeOf, codeP, Wld.rm, show ¬ m0 = 0 by omega]; done) | (simp [codeOf, codeP, Wld.rm, show ¬ m1 = 0 by omega]; done), rfl, rfl⟩ (Wvp [_, _, _] kg spg rfl ‹_› rfl rfl rfl rfl rfl rfl rfl rfl rfl) rfl (Wsub 15 rfl rfl rfl rfl rfl rfl rfl rfl rfl rfl rfl rfl rfl rfl rfl rfl (Bs 3 rfl rfl rfl rfl (Bs 3 rfl rfl rfl rfl (Bs 3 rfl rfl rfl rfl .nil)))) XR
     ·refine RT J J ?_
      refine Va J J ?_;exact RK (wKeys 3) (Res.t1 Tryz.results59 J J) ⟨by first | (simp [codeOf, codeP, Wld.rm, show m0 = 0 by omega]; done) | (simp [codeOf, codeP, Wld.rm, show m1 = 0 by omega]; done), rfl, rfl⟩ (Wvp [_, _, _] kg spg rfl ‹_› rfl rfl rfl rfl rfl rfl rfl rfl rfl) rfl (Wsub 15 rfl rfl rfl rfl rfl rfl rfl rfl rfl rfl rfl rfl rfl rfl rfl rfl (Bs 3 rfl rfl rfl rfl (Bs 3 rfl rfl rfl rfl (Bs 3 rfl rfl rfl rfl .nil)))) XR
   refine Va J J ?_;refine GF J J (by simp [hm2]) ?_;refine Va J J ?_;refine RF J (by simp [hm2]) ?_;refine Va J J ?_
   rcases hTD : td0 with _ | ⟨s, r⟩
   ·subst hTD
    refine RT J J ?_;refine Va J J ?_;exact RK (wKeys 3) (Res.t1 Tryz.results59 J J) ⟨by simp [codeOf, codeP, hm1, hm2], J, J⟩ (Wvp [_, _, _] kg spg J ‹_› J J J J J J J J J) J (Wsub 15 J J J J J J J J J J J J J J J J (Bs 3 J J J J (Bs 3 J J J J (Bs 3 J J J J .nil)))) XR
   subst hTD
   obtain ⟨ad, vx, vy, rfl, hcs, _⟩ := Sts_head s0
   refine RF J (by simp <;> omega) ?_
   refine Va J J ?_
   by_cases hk8 : s.kind = 8
   ·have hsa := hh0.2 s r rfl hk8
    obtain ⟨sk, sa, sb, sn, sx, sy⟩ := s
    simp only [Stm.kind, Stm.a] at hk8 hsa hcs
    subst hk8
    rcases hsa with rfl | rfl <;>
    ·refine Ds J J J ?_
     refine Da J J ?_
     refine D_val 2 J J J J J J J J J (V_index Tk J J J J (by omega) (by simp <;> omega)) ?_
     refine Da J J ?_;refine D_val 4 J J J J J J J J J (V_load Tk J J J (by simpa [add_add', add_zero'] using gcells_at hcs 0 _ J)) ?_;refine Da J J ?_;refine D_setP 54 (b := true) J J ?_;refine Da J J ?_
     refine D_val 11 J J J J J J J J J (V_index Tk J J J J (by omega) (by simp <;> omega)) ?_
     refine Da J J ?_;refine D_val 13 J J J J J J J J J (V_load Tk J J J (by simpa [add_add', add_zero'] using gcells_at hcs 1 _ J)) ?_;refine Da J J ?_;refine DD ?_;refine Va J J ?_
     refine S_condp J (fun h => ?_) (fun h => ?_) <;> refine Va J J ?_
     ·exact RK (wKeys 3) (Res.t1 Tryz.results59 J J) ⟨by first | (simp [codeOf, codeP, Wld.rm, hm1, hm2, Stm.kind, Stm.a, show ¬ m0 = 0 by omega]; done) | (simp [codeOf, codeP, Wld.rm, hm1, hm2, Stm.kind, Stm.a, show ¬ m1 = 0 by omega]; done), rfl, rfl⟩ (Wvp [_, _, _] kg spg rfl ‹_› rfl rfl rfl rfl rfl rfl rfl rfl rfl) rfl (Wsub 15 rfl rfl rfl rfl rfl rfl rfl rfl rfl rfl rfl rfl rfl rfl rfl rfl (Bs 3 rfl rfl rfl rfl (Bs 3 rfl rfl rfl rfl (Bs 3 rfl rfl rfl rfl .nil)))) XR
     ·exact RK (wKeys 3) (Res.t1 Tryz.results59 J J) ⟨by first | (simp [codeOf, codeP, Wld.rm, hm1, hm2, Stm.kind, Stm.a, show m0 = 0 by omega]; done) | (simp [codeOf, codeP, Wld.rm, hm1, hm2, Stm.kind, Stm.a, show m1 = 0 by omega]; done), rfl, rfl⟩ (Wvp [_, _, _] kg spg rfl ‹_› rfl rfl rfl rfl rfl rfl rfl rfl rfl) rfl (Wsub 15 rfl rfl rfl rfl rfl rfl rfl rfl rfl rfl rfl rfl rfl rfl rfl rfl (Bs 3 rfl rfl rfl rfl (Bs 3 rfl rfl rfl rfl (Bs 3 rfl rfl rfl rfl .nil)))) XR
   refine Ds J J J ?_;refine Da J J ?_
   refine D_val 2 J J J J J J J J J (V_index Tk J J J J (by omega) (by simp <;> omega)) ?_
   refine Da J J ?_;refine D_val 4 J J J J J J J J J (V_load Tk J J J (by simpa [add_add', add_zero'] using gcells_at hcs 0 _ J)) ?_;refine Da J J ?_;refine D_split 54 J (fun _ => J) (fun h => absurd h (by simp [hk8])) (fun h => ?_)
   refine Da J J ?_;refine DD ?_;refine Va J J ?_;exact RK (wKeys 3) (Res.t1 Tryz.results59 J J) ⟨by simp [codeOf, codeP, hm1, hm2, hk8], J, J⟩ (Wvp [_, _, _] kg spg J ‹_› J J J J J J J J J) J (Wsub 15 J J J J J J J J J J J J J J J J (Bs 3 J J J J (Bs 3 J J J J (Bs 3 J J J J .nil)))) XR
  ·refine OvV 1 0 J J J J fun bp bc br bs bg kp sp asd ksd aq0 kq0 aq1 kq1 kc spc kr spr ks sps kg spg hbg hmk hce => ?_; subst hce; obtain ⟨g0, g1, g2, rfl⟩ := len3 hbg; clear hbg; refine NM J J ?_; dsimp only [wEnts, wCels, procCs, regEs, WX.of, vi]
   refine Va J J ?_;refine S_box J J J J J fun b2 => ?_;refine Va J J ?_;refine RF J J ?_;refine Va J J ?_;refine AZ ZT_ok J J J J fun b5 => ?_;refine Va J J ?_
   by_cases hm1 : mo1 = 1
   ·refine GT J J (by simp [hm1]) ?_
    refine Va J J ?_;exact RK (wKeys 3) (Res.t1 Tryz.results59 J J) ⟨by simp [codeOf, codeP, hm1], J, J⟩ (Wvp [_, _, _] kg spg J ‹_› J J J J J J J J J) J (Wsub 15 J J J J J J J J J J J J J J J J (Bs 3 J J J J (Bs 3 J J J J (Bs 3 J J J J .nil)))) XR
   refine GF J J (by simp [hm1]) ?_
   by_cases hm2 : mo1 = 2
   ·subst hm2
    have hro := hh1.1 rfl
    simp only at hro
    rcases hro with rfl | rfl <;>
    ·refine Va J J ?_
     refine GT J J J ?_;refine Va J J ?_
     refine S_condp J (fun h => ?_) (fun h => ?_) <;> refine Va J J ?_
     ·exact RK (wKeys 3) (Res.t1 Tryz.results59 J J) ⟨by first | (simp [codeOf, codeP, Wld.rm, show ¬ m0 = 0 by omega]; done) | (simp [codeOf, codeP, Wld.rm, show ¬ m1 = 0 by omega]; done), rfl, rfl⟩ (Wvp [_, _, _] kg spg rfl ‹_› rfl rfl rfl rfl rfl rfl rfl rfl rfl) rfl (Wsub 15 rfl rfl rfl rfl rfl rfl rfl rfl rfl rfl rfl rfl rfl rfl rfl rfl (Bs 3 rfl rfl rfl rfl (Bs 3 rfl rfl rfl rfl (Bs 3 rfl rfl rfl rfl .nil)))) XR
     ·refine RT J J ?_
      refine Va J J ?_;exact RK (wKeys 3) (Res.t1 Tryz.results59 J J) ⟨by first | (simp [codeOf, codeP, Wld.rm, show m0 = 0 by omega]; done) | (simp [codeOf, codeP, Wld.rm, show m1 = 0 by omega]; done), rfl, rfl⟩ (Wvp [_, _, _] kg spg rfl ‹_› rfl rfl rfl rfl rfl rfl rfl rfl rfl) rfl (Wsub 15 rfl rfl rfl rfl rfl rfl rfl rfl rfl rfl rfl rfl rfl rfl rfl rfl (Bs 3 rfl rfl rfl rfl (Bs 3 rfl rfl rfl rfl (Bs 3 rfl rfl rfl rfl .nil)))) XR
   refine Va J J ?_;refine GF J J (by simp [hm2]) ?_;refine Va J J ?_;refine RF J (by simp [hm2]) ?_;refine Va J J ?_
   rcases hTD : td1 with _ | ⟨s, r⟩
   ·subst hTD
    refine RT J J ?_;refine Va J J ?_;exact RK (wKeys 3) (Res.t1 Tryz.results59 J J) ⟨by simp [codeOf, codeP, hm1, hm2], J, J⟩ (Wvp [_, _, _] kg spg J ‹_› J J J J J J J J J) J (Wsub 15 J J J J J J J J J J J J J J J J (Bs 3 J J J J (Bs 3 J J J J (Bs 3 J J J J .nil)))) XR
   subst hTD
   obtain ⟨ad, vx, vy, rfl, hcs, _⟩ := Sts_head s1
   refine RF J (by simp <;> omega) ?_
   refine Va J J ?_
   by_cases hk8 : s.kind = 8
   ·have hsa := hh1.2 s r rfl hk8
    obtain ⟨sk, sa, sb, sn, sx, sy⟩ := s
    simp only [Stm.kind, Stm.a] at hk8 hsa hcs
    subst hk8
    rcases hsa with rfl | rfl <;>
    ·refine Ds J J J ?_
     refine Da J J ?_
     refine D_val 2 J J J J J J J J J (V_index Tk J J J J (by omega) (by simp <;> omega)) ?_
     refine Da J J ?_;refine D_val 4 J J J J J J J J J (V_load Tk J J J (by simpa [add_add', add_zero'] using gcells_at hcs 0 _ J)) ?_;refine Da J J ?_;refine D_setP 54 (b := true) J J ?_;refine Da J J ?_
     refine D_val 11 J J J J J J J J J (V_index Tk J J J J (by omega) (by simp <;> omega)) ?_
     refine Da J J ?_;refine D_val 13 J J J J J J J J J (V_load Tk J J J (by simpa [add_add', add_zero'] using gcells_at hcs 1 _ J)) ?_;refine Da J J ?_;refine DD ?_;refine Va J J ?_
     refine S_condp J (fun h => ?_) (fun h => ?_) <;> refine Va J J ?_
     ·exact RK (wKeys 3) (Res.t1 Tryz.results59 J J) ⟨by first | (simp [codeOf, codeP, Wld.rm, hm1, hm2, Stm.kind, Stm.a, show ¬ m0 = 0 by omega]; done) | (simp [codeOf, codeP, Wld.rm, hm1, hm2, Stm.kind, Stm.a, show ¬ m1 = 0 by omega]; done), rfl, rfl⟩ (Wvp [_, _, _] kg spg rfl ‹_› rfl rfl rfl rfl rfl rfl rfl rfl rfl) rfl (Wsub 15 rfl rfl rfl rfl rfl rfl rfl rfl rfl rfl rfl rfl rfl rfl rfl rfl (Bs 3 rfl rfl rfl rfl (Bs 3 rfl rfl rfl rfl (Bs 3 rfl rfl rfl rfl .nil)))) XR
     ·exact RK (wKeys 3) (Res.t1 Tryz.results59 J J) ⟨by first | (simp [codeOf, codeP, Wld.rm, hm1, hm2, Stm.kind, Stm.a, show m0 = 0 by omega]; done) | (simp [codeOf, codeP, Wld.rm, hm1, hm2, Stm.kind, Stm.a, show m1 = 0 by omega]; done), rfl, rfl⟩ (Wvp [_, _, _] kg spg rfl ‹_› rfl rfl rfl rfl rfl rfl rfl rfl rfl) rfl (Wsub 15 rfl rfl rfl rfl rfl rfl rfl rfl rfl rfl rfl rfl rfl rfl rfl rfl (Bs 3 rfl rfl rfl rfl (Bs 3 rfl rfl rfl rfl (Bs 3 rfl rfl rfl rfl .nil)))) XR
   refine Ds J J J ?_;refine Da J J ?_
   refine D_val 2 J J J J J J J J J (V_index Tk J J J J (by omega) (by simp <;> omega)) ?_
   refine Da J J ?_;refine D_val 4 J J J J J J J J J (V_load Tk J J J (by simpa [add_add', add_zero'] using gcells_at hcs 0 _ J)) ?_;refine Da J J ?_;refine D_split 54 J (fun _ => J) (fun h => absurd h (by simp [hk8])) (fun h => ?_)
   refine Da J J ?_;refine DD ?_;refine Va J J ?_;exact RK (wKeys 3) (Res.t1 Tryz.results59 J J) ⟨by simp [codeOf, codeP, hm1, hm2, hk8], J, J⟩ (Wvp [_, _, _] kg spg J ‹_› J J J J J J J J J) J (Wsub 15 J J J J J J J J J J J J J J J J (Bs 3 J J J J (Bs 3 J J J J (Bs 3 J J J J .nil)))) XR
  ·refine OvV 1 0 J J J J fun bp bc br bs bg kp sp asd ksd aq0 kq0 aq1 kq1 kc spc kr spr ks sps kg spg hbg hmk hce => ?_; subst hce; obtain ⟨g0, g1, g2, rfl⟩ := len3 hbg; clear hbg; refine NM J J ?_; dsimp only [wEnts, wCels, procCs, regEs, WX.of, vi]
   refine Va J J ?_;refine S_box J J J J J fun b2 => ?_;refine Va J J ?_;refine RF J J ?_;refine Va J J ?_;refine AZ ZT_ok J J J J fun b5 => ?_;refine Va J J ?_
   by_cases hm1 : mo2 = 1
   ·refine GT J J (by simp [hm1]) ?_
    refine Va J J ?_;exact RK (wKeys 3) (Res.t1 Tryz.results59 J J) ⟨by simp [codeOf, codeP, hm1], J, J⟩ (Wvp [_, _, _] kg spg J ‹_› J J J J J J J J J) J (Wsub 15 J J J J J J J J J J J J J J J J (Bs 3 J J J J (Bs 3 J J J J (Bs 3 J J J J .nil)))) XR
   refine GF J J (by simp [hm1]) ?_
   by_cases hm2 : mo2 = 2
   ·subst hm2
    have hro := hh2.1 rfl
    simp only at hro
    rcases hro with rfl | rfl <;>
    ·refine Va J J ?_
     refine GT J J J ?_;refine Va J J ?_
     refine S_condp J (fun h => ?_) (fun h => ?_) <;> refine Va J J ?_
     ·exact RK (wKeys 3) (Res.t1 Tryz.results59 J J) ⟨by first | (simp [codeOf, codeP, Wld.rm, show ¬ m0 = 0 by omega]; done) | (simp [codeOf, codeP, Wld.rm, show ¬ m1 = 0 by omega]; done), rfl, rfl⟩ (Wvp [_, _, _] kg spg rfl ‹_› rfl rfl rfl rfl rfl rfl rfl rfl rfl) rfl (Wsub 15 rfl rfl rfl rfl rfl rfl rfl rfl rfl rfl rfl rfl rfl rfl rfl rfl (Bs 3 rfl rfl rfl rfl (Bs 3 rfl rfl rfl rfl (Bs 3 rfl rfl rfl rfl .nil)))) XR
     ·refine RT J J ?_
      refine Va J J ?_;exact RK (wKeys 3) (Res.t1 Tryz.results59 J J) ⟨by first | (simp [codeOf, codeP, Wld.rm, show m0 = 0 by omega]; done) | (simp [codeOf, codeP, Wld.rm, show m1 = 0 by omega]; done), rfl, rfl⟩ (Wvp [_, _, _] kg spg rfl ‹_› rfl rfl rfl rfl rfl rfl rfl rfl rfl) rfl (Wsub 15 rfl rfl rfl rfl rfl rfl rfl rfl rfl rfl rfl rfl rfl rfl rfl rfl (Bs 3 rfl rfl rfl rfl (Bs 3 rfl rfl rfl rfl (Bs 3 rfl rfl rfl rfl .nil)))) XR
   refine Va J J ?_;refine GF J J (by simp [hm2]) ?_;refine Va J J ?_;refine RF J (by simp [hm2]) ?_;refine Va J J ?_
   rcases hTD : td2 with _ | ⟨s, r⟩
   ·subst hTD
    refine RT J J ?_;refine Va J J ?_;exact RK (wKeys 3) (Res.t1 Tryz.results59 J J) ⟨by simp [codeOf, codeP, hm1, hm2], J, J⟩ (Wvp [_, _, _] kg spg J ‹_› J J J J J J J J J) J (Wsub 15 J J J J J J J J J J J J J J J J (Bs 3 J J J J (Bs 3 J J J J (Bs 3 J J J J .nil)))) XR
   subst hTD
   obtain ⟨ad, vx, vy, rfl, hcs, _⟩ := Sts_head s2
   refine RF J (by simp <;> omega) ?_
   refine Va J J ?_
   by_cases hk8 : s.kind = 8
   ·have hsa := hh2.2 s r rfl hk8
    obtain ⟨sk, sa, sb, sn, sx, sy⟩ := s
    simp only [Stm.kind, Stm.a] at hk8 hsa hcs
    subst hk8
    rcases hsa with rfl | rfl <;>
    ·refine Ds J J J ?_
     refine Da J J ?_
     refine D_val 2 J J J J J J J J J (V_index Tk J J J J (by omega) (by simp <;> omega)) ?_
     refine Da J J ?_;refine D_val 4 J J J J J J J J J (V_load Tk J J J (by simpa [add_add', add_zero'] using gcells_at hcs 0 _ J)) ?_;refine Da J J ?_;refine D_setP 54 (b := true) J J ?_;refine Da J J ?_
     refine D_val 11 J J J J J J J J J (V_index Tk J J J J (by omega) (by simp <;> omega)) ?_
     refine Da J J ?_;refine D_val 13 J J J J J J J J J (V_load Tk J J J (by simpa [add_add', add_zero'] using gcells_at hcs 1 _ J)) ?_;refine Da J J ?_;refine DD ?_;refine Va J J ?_
     refine S_condp J (fun h => ?_) (fun h => ?_) <;> refine Va J J ?_
     ·exact RK (wKeys 3) (Res.t1 Tryz.results59 J J) ⟨by first | (simp [codeOf, codeP, Wld.rm, hm1, hm2, Stm.kind, Stm.a, show ¬ m0 = 0 by omega]; done) | (simp [codeOf, codeP, Wld.rm, hm1, hm2, Stm.kind, Stm.a, show ¬ m1 = 0 by omega]; done), rfl, rfl⟩ (Wvp [_, _, _] kg spg rfl ‹_› rfl rfl rfl rfl rfl rfl rfl rfl rfl) rfl (Wsub 15 rfl rfl rfl rfl rfl rfl rfl rfl rfl rfl rfl rfl rfl rfl rfl rfl (Bs 3 rfl rfl rfl rfl (Bs 3 rfl rfl rfl rfl (Bs 3 rfl rfl rfl rfl .nil)))) XR
     ·exact RK (wKeys 3) (Res.t1 Tryz.results59 J J) ⟨by first | (simp [codeOf, codeP, Wld.rm, hm1, hm2, Stm.kind, Stm.a, show m0 = 0 by omega]; done) | (simp [codeOf, codeP, Wld.rm, hm1, hm2, Stm.kind, Stm.a, show m1 = 0 by omega]; done), rfl, rfl⟩ (Wvp [_, _, _] kg spg rfl ‹_› rfl rfl rfl rfl rfl rfl rfl rfl rfl) rfl (Wsub 15 rfl rfl rfl rfl rfl rfl rfl rfl rfl rfl rfl rfl rfl rfl rfl rfl (Bs 3 rfl rfl rfl rfl (Bs 3 rfl rfl rfl rfl (Bs 3 rfl rfl rfl rfl .nil)))) XR
   refine Ds J J J ?_;refine Da J J ?_
   refine D_val 2 J J J J J J J J J (V_index Tk J J J J (by omega) (by simp <;> omega)) ?_
   refine Da J J ?_;refine D_val 4 J J J J J J J J J (V_load Tk J J J (by simpa [add_add', add_zero'] using gcells_at hcs 0 _ J)) ?_;refine Da J J ?_;refine D_split 54 J (fun _ => J) (fun h => absurd h (by simp [hk8])) (fun h => ?_)
   refine Da J J ?_;refine DD ?_;refine Va J J ?_;exact RK (wKeys 3) (Res.t1 Tryz.results59 J J) ⟨by simp [codeOf, codeP, hm1, hm2, hk8], J, J⟩ (Wvp [_, _, _] kg spg J ‹_› J J J J J J J J J) J (Wsub 15 J J J J J J J J J J J J J J J J (Bs 3 J J J J (Bs 3 J J J J (Bs 3 J J J J .nil)))) XR
end
section
attribute [local irreducible] X Pure Mod
theorem c_l3Ahead (v1 v2 : Value) (n1 n2 : Nat) (xs1 xs2 : List Value) (G : PH) (h1 : Sx G 6 v1 n1 xs1) (h2 : Sx G 6 v2 n2 xs2) (o1 : ∀ u ∈ xs1, u.oneCell' = true) (o2 : ∀ u ∈ xs2, u.oneCell' = true) (hsum : n1 + n2 ≤ 1000000000) :
  Pure Tryz.prog 115 [v1, v2] G fun v' G' => Sx (newp G G') 6 v' (n1 + n2) (xs1 ++ xs2) := by
 obtain ⟨A1, c1, rfl, hn1, hnc1, hcm1, hlen1, hrow1⟩ := h1
 obtain ⟨A2, c2, rfl, hn2, hnc2, hcm2, hlen2, hrow2⟩ := h2
 refine Pure.intro Tryz.func115 Tryz.ntmps115 J J fun w => ?_; refine Va J J ?_;refine S_emptyO Tk 5 J J J J fun A => ?_;refine Va J J ?_;refine S_appO Tk 5 J J J J J J J J J J J (fun _ _ => J) (src_G hlen1 hrow1) o1 (by simp only; omega) (by simp only [maxLen]; omega) (Nat.le_refl _) fun A1' c1' => ?_;refine Va J J ?_;refine S_appO Tk 5 J J J J J J J J J J J (fun _ _ => J) (src_G hlen2 hrow2) o2 (by simp only; omega) (by simp only [maxLen]; omega) (Nat.le_refl _) fun A2' c2' => ?_
 refine Va J J ?_;refine S_freezeR 5 J J (Nat.le_refl _) fun G' hext' hnc' hcm' hcl => ?_;refine S_retp (Res.t1 Tryz.results115 J J) hext' ⟨A2', c2', by simp, hsum, by simpa using hnc', hcm', by rw [List.length_append, hlen1, hlen2, Nat.add_mul], ?_⟩
 simpa using hcl
theorem ahead_Sts {G Gf : PH} {G' : PH} {L1 L2 : List Stm} {v' : Value} {xs1 xs2 : List Value} (h : Sx (newp G G') 6 v' (L1.length + L2.length) (xs1 ++ xs2)) (c1 : Cs 6 (Stm.rep Gf) L1 xs1) (c2 : Cs 6 (Stm.rep Gf) L2 xs2) (hle : (newp G G').le Gf) : Sts Gf (L1 ++ L2) v' :=
 Sx_Sr (Sx_le hle h) (by simp) (Cs_append2 c1 c2)
theorem c_l3AheadS (L1 L2 : List Stm) (v1 v2 : Value) (G : PH) (h1 : Sts G L1 v1) (h2 : Sts G L2 v2) (hsum : L1.length + L2.length ≤ 1000000000) : Pure Tryz.prog 115 [v1, v2] G fun v' G' => G.le G' → Sts G' (L1 ++ L2) v' := by
 obtain ⟨xs1, hx1, hc1⟩ := Sr_Sx (fun s cs h => Stm.rep_len h) h1
 obtain ⟨xs2, hx2, hc2⟩ := Sr_Sx (fun s cs h => Stm.rep_len h) h2
 exact (c_l3Ahead v1 v2 _ _ xs1 xs2 G hx1 hx2 (Cs_one Stm.rep_one hc1) (Cs_one Stm.rep_one hc2) hsum).mono fun v G' hle h _ => ahead_Sts h (Cs_mono (Stm.reps_le hle L1) hc1) (Cs_mono (Stm.reps_le hle L2) hc2) (newp_le _ _)
abbrev VPost (W' : Wld) : Value → PH → HP → Prop := fun v G' A' => ∃ cs' ts', v = .agg cs'.toArray ∧ A' = worldV cs' W' ts' ∧ Tds G' W'.procs ts'
def goesL (W : Wld) (who : Nat) (s : Stm) : List Stm := if W.reg who s.a = 0 then (if s.kind = 6 then s.els else []) else if s.kind = 7 then s.body ++ [s] else s.body
theorem c_l3Goes (W : Wld) (who : Nat) (cs : List Value) (ts : List Value) (G : PH) (h1 : 1 ≤ W.procs.length) (h3 : W.procs.length ≤ 3) (ht : Tds G W.procs ts) (hw : who < W.procs.length) (kk a bb n : Int) (x y rest : List Stm) (vx vy vr : Value) (hx : Sts G x vx) (hy : Sts G y vy) (hrest : Sts G rest vr) (hi : I64 kk ∧ I64 a ∧ I64 bb ∧ I64 n) (hxl : x.length ≤ 1000) (hyl : y.length ≤ 1000) (hrl : rest.length ≤ 1000000) (ha : is3 a) (hk : kk = 6 ∨ kk = 7) :
  Mod Tryz.prog 101 [.agg cs.toArray, .int .i64 (who : Nat), .agg #[.int .i64 kk, .int .i64 a, .int .i64 bb, .int .i64 n, vx, vy], vr] G (worldV cs W ts) (VPost (W.upd who (fun p => { p with todo := goesL W who (.mk kk a bb n x y) ++ rest }))) := by
 have hs1 : Stm.rep G (.mk kk a bb n x y) [.int .i64 kk, .int .i64 a, .int .i64 bb, .int .i64 n, vx, vy] := Stm.rep_iff.2 ⟨vx, vy, rfl, hi.1, hi.2.1, hi.2.2.1, hi.2.2.2, hx, hy⟩
 obtain ⟨Ax, cx, rfl, _⟩ := id hx
 obtain ⟨Ay, cy, rfl, _⟩ := id hy
 obtain ⟨Ar, cr, rfl, _⟩ := id hrest
 obtain ⟨xs, hxs, hcs⟩ := Sr_Sx (fun s cs h => Stm.rep_len h) hx
 refine Mod.intro Tryz.func101 Tryz.ntmps101 J J fun w S => ?_;obtain ⟨ps, x0, x1, x2, m0, m1, q0, q1, sd⟩ := W
 rcases shape h1 h3 ht with ⟨⟨a0, a1, a2, td0, mo0, on0, ro0⟩, A0, k0, rfl, rfl, s0⟩ | ⟨⟨a0, a1, a2, td0, mo0, on0, ro0⟩, A0, k0, ⟨b0, b1, b2, td1, mo1, on1, ro1⟩, A1, k1, rfl, rfl, s0, s1⟩ | ⟨⟨a0, a1, a2, td0, mo0, on0, ro0⟩, A0, k0, ⟨b0, b1, b2, td1, mo1, on1, ro1⟩, A1, k1, ⟨d0, d1, d2, td2, mo2, on2, ro2⟩, A2, k2, rfl, rfl, s0, s1, s2⟩
 ·obtain rfl : who = 0 := by simpa using hw
  refine OvV 1 0 J J J J fun bp bc br bs bg kp sp asd ksd aq0 kq0 aq1 kq1 kc spc kr spr ks sps kg spg hbg hmk hce => ?_; subst hce; obtain ⟨g0, rfl⟩ := len1 hbg; clear hbg; refine NM J J ?_; dsimp only [wEnts, wCels, procCs, regEs, WX.of, vi]
  refine Va J J ?_;refine S_box J J J J J fun b4 => ?_;refine Va J J ?_;refine S_box J J J J J fun b6 => ?_;refine Va J J ?_;refine AZ ZT_ok J J J J fun b8 => ?_;refine Va J J ?_
  rcases ha with rfl | rfl | rfl <;>
  ·refine Ds J J J ?_
   refine Da J J ?_;refine DD ?_;refine Va J J ?_;refine S_emptyO Tk 22 J J J J fun A22 => ?_;refine Va J J ?_
   refine S_cond J (fun h => ?_) (fun h => ?_) <;> refine Va J J ?_
   ·simp only [Bool.and_eq_true, decide_eq_true_eq] at h
    obtain ⟨h, rfl⟩ := h
    refine S_slice Tk ZT_ok J J J J (by decide) (by decide) J J J J fun b33 => ?_;refine Va J J ?_;refine S_lendB 33 J J J J fun hG hb => ?_;refine S_call Tryz.call115 (c_l3Ahead _ _ x.length 1 xs [.int .i64 7, .int .i64 _, .int .i64 bb, .int .i64 n, .slice Ax x.length cx, .slice Ay y.length cy] _ (Sx_le (le_add hG) hxs) ⟨_, _, J, by omega, by omega, by simp [maxLen], J, .inr ⟨_, J, gcells_own⟩⟩ (Cs_one Stm.rep_one hcs) one6 (by omega)) J J J ?_
    rintro v1 G3 hv1 hext3
    refine S_backB 33 [.v (.int .i64 7), .v (.int .i64 _), .v (.int .i64 bb), .v (.int .i64 n), .v (.slice Ax x.length cx), .v (.slice Ay y.length cy)] (hext3.le _ _ (PH.add_self _ _ _)) J J hb ?_
    have hle := le_del hext3.le hG
    have hv2 : Sts (G3.del b33) (x ++ [.mk 7 _ bb n x y]) v1 := ahead_Sts hv1 (Cs_mono (Stm.reps_le hle x) hcs) ⟨_, [], by simp, rfl, Stm.rep_le hle _ _ hs1, rfl⟩ newp_add_le
    obtain ⟨A1, c1, rfl, _⟩ := id hv2
    have hext1 := PH.ext.del hG hext3
    refine Va J J ?_;refine Ds J J J ?_;refine Da J J ?_;refine D_sole 5 J J (N_call 5 Tryz.call115 (c_l3AheadS (x++[_]) rest _ _ _ hv2 (Sts_le hle hrest) (by (try simp only [List.length_append, List.length_singleton, List.length_nil]); omega)) rfl rfl rfl rfl rfl rfl rfl rfl rfl rfl ?_)
    rintro v' G' hv' hext
    replace hv' := hv' hext.le
    obtain ⟨A', c', rfl, _⟩ := id hv'
    refine Da J J ?_;refine Ns 8 J J J J J J J J J ?_;refine DD ?_;refine Va J J ?_;exact RK (wKeys 1) (Res.c1 Tk Tryz.results101 J J) ⟨_, _, J, J, Tds_upd (PH.le.trans hle hext.le) _ hw ht (by simpa [goesL, Wld.reg, Prc.get, Stm.kind, Stm.a, Stm.body, Stm.els, h] using hv')⟩ (Wvp [_] kg spg J ‹_› J J J J J J J J J) J (Wsub 5 J J J J J J J J J J J J J J J J (Bs 3 J J J J .nil)) (hext1.trans hext)
   ·refine S_condp J (fun h2 => ?_) (fun h2 => ?_) <;> refine Va J J ?_
    ·obtain rfl : kk = 6 := by
      rcases hk with rfl | rfl
      ·rfl
      ·simp [h2] at h
     refine Ds J J J ?_;refine Da J J ?_;refine D_sole 5 J J (N_call 5 Tryz.call115 (c_l3AheadS x rest _ _ _ hx (Sts_le (PH.le.refl _) hrest) (by (try simp only [List.length_append, List.length_singleton, List.length_nil]); omega)) rfl rfl rfl rfl rfl rfl rfl rfl rfl rfl ?_)
     rintro v' G' hv' hext
     replace hv' := hv' hext.le
     obtain ⟨A', c', rfl, _⟩ := id hv'
     refine Da J J ?_;refine Ns 8 J J J J J J J J J ?_;refine DD ?_;refine Va J J ?_;exact RK (wKeys 1) (Res.c1 Tk Tryz.results101 J J) ⟨_, _, J, J, Tds_upd (PH.le.trans (PH.le.refl _) hext.le) _ hw ht (by simpa [goesL, Wld.reg, Prc.get, Stm.kind, Stm.a, Stm.body, Stm.els, h2] using hv')⟩ (Wvp [_] kg spg J ‹_› J J J J J J J J J) J (Wsub 5 J J J J J J J J J J J J J J J J (Bs 3 J J J J .nil)) hext
    ·replace h2 := Classical.not_not.1 h2
     refine S_condp J (fun h3 => ?_) (fun h3 => ?_) <;> refine Va J J ?_
     ·subst h3
      refine Ds J J J ?_;refine Da J J ?_;refine D_sole 5 J J (N_call 5 Tryz.call115 (c_l3AheadS y rest _ _ _ hy (Sts_le (PH.le.refl _) hrest) (by (try simp only [List.length_append, List.length_singleton, List.length_nil]); omega)) rfl rfl rfl rfl rfl rfl rfl rfl rfl rfl ?_)
      rintro v' G' hv' hext
      replace hv' := hv' hext.le
      obtain ⟨A', c', rfl, _⟩ := id hv'
      refine Da J J ?_;refine Ns 8 J J J J J J J J J ?_;refine DD ?_;refine Va J J ?_;exact RK (wKeys 1) (Res.c1 Tk Tryz.results101 J J) ⟨_, _, J, J, Tds_upd (PH.le.trans (PH.le.refl _) hext.le) _ hw ht (by simpa [goesL, Wld.reg, Prc.get, Stm.kind, Stm.a, Stm.body, Stm.els, h2] using hv')⟩ (Wvp [_] kg spg J ‹_› J J J J J J J J J) J (Wsub 5 J J J J J J J J J J J J J J J J (Bs 3 J J J J .nil)) hext
     ·refine Ds J J J ?_
      refine Da J J ?_;refine D_sole 5 J J (N_call 5 Tryz.call115 (c_l3AheadS [] rest _ _ _ (Sx_Sr (n:=0) (xs:=[]) ⟨_,_,J,by omega,by omega,by simp [maxLen],J,(.inl J)⟩ J J) (Sts_le (PH.le.refl _) hrest) (by (try simp only [List.length_append, List.length_singleton, List.length_nil]); omega)) rfl rfl rfl rfl rfl rfl rfl rfl rfl rfl ?_)
      rintro v' G' hv' hext
      replace hv' := hv' hext.le
      obtain ⟨A', c', rfl, _⟩ := id hv'
      refine Da J J ?_;refine Ns 8 J J J J J J J J J ?_;refine DD ?_;refine Va J J ?_;exact RK (wKeys 1) (Res.c1 Tk Tryz.results101 J J) ⟨_, _, J, J, Tds_upd (PH.le.trans (PH.le.refl _) hext.le) _ hw ht (by simpa [goesL, Wld.reg, Prc.get, Stm.kind, Stm.a, Stm.body, Stm.els, h2, h3] using hv')⟩ (Wvp [_] kg spg J ‹_› J J J J J J J J J) J (Wsub 5 J J J J J J J J J J J J J J J J (Bs 3 J J J J .nil)) hext
 ·rcases (by simp at hw; omega : who = 0 ∨ who = 1) with rfl | rfl
  ·refine OvV 1 0 J J J J fun bp bc br bs bg kp sp asd ksd aq0 kq0 aq1 kq1 kc spc kr spr ks sps kg spg hbg hmk hce => ?_; subst hce; obtain ⟨g0, g1, rfl⟩ := len2 hbg; clear hbg; refine NM J J ?_; dsimp only [wEnts, wCels, procCs, regEs, WX.of, vi]
   refine Va J J ?_;refine S_box J J J J J fun b4 => ?_;refine Va J J ?_;refine S_box J J J J J fun b6 => ?_;refine Va J J ?_;refine AZ ZT_ok J J J J fun b8 => ?_;refine Va J J ?_
   rcases ha with rfl | rfl | rfl <;>
   ·refine Ds J J J ?_
    refine Da J J ?_;refine DD ?_;refine Va J J ?_;refine S_emptyO Tk 22 J J J J fun A22 => ?_;refine Va J J ?_
    refine S_cond J (fun h => ?_) (fun h => ?_) <;> refine Va J J ?_
    ·simp only [Bool.and_eq_true, decide_eq_true_eq] at h
     obtain ⟨h, rfl⟩ := h
     refine S_slice Tk ZT_ok J J J J (by decide) (by decide) J J J J fun b33 => ?_;refine Va J J ?_;refine S_lendB 33 J J J J fun hG hb => ?_;refine S_call Tryz.call115 (c_l3Ahead _ _ x.length 1 xs [.int .i64 7, .int .i64 _, .int .i64 bb, .int .i64 n, .slice Ax x.length cx, .slice Ay y.length cy] _ (Sx_le (le_add hG) hxs) ⟨_, _, J, by omega, by omega, by simp [maxLen], J, .inr ⟨_, J, gcells_own⟩⟩ (Cs_one Stm.rep_one hcs) one6 (by omega)) J J J ?_
     rintro v1 G3 hv1 hext3
     refine S_backB 33 [.v (.int .i64 7), .v (.int .i64 _), .v (.int .i64 bb), .v (.int .i64 n), .v (.slice Ax x.length cx), .v (.slice Ay y.length cy)] (hext3.le _ _ (PH.add_self _ _ _)) J J hb ?_
     have hle := le_del hext3.le hG
     have hv2 : Sts (G3.del b33) (x ++ [.mk 7 _ bb n x y]) v1 := ahead_Sts hv1 (Cs_mono (Stm.reps_le hle x) hcs) ⟨_, [], by simp, rfl, Stm.rep_le hle _ _ hs1, rfl⟩ newp_add_le
     obtain ⟨A1, c1, rfl, _⟩ := id hv2
     have hext1 := PH.ext.del hG hext3
     refine Va J J ?_;refine Ds J J J ?_;refine Da J J ?_;refine D_sole 5 J J (N_call 5 Tryz.call115 (c_l3AheadS (x++[_]) rest _ _ _ hv2 (Sts_le hle hrest) (by (try simp only [List.length_append, List.length_singleton, List.length_nil]); omega)) rfl rfl rfl rfl rfl rfl rfl rfl rfl rfl ?_)
     rintro v' G' hv' hext
     replace hv' := hv' hext.le
     obtain ⟨A', c', rfl, _⟩ := id hv'
     refine Da J J ?_;refine Ns 8 J J J J J J J J J ?_;refine DD ?_;refine Va J J ?_;exact RK (wKeys 2) (Res.c1 Tk Tryz.results101 J J) ⟨_, _, J, J, Tds_upd (PH.le.trans hle hext.le) _ hw ht (by simpa [goesL, Wld.reg, Prc.get, Stm.kind, Stm.a, Stm.body, Stm.els, h] using hv')⟩ (Wvp [_, _] kg spg J ‹_› J J J J J J J J J) J (Wsub 10 J J J J J J J J J J J J J J J J (Bs 3 J J J J (Bs 3 J J J J .nil))) (hext1.trans hext)
    ·refine S_condp J (fun h2 => ?_) (fun h2 => ?_) <;> refine Va J J ?_
     ·obtain rfl : kk = 6 := by
       rcases hk with rfl | rfl
       ·rfl
       ·simp [h2] at h
      refine Ds J J J ?_;refine Da J J ?_;refine D_sole 5 J J (N_call 5 Tryz.call115 (c_l3AheadS x rest _ _ _ hx (Sts_le (PH.le.refl _) hrest) (by (try simp only [List.length_append, List.length_singleton, List.length_nil]); omega)) rfl rfl rfl rfl rfl rfl rfl rfl rfl rfl ?_)
      rintro v' G' hv' hext
      replace hv' := hv' hext.le
      obtain ⟨A', c', rfl, _⟩ := id hv'
      refine Da J J ?_;refine Ns 8 J J J J J J J J J ?_;refine DD ?_;refine Va J J ?_;exact RK (wKeys 2) (Res.c1 Tk Tryz.results101 J J) ⟨_, _, J, J, Tds_upd (PH.le.trans (PH.le.refl _) hext.le) _ hw ht (by simpa [goesL, Wld.reg, Prc.get, Stm.kind, Stm.a, Stm.body, Stm.els, h2] using hv')⟩ (Wvp [_, _] kg spg J ‹_› J J J J J J J J J) J (Wsub 10 J J J J J J J J J J J J J J J J (Bs 3 J J J J (Bs 3 J J J J .nil))) hext
     ·replace h2 := Classical.not_not.1 h2
      refine S_condp J (fun h3 => ?_) (fun h3 => ?_) <;> refine Va J J ?_
      ·subst h3
       refine Ds J J J ?_;refine Da J J ?_;refine D_sole 5 J J (N_call 5 Tryz.call115 (c_l3AheadS y rest _ _ _ hy (Sts_le (PH.le.refl _) hrest) (by (try simp only [List.length_append, List.length_singleton, List.length_nil]); omega)) rfl rfl rfl rfl rfl rfl rfl rfl rfl rfl ?_)
       rintro v' G' hv' hext
       replace hv' := hv' hext.le
       obtain ⟨A', c', rfl, _⟩ := id hv'
       refine Da J J ?_;refine Ns 8 J J J J J J J J J ?_;refine DD ?_;refine Va J J ?_;exact RK (wKeys 2) (Res.c1 Tk Tryz.results101 J J) ⟨_, _, J, J, Tds_upd (PH.le.trans (PH.le.refl _) hext.le) _ hw ht (by simpa [goesL, Wld.reg, Prc.get, Stm.kind, Stm.a, Stm.body, Stm.els, h2] using hv')⟩ (Wvp [_, _] kg spg J ‹_› J J J J J J J J J) J (Wsub 10 J J J J J J J J J J J J J J J J (Bs 3 J J J J (Bs 3 J J J J .nil))) hext
      ·refine Ds J J J ?_
       refine Da J J ?_;refine D_sole 5 J J (N_call 5 Tryz.call115 (c_l3AheadS [] rest _ _ _ (Sx_Sr (n:=0) (xs:=[]) ⟨_,_,J,by omega,by omega,by simp [maxLen],J,(.inl J)⟩ J J) (Sts_le (PH.le.refl _) hrest) (by (try simp only [List.length_append, List.length_singleton, List.length_nil]); omega)) rfl rfl rfl rfl rfl rfl rfl rfl rfl rfl ?_)
       rintro v' G' hv' hext
       replace hv' := hv' hext.le
       obtain ⟨A', c', rfl, _⟩ := id hv'
       refine Da J J ?_;refine Ns 8 J J J J J J J J J ?_;refine DD ?_;refine Va J J ?_;exact RK (wKeys 2) (Res.c1 Tk Tryz.results101 J J) ⟨_, _, J, J, Tds_upd (PH.le.trans (PH.le.refl _) hext.le) _ hw ht (by simpa [goesL, Wld.reg, Prc.get, Stm.kind, Stm.a, Stm.body, Stm.els, h2, h3] using hv')⟩ (Wvp [_, _] kg spg J ‹_› J J J J J J J J J) J (Wsub 10 J J J J J J J J J J J J J J J J (Bs 3 J J J J (Bs 3 J J J J .nil))) hext
  ·refine OvV 1 0 J J J J fun bp bc br bs bg kp sp asd ksd aq0 kq0 aq1 kq1 kc spc kr spr ks sps kg spg hbg hmk hce => ?_; subst hce; obtain ⟨g0, g1, rfl⟩ := len2 hbg; clear hbg; refine NM J J ?_; dsimp only [wEnts, wCels, procCs, regEs, WX.of, vi]
   refine Va J J ?_;refine S_box J J J J J fun b4 => ?_;refine Va J J ?_;refine S_box J J J J J fun b6 => ?_;refine Va J J ?_;refine AZ ZT_ok J J J J fun b8 => ?_;refine Va J J ?_
   rcases ha with rfl | rfl | rfl <;>
   ·refine Ds J J J ?_
    refine Da J J ?_;refine DD ?_;refine Va J J ?_;refine S_emptyO Tk 22 J J J J fun A22 => ?_;refine Va J J ?_
    refine S_cond J (fun h => ?_) (fun h => ?_) <;> refine Va J J ?_
    ·simp only [Bool.and_eq_true, decide_eq_true_eq] at h
     obtain ⟨h, rfl⟩ := h
     refine S_slice Tk ZT_ok J J J J (by decide) (by decide) J J J J fun b33 => ?_;refine Va J J ?_;refine S_lendB 33 J J J J fun hG hb => ?_;refine S_call Tryz.call115 (c_l3Ahead _ _ x.length 1 xs [.int .i64 7, .int .i64 _, .int .i64 bb, .int .i64 n, .slice Ax x.length cx, .slice Ay y.length cy] _ (Sx_le (le_add hG) hxs) ⟨_, _, J, by omega, by omega, by simp [maxLen], J, .inr ⟨_, J, gcells_own⟩⟩ (Cs_one Stm.rep_one hcs) one6 (by omega)) J J J ?_
     rintro v1 G3 hv1 hext3
     refine S_backB 33 [.v (.int .i64 7), .v (.int .i64 _), .v (.int .i64 bb), .v (.int .i64 n), .v (.slice Ax x.length cx), .v (.slice Ay y.length cy)] (hext3.le _ _ (PH.add_self _ _ _)) J J hb ?_
     have hle := le_del hext3.le hG
     have hv2 : Sts (G3.del b33) (x ++ [.mk 7 _ bb n x y]) v1 := ahead_Sts hv1 (Cs_mono (Stm.reps_le hle x) hcs) ⟨_, [], by simp, rfl, Stm.rep_le hle _ _ hs1, rfl⟩ newp_add_le
     obtain ⟨A1, c1, rfl, _⟩ := id hv2
     have hext1 := PH.ext.del hG hext3
     refine Va J J ?_;refine Ds J J J ?_;refine Da J J ?_;refine D_sole 5 J J (N_call 5 Tryz.call115 (c_l3AheadS (x++[_]) rest _ _ _ hv2 (Sts_le hle hrest) (by (try simp only [List.length_append, List.length_singleton, List.length_nil]); omega)) rfl rfl rfl rfl rfl rfl rfl rfl rfl rfl ?_)
     rintro v' G' hv' hext
     replace hv' := hv' hext.le
     obtain ⟨A', c', rfl, _⟩ := id hv'
     refine Da J J ?_;refine Ns 8 J J J J J J J J J ?_;refine DD ?_;refine Va J J ?_;exact RK (wKeys 2) (Res.c1 Tk Tryz.results101 J J) ⟨_, _, J, J, Tds_upd (PH.le.trans hle hext.le) _ hw ht (by simpa [goesL, Wld.reg, Prc.get, Stm.kind, Stm.a, Stm.body, Stm.els, h] using hv')⟩ (Wvp [_, _] kg spg J ‹_› J J J J J J J J J) J (Wsub 10 J J J J J J J J J J J J J J J J (Bs 3 J J J J (Bs 3 J J J J .nil))) (hext1.trans hext)
    ·refine S_condp J (fun h2 => ?_) (fun h2 => ?_) <;> refine Va J J ?_
     ·obtain rfl : kk = 6 := by
       rcases hk with rfl | rfl
       ·rfl
       ·simp [h2] at h
      refine Ds J J J ?_;refine Da J J ?_;refine D_sole 5 J J (N_call 5 Tryz.call115 (c_l3AheadS x rest _ _ _ hx (Sts_le (PH.le.refl _) hrest) (by (try simp only [List.length_append, List.length_singleton, List.length_nil]); omega)) rfl rfl rfl rfl rfl rfl rfl rfl rfl rfl ?_)
      rintro v' G' hv' hext
      replace hv' := hv' hext.le
      obtain ⟨A', c', rfl, _⟩ := id hv'
      refine Da J J ?_;refine Ns 8 J J J J J J J J J ?_;refine DD ?_;refine Va J J ?_;exact RK (wKeys 2) (Res.c1 Tk Tryz.results101 J J) ⟨_, _, J, J, Tds_upd (PH.le.trans (PH.le.refl _) hext.le) _ hw ht (by simpa [goesL, Wld.reg, Prc.get, Stm.kind, Stm.a, Stm.body, Stm.els, h2] using hv')⟩ (Wvp [_, _] kg spg J ‹_› J J J J J J J J J) J (Wsub 10 J J J J J J J J J J J J J J J J (Bs 3 J J J J (Bs 3 J J J J .nil))) hext
     ·replace h2 := Classical.not_not.1 h2
      refine S_condp J (fun h3 => ?_) (fun h3 => ?_) <;> refine Va J J ?_
      ·subst h3
       refine Ds J J J ?_;refine Da J J ?_;refine D_sole 5 J J (N_call 5 Tryz.call115 (c_l3AheadS y rest _ _ _ hy (Sts_le (PH.le.refl _) hrest) (by (try simp only [List.length_append, List.length_singleton, List.length_nil]); omega)) rfl rfl rfl rfl rfl rfl rfl rfl rfl rfl ?_)
       rintro v' G' hv' hext
       replace hv' := hv' hext.le
       obtain ⟨A', c', rfl, _⟩ := id hv'
       refine Da J J ?_;refine Ns 8 J J J J J J J J J ?_;refine DD ?_;refine Va J J ?_;exact RK (wKeys 2) (Res.c1 Tk Tryz.results101 J J) ⟨_, _, J, J, Tds_upd (PH.le.trans (PH.le.refl _) hext.le) _ hw ht (by simpa [goesL, Wld.reg, Prc.get, Stm.kind, Stm.a, Stm.body, Stm.els, h2] using hv')⟩ (Wvp [_, _] kg spg J ‹_› J J J J J J J J J) J (Wsub 10 J J J J J J J J J J J J J J J J (Bs 3 J J J J (Bs 3 J J J J .nil))) hext
      ·refine Ds J J J ?_
       refine Da J J ?_;refine D_sole 5 J J (N_call 5 Tryz.call115 (c_l3AheadS [] rest _ _ _ (Sx_Sr (n:=0) (xs:=[]) ⟨_,_,J,by omega,by omega,by simp [maxLen],J,(.inl J)⟩ J J) (Sts_le (PH.le.refl _) hrest) (by (try simp only [List.length_append, List.length_singleton, List.length_nil]); omega)) rfl rfl rfl rfl rfl rfl rfl rfl rfl rfl ?_)
       rintro v' G' hv' hext
       replace hv' := hv' hext.le
       obtain ⟨A', c', rfl, _⟩ := id hv'
       refine Da J J ?_;refine Ns 8 J J J J J J J J J ?_;refine DD ?_;refine Va J J ?_;exact RK (wKeys 2) (Res.c1 Tk Tryz.results101 J J) ⟨_, _, J, J, Tds_upd (PH.le.trans (PH.le.refl _) hext.le) _ hw ht (by simpa [goesL, Wld.reg, Prc.get, Stm.kind, Stm.a, Stm.body, Stm.els, h2, h3] using hv')⟩ (Wvp [_, _] kg spg J ‹_› J J J J J J J J J) J (Wsub 10 J J J J J J J J J J J J J J J J (Bs 3 J J J J (Bs 3 J J J J .nil))) hext
 ·rcases (by simp at hw; omega : who = 0 ∨ who = 1 ∨ who = 2) with rfl | rfl | rfl
  ·refine OvV 1 0 J J J J fun bp bc br bs bg kp sp asd ksd aq0 kq0 aq1 kq1 kc spc kr spr ks sps kg spg hbg hmk hce => ?_; subst hce; obtain ⟨g0, g1, g2, rfl⟩ := len3 hbg; clear hbg; refine NM J J ?_; dsimp only [wEnts, wCels, procCs, regEs, WX.of, vi]
   refine Va J J ?_;refine S_box J J J J J fun b4 => ?_;refine Va J J ?_;refine S_box J J J J J fun b6 => ?_;refine Va J J ?_;refine AZ ZT_ok J J J J fun b8 => ?_;refine Va J J ?_
   rcases ha with rfl | rfl | rfl <;>
   ·refine Ds J J J ?_
    refine Da J J ?_;refine DD ?_;refine Va J J ?_;refine S_emptyO Tk 22 J J J J fun A22 => ?_;refine Va J J ?_
    refine S_cond J (fun h => ?_) (fun h => ?_) <;> refine Va J J ?_
    ·simp only [Bool.and_eq_true, decide_eq_true_eq] at h
     obtain ⟨h, rfl⟩ := h
     refine S_slice Tk ZT_ok J J J J (by decide) (by decide) J J J J fun b33 => ?_;refine Va J J ?_;refine S_lendB 33 J J J J fun hG hb => ?_;refine S_call Tryz.call115 (c_l3Ahead _ _ x.length 1 xs [.int .i64 7, .int .i64 _, .int .i64 bb, .int .i64 n, .slice Ax x.length cx, .slice Ay y.length cy] _ (Sx_le (le_add hG) hxs) ⟨_, _, J, by omega, by omega, by simp [maxLen], J, .inr ⟨_, J, gcells_own⟩⟩ (Cs_one Stm.rep_one hcs) one6 (by omega)) J J J ?_
     rintro v1 G3 hv1 hext3
     refine S_backB 33 [.v (.int .i64 7), .v (.int .i64 _), .v (.int .i64 bb), .v (.int .i64 n), .v (.slice Ax x.length cx), .v (.slice Ay y.length cy)] (hext3.le _ _ (PH.add_self _ _ _)) J J hb ?_
     have hle := le_del hext3.le hG
     have hv2 : Sts (G3.del b33) (x ++ [.mk 7 _ bb n x y]) v1 := ahead_Sts hv1 (Cs_mono (Stm.reps_le hle x) hcs) ⟨_, [], by simp, rfl, Stm.rep_le hle _ _ hs1, rfl⟩ newp_add_le
     obtain ⟨A1, c1, rfl, _⟩ := id hv2
     have hext1 := PH.ext.del hG hext3
     refine Va J J ?_;refine Ds J J J ?_;refine Da J J ?_;refine D_sole 5 J J (N_call 5 Tryz.call115 (c_l3AheadS (x++[_]) rest _ _ _ hv2 (Sts_le hle hrest) (by (try simp only [List.length_append, List.length_singleton, List.length_nil]); omega)) rfl rfl rfl rfl rfl rfl rfl rfl rfl rfl ?_)
     rintro v' G' hv' hext
     replace hv' := hv' hext.le
     obtain ⟨A', c', rfl, _⟩ := id hv'
     refine Da J J ?_;refine Ns 8 J J J J J J J J J ?_;refine DD ?_;refine Va J J ?_;exact RK (wKeys 3) (Res.c1 Tk Tryz.results101 J J) ⟨_, _, J, J, Tds_upd (PH.le.trans hle hext.le) _ hw ht (by simpa [goesL, Wld.reg, Prc.get, Stm.kind, Stm.a, Stm.body, Stm.els, h] using hv')⟩ (Wvp [_, _, _] kg spg J ‹_› J J J J J J J J J) J (Wsub 15 J J J J J J J J J J J J J J J J (Bs 3 J J J J (Bs 3 J J J J (Bs 3 J J J J .nil)))) (hext1.trans hext)
    ·refine S_condp J (fun h2 => ?_) (fun h2 => ?_) <;> refine Va J J ?_
     ·obtain rfl : kk = 6 := by
       rcases hk with rfl | rfl
       ·rfl
       ·simp [h2] at h
      refine Ds J J J ?_;refine Da J J ?_;refine D_sole 5 J J (N_call 5 Tryz.call115 (c_l3AheadS x rest _ _ _ hx (Sts_le (PH.le.refl _) hrest) (by (try simp only [List.length_append, List.length_singleton, List.length_nil]); omega)) rfl rfl rfl rfl rfl rfl rfl rfl rfl rfl ?_)
      rintro v' G' hv' hext
      replace hv' := hv' hext.le
      obtain ⟨A', c', rfl, _⟩ := id hv'
      refine Da J J ?_;refine Ns 8 J J J J J J J J J ?_;refine DD ?_;refine Va J J ?_;exact RK (wKeys 3) (Res.c1 Tk Tryz.results101 J J) ⟨_, _, J, J, Tds_upd (PH.le.trans (PH.le.refl _) hext.le) _ hw ht (by simpa [goesL, Wld.reg, Prc.get, Stm.kind, Stm.a, Stm.body, Stm.els, h2] using hv')⟩ (Wvp [_, _, _] kg spg J ‹_› J J J J J J J J J) J (Wsub 15 J J J J J J J J J J J J J J J J (Bs 3 J J J J (Bs 3 J J J J (Bs 3 J J J J .nil)))) hext
     ·replace h2 := Classical.not_not.1 h2
      refine S_condp J (fun h3 => ?_) (fun h3 => ?_) <;> refine Va J J ?_
      ·subst h3
       refine Ds J J J ?_;refine Da J J ?_;refine D_sole 5 J J (N_call 5 Tryz.call115 (c_l3AheadS y rest _ _ _ hy (Sts_le (PH.le.refl _) hrest) (by (try simp only [List.length_append, List.length_singleton, List.length_nil]); omega)) rfl rfl rfl rfl rfl rfl rfl rfl rfl rfl ?_)
       rintro v' G' hv' hext
       replace hv' := hv' hext.le
       obtain ⟨A', c', rfl, _⟩ := id hv'
       refine Da J J ?_;refine Ns 8 J J J J J J J J J ?_;refine DD ?_;refine Va J J ?_;exact RK (wKeys 3) (Res.c1 Tk Tryz.results101 J J) ⟨_, _, J, J, Tds_upd (PH.le.trans (PH.le.refl _) hext.le) _ hw ht (by simpa [goesL, Wld.reg, Prc.get, Stm.kind, Stm.a, Stm.body, Stm.els, h2] using hv')⟩ (Wvp [_, _, _] kg spg J ‹_› J J J J J J J J J) J (Wsub 15 J J J J J J J J J J J J J J J J (Bs 3 J J J J (Bs 3 J J J J (Bs 3 J J J J .nil)))) hext
      ·refine Ds J J J ?_
       refine Da J J ?_;refine D_sole 5 J J (N_call 5 Tryz.call115 (c_l3AheadS [] rest _ _ _ (Sx_Sr (n:=0) (xs:=[]) ⟨_,_,J,by omega,by omega,by simp [maxLen],J,(.inl J)⟩ J J) (Sts_le (PH.le.refl _) hrest) (by (try simp only [List.length_append, List.length_singleton, List.length_nil]); omega)) rfl rfl rfl rfl rfl rfl rfl rfl rfl rfl ?_)
       rintro v' G' hv' hext
       replace hv' := hv' hext.le
       obtain ⟨A', c', rfl, _⟩ := id hv'
       refine Da J J ?_;refine Ns 8 J J J J J J J J J ?_;refine DD ?_;refine Va J J ?_;exact RK (wKeys 3) (Res.c1 Tk Tryz.results101 J J) ⟨_, _, J, J, Tds_upd (PH.le.trans (PH.le.refl _) hext.le) _ hw ht (by simpa [goesL, Wld.reg, Prc.get, Stm.kind, Stm.a, Stm.body, Stm.els, h2, h3] using hv')⟩ (Wvp [_, _, _] kg spg J ‹_› J J J J J J J J J) J (Wsub 15 J J J J J J J J J J J J J J J J (Bs 3 J J J J (Bs 3 J J J J (Bs 3 J J J J .nil)))) hext
  ·refine OvV 1 0 J J J J fun bp bc br bs bg kp sp asd ksd aq0 kq0 aq1 kq1 kc spc kr spr ks sps kg spg hbg hmk hce => ?_; subst hce; obtain ⟨g0, g1, g2, rfl⟩ := len3 hbg; clear hbg; refine NM J J ?_; dsimp only [wEnts, wCels, procCs, regEs, WX.of, vi]
   refine Va J J ?_;refine S_box J J J J J fun b4 => ?_;refine Va J J ?_;refine S_box J J J J J fun b6 => ?_;refine Va J J ?_;refine AZ ZT_ok J J J J fun b8 => ?_;refine Va J J ?_
   rcases ha with rfl | rfl | rfl <;>
   ·refine Ds J J J ?_
    refine Da J J ?_;refine DD ?_;refine Va J J ?_;refine S_emptyO Tk 22 J J J J fun A22 => ?_;refine Va J J ?_
    refine S_cond J (fun h => ?_) (fun h => ?_) <;> refine Va J J ?_
    ·simp only [Bool.and_eq_true, decide_eq_true_eq] at h
     obtain ⟨h, rfl⟩ := h
     refine S_slice Tk ZT_ok J J J J (by decide) (by decide) J J J J fun b33 => ?_;refine Va J J ?_;refine S_lendB 33 J J J J fun hG hb => ?_;refine S_call Tryz.call115 (c_l3Ahead _ _ x.length 1 xs [.int .i64 7, .int .i64 _, .int .i64 bb, .int .i64 n, .slice Ax x.length cx, .slice Ay y.length cy] _ (Sx_le (le_add hG) hxs) ⟨_, _, J, by omega, by omega, by simp [maxLen], J, .inr ⟨_, J, gcells_own⟩⟩ (Cs_one Stm.rep_one hcs) one6 (by omega)) J J J ?_
     rintro v1 G3 hv1 hext3
     refine S_backB 33 [.v (.int .i64 7), .v (.int .i64 _), .v (.int .i64 bb), .v (.int .i64 n), .v (.slice Ax x.length cx), .v (.slice Ay y.length cy)] (hext3.le _ _ (PH.add_self _ _ _)) J J hb ?_
     have hle := le_del hext3.le hG
     have hv2 : Sts (G3.del b33) (x ++ [.mk 7 _ bb n x y]) v1 := ahead_Sts hv1 (Cs_mono (Stm.reps_le hle x) hcs) ⟨_, [], by simp, rfl, Stm.rep_le hle _ _ hs1, rfl⟩ newp_add_le
     obtain ⟨A1, c1, rfl, _⟩ := id hv2
     have hext1 := PH.ext.del hG hext3
     refine Va J J ?_;refine Ds J J J ?_;refine Da J J ?_;refine D_sole 5 J J (N_call 5 Tryz.call115 (c_l3AheadS (x++[_]) rest _ _ _ hv2 (Sts_le hle hrest) (by (try simp only [List.length_append, List.length_singleton, List.length_nil]); omega)) rfl rfl rfl rfl rfl rfl rfl rfl rfl rfl ?_)
     rintro v' G' hv' hext
     replace hv' := hv' hext.le
     obtain ⟨A', c', rfl, _⟩ := id hv'
     refine Da J J ?_;refine Ns 8 J J J J J J J J J ?_;refine DD ?_;refine Va J J ?_;exact RK (wKeys 3) (Res.c1 Tk Tryz.results101 J J) ⟨_, _, J, J, Tds_upd (PH.le.trans hle hext.le) _ hw ht (by simpa [goesL, Wld.reg, Prc.get, Stm.kind, Stm.a, Stm.body, Stm.els, h] using hv')⟩ (Wvp [_, _, _] kg spg J ‹_› J J J J J J J J J) J (Wsub 15 J J J J J J J J J J J J J J J J (Bs 3 J J J J (Bs 3 J J J J (Bs 3 J J J J .nil)))) (hext1.trans hext)
    ·refine S_condp J (fun h2 => ?_) (fun h2 => ?_) <;> refine Va J J ?_
     ·obtain rfl : kk = 6 := by
       rcases hk with rfl | rfl
       ·rfl
       ·simp [h2] at h
      refine Ds J J J ?_;refine Da J J ?_;refine D_sole 5 J J (N_call 5 Tryz.call115 (c_l3AheadS x rest _ _ _ hx (Sts_le (PH.le.refl _) hrest) (by (try simp only [List.length_append, List.length_singleton, List.length_nil]); omega)) rfl rfl rfl rfl rfl rfl rfl rfl rfl rfl ?_)
      rintro v' G' hv' hext
      replace hv' := hv' hext.le
      obtain ⟨A', c', rfl, _⟩ := id hv'
      refine Da J J ?_;refine Ns 8 J J J J J J J J J ?_;refine DD ?_;refine Va J J ?_;exact RK (wKeys 3) (Res.c1 Tk Tryz.results101 J J) ⟨_, _, J, J, Tds_upd (PH.le.trans (PH.le.refl _) hext.le) _ hw ht (by simpa [goesL, Wld.reg, Prc.get, Stm.kind, Stm.a, Stm.body, Stm.els, h2] using hv')⟩ (Wvp [_, _, _] kg spg J ‹_› J J J J J J J J J) J (Wsub 15 J J J J J J J J J J J J J J J J (Bs 3 J J J J (Bs 3 J J J J (Bs 3 J J J J .nil)))) hext
     ·replace h2 := Classical.not_not.1 h2
      refine S_condp J (fun h3 => ?_) (fun h3 => ?_) <;> refine Va J J ?_
      ·subst h3
       refine Ds J J J ?_;refine Da J J ?_;refine D_sole 5 J J (N_call 5 Tryz.call115 (c_l3AheadS y rest _ _ _ hy (Sts_le (PH.le.refl _) hrest) (by (try simp only [List.length_append, List.length_singleton, List.length_nil]); omega)) rfl rfl rfl rfl rfl rfl rfl rfl rfl rfl ?_)
       rintro v' G' hv' hext
       replace hv' := hv' hext.le
       obtain ⟨A', c', rfl, _⟩ := id hv'
       refine Da J J ?_;refine Ns 8 J J J J J J J J J ?_;refine DD ?_;refine Va J J ?_;exact RK (wKeys 3) (Res.c1 Tk Tryz.results101 J J) ⟨_, _, J, J, Tds_upd (PH.le.trans (PH.le.refl _) hext.le) _ hw ht (by simpa [goesL, Wld.reg, Prc.get, Stm.kind, Stm.a, Stm.body, Stm.els, h2] using hv')⟩ (Wvp [_, _, _] kg spg J ‹_› J J J J J J J J J) J (Wsub 15 J J J J J J J J J J J J J J J J (Bs 3 J J J J (Bs 3 J J J J (Bs 3 J J J J .nil)))) hext
      ·refine Ds J J J ?_
       refine Da J J ?_;refine D_sole 5 J J (N_call 5 Tryz.call115 (c_l3AheadS [] rest _ _ _ (Sx_Sr (n:=0) (xs:=[]) ⟨_,_,J,by omega,by omega,by simp [maxLen],J,(.inl J)⟩ J J) (Sts_le (PH.le.refl _) hrest) (by (try simp only [List.length_append, List.length_singleton, List.length_nil]); omega)) rfl rfl rfl rfl rfl rfl rfl rfl rfl rfl ?_)
       rintro v' G' hv' hext
       replace hv' := hv' hext.le
       obtain ⟨A', c', rfl, _⟩ := id hv'
       refine Da J J ?_;refine Ns 8 J J J J J J J J J ?_;refine DD ?_;refine Va J J ?_;exact RK (wKeys 3) (Res.c1 Tk Tryz.results101 J J) ⟨_, _, J, J, Tds_upd (PH.le.trans (PH.le.refl _) hext.le) _ hw ht (by simpa [goesL, Wld.reg, Prc.get, Stm.kind, Stm.a, Stm.body, Stm.els, h2, h3] using hv')⟩ (Wvp [_, _, _] kg spg J ‹_› J J J J J J J J J) J (Wsub 15 J J J J J J J J J J J J J J J J (Bs 3 J J J J (Bs 3 J J J J (Bs 3 J J J J .nil)))) hext
  ·refine OvV 1 0 J J J J fun bp bc br bs bg kp sp asd ksd aq0 kq0 aq1 kq1 kc spc kr spr ks sps kg spg hbg hmk hce => ?_; subst hce; obtain ⟨g0, g1, g2, rfl⟩ := len3 hbg; clear hbg; refine NM J J ?_; dsimp only [wEnts, wCels, procCs, regEs, WX.of, vi]
   refine Va J J ?_;refine S_box J J J J J fun b4 => ?_;refine Va J J ?_;refine S_box J J J J J fun b6 => ?_;refine Va J J ?_;refine AZ ZT_ok J J J J fun b8 => ?_;refine Va J J ?_
   rcases ha with rfl | rfl | rfl <;>
   ·refine Ds J J J ?_
    refine Da J J ?_;refine DD ?_;refine Va J J ?_;refine S_emptyO Tk 22 J J J J fun A22 => ?_;refine Va J J ?_
    refine S_cond J (fun h => ?_) (fun h => ?_) <;> refine Va J J ?_
    ·simp only [Bool.and_eq_true, decide_eq_true_eq] at h
     obtain ⟨h, rfl⟩ := h
     refine S_slice Tk ZT_ok J J J J (by decide) (by decide) J J J J fun b33 => ?_;refine Va J J ?_;refine S_lendB 33 J J J J fun hG hb => ?_;refine S_call Tryz.call115 (c_l3Ahead _ _ x.length 1 xs [.int .i64 7, .int .i64 _, .int .i64 bb, .int .i64 n, .slice Ax x.length cx, .slice Ay y.length cy] _ (Sx_le (le_add hG) hxs) ⟨_, _, J, by omega, by omega, by simp [maxLen], J, .inr ⟨_, J, gcells_own⟩⟩ (Cs_one Stm.rep_one hcs) one6 (by omega)) J J J ?_
     rintro v1 G3 hv1 hext3
     refine S_backB 33 [.v (.int .i64 7), .v (.int .i64 _), .v (.int .i64 bb), .v (.int .i64 n), .v (.slice Ax x.length cx), .v (.slice Ay y.length cy)] (hext3.le _ _ (PH.add_self _ _ _)) J J hb ?_
     have hle := le_del hext3.le hG
     have hv2 : Sts (G3.del b33) (x ++ [.mk 7 _ bb n x y]) v1 := ahead_Sts hv1 (Cs_mono (Stm.reps_le hle x) hcs) ⟨_, [], by simp, rfl, Stm.rep_le hle _ _ hs1, rfl⟩ newp_add_le
     obtain ⟨A1, c1, rfl, _⟩ := id hv2
     have hext1 := PH.ext.del hG hext3
     refine Va J J ?_;refine Ds J J J ?_;refine Da J J ?_;refine D_sole 5 J J (N_call 5 Tryz.call115 (c_l3AheadS (x++[_]) rest _ _ _ hv2 (Sts_le hle hrest) (by (try simp only [List.length_append, List.length_singleton, List.length_nil]); omega)) rfl rfl rfl rfl rfl rfl rfl rfl rfl rfl ?_)
     rintro v' G' hv' hext
     replace hv' := hv' hext.le
     obtain ⟨A', c', rfl, _⟩ := id hv'
     refine Da J J ?_;refine Ns 8 J J J J J J J J J ?_;refine DD ?_;refine Va J J ?_;exact RK (wKeys 3) (Res.c1 Tk Tryz.results101 J J) ⟨_, _, J, J, Tds_upd (PH.le.trans hle hext.le) _ hw ht (by simpa [goesL, Wld.reg, Prc.get, Stm.kind, Stm.a, Stm.body, Stm.els, h] using hv')⟩ (Wvp [_, _, _] kg spg J ‹_› J J J J J J J J J) J (Wsub 15 J J J J J J J J J J J J J J J J (Bs 3 J J J J (Bs 3 J J J J (Bs 3 J J J J .nil)))) (hext1.trans hext)
    ·refine S_condp J (fun h2 => ?_) (fun h2 => ?_) <;> refine Va J J ?_
     ·obtain rfl : kk = 6 := by
       rcases hk with rfl | rfl
       ·rfl
       ·simp [h2] at h
      refine Ds J J J ?_;refine Da J J ?_;refine D_sole 5 J J (N_call 5 Tryz.call115 (c_l3AheadS x rest _ _ _ hx (Sts_le (PH.le.refl _) hrest) (by (try simp only [List.length_append, List.length_singleton, List.length_nil]); omega)) rfl rfl rfl rfl rfl rfl rfl rfl rfl rfl ?_)
      rintro v' G' hv' hext
      replace hv' := hv' hext.le
      obtain ⟨A', c', rfl, _⟩ := id hv'
      refine Da J J ?_;refine Ns 8 J J J J J J J J J ?_;refine DD ?_;refine Va J J ?_;exact RK (wKeys 3) (Res.c1 Tk Tryz.results101 J J) ⟨_, _, J, J, Tds_upd (PH.le.trans (PH.le.refl _) hext.le) _ hw ht (by simpa [goesL, Wld.reg, Prc.get, Stm.kind, Stm.a, Stm.body, Stm.els, h2] using hv')⟩ (Wvp [_, _, _] kg spg J ‹_› J J J J J J J J J) J (Wsub 15 J J J J J J J J J J J J J J J J (Bs 3 J J J J (Bs 3 J J J J (Bs 3 J J J J .nil)))) hext
     ·replace h2 := Classical.not_not.1 h2
      refine S_condp J (fun h3 => ?_) (fun h3 => ?_) <;> refine Va J J ?_
      ·subst h3
       refine Ds J J J ?_;refine Da J J ?_;refine D_sole 5 J J (N_call 5 Tryz.call115 (c_l3AheadS y rest _ _ _ hy (Sts_le (PH.le.refl _) hrest) (by (try simp only [List.length_append, List.length_singleton, List.length_nil]); omega)) rfl rfl rfl rfl rfl rfl rfl rfl rfl rfl ?_)
       rintro v' G' hv' hext
       replace hv' := hv' hext.le
       obtain ⟨A', c', rfl, _⟩ := id hv'
       refine Da J J ?_;refine Ns 8 J J J J J J J J J ?_;refine DD ?_;refine Va J J ?_;exact RK (wKeys 3) (Res.c1 Tk Tryz.results101 J J) ⟨_, _, J, J, Tds_upd (PH.le.trans (PH.le.refl _) hext.le) _ hw ht (by simpa [goesL, Wld.reg, Prc.get, Stm.kind, Stm.a, Stm.body, Stm.els, h2] using hv')⟩ (Wvp [_, _, _] kg spg J ‹_› J J J J J J J J J) J (Wsub 15 J J J J J J J J J J J J J J J J (Bs 3 J J J J (Bs 3 J J J J (Bs 3 J J J J .nil)))) hext
      ·refine Ds J J J ?_
       refine Da J J ?_;refine D_sole 5 J J (N_call 5 Tryz.call115 (c_l3AheadS [] rest _ _ _ (Sx_Sr (n:=0) (xs:=[]) ⟨_,_,J,by omega,by omega,by simp [maxLen],J,(.inl J)⟩ J J) (Sts_le (PH.le.refl _) hrest) (by (try simp only [List.length_append, List.length_singleton, List.length_nil]); omega)) rfl rfl rfl rfl rfl rfl rfl rfl rfl rfl ?_)
       rintro v' G' hv' hext
       replace hv' := hv' hext.le
       obtain ⟨A', c', rfl, _⟩ := id hv'
       refine Da J J ?_;refine Ns 8 J J J J J J J J J ?_;refine DD ?_;refine Va J J ?_;exact RK (wKeys 3) (Res.c1 Tk Tryz.results101 J J) ⟨_, _, J, J, Tds_upd (PH.le.trans (PH.le.refl _) hext.le) _ hw ht (by simpa [goesL, Wld.reg, Prc.get, Stm.kind, Stm.a, Stm.body, Stm.els, h2, h3] using hv')⟩ (Wvp [_, _, _] kg spg J ‹_› J J J J J J J J J) J (Wsub 15 J J J J J J J J J J J J J J J J (Bs 3 J J J J (Bs 3 J J J J (Bs 3 J J J J .nil)))) hext
end
section
attribute [local irreducible] X Pure Mod
theorem c_l3Signal (W : Wld) (cs : List Value) (ts : List Value) (G : PH) (h1 : 1 ≤ W.procs.length) (h3 : W.procs.length ≤ 3) (ht : Tds G W.procs ts) (hf0 : ∀ f ∈ W.q0, 0 ≤ f ∧ f < W.procs.length) (hf1 : ∀ f ∈ W.q1, 0 ≤ f ∧ f < W.procs.length) (a : Int) (ha : is2 a) :
  Mod Tryz.prog 116 [.agg cs.toArray, .int .i64 a] G (worldV cs W ts) (VPost (W.signal a)) := by
 refine Mod.intro Tryz.func116 Tryz.ntmps116 J J fun w S => ?_;obtain ⟨ps, x0, x1, x2, m0, m1, q0, q1, sd⟩ := W
 replace hf0 : ∀ f ∈ q0, 0 ≤ f ∧ f < ps.length := hf0
 replace hf1 : ∀ f ∈ q1, 0 ≤ f ∧ f < ps.length := hf1
 rcases shape h1 h3 ht with ⟨⟨a0, a1, a2, td0, mo0, on0, ro0⟩, A0, k0, rfl, rfl, s0⟩ | ⟨⟨a0, a1, a2, td0, mo0, on0, ro0⟩, A0, k0, ⟨b0, b1, b2, td1, mo1, on1, ro1⟩, A1, k1, rfl, rfl, s0, s1⟩ | ⟨⟨a0, a1, a2, td0, mo0, on0, ro0⟩, A0, k0, ⟨b0, b1, b2, td1, mo1, on1, ro1⟩, A1, k1, ⟨d0, d1, d2, td2, mo2, on2, ro2⟩, A2, k2, rfl, rfl, s0, s1, s2⟩
 ·rcases ha with rfl | rfl
  ·rcases hQ : q0 with _ | ⟨f, r⟩
   ·subst hQ
    refine OvV 1 0 J J J J fun bp bc br bs bg kp sp asd ksd aq0 kq0 aq1 kq1 kc spc kr spr ks sps kg spg hbg hmk hce => ?_; subst hce; obtain ⟨g0, rfl⟩ := len1 hbg; clear hbg; refine NM J J ?_; dsimp only [wEnts, wCels, procCs, regEs, WX.of, vi]
    refine Va J J ?_;refine S_box J J J J J fun b2 => ?_;refine Va J J ?_;refine AZ ZT_ok J J J J fun b4 => ?_;refine Va J J ?_;refine RT J J ?_;refine Va J J ?_;exact RK (wKeys 1) (Res.c1 Tk Tryz.results116 J J) ⟨_, _, J, J, signal_tds (W := ⟨_, _, _, _, _, _, _, _, _⟩) _ ht⟩ (Wvp [_] kg spg J ‹_› J J J J J J J J J) J (Wsub 5 J J J J J J J J J J J J J J J J (Bs 3 J J J J .nil)) XR
   ·subst hQ
    have hf := hf0 f (List.mem_cons_self ..)
    refine OvV 1 0 J J J J fun bp bc br bs bg kp sp asd ksd aq0 kq0 aq1 kq1 kc spc kr spr ks sps kg spg hbg hmk hce => ?_; subst hce; obtain ⟨g0, rfl⟩ := len1 hbg; clear hbg; refine NM J J ?_; dsimp only [wEnts, wCels, procCs, regEs, WX.of, vi]
    refine Va J J ?_;refine S_box J J J J J fun b2 => ?_;refine Va J J ?_;refine AZ ZT_ok J J J J fun b4 => ?_;refine Va J J ?_
    refine RF J (by simp <;> omega) ?_
    refine Va J J ?_;refine S_capO 1005 J fun hnc0 _ _ => ?_;refine S_someO 1005 J (by simp at hnc0; omega) fun gq offq hAq => ?_
    subst hAq
    obtain rfl : f = 0 := by simp at hf; omega
    refine S_index Tk J J J J J J (by omega) (by simp) ?_;refine S_valV J J J (V_loadR (o := 0) Tk 1005 J J J J J) ?_;refine Va J J ?_;refine Ds J J J ?_;refine Da J J ?_;refine Nt 8 J J J J J J fun back => ?_;refine S_tailO Tk 1005 J J J J J J (fun _ => J) fun A' => ?_;refine back _ _ _ _ (by kernel_rfl) ?_; clear back
    refine Da J J ?_;refine Ns 10 J J J J J J J J J ?_;refine DD ?_;refine Va J J ?_;exact RK (wKeys 1) (Res.c1 Tk Tryz.results116 J J) ⟨_, _, J, J, signal_tds (W := ⟨_, _, _, _, _, _, _, _, _⟩) _ ht⟩ (Wvp [_] kg spg J ‹_› J J J J J J J J J) J (Wsub 5 J J J J J J J J J J J J J J J J (Bs 3 J J J J .nil)) XR
  ·rcases hQ : q1 with _ | ⟨f, r⟩
   ·subst hQ
    refine OvV 1 0 J J J J fun bp bc br bs bg kp sp asd ksd aq0 kq0 aq1 kq1 kc spc kr spr ks sps kg spg hbg hmk hce => ?_; subst hce; obtain ⟨g0, rfl⟩ := len1 hbg; clear hbg; refine NM J J ?_; dsimp only [wEnts, wCels, procCs, regEs, WX.of, vi]
    refine Va J J ?_;refine S_box J J J J J fun b2 => ?_;refine Va J J ?_;refine AZ ZT_ok J J J J fun b4 => ?_;refine Va J J ?_;refine RT J J ?_;refine Va J J ?_;exact RK (wKeys 1) (Res.c1 Tk Tryz.results116 J J) ⟨_, _, J, J, signal_tds (W := ⟨_, _, _, _, _, _, _, _, _⟩) _ ht⟩ (Wvp [_] kg spg J ‹_› J J J J J J J J J) J (Wsub 5 J J J J J J J J J J J J J J J J (Bs 3 J J J J .nil)) XR
   ·subst hQ
    have hf := hf1 f (List.mem_cons_self ..)
    refine OvV 1 0 J J J J fun bp bc br bs bg kp sp asd ksd aq0 kq0 aq1 kq1 kc spc kr spr ks sps kg spg hbg hmk hce => ?_; subst hce; obtain ⟨g0, rfl⟩ := len1 hbg; clear hbg; refine NM J J ?_; dsimp only [wEnts, wCels, procCs, regEs, WX.of, vi]
    refine Va J J ?_;refine S_box J J J J J fun b2 => ?_;refine Va J J ?_;refine AZ ZT_ok J J J J fun b4 => ?_;refine Va J J ?_
    refine RF J (by simp <;> omega) ?_
    refine Va J J ?_;refine S_capO 1006 J fun hnc0 _ _ => ?_;refine S_someO 1006 J (by simp at hnc0; omega) fun gq offq hAq => ?_
    subst hAq
    obtain rfl : f = 0 := by simp at hf; omega
    refine S_index Tk J J J J J J (by omega) (by simp) ?_;refine S_valV J J J (V_loadR (o := 0) Tk 1006 J J J J J) ?_;refine Va J J ?_;refine Ds J J J ?_;refine Da J J ?_;refine Nt 8 J J J J J J fun back => ?_;refine S_tailO Tk 1006 J J J J J J (fun _ => J) fun A' => ?_;refine back _ _ _ _ (by kernel_rfl) ?_; clear back
    refine Da J J ?_;refine Ns 10 J J J J J J J J J ?_;refine DD ?_;refine Va J J ?_;exact RK (wKeys 1) (Res.c1 Tk Tryz.results116 J J) ⟨_, _, J, J, signal_tds (W := ⟨_, _, _, _, _, _, _, _, _⟩) _ ht⟩ (Wvp [_] kg spg J ‹_› J J J J J J J J J) J (Wsub 5 J J J J J J J J J J J J J J J J (Bs 3 J J J J .nil)) XR
 ·rcases ha with rfl | rfl
  ·rcases hQ : q0 with _ | ⟨f, r⟩
   ·subst hQ
    refine OvV 1 0 J J J J fun bp bc br bs bg kp sp asd ksd aq0 kq0 aq1 kq1 kc spc kr spr ks sps kg spg hbg hmk hce => ?_; subst hce; obtain ⟨g0, g1, rfl⟩ := len2 hbg; clear hbg; refine NM J J ?_; dsimp only [wEnts, wCels, procCs, regEs, WX.of, vi]
    refine Va J J ?_;refine S_box J J J J J fun b2 => ?_;refine Va J J ?_;refine AZ ZT_ok J J J J fun b4 => ?_;refine Va J J ?_;refine RT J J ?_;refine Va J J ?_;exact RK (wKeys 2) (Res.c1 Tk Tryz.results116 J J) ⟨_, _, J, J, signal_tds (W := ⟨_, _, _, _, _, _, _, _, _⟩) _ ht⟩ (Wvp [_, _] kg spg J ‹_› J J J J J J J J J) J (Wsub 10 J J J J J J J J J J J J J J J J (Bs 3 J J J J (Bs 3 J J J J .nil))) XR
   ·subst hQ
    have hf := hf0 f (List.mem_cons_self ..)
    refine OvV 1 0 J J J J fun bp bc br bs bg kp sp asd ksd aq0 kq0 aq1 kq1 kc spc kr spr ks sps kg spg hbg hmk hce => ?_; subst hce; obtain ⟨g0, g1, rfl⟩ := len2 hbg; clear hbg; refine NM J J ?_; dsimp only [wEnts, wCels, procCs, regEs, WX.of, vi]
    refine Va J J ?_;refine S_box J J J J J fun b2 => ?_;refine Va J J ?_;refine AZ ZT_ok J J J J fun b4 => ?_;refine Va J J ?_
    refine RF J (by simp <;> omega) ?_
    refine Va J J ?_;refine S_capO 1005 J fun hnc0 _ _ => ?_;refine S_someO 1005 J (by simp at hnc0; omega) fun gq offq hAq => ?_
    subst hAq
    rcases (by simp at hf; omega : f = 0 ∨ f = 1) with rfl | rfl
    ·refine S_index Tk J J J J J J (by omega) (by simp) ?_
     refine S_valV J J J (V_loadR (o := 0) Tk 1005 J J J J J) ?_;refine Va J J ?_;refine Ds J J J ?_;refine Da J J ?_;refine Nt 8 J J J J J J fun back => ?_;refine S_tailO Tk 1005 J J J J J J (fun _ => J) fun A' => ?_;refine back _ _ _ _ (by kernel_rfl) ?_; clear back
     refine Da J J ?_;refine Ns 10 J J J J J J J J J ?_;refine DD ?_;refine Va J J ?_;exact RK (wKeys 2) (Res.c1 Tk Tryz.results116 J J) ⟨_, _, J, J, signal_tds (W := ⟨_, _, _, _, _, _, _, _, _⟩) _ ht⟩ (Wvp [_, _] kg spg J ‹_› J J J J J J J J J) J (Wsub 10 J J J J J J J J J J J J J J J J (Bs 3 J J J J (Bs 3 J J J J .nil))) XR
    ·refine S_index Tk J J J J J J (by omega) (by simp) ?_
     refine S_valV J J J (V_loadR (o := 0) Tk 1005 J J J J J) ?_;refine Va J J ?_;refine Ds J J J ?_;refine Da J J ?_;refine Nt 8 J J J J J J fun back => ?_;refine S_tailO Tk 1005 J J J J J J (fun _ => J) fun A' => ?_;refine back _ _ _ _ (by kernel_rfl) ?_; clear back
     refine Da J J ?_;refine Ns 10 J J J J J J J J J ?_;refine DD ?_;refine Va J J ?_;exact RK (wKeys 2) (Res.c1 Tk Tryz.results116 J J) ⟨_, _, J, J, signal_tds (W := ⟨_, _, _, _, _, _, _, _, _⟩) _ ht⟩ (Wvp [_, _] kg spg J ‹_› J J J J J J J J J) J (Wsub 10 J J J J J J J J J J J J J J J J (Bs 3 J J J J (Bs 3 J J J J .nil))) XR
  ·rcases hQ : q1 with _ | ⟨f, r⟩
   ·subst hQ
    refine OvV 1 0 J J J J fun bp bc br bs bg kp sp asd ksd aq0 kq0 aq1 kq1 kc spc kr spr ks sps kg spg hbg hmk hce => ?_; subst hce; obtain ⟨g0, g1, rfl⟩ := len2 hbg; clear hbg; refine NM J J ?_; dsimp only [wEnts, wCels, procCs, regEs, WX.of, vi]
    refine Va J J ?_;refine S_box J J J J J fun b2 => ?_;refine Va J J ?_;refine AZ ZT_ok J J J J fun b4 => ?_;refine Va J J ?_;refine RT J J ?_;refine Va J J ?_;exact RK (wKeys 2) (Res.c1 Tk Tryz.results116 J J) ⟨_, _, J, J, signal_tds (W := ⟨_, _, _, _, _, _, _, _, _⟩) _ ht⟩ (Wvp [_, _] kg spg J ‹_› J J J J J J J J J) J (Wsub 10 J J J J J J J J J J J J J J J J (Bs 3 J J J J (Bs 3 J J J J .nil))) XR
   ·subst hQ
    have hf := hf1 f (List.mem_cons_self ..)
    refine OvV 1 0 J J J J fun bp bc br bs bg kp sp asd ksd aq0 kq0 aq1 kq1 kc spc kr spr ks sps kg spg hbg hmk hce => ?_; subst hce; obtain ⟨g0, g1, rfl⟩ := len2 hbg; clear hbg; refine NM J J ?_; dsimp only [wEnts, wCels, procCs, regEs, WX.of, vi]
    refine Va J J ?_;refine S_box J J J J J fun b2 => ?_;refine Va J J ?_;refine AZ ZT_ok J J J J fun b4 => ?_;refine Va J J ?_
    refine RF J (by simp <;> omega) ?_
    refine Va J J ?_;refine S_capO 1006 J fun hnc0 _ _ => ?_;refine S_someO 1006 J (by simp at hnc0; omega) fun gq offq hAq => ?_
    subst hAq
    rcases (by simp at hf; omega : f = 0 ∨ f = 1) with rfl | rfl
    ·refine S_index Tk J J J J J J (by omega) (by simp) ?_
     refine S_valV J J J (V_loadR (o := 0) Tk 1006 J J J J J) ?_;refine Va J J ?_;refine Ds J J J ?_;refine Da J J ?_;refine Nt 8 J J J J J J fun back => ?_;refine S_tailO Tk 1006 J J J J J J (fun _ => J) fun A' => ?_;refine back _ _ _ _ (by kernel_rfl) ?_; clear back
     refine Da J J ?_;refine Ns 10 J J J J J J J J J ?_;refine DD ?_;refine Va J J ?_;exact RK (wKeys 2) (Res.c1 Tk Tryz.results116 J J) ⟨_, _, J, J, signal_tds (W := ⟨_, _, _, _, _, _, _, _, _⟩) _ ht⟩ (Wvp [_, _] kg spg J ‹_› J J J J J J J J J) J (Wsub 10 J J J J J J J J J J J J J J J J (Bs 3 J J J J (Bs 3 J J J J .nil))) XR
    ·refine S_index Tk J J J J J J (by omega) (by simp) ?_
     refine S_valV J J J (V_loadR (o := 0) Tk 1006 J J J J J) ?_;refine Va J J ?_;refine Ds J J J ?_;refine Da J J ?_;refine Nt 8 J J J J J J fun back => ?_;refine S_tailO Tk 1006 J J J J J J (fun _ => J) fun A' => ?_;refine back _ _ _ _ (by kernel_rfl) ?_; clear back
     refine Da J J ?_;refine Ns 10 J J J J J J J J J ?_;refine DD ?_;refine Va J J ?_;exact RK (wKeys 2) (Res.c1 Tk Tryz.results116 J J) ⟨_, _, J, J, signal_tds (W := ⟨_, _, _, _, _, _, _, _, _⟩) _ ht⟩ (Wvp [_, _] kg spg J ‹_› J J J J J J J J J) J (Wsub 10 J J J J J J J J J J J J J J J J (Bs 3 J J J J (Bs 3 J J J J .nil))) XR
 ·rcases ha with rfl | rfl
  ·rcases hQ : q0 with _ | ⟨f, r⟩
   ·subst hQ
    refine OvV 1 0 J J J J fun bp bc br bs bg kp sp asd ksd aq0 kq0 aq1 kq1 kc spc kr spr ks sps kg spg hbg hmk hce => ?_; subst hce; obtain ⟨g0, g1, g2, rfl⟩ := len3 hbg; clear hbg; refine NM J J ?_; dsimp only [wEnts, wCels, procCs, regEs, WX.of, vi]
    refine Va J J ?_;refine S_box J J J J J fun b2 => ?_;refine Va J J ?_;refine AZ ZT_ok J J J J fun b4 => ?_;refine Va J J ?_;refine RT J J ?_;refine Va J J ?_;exact RK (wKeys 3) (Res.c1 Tk Tryz.results116 J J) ⟨_, _, J, J, signal_tds (W := ⟨_, _, _, _, _, _, _, _, _⟩) _ ht⟩ (Wvp [_, _, _] kg spg J ‹_› J J J J J J J J J) J (Wsub 15 J J J J J J J J J J J J J J J J (Bs 3 J J J J (Bs 3 J J J J (Bs 3 J J J J .nil)))) XR
   ·subst hQ
    have hf := hf0 f (List.mem_cons_self ..)
    refine OvV 1 0 J J J J fun bp bc br bs bg kp sp asd ksd aq0 kq0 aq1 kq1 kc spc kr spr ks sps kg spg hbg hmk hce => ?_; subst hce; obtain ⟨g0, g1, g2, rfl⟩ := len3 hbg; clear hbg; refine NM J J ?_; dsimp only [wEnts, wCels, procCs, regEs, WX.of, vi]
    refine Va J J ?_;refine S_box J J J J J fun b2 => ?_;refine Va J J ?_;refine AZ ZT_ok J J J J fun b4 => ?_;refine Va J J ?_
    refine RF J (by simp <;> omega) ?_
    refine Va J J ?_;refine S_capO 1005 J fun hnc0 _ _ => ?_;refine S_someO 1005 J (by simp at hnc0; omega) fun gq offq hAq => ?_
    subst hAq
    rcases (by simp at hf; omega : f = 0 ∨ f = 1 ∨ f = 2) with rfl | rfl | rfl
    ·refine S_index Tk J J J J J J (by omega) (by simp) ?_
     refine S_valV J J J (V_loadR (o := 0) Tk 1005 J J J J J) ?_;refine Va J J ?_;refine Ds J J J ?_;refine Da J J ?_;refine Nt 8 J J J J J J fun back => ?_;refine S_tailO Tk 1005 J J J J J J (fun _ => J) fun A' => ?_;refine back _ _ _ _ (by kernel_rfl) ?_; clear back
     refine Da J J ?_;refine Ns 10 J J J J J J J J J ?_;refine DD ?_;refine Va J J ?_;exact RK (wKeys 3) (Res.c1 Tk Tryz.results116 J J) ⟨_, _, J, J, signal_tds (W := ⟨_, _, _, _, _, _, _, _, _⟩) _ ht⟩ (Wvp [_, _, _] kg spg J ‹_› J J J J J J J J J) J (Wsub 15 J J J J J J J J J J J J J J J J (Bs 3 J J J J (Bs 3 J J J J (Bs 3 J J J J .nil)))) XR
    ·refine S_index Tk J J J J J J (by omega) (by simp) ?_
     refine S_valV J J J (V_loadR (o := 0) Tk 1005 J J J J J) ?_;refine Va J J ?_;refine Ds J J J ?_;refine Da J J ?_;refine Nt 8 J J J J J J fun back => ?_;refine S_tailO Tk 1005 J J J J J J (fun _ => J) fun A' => ?_;refine back _ _ _ _ (by kernel_rfl) ?_; clear back
     refine Da J J ?_;refine Ns 10 J J J J J J J J J ?_;refine DD ?_;refine Va J J ?_;exact RK (wKeys 3) (Res.c1 Tk Tryz.results116 J J) ⟨_, _, J, J, signal_tds (W := ⟨_, _, _, _, _, _, _, _, _⟩) _ ht⟩ (Wvp [_, _, _] kg spg J ‹_› J J J J J J J J J) J (Wsub 15 J J J J J J J J J J J J J J J J (Bs 3 J J J J (Bs 3 J J J J (Bs 3 J J J J .nil)))) XR
    ·refine S_index Tk J J J J J J (by omega) (by simp) ?_
     refine S_valV J J J (V_loadR (o := 0) Tk 1005 J J J J J) ?_;refine Va J J ?_;refine Ds J J J ?_;refine Da J J ?_;refine Nt 8 J J J J J J fun back => ?_;refine S_tailO Tk 1005 J J J J J J (fun _ => J) fun A' => ?_;refine back _ _ _ _ (by kernel_rfl) ?_; clear back
     refine Da J J ?_;refine Ns 10 J J J J J J J J J ?_;refine DD ?_;refine Va J J ?_;exact RK (wKeys 3) (Res.c1 Tk Tryz.results116 J J) ⟨_, _, J, J, signal_tds (W := ⟨_, _, _, _, _, _, _, _, _⟩) _ ht⟩ (Wvp [_, _, _] kg spg J ‹_› J J J J J J J J J) J (Wsub 15 J J J J J J J J J J J J J J J J (Bs 3 J J J J (Bs 3 J J J J (Bs 3 J J J J .nil)))) XR
  ·rcases hQ : q1 with _ | ⟨f, r⟩
   ·subst hQ
    refine OvV 1 0 J J J J fun bp bc br bs bg kp sp asd ksd aq0 kq0 aq1 kq1 kc spc kr spr ks sps kg spg hbg hmk hce => ?_; subst hce; obtain ⟨g0, g1, g2, rfl⟩ := len3 hbg; clear hbg; refine NM J J ?_; dsimp only [wEnts, wCels, procCs, regEs, WX.of, vi]
    refine Va J J ?_;refine S_box J J J J J fun b2 => ?_;refine Va J J ?_;refine AZ ZT_ok J J J J fun b4 => ?_;refine Va J J ?_;refine RT J J ?_;refine Va J J ?_;exact RK (wKeys 3) (Res.c1 Tk Tryz.results116 J J) ⟨_, _, J, J, signal_tds (W := ⟨_, _, _, _, _, _, _, _, _⟩) _ ht⟩ (Wvp [_, _, _] kg spg J ‹_› J J J J J J J J J) J (Wsub 15 J J J J J J J J J J J J J J J J (Bs 3 J J J J (Bs 3 J J J J (Bs 3 J J J J .nil)))) XR
   ·subst hQ
    have hf := hf1 f (List.mem_cons_self ..)
    refine OvV 1 0 J J J J fun bp bc br bs bg kp sp asd ksd aq0 kq0 aq1 kq1 kc spc kr spr ks sps kg spg hbg hmk hce => ?_; subst hce; obtain ⟨g0, g1, g2, rfl⟩ := len3 hbg; clear hbg; refine NM J J ?_; dsimp only [wEnts, wCels, procCs, regEs, WX.of, vi]
    refine Va J J ?_;refine S_box J J J J J fun b2 => ?_;refine Va J J ?_;refine AZ ZT_ok J J J J fun b4 => ?_;refine Va J J ?_
    refine RF J (by simp <;> omega) ?_
    refine Va J J ?_;refine S_capO 1006 J fun hnc0 _ _ => ?_;refine S_someO 1006 J (by simp at hnc0; omega) fun gq offq hAq => ?_
    subst hAq
    rcases (by simp at hf; omega : f = 0 ∨ f = 1 ∨ f = 2) with rfl | rfl | rfl
    ·refine S_index Tk J J J J J J (by omega) (by simp) ?_
     refine S_valV J J J (V_loadR (o := 0) Tk 1006 J J J J J) ?_;refine Va J J ?_;refine Ds J J J ?_;refine Da J J ?_;refine Nt 8 J J J J J J fun back => ?_;refine S_tailO Tk 1006 J J J J J J (fun _ => J) fun A' => ?_;refine back _ _ _ _ (by kernel_rfl) ?_; clear back
     refine Da J J ?_;refine Ns 10 J J J J J J J J J ?_;refine DD ?_;refine Va J J ?_;exact RK (wKeys 3) (Res.c1 Tk Tryz.results116 J J) ⟨_, _, J, J, signal_tds (W := ⟨_, _, _, _, _, _, _, _, _⟩) _ ht⟩ (Wvp [_, _, _] kg spg J ‹_› J J J J J J J J J) J (Wsub 15 J J J J J J J J J J J J J J J J (Bs 3 J J J J (Bs 3 J J J J (Bs 3 J J J J .nil)))) XR
    ·refine S_index Tk J J J J J J (by omega) (by simp) ?_
     refine S_valV J J J (V_loadR (o := 0) Tk 1006 J J J J J) ?_;refine Va J J ?_;refine Ds J J J ?_;refine Da J J ?_;refine Nt 8 J J J J J J fun back => ?_;refine S_tailO Tk 1006 J J J J J J (fun _ => J) fun A' => ?_;refine back _ _ _ _ (by kernel_rfl) ?_; clear back
     refine Da J J ?_;refine Ns 10 J J J J J J J J J ?_;refine DD ?_;refine Va J J ?_;exact RK (wKeys 3) (Res.c1 Tk Tryz.results116 J J) ⟨_, _, J, J, signal_tds (W := ⟨_, _, _, _, _, _, _, _, _⟩) _ ht⟩ (Wvp [_, _, _] kg spg J ‹_› J J J J J J J J J) J (Wsub 15 J J J J J J J J J J J J J J J J (Bs 3 J J J J (Bs 3 J J J J (Bs 3 J J J J .nil)))) XR
    ·refine S_index Tk J J J J J J (by omega) (by simp) ?_
     refine S_valV J J J (V_loadR (o := 0) Tk 1006 J J J J J) ?_;refine Va J J ?_;refine Ds J J J ?_;refine Da J J ?_;refine Nt 8 J J J J J J fun back => ?_;refine S_tailO Tk 1006 J J J J J J (fun _ => J) fun A' => ?_;refine back _ _ _ _ (by kernel_rfl) ?_; clear back
     refine Da J J ?_;refine Ns 10 J J J J J J J J J ?_;refine DD ?_;refine Va J J ?_;exact RK (wKeys 3) (Res.c1 Tk Tryz.results116 J J) ⟨_, _, J, J, signal_tds (W := ⟨_, _, _, _, _, _, _, _, _⟩) _ ht⟩ (Wvp [_, _, _] kg spg J ‹_› J J J J J J J J J) J (Wsub 15 J J J J J J J J J J J J J J J J (Bs 3 J J J J (Bs 3 J J J J (Bs 3 J J J J .nil)))) XR
end
end Go.Proofs.YtlmkipckihgehaaGreat
