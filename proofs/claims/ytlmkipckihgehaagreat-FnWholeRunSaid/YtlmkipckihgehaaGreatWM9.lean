/- Walks of the program's functions, one after the other (part 9); without conditions of their own. -/
import Derived.Test.YtlmkipckihgehaaGreatWM2
import Derived.Test.YtlmkipckihgehaaGreatWM3
import Derived.Test.YtlmkipckihgehaaGreatWM8
set_option linter.unusedVariables false
set_option linter.unusedSimpArgs false
set_option maxRecDepth 100000
set_option maxHeartbeats 4000000
open Go.RowKit
namespace Go.Proofs.YtlmkipckihgehaaGreat
section
attribute [local irreducible] X Pure Mod
theorem Inv.woken {W : Wld} {B : Nat} {f : Int} (h : Inv W B) {Q0 Q1 : List Int} (hf : f ∈ W.q0 ++ W.q1) (hnf : f ∉ Q0 ++ Q1) (hnd : (Q0 ++ Q1).Nodup) (hl : Q0.length + Q1.length ≤ B) (hsub : ∀ g ∈ Q0 ++ Q1, g ∈ W.q0 ++ W.q1) :
  Inv { W.upd f.toNat (fun p => { p with mode := 2, on := 0 }) with q0 := Q0, q1 := Q1 } B := by
 obtain ⟨h0, p, hp, hpm⟩ := h.qf f hf
 have q := h.pr p (List.mem_of_getElem? hp)
 refine ⟨by show 1 ≤ (updL _ _ _).length; rw [length_updL]; exact h.n1, by show (updL _ _ _).length ≤ 3; rw [length_updL]; exact h.n3, fun x hx => ?_, h.m0, h.m1, h.sd, hl, fun g hg => ?_, hnd⟩
 ·rcases mem_updL' _ _ hx with hx | ⟨y, hy, rfl⟩
  ·exact h.pr x hx
  ·rw [hp] at hy; cases hy
   exact ⟨q.td, q.mx, .inr (.inr J), fun _ => q.rm (by omega), q.ro⟩
 ·obtain ⟨g0, x, hx, hxm⟩ := h.qf g (hsub g hg)
  refine ⟨g0, x, ?_, hxm⟩
  show (updL _ _ W.procs)[g.toNat]? = some x
  have hgf : f.toNat ≠ g.toNat := fun e => hnf ((show g = f by omega) ▸ hg)
  rw [updL_ne _ _ _ hgf]
  exact hx
theorem Inv.signal {W : Wld} {B : Nat} (h : Inv W B) (a : Int) : Inv (W.signal a) B := by
 have hnd := h.nd
 have hql := h.ql
 unfold Wld.signal Wld.que
 by_cases ha : a = 0
 ·simp only [ha, if_true]
  rcases hq : W.q0 with _ | ⟨f, r⟩
  ·exact h
  ·rw [hq] at hnd hql
   simp only [List.cons_append, List.nodup_cons, List.length_cons] at hnd hql
   have := h.woken (f := f) (Q0 := r) (Q1 := W.q1) (by rw [hq]; simp) hnd.1 hnd.2 (by omega) (fun g hg => by rw [hq]; exact List.mem_cons_of_mem _ hg)
   show Inv ((W.upd f.toNat (fun p => { p with mode := 2, on := 0 })).setQue 0 r) B
   unfold Wld.setQue
   rw [if_pos rfl]
   exact this
 ·simp only [ha, if_false]
  rcases hq : W.q1 with _ | ⟨f, r⟩
  ·exact h
  ·rw [hq] at hnd hql
   simp only [List.length_cons] at hql
   have hnd2 := hnd
   rw [List.nodup_append] at hnd2
   have hcn := List.nodup_cons.1 hnd2.2.1
   have := h.woken (f := f) (Q0 := W.q0) (Q1 := r) (by rw [hq]; simp) (by
     simp only [List.mem_append, not_or]
     exact ⟨fun hx => hnd2.2.2 f hx f (by simp) J, hcn.1⟩) (by
     rw [List.nodup_append]
     exact ⟨hnd2.1, hcn.2, fun x hx y hy => hnd2.2.2 x hx y (List.mem_cons_of_mem _ hy)⟩) (by omega) (fun g hg => by
     rw [hq]
     simp only [List.mem_append, List.mem_cons] at hg ⊢
     rcases hg with hg | hg <;> simp [hg])
   show Inv ((W.upd f.toNat (fun p => { p with mode := 2, on := 0 })).setQue a r) B
   unfold Wld.setQue
   rw [if_neg ha]
   exact this
theorem upd_upd (W : Wld) (who : Nat) (f g : Prc → Prc) : (W.upd who g).upd who f = W.upd who (fun p => f (g p)) := by
 simp [Wld.upd, updL_updL]
theorem setRm_upd (W : Wld) (who : Nat) (f : Prc → Prc) (a v : Int) : (W.upd who f).setRm a v = (W.setRm a v).upd who f := by
 unfold Wld.setRm; split <;> rfl
theorem que_setRm (W : Wld) (a v b : Int) : (W.setRm a v).que b = W.que b := by
 unfold Wld.setRm; split <;> rfl
theorem POk.set {p : Prc} (h : POk p) (k v : Int) : POk (p.set k v) := by
 unfold Prc.set
 split
 ·exact ⟨h.td, h.mx, h.md, h.rm, h.ro⟩
 split
 ·exact ⟨h.td, h.mx, h.md, h.rm, h.ro⟩
 ·exact ⟨h.td, h.mx, h.md, h.rm, h.ro⟩
theorem Inv.step {W : Wld} {B who : Nat} (h : Inv W B) (hw : who < W.procs.length) (hc : codeOf W (who : Nat) = 0) : Inv (W.step who) (B + 1) := by
 obtain ⟨p, hp⟩ : ∃ p, W.procs[who]? = some p := ⟨W.procs[who], by simp [hw]⟩
 obtain ⟨hm1, hne⟩ := code0 hp hc
 have hpm : p ∈ W.procs := List.mem_of_getElem? hp
 have q := h.pr p hpm
 by_cases hm : p.mode = 2
 ·have e : W.step who = (W.setRm p.room ((who : Int) + 1)).upd who (fun p => { p with mode := 0 }) := by simp [Wld.step, hp, hm]
  rw [e]
  refine Inv.mono ((h.setRm _ _ (by omega)).upd (p := p) (by rw [setRm_procs]; exact hp) (by omega) ?_) (Nat.le_succ _)
  exact ⟨q.td, q.mx, .inl rfl, fun hx => absurd rfl hx, q.ro⟩
 rcases hT : p.todo with _ | ⟨s, r⟩
 ·exact absurd hT (hne hm)
 rw [step_eq hp hm hT]
 have hm0 : p.mode = 0 := by rcases q.md with h | h | h <;> simp_all
 have hsok := h.sok hpm hT
 have htd := q.td
 have hmx := q.mx
 rw [hT] at htd hmx
 simp only [Go.Proofs.YtlmkipckihgehaaGreat.mx] at hmx
 have hro := q.ro
 have hpt : (pop p).todo = r := by simp [pop, hT]
 generalize hR : p.room = ro at htd hro
 cases htd with
 | leave ha hr =>
  have e : (W.upd who pop).stepS who (leaveS ro) = (W.setRm ro 0).upd who (fun p => { pop p with room := -1 }) := by
   rw [show (W.upd who pop).stepS who (leaveS ro) = ((W.upd who pop).setRm ro 0).upd who (fun p => { p with room := -1 }) by simp [Wld.stepS, leaveS, Stm.kind, Stm.a], setRm_upd, upd_upd]
  rw [e]
  refine Inv.mono ((h.setRm _ _ (by omega)).upd (p := p) (by rw [setRm_procs]; exact hp) hm1 ?_) (Nat.le_succ _)
  exact ⟨by show TOk (-1) (pop p).todo; rw [hpt]; exact hr, by show Go.Proofs.YtlmkipckihgehaaGreat.mx (pop p).todo ≤ _; rw [hpt]; omega, .inl hm0, fun hx => absurd hm0 hx, .inl rfl⟩
 | stm hs hr =>
  rename_i d
  have hpop : POk (pop p) := ⟨by show TOk p.room (pop p).todo; rw [hpt, hR]; exact hr, by rw [hpt]; omega, .inl hm0, fun hx => absurd hm0 hx, q.ro⟩
  have hP := h.upd hp hm1 hpop
  have hPp : (W.upd who pop).procs[who]? = some (pop p) := by
   show (updL _ _ _)[who]? = _
   rw [updL_get, hp]; rfl
  obtain ⟨k, a, b, n, x, y⟩ := s
  simp only [mxS] at hmx
  have hs0 := hs
  simp only [stmtOk] at hs
  split at hs
  ·cases hs
  have pm1 : (pop p).mode ≠ 1 := hm1
  have pm0 : (pop p).mode = 0 := hm0
  have app : ∀ L : List Stm, ∀ d', listOk L d' ro = true → Go.Proofs.YtlmkipckihgehaaGreat.mx L + r.length ≤ 1000 → POk { pop p with todo := L ++ (pop p).todo } := fun L d' h1 h2 =>
   ⟨by show TOk p.room (L ++ (pop p).todo); rw [hpt, hR]; exact hr.app h1, by show Go.Proofs.YtlmkipckihgehaaGreat.mx (L ++ (pop p).todo) ≤ _; rw [hpt]; exact mx_append _ _ h2 (by omega), .inl hm0, fun hx => absurd hm0 hx, q.ro⟩
  unfold Wld.stepS
  have hkd : (Stm.mk k a b n x y).kind = k := rfl
  simp only [hkd]
  by_cases e1 : k = 1
  ·rw [if_pos e1]
   exact (hP.upd hPp pm1 (hpop.set _ _)).mono (Nat.le_succ _)
  rw [if_neg e1]
  by_cases e2 : k = 2
  ·rw [if_pos e2]
   exact (hP.upd hPp pm1 (hpop.set _ _)).mono (Nat.le_succ _)
  rw [if_neg e2]
  by_cases e3 : k = 3
  ·rw [if_pos e3]
   exact (hP.upd hPp pm1 (hpop.set _ _)).mono (Nat.le_succ _)
  rw [if_neg e3]
  by_cases e4 : k = 4
  ·rw [if_pos e4]
   exact (hP.setCell _ _).mono (Nat.le_succ _)
  rw [if_neg e4]
  by_cases e5 : k = 5
  ·rw [if_pos e5]
   exact hP.say _
  rw [if_neg e5]
  by_cases e6 : k = 6
  ·rw [if_pos e6]
   subst e6
   simp at hs
   refine (hP.upd hPp pm1 (app _ (d - 1) ?_ ?_)).mono (Nat.le_succ _)
   ·by_cases hz : (W.upd who pop).reg who (Stm.mk 6 a b n x y).a = 0
    ·rw [if_pos hz]; exact hs.2
    ·rw [if_neg hz]; exact hs.1.2
   ·by_cases hz : (W.upd who pop).reg who (Stm.mk 6 a b n x y).a = 0
    ·rw [if_pos hz]; simp only [Stm.els]; omega
    ·rw [if_neg hz]; simp only [Stm.body]; omega
  rw [if_neg e6]
  by_cases e7 : k = 7
  ·rw [if_pos e7]
   subst e7
   simp at hs
   refine (hP.upd hPp pm1 ?_).mono (Nat.le_succ _)
   by_cases hz : (W.upd who pop).reg who (Stm.mk 7 a b n x y).a = 0
   ·rw [if_pos hz]
    exact app [] 3 J (by simp only [Go.Proofs.YtlmkipckihgehaaGreat.mx]; omega)
   ·rw [if_neg hz]
    refine ⟨?_, ?_, .inl hm0, fun hx => absurd hm0 hx, q.ro⟩
    ·show TOk p.room ((x ++ [.mk 7 a b n x y]) ++ (pop p).todo)
     rw [hpt, hR, List.append_assoc]
     exact TOk.app hs.1.2 (.stm hs0 hr)
    ·show Go.Proofs.YtlmkipckihgehaaGreat.mx ((x ++ [.mk 7 a b n x y]) ++ (pop p).todo) ≤ 1000
     rw [hpt, List.append_assoc]
     refine mx_append _ _ (by simp only [List.length_append, List.length_singleton]; omega) ?_
     simp only [List.singleton_append, Go.Proofs.YtlmkipckihgehaaGreat.mx, mxS]; omega
  rw [if_neg e7]
  by_cases e8 : k = 8
  ·rw [if_pos e8]
   subst e8
   simp at hs
   obtain ⟨⟨⟨⟨hro1, ha0⟩, hb⟩, hn⟩, hx⟩ := hs
   have hro2 : ro = -1 := by rcases hro with h | h | h <;> omega
   have ha2 : is2 a := by unfold is2; omega
   refine Inv.mono ((hP.setRm _ _ (by omega)).upd (p := pop p) (by rw [setRm_procs]; exact hPp) pm1 ?_) (Nat.le_succ _)
   refine ⟨?_, ?_, .inl hm0, fun hx => absurd hm0 hx, .inr ha2⟩
   ·show TOk a ((x ++ [leaveS a]) ++ (pop p).todo)
    rw [hpt, List.append_assoc]
    exact TOk.app hx (.leave ha2 (hro2 ▸ hr))
   ·show Go.Proofs.YtlmkipckihgehaaGreat.mx ((x ++ [leaveS a]) ++ (pop p).todo) ≤ 1000
    rw [hpt, List.append_assoc]
    refine mx_append _ _ (by simp only [List.length_append, List.length_singleton]; omega) ?_
    simp only [List.singleton_append, Go.Proofs.YtlmkipckihgehaaGreat.mx, mxS, leaveS]; omega
  rw [if_neg e8]
  by_cases e9 : k = 9
  ·rw [if_pos e9]
   subst e9
   simp [leafOk] at hs
   have hr2 : is2 ro := by
    rcases hro with h | h
    ·omega
    ·exact h
   have := (hP.setRm ((W.upd who pop).room who) 0 (by omega)).wait (p := pop p) (by rw [setRm_procs]; exact hPp) pm1 (by show is2 p.room; rw [hR]; exact hr2) a
   rw [que_setRm] at this
   exact this
  rw [if_neg e9]
  by_cases e10 : k = 10
  ·rw [if_pos e10]
   exact (hP.signal _).mono (Nat.le_succ _)
  rw [if_neg e10]
  by_cases e12 : k = 12
  ·subst e12
   simp [leafOk] at hs
  ·rw [if_neg e12]
   exact hP.mono (Nat.le_succ _)
end
section
attribute [local irreducible] X Pure Mod
theorem Wld.step_len (W : Wld) (who : Nat) : (W.step who).procs.length = W.procs.length := by
 have hs : ∀ (V : Wld) a v, (V.setRm a v).procs.length = V.procs.length := fun V a v => by rw [setRm_procs]
 have hq : ∀ (V : Wld) a v, (V.setQue a v).procs.length = V.procs.length := fun V a v => by rw [setQue_procs]
 have hc : ∀ (V : Wld) a v, (V.setCell a v).procs.length = V.procs.length := fun V a v => by rw [setCell_procs]
 have hu := upd_len
 unfold Wld.step
 rcases W.procs[who]? with _ | p
 ·rfl
 by_cases hm : p.mode = 2
 ·simp only [hm, if_true, hu, hs]
 ·simp only [hm, if_false]
  rcases p.todo with _ | ⟨s, r⟩
  ·rfl
  ·simp only [Wld.stepS]
   have hg : ∀ (V : Wld) a, (V.signal a).procs.length = V.procs.length := fun V a => by
    unfold Wld.signal
    split
    ·rfl
    ·rw [hq, hu]
   have ite : ∀ {c : Prop} [Decidable c] {A B : Wld} {n : Nat}, A.procs.length = n → B.procs.length = n → (if c then A else B).procs.length = n := by
    intro c _ A B n h1 h2
    by_cases h : c
    ·rw [if_pos h]; exact h1
    ·rw [if_neg h]; exact h2
   repeat' (first | refine ite ?_ ?_)
   all_goals (simp only [hu, hs, hq, hc, hg])
def endK (k : Int) : Bool := decide (k = 12) || decide (k = 9)
def till (who : Nat) : Nat → Bool → Wld → Wld × Bool × Nat
 | 0, _, W => (W, false, 0)
 | n + 1, inn, W =>
  if codeOf W (who : Nat) ≠ 0 then (W, false, n + 1)
  else if isEnt W who && !inn then (W, true, n + 1)
  else if (!isEnt W who && endK (fstK W who)) && inn then (W.step who, true, n)
  else till who n (inn || isEnt W who) (W.step who)
def atom (who : Nat) : Nat → Bool → Wld → Wld × Bool
 | 0, _, W => (W, false)
 | n + 1, entered, W =>
  if codeOf W (who : Nat) ≠ 0 then (W, false)
  else if (entered || isEnt W who) && endK (fstK W who) then (W.step who, true)
  else atom who n (entered || isEnt W who) (W.step who)
theorem ent_no_end {W : Wld} {who : Nat} (h : isEnt W who = true) : endK (fstK W who) = false := by
 unfold isEnt at h
 unfold fstK
 rcases hp : W.procs[who]? with _ | p
 ·rw [hp] at h; cases h
 ·rw [hp] at h
  simp only [entP, fstP, Bool.and_eq_true, Bool.or_eq_true, decide_eq_true_eq] at h
  simp only [fstP, endK]
  by_cases hm : p.mode = 2
  ·simp [hm]
  ·simp only [hm, if_false, false_or] at h ⊢
   have h8 := h.2
   simp only [decide_eq_true_eq, Bool.false_or] at h8
   rw [h8]; rfl
theorem atom_in (who : Nat) : ∀ (n : Nat) (W : Wld), atom who n true W = ((till who n true W).1, (till who n true W).2.1) := by
 intro n
 induction n with
 | zero => intro W; rfl
 | succ n ih =>
  intro W
  simp only [atom, till]
  by_cases hc : codeOf W (who : Nat) = 0
  ·simp only [hc, ne_eq, not_true_eq_false, if_false, Bool.true_or, Bool.true_and, Bool.not_true, Bool.and_false, Bool.and_true]
   cases hE : isEnt W who
   ·cases hk : endK (fstK W who) <;> simp [ih]
   ·simp [ent_no_end hE, ih]
  ·simp [hc]
theorem atom_out (who : Nat) : ∀ (n : Nat) (W : Wld), atom who n false W = if (till who n false W).2.1 then ((till who (till who n false W).2.2 true (till who n false W).1).1, (till who (till who n false W).2.2 true (till who n false W).1).2.1) else ((till who n false W).1, false) := by
 intro n
 induction n with
 | zero => intro W; rfl
 | succ n ih =>
  intro W
  by_cases hc : codeOf W (who : Nat) = 0
  ·cases hE : isEnt W who
   ·have e1 : atom who (n + 1) false W = atom who n false (W.step who) := by simp [atom, hc, hE]
    have e2 : till who (n + 1) false W = till who n false (W.step who) := by simp [till, hc, hE]
    rw [e1, e2, ih]
   ·have e1 : atom who (n + 1) false W = atom who (n + 1) true W := by simp [atom, hc, hE]
    have e2 : till who (n + 1) false W = (W, true, n + 1) := by simp [till, hc, hE]
    rw [e1, e2, atom_in]
    simp
  ·simp [atom, till, hc]
end
section
attribute [local irreducible] X Pure Mod
def restP (who : Nat) : Nat → Wld → Wld × Bool
 | 0, W => (W, false)
 | n + 1, W => if codeOf W (who : Nat) = 0 ∧ isEnt W who = false then restP who n (W.step who) else (W, true)
def runs : List Int → Wld → Option Wld
 | [], W => some W
 | who :: r, W => if who < 0 ∨ (W.procs.length : Int) ≤ who then none else
  match atom who.toNat 200 false W with
  | (_, false) => none
  | (W', true) => runs r W'
def rests : List Nat → Wld → Option Wld
 | [], W => some W
 | who :: r, W => match restP who 200 W with
  | (_, false) => none
  | (W', true) => rests r W'
theorem Inv.till {who : Nat} : ∀ (n : Nat) (inn : Bool) {W : Wld} {B : Nat}, Inv W B → who < W.procs.length → Inv (till who n inn W).1 (B + n) ∧ (till who n inn W).1.procs.length = W.procs.length := by
 intro n
 induction n with
 | zero => intro inn W B h hw; exact ⟨h, J⟩
 | succ n ih =>
  intro inn W B h hw
  simp only [Go.Proofs.YtlmkipckihgehaaGreat.till]
  by_cases hc : codeOf W (who : Nat) = 0
  ·rw [if_neg (by simp [hc])]
   by_cases h1 : (isEnt W who && !inn) = true
   ·rw [if_pos h1]; exact ⟨h.mono (by omega), J⟩
   rw [if_neg h1]
   have hs := h.step hw hc
   have hl := W.step_len who
   by_cases h2 : ((!isEnt W who && endK (fstK W who)) && inn) = true
   ·rw [if_pos h2]; exact ⟨hs.mono (by omega), hl⟩
   rw [if_neg h2]
   have := ih (inn || isEnt W who) hs (by omega)
   exact ⟨this.1.mono (by omega), by rw [this.2, hl]⟩
  ·rw [if_pos (by simpa using hc)]
   exact ⟨h.mono (by omega), J⟩
theorem Inv.rest {who : Nat} : ∀ (n : Nat) {W : Wld} {B : Nat}, Inv W B → who < W.procs.length → Inv (restP who n W).1 (B + n) ∧ (restP who n W).1.procs.length = W.procs.length := by
 intro n
 induction n with
 | zero => intro W B h hw; exact ⟨h, J⟩
 | succ n ih =>
  intro W B h hw
  simp only [restP]
  by_cases hc : codeOf W (who : Nat) = 0 ∧ isEnt W who = false
  ·rw [if_pos hc]
   have hs := h.step hw hc.1
   have hl := W.step_len who
   have := ih hs (by omega)
   exact ⟨this.1.mono (by omega), by rw [this.2, hl]⟩
  ·rw [if_neg hc]
   exact ⟨h.mono (by omega), J⟩
end
section
attribute [local irreducible] X Pure Mod
section
variable {C : Ctx} {ι : Ids} {E : Env} {L : List Ent} {G : PH} {d : Option Nat} {ty : Nat} {pos : String} {af : Array Edge} {g : Option (Nat × Bool)}
theorem V_rem {x y : Operand} {t t' : Nat} {p q : Int} (hx : ev E x = some (.val (.int .i64 p))) (hy : ev E y = some (.val (.int .i64 q))) (hp : 0 ≤ p) (hq : 0 < q) : Vl C ι E L G ⟨d, .binOp .rem t x y t', ty, pos, af, g⟩ (.int .i64 (p % q)) := by
 intro a w hE _
 have ex := ev_sound hE hx
 have ey := ev_sound hE hy
 simp only [denO, Option.some.injEq] at ex ey
 simp only [execOp, ← ex, ← ey]
 have hne : ¬ q = 0 := by omega
 simp [eqGuard, binOp, Op.intDiv, hne, Int.tmod_eq_emod_of_nonneg hp]
theorem V_quo {x y : Operand} {t t' : Nat} {p q : Int} (hx : ev E x = some (.val (.int .i64 p))) (hy : ev E y = some (.val (.int .i64 q))) (hp : 0 ≤ p) (hp' : p ≤ 9223372036854775807) (hq : 0 < q) : Vl C ι E L G ⟨d, .binOp .quo t x y t', ty, pos, af, g⟩ (.int .i64 (p / q)) := by
 intro a w hE _
 have ex := ev_sound hE hx
 have ey := ev_sound hE hy
 simp only [denO, Option.some.injEq] at ex ey
 simp only [execOp, ← ex, ← ey]
 have hne : ¬ q = 0 := by omega
 have h1 : 0 ≤ p / q := Int.ediv_nonneg hp (by omega)
 have h2 : p / q ≤ p := Int.ediv_le_self _ hp
 have hwr : IntKind.i64.wrap (p / q) = p / q := by rw [IntKind.wrap_i64]; omega
 simp [eqGuard, binOp, Op.intDiv, hne, Int.tdiv_eq_ediv_of_nonneg hp, hwr]
theorem V_xor {x y : Operand} {t t' : Nat} {p q : Int} (hx : ev E x = some (.val (.int .i64 p))) (hy : ev E y = some (.val (.int .i64 q))) (hp : 0 ≤ p ∧ p ≤ 9223372036854775807) (hq : 0 ≤ q ∧ q ≤ 9223372036854775807) : Vl C ι E L G ⟨d, .binOp .xor t x y t', ty, pos, af, g⟩ (.int .i64 ((p.toNat ^^^ q.toNat : Nat) : Int)) := by
 intro a w hE _
 have ex := ev_sound hE hx
 have ey := ev_sound hE hy
 simp only [denO, Option.some.injEq] at ex ey
 simp only [execOp, ← ex, ← ey]
 obtain ⟨m, rfl⟩ := Int.eq_ofNat_of_zero_le hp.1
 obtain ⟨n, rfl⟩ := Int.eq_ofNat_of_zero_le hq.1
 have hm : m < 2 ^ 63 := by omega
 have hn : n < 2 ^ 63 := by omega
 have hx := Nat.xor_lt_two_pow hm hn
 have e1 : (BitVec.ofInt 64 (m : Int) ^^^ BitVec.ofInt 64 (n : Int)).toNat = m ^^^ n := by
  rw [BitVec.ofInt_natCast, BitVec.ofInt_natCast, BitVec.toNat_xor, BitVec.toNat_ofNat, BitVec.toNat_ofNat, Nat.mod_eq_of_lt (by omega), Nat.mod_eq_of_lt (by omega)]
 have hwr : IntKind.i64.wrap ((m ^^^ n : Nat) : Int) = ((m ^^^ n : Nat) : Int) := by rw [IntKind.wrap_i64]; omega
 have e2 : IntKind.i64.wrap ((BitVec.ofInt IntKind.i64.bits (m : Int) ^^^ BitVec.ofInt IntKind.i64.bits (n : Int)).toNat : Int) = ((m ^^^ n : Nat) : Int) := by
  show IntKind.i64.wrap ((BitVec.ofInt 64 (m : Int) ^^^ BitVec.ofInt 64 (n : Int)).toNat : Int) = _
  rw [e1, hwr]
 simp only [Int.toNat_natCast]
 simp [eqGuard, binOp, Op.intBits]
 exact e2
theorem V_conv {x : Operand} {t t' : Nat} {k k' : IntKind} {p : Int} (hx : ev E x = some (.val (.int k p))) (hu : C.P.underlying t = some (.int k)) (hu' : C.P.underlying t' = some (.int k')) (hp : k'.wrap p = p) : Vl C ι E L G ⟨d, .convert t t' x, ty, pos, af, g⟩ (.int k' p) := by
 intro a w hE _
 have ex := ev_sound hE hx
 simp only [denO, Option.some.injEq] at ex
 simp only [execOp, ← ex]
 simp [convert, run_underlying hu, run_underlying hu', Conv.intToInt, hp]
end
end
section
attribute [local irreducible] X Pure Mod
def byteRep (n : Int) (cs : List Value) : Prop := cs = [.int .u8 n] ∧ 0 ≤ n ∧ n ≤ 255
abbrev Byts (G : PH) (l : List Int) (v : Value) : Prop := Sr G 1 byteRep l v
theorem Byts_le {G G' : PH} (hl : G.le G') {l : List Int} {v : Value} (h : Byts G l v) : Byts G' l v := Sr_mono hl (fun _ _ _ h => h) h
def rdHP (b : Nat) (sv : Value) (N : Nat) : HP := packHP fun ι L => ∃ p : Nat, p ≤ N ∧ ι = [(900, b)] ∧ L = [.blk 900 96 [.v sv, .v (.int .i64 (p : Nat))]]
def Drw (f : Nat) (b : Nat) (sv : Value) (args : List Value) (N K : Nat) (G : PH) (Post : Value → PH → Prop) : Prop :=
 Mod Tryz.prog f (.pointer (some ⟨b, 0, none⟩) :: args) G (rdHP b sv N) fun v G' A' => A' = rdHP b sv (N + K) ∧ Post v G'
theorem u_u8 : Tryz.prog.underlying 5 = some (.int .u8) := by kernel_rfl
theorem rem_bnd {a n : Int} (h : 0 < n) : 0 ≤ a % n ∧ a % n < n := ⟨Int.emod_nonneg _ (by omega), Int.emod_lt_of_pos _ h⟩
section
variable {C : Ctx} {k : List It} {E : Env} {ι : Ids} {L : List Ent} {G : PH}
theorem S_openR (κ d : Nat) {b N : Nat} {sv : Value} {L' : List Ent} (hL : getH κ L = some (rdHP b sv N)) (hL' : delH κ L = some L') (hf : freshB [900] ι = true) (hE : look d E = some (.val (.pointer (some ⟨b, 0, none⟩))))
  (hk : ∀ p : Nat, p ≤ N → X C k ((d, .ptr 900 0) :: E) ((900, b) :: ι) (.blk 900 96 [.v sv, .v (.int .i64 (p : Nat))] :: L') G) : X C k E ι L G := by
 refine S_unpack κ [900] hL hL' ?_ hf ?_
 ·rintro ι0 L0 ⟨p, _, rfl, rfl⟩; rfl
 ·rintro ι0 L0 ⟨p, hp, rfl, rfl⟩
  refine S_reE d (.ptr 900 0) hE ?_ (hk p hp)
  rfl
end
theorem byte_at {G : PH} {l : List Int} {A : Option Addr} {n c : Nat} (h : Byts G l (.slice A n c)) {i : Int} (h0 : 0 ≤ i) (h1 : i < l.length) : ∃ ad x, A = some ad ∧ gcell G (ad.add (i.toNat * 1)) = some (.int .u8 x) ∧ 0 ≤ x ∧ x ≤ 255 := by
 obtain ⟨ad, cs, rfl, hcs, rfl, hx0, hx1⟩ := Sr_at h (k := i.toNat) (by omega)
 exact ⟨ad, _, J, hcs.1, hx0, hx1⟩
theorem c_l1Max (a b : Int) (G : PH) : Pure Tryz.prog 90 [.int .i64 a, .int .i64 b] G fun v G' => v = .int .i64 (max a b) ∧ G' = G := by
 refine Pure.intro Tryz.func90 Tryz.ntmps90 J J fun w => ?_; refine Va J J ?_
 refine S_condp J (fun h => ?_) (fun h => ?_) <;> refine Va J J ?_
 ·exact S_retp (Res.t1 Tryz.results90 J J) XR ⟨by congr 1; omega, rfl⟩
 ·exact S_retp (Res.t1 Tryz.results90 J J) XR ⟨by congr 1; omega, rfl⟩
theorem c_pick (b : Nat) (l : List Int) (sv : Value) (n : Int) (N : Nat) (G : PH) (hl : Byts G l sv) (hn : I64 n) (hN : N + 1 ≤ 1000000000) : Drw 32 b sv [.int .i64 n] N 1 G fun v G' => G' = G ∧ ∃ m : Int, v = .int .i64 m ∧ 0 ≤ m ∧ (m < n ∨ m = 0) := by
 obtain ⟨A, c, rfl, _⟩ := id hl
 refine Mod.intro Tryz.func32 Tryz.ntmps32 J J fun w S => ?_;refine S_openR 1 0 J J J J fun p hp => ?_;refine Va J J ?_;refine S_add J J J J (by omega) ?_;refine Va J J ?_
 have hb : ∀ b0 : Bool, b0 = (decide (n < 1) || decide ((l.length : Int) = 0)) → b0 = false → 1 ≤ n ∧ 0 < l.length := by
  intro b0 h1 h2
  rw [h1] at h2
  simp only [Bool.or_eq_false_iff, decide_eq_false_iff_not] at h2
  omega
 refine S_cond J (fun h => ?_) (fun h => ?_) <;> refine Va J J ?_
 ·exact RK [900] (Res.t1 Tryz.results32 J J) ⟨J, J, 0, J, by omega, .inr J⟩ ⟨p + 1, by omega, J, J⟩ J (.blk J J .nil) XR
 obtain ⟨hn1, hl0⟩ := hb _ rfl h
 refine S_subI J J J J (by omega) ?_;refine Va J J ?_
 have ep : ((p : Int) + 1 - 1) = p := by omega
 rw [ep]
 refine S_condp J (fun h2 => ?_) (fun h2 => ?_) <;> refine Va J J ?_
 ·have hpl : p < l.length := by omega
  obtain ⟨ad, x, rfl, hcs, hx0, hx1⟩ := byte_at hl (i := p) (by omega) (by omega)
  refine S_index Tk J J J J J J (by omega) (by omega) ?_;refine Va J J ?_;refine S_load Tk J J J J J (by simpa using hcs) ?_;refine Va J J ?_;refine S_valV J J J (V_conv J u_u8 u_int (by rw [IntKind.wrap_i64]; omega)) ?_;refine Va J J ?_;refine S_valV J J J (V_rem J J hx0 (by omega)) ?_;refine Va J J ?_
  have hr := rem_bnd (a := x) (n := n) (by omega)
  exact RK [900] (Res.t1 Tryz.results32 J J) ⟨J, J, _, J, hr.1, .inl hr.2⟩ ⟨p + 1, by omega, J, J⟩ J (.blk J J .nil) XR
 ·have r1 := rem_bnd (a := (p : Int)) (n := (l.length : Int)) (by omega)
  have r2 := rem_bnd (a := (p : Int) * 7 + 3) (n := (l.length : Int)) (by omega)
  obtain ⟨ad, x, rfl, hcs, hx0, hx1⟩ := byte_at hl r1.1 r1.2
  obtain ⟨ad2, y, e2, hcs2, hy0, hy1⟩ := byte_at hl r2.1 r2.2
  cases e2
  have hq : 0 ≤ (p : Int) / l.length ∧ (p : Int) / l.length ≤ p := ⟨Int.ediv_nonneg (by omega) (by omega), Int.ediv_le_self _ (by omega)⟩
  refine Ds J J J ?_;refine Da J J ?_;refine D_val 10 J J J J J J J J J (V_rem J J (by omega) (by omega)) ?_;refine Da J J ?_;refine D_val 11 J J J J J J J J J (V_index Tk J J J J (by omega) (by omega)) ?_;refine Da J J ?_;refine D_val 12 J J J J J J J J J (V_load Tk J J J hcs) ?_;refine Da J J ?_;refine D_val 13 J J J J J J J J J (V_conv J u_u8 u_int (by rw [IntKind.wrap_i64]; omega)) ?_;refine Da J J ?_
  refine D_val 14 J J J J J J J J J (V_mul J J (by omega)) ?_;refine Da J J ?_;refine D_val 20 J J J J J J J J J (V_mul J J (by omega)) ?_;refine Da J J ?_;refine D_val 21 J J J J J J J J J (V_add J J (by omega)) ?_;refine Da J J ?_;refine D_val 27 J J J J J J J J J (V_rem J J (by omega) (by omega)) ?_;refine Da J J ?_;refine D_val 28 J J J J J J J J J (V_index Tk J J J J (by omega) (by omega)) ?_
  refine Da J J ?_;refine D_val 29 J J J J J J J J J (V_load Tk J J J hcs2) ?_;refine Da J J ?_;refine D_val 30 J J J J J J J J J (V_conv J u_u8 u_int (by rw [IntKind.wrap_i64]; omega)) ?_;refine Da J J ?_;refine D_val 31 J J J J J J J J J (V_mul J J (by omega)) ?_;refine Da J J ?_;refine D_val 32 J J J J J J J J J (V_add J J (by omega)) ?_;refine Da J J ?_;refine D_val 34 J J J J J J J J J (V_mul J J (by omega)) ?_
  refine Da J J ?_;refine D_val 35 J J J J J J J J J (V_add J J (by omega)) ?_;refine Da J J ?_;refine D_val 42 J J J J J J J J J (V_quo J J (by omega) (by omega) (by omega)) ?_;refine Da J J ?_;refine D_val 43 J J J J J J J J J (V_mul J J (by omega)) ?_;refine Da J J ?_;refine D_val 44 J J J J J J J J J (V_add J J (by omega)) ?_;refine Da J J ?_;refine DD ?_;refine Va J J ?_
  generalize hz : x * 131 + y * 1117 + (p : Int) * 29 + (p : Int) / l.length * 53 = z
  have hz0 : 0 ≤ z ∧ z ≤ 9223372036854775807 := by omega
  have hz1 : 0 ≤ z / 64 ∧ z / 64 ≤ z := by omega
  refine S_valV J J J (V_quo J J hz0.1 hz0.2 (by omega)) ?_;refine Va J J ?_;refine S_valV J J J (V_xor J J hz0 (by omega)) ?_;refine Va J J ?_;refine S_valV J J J (V_rem J J (by omega) (by omega)) ?_;refine Va J J ?_
  have hr := rem_bnd (a := ((z.toNat ^^^ (z / 64).toNat : Nat) : Int)) (n := n) (by omega)
  exact RK [900] (Res.t1 Tryz.results32 J J) ⟨J, J, _, J, hr.1, .inl hr.2⟩ ⟨p + 1, by omega, J, J⟩ J (.blk J J .nil) XR
theorem c_num (b : Nat) (l : List Int) (sv : Value) (q : List Int) (qv : Value) (N : Nat) (G : PH) (hl : Byts G l sv) (hq : Ints G q qv) (hn : 0 < q.length) (hN : N + 1 ≤ 1000000000) : Drw 33 b sv [qv] N 1 G fun v G' => G' = G ∧ ∃ m ∈ q, v = .int .i64 m := by
 obtain ⟨A, c, rfl, hq1, _⟩ := id hq
 refine Mod.intro Tryz.func33 Tryz.ntmps33 J J fun w S => ?_;refine Va J J ?_;refine S_callM 1 Tryz.call32 (c_pick b l sv q.length N G hl ⟨by omega, by omega⟩ hN) J J J J (fun _ => J) ?_;rintro v G2 A' ⟨rfl, rfl, m, rfl, h0, h1⟩ _
 refine Va J J ?_;obtain ⟨ad, cs, rfl, hcs, rfl, hi⟩ := Sr_at hq (k := m.toNat) (by omega)
 refine S_index Tk J J J J J J (by omega) (by omega) ?_;refine Va J J ?_;refine S_load Tk J J J J J hcs.1 ?_;refine Va J J ?_;exact S_retm 1 (Res.t1 Tryz.results33 J J) J XR ⟨J, J, _, List.getElem_mem _, J⟩
end
section
def pairHP (A B : HP) : HP where
 holds w S := ∃ S1 S2, A.holds w S1 ∧ B.holds w S2 ∧ (∀ b, S1 b → S2 b → False) ∧ ∀ b, S b ↔ S1 b ∨ S2 b
 loc w w' S h hs := by
  obtain ⟨S1, S2, h1, h2, h3, h4⟩ := h
  exact ⟨S1, S2, A.loc w w' S1 h1 (fun b hb => hs b ((h4 b).2 (.inl hb))), B.loc w w' S2 h2 (fun b hb => hs b ((h4 b).2 (.inr hb))), h3, h4⟩
 lt w S h b hb := by
  obtain ⟨S1, S2, h1, h2, h3, h4⟩ := h
  rcases (h4 b).1 hb with hb | hb
  ·exact A.lt w S1 h1 b hb
  ·exact B.lt w S2 h2 b hb
def Covers (A A' : HP) : Prop := ∀ w w' S S', A.holds w S → A'.holds w' S' → ∀ b, S b → S' b
theorem SatW.turn2 {C : Ctx} {ι : Ids} {L : List Ent} {G : PH} {w : World} (h : SatW C ι L G w) {κ : Nat} {A : HP} (hg : getH κ L = some A) :
  ∃ S, A.holds w S ∧ (∀ b, S b → G b = none) ∧ ∀ (κ' : Nat) (A' B' : HP) (L' : List Ent) (G' : PH) (w' : World) (S1 S2 : Nat → Prop), setH κ A' L = some L' → A'.holds w' S1 → B'.holds w' S2 → (∀ b, S1 b → S2 b → False) → Emb G' w' → PH.ext w.heap.size G G' → (∀ b, S1 b → G' b = none ∧ (S b ∨ w.heap.size ≤ b)) → (∀ b, S2 b → G' b = none ∧ w.heap.size ≤ b) →
   w'.os = w.os → w'.tape = w.tape → w'.output = w.output → w.heap.size ≤ w'.heap.size → (∀ b, b < w.heap.size → ¬ S b → w'.heap[b]? = w.heap[b]?) → SatW C ι (.hp κ' (newHP C.w0.heap.size B') :: L') G' w' := by
 obtain ⟨Ss, ho, hS⟩ := h.own
 obtain ⟨S, hA, hm, hk⟩ := owns_split ho hg
 refine ⟨S, hA, fun b hb => (hS S hm b hb).1, fun κ' A' B' L' G' w' S1 S2 hs hA' hB' hdis hemb hext hS1 hS2 e1 e2 e3 e4 hkeep => ?_⟩
 have hlt := owns_lt ho
 obtain ⟨Ss', ho', hm'⟩ := hk A' L' hs w' S1 (fun x => S x ∨ w.heap.size ≤ x) hA' (fun x hx => hkeep x (by omega) (fun h => hx (.inl h))) (fun T hT x hx hx' => by
   rcases (hS1 x hx).2 with h1 | h1
   ·exact h1
   ·have := hlt T hT x hx'; omega) (fun T hT x hx hn => by
   rintro (hx' | hx')
   ·exact hn hx'
   ·have := hlt T hT x hx; omega)
 have hsz := h.size
 refine ⟨e1.trans h.os, e2.trans h.tape, e3.trans h.output, Nat.le_trans h.size e4, ?_, hemb, S2 :: Ss', ⟨⟨hB', fun b hb => Nat.le_trans hsz (hS2 b hb).2⟩, fun T hT b hb hb' => ?_, ho'⟩, ?_⟩
 ·intro b hb hn
  rw [hkeep b (Nat.lt_of_lt_of_le hb h.size) (fun hSb => by
   rcases (hS S hm b hSb).2 with h1 | h1
   ·exact hn h1
   ·omega)]
  exact h.keep b hb hn
 ·rcases hm' T hT with hT' | rfl
  ·have := hlt T hT' b hb'
   have := (hS2 b hb).2
   omega
  ·exact hdis b hb' hb
 ·intro T hT b hb
  rcases List.mem_cons.1 hT with rfl | hT
  ·exact ⟨(hS2 b hb).1, .inr (Nat.le_trans hsz (hS2 b hb).2)⟩
  rcases hm' T hT with hT' | rfl
  ·obtain ⟨g1, g2⟩ := hS T hT' b hb
   refine ⟨?_, g2⟩
   cases hq : G' b with
   | none => rfl
   | some o =>
    have := hext.new b o hq g1
    have := hlt T hT' b hb
    omega
  ·obtain ⟨g1, g2⟩ := hS1 b hb
   refine ⟨g1, ?_⟩
   rcases g2 with g2 | g2
   ·exact (hS S hm b g2).2
   ·exact .inr (Nat.le_trans h.size g2)
section
variable {C : Ctx} {k : List It} {E : Env} {ι : Ids} {L : List Ent} {G : PH} {all : Array Oper} {l : List Oper}
theorem S_callPr (κ κ' : Nat) {A : HP} {d f : Nat} {xs : Array Operand} {ats : Array TypeId} {ty : Nat} {pos : String} {af : Array Edge} {g : Option (Nat × Bool)} {vs : List Value} {Post : Value → PH → HP → HP → Prop} {L' : HP → List Ent}
  (hcf : ∀ args w, (callFunc f args).run C.P w = .ok (.enter f args) w)
  (hc : Mod C.P f vs G A fun v G' R => ∃ A' B', R = pairHP A' B' ∧ Covers A A' ∧ Post v G' A' B') (hg : guardOf all E g = .on) (hN : Nat.ble (d + 1) C.n = true) (hxs : evs ι E xs.toList = some vs) (hL : getH κ L = some A) (hL' : ∀ A', setH κ A' L = some (L' A'))
  (hk : ∀ v G' A' B', Post v G' A' B' → PH.ext C.w0.heap.size G G' → X C (.ops all l :: k) ((d, .val v) :: E) ι (.hp κ' (newHP C.w0.heap.size B') :: L' A') G') : X C (.ops all (⟨some d, .call ⟨.value (.func f), xs, ats⟩, ty, pos, af, g⟩ :: l) :: k) E ι L G := by
 intro a w h1 h2 h3 h4
 have hdn : d < a.tmps.size := by rw [h2]; exact Nat.le_of_ble_eq_true hN
 obtain ⟨S, hA, hSG, hturn⟩ := h4.turn2 hL
 have hcc := hc w S h4.emb hA hSG
 refine wpE_call (f := f) (cap := #[]) (vs := vs) (guardOf_on h3 hg) J (evs_sound h3 hxs) hcf (R := fun v w' => ∃ G' A' B', Post v G' A' B' ∧ PH.ext C.w0.heap.size G G' ∧ SatW C ι (.hp κ' (newHP C.w0.heap.size B') :: L' A') G' w') ?_ ?_
 ·simp only [List.append_nil, List.toList_toArray]
  refine hcc.mono ?_;rintro e w' ⟨v, G', R, S', rfl, ⟨A', B', rfl, hcov, hp⟩, ⟨S1, S2, hA', hB', hdis, hS12⟩, hext, hemb, hS', e1, e2, e3, e4, hkeep⟩
  refine ⟨v, J, G', A', B', hp, hext.mono h4.size, ?_⟩
  refine hturn κ' A' B' _ G' w' S1 S2 (hL' A') hA' hB' hdis hemb hext (fun b hb => hS' b ((hS12 b).2 (.inl hb))) (fun b hb => ?_) e1 e2 e3 e4 hkeep
  obtain ⟨q1, q2⟩ := hS' b ((hS12 b).2 (.inr hb))
  exact ⟨q1, q2.resolve_left fun hSb => hdis b (hcov _ _ _ _ hA hA' b hSb) hb⟩
 ·rintro v w' ⟨G', A', B', hp, hext, hsat⟩
  exact hk v G' A' B' hp hext _ _ (h1.mono hext.le) (by simp [Act.put, h2]) (h3.put hdn J) hsat
end
section
variable {P : Program} {fn : Func} {n : Nat} {G0 G : PH} {w0 : World} {S0 : Nat → Prop} {k : List It} {E : Env} {ι : Ids} {L L1 : List Ent} {v : Value}
theorem SatW.pair {C : Ctx} {w : World} (κ κ' κ1 : Nat) (h4 : SatW C ι L G w) {A B : HP} {L2 : List Ent} (hL : getH κ L = some A) (hd : delH κ L = some L1) (hL1 : getH κ' L1 = some B) (hd1 : delH κ' L1 = some L2) : SatW C ι (.hp κ1 (pairHP A B) :: L2) G w := by
 obtain ⟨Ss, ho, hS⟩ := h4.own
 obtain ⟨S1, Ss1, hA, hm, ho1, hT1⟩ := owns_del ho hL hd
 obtain ⟨S2, Ss2, hB, hm2, ho2, hT2⟩ := owns_del ho1 hL1 hd1
 refine ⟨h4.os, h4.tape, h4.output, h4.size, h4.keep, h4.emb, (fun b => S1 b ∨ S2 b) :: Ss2, ⟨⟨S1, S2, hA, hB, fun b h1 h2 => (hT1 S2 hm2).2 b h2 h1, fun b => Iff.rfl⟩, ?_, ho2⟩, ?_⟩
 ·rintro T hT b (hb | hb) hb'
  ·exact (hT1 T (hT2 T hT).1).2 b hb' hb
  ·exact (hT2 T hT).2 b hb' hb
 ·intro T hT b hb
  rcases List.mem_cons.1 hT with rfl | hT
  ·rcases hb with hb | hb
   ·exact hS S1 hm b hb
   ·exact hS S2 (hT1 S2 hm2).1 b hb
  ·exact hS T (hT1 T (hT2 T hT).1).1 b hb
theorem S_pair {C : Ctx} (κ κ' κ1 : Nat) {A B : HP} {L2 : List Ent} (hL : getH κ L = some A) (hd : delH κ L = some L1) (hL1 : getH κ' L1 = some B) (hd1 : delH κ' L1 = some L2) (hk : X C k E ι (.hp κ1 (pairHP A B) :: L2) G) : X C k E ι L G :=
 fun a w h1 h2 h3 h4 => hk a w h1 h2 h3 (h4.pair κ κ' κ1 hL hd hL1 hd1)
end
section
variable {C : Ctx} {k : List It} {E : Env} {ι : Ids} {L : List Ent} {G : PH} {all : Array Oper} {l : List Oper}
theorem S_app1z {T : Tab} (hT : tabOk C.P T) (κ j : Nat) {base d t e sz' sz : Nat} {os os' : List Nat} {tk : TK} {zi : ZI} {s x : Operand} {ty ty' : Nat} {pos : String} {af : Array Edge} {g : Option (Nat × Bool)} {A : Option Addr} {n c b : Nat} {xs ns : List Value} {cs : List Cel} {L' : Option Addr → Nat → List Ent}
  (ht : lookT t T = some ⟨.slc e, sz', os'⟩) (he : lookT e T = some ⟨tk, sz, os⟩) (hz : lookZ e T.zs = some zi) (hzs : zi.zs.length = sz) (hzb : Nat.ble zi.b 1000 = true) (hsz : Nat.ble 1 sz = true)
  (hg : guardOf all E g = .on) (hN : Nat.ble (d + 1) C.n = true) (hs : ev E s = some (.val (.slice A n c))) (hx : ev E x = some (.slc j 0 1 1)) (hj : lookI j ι = some b) (hB : lookB j L = some (ty', cs)) (hcs : denL ι cs = some ns) (hns : ns.length = sz) (hone : ∀ u ∈ ns, u.oneCell' = true)
  (hL : getH κ L = some (rowO base e sz A n c xs)) (hL' : ∀ A' c', setH κ (rowO base e sz A' (n + 1) c' (xs ++ ns)) L = some (L' A' c')) (hlen : n ≤ 1000000000) (hbase : base ≤ C.w0.heap.size)
  (hk : ∀ A' c', (A' = A ∨ ∃ g, A' = some ⟨g, 0, none⟩) → X C (.ops all l :: k) ((d, .val (.slice A' (n + 1) c')) :: E) ι (L' A' c') G) : X C (.ops all (⟨some d, .call ⟨.builtin .append, #[s, x], #[t, t]⟩, ty, pos, af, g⟩ :: l) :: k) E ι L G := by
 have hzb' := Nat.le_of_ble_eq_true hzb
 have hby : (n + 1) * zi.b ≤ 140737488355328 := Nat.le_trans (Nat.mul_le_mul (by omega : n + 1 ≤ 1000000001) hzb') (by decide)
 refine S_appOz hT κ (news := ns) (m := 1) ht he hz hzs hsz hg hN hs hx (by rw [denO, hj]) hL (L' := L') hL' (src_blk j hB hcs hj (by simp [← hns]) (by simp [hns])) hone hby (by simp only [maxLen]; omega) hbase fun A' c' h => ?_;exact hk A' c' h
theorem S_app1 {T : Tab} (hT : tabOk C.P T) (κ j : Nat) {base d t e sz' sz : Nat} {os os' : List Nat} {tk : TK} {zi : ZI} {s x : Operand} {ty ty' : Nat} {pos : String} {af : Array Edge} {g : Option (Nat × Bool)} {A : Option Addr} {n c b : Nat} {xs ns : List Value} {cs : List Cel} {L' : Option Addr → Nat → List Ent}
  (ht : lookT t T = some ⟨.slc e, sz', os'⟩) (he : lookT e T = some ⟨tk, sz, os⟩) (hz : lookZ e T.zs = some zi) (hzs : zi.zs.length = sz) (hzb : Nat.ble zi.b 1000 = true) (hsz : Nat.ble 1 sz = true)
  (hg : guardOf all E g = .on) (hN : Nat.ble (d + 1) C.n = true) (hs : ev E s = some (.val (.slice A n c))) (hx : ev E x = some (.slc j 0 1 1)) (hj : lookI j ι = some b) (hB : lookB j L = some (ty', cs)) (hcs : denL ι cs = some ns) (hns : ns.length = sz) (hone : ∀ u ∈ ns, u.oneCell' = true)
  (hL : getH κ L = some (rowO base e sz A n c xs)) (hL' : ∀ A' c', setH κ (rowO base e sz A' (n + 1) c' (xs ++ ns)) L = some (L' A' c')) (hlen : n ≤ 1000000000) (hbase : base ≤ C.w0.heap.size)
  (hk : ∀ A' c', X C (.ops all l :: k) ((d, .val (.slice A' (n + 1) c')) :: E) ι (L' A' c') G) : X C (.ops all (⟨some d, .call ⟨.builtin .append, #[s, x], #[t, t]⟩, ty, pos, af, g⟩ :: l) :: k) E ι L G :=
 S_app1z hT κ j ht he hz hzs hzb hsz hg hN hs hx hj hB hcs hns hone hL hL' hlen hbase fun A' c' _ => hk A' c'
end
section
variable {C : Ctx} {k : List It} {E : Env} {ι : Ids} {L : List Ent} {G : PH} {all : Array Oper} {l : List Oper}
theorem S_buildSliceB {d t e m : Nat} {parts : Array (Nat × Operand)} {ty : Nat} {pos : String} {af : Array Edge} {g : Option (Nat × Bool)} {cs : List Cel} (hg : guardOf all E g = .on) (hN : Nat.ble (d + 1) C.n = true) (hd : lookI d ι = none)
  (hr : ∀ a w, AgE ι E a → ∃ vs, denL ι cs = some vs ∧ (Instr.buildSlice t m (parts.map fun (i, x) => (i, a.eval x))).run C.P w = .ok (.slice (some ⟨w.heap.size, 0, none⟩) m m) (w.alloc (.cells vs.toArray e)))
  (hk : ∀ b, C.w0.heap.size ≤ b → X C (.ops all l :: k) ((d, .slc d 0 m m) :: E) ((d, b) :: ι) (.blk d e cs :: L) G) : X C (.ops all (⟨some d, .buildSlice t m parts, ty, pos, af, g⟩ :: l) :: k) E ι L G := by
 intro a w h1 h2 h3 h4
 obtain ⟨vs, hvs, hr⟩ := hr a w h3
 have hrun : (execOp a.eval ⟨some d, .buildSlice t m parts, ty, pos, af, g⟩).run C.P w = .ok (.value (.slice (some ⟨w.heap.size, 0, none⟩) m m)) (w.alloc (.cells vs.toArray e)) := by
  simp only [execOp]; simp [hr]
 refine wpE_val (guardOf_on h3 hg) (by intro c h; cases h) hrun ?_
 have hdn : d < a.tmps.size := by rw [h2]; exact Nat.le_of_ble_eq_true hN
 exact hk w.heap.size h4.size _ _ h1 (by simp [Act.put, h2]) ((h3.ids hd).put hdn (by simp [denO, lookI])) (h4.alloc hd cs hvs)
theorem S_sliceB {T : Tab} {Z : ZTab} (hT : tabOk C.P T) (hZ : zOk C.P Z) {d t e m sz sz' : Nat} {os os' : List Nat} {tk : TK} {z : ZI} {parts : Array (Nat × Operand)} {ty : Nat} {pos : String} {af : Array Edge} {g : Option (Nat × Bool)} {cs : List Cel}
  (ht : lookT t T = some ⟨.slc e, sz', os'⟩) (he : lookT e T = some ⟨tk, sz, os⟩) (hz : lookZ e Z = some z) (hl : z.zs.length = sz) (hsm : m * sz ≤ 16777216) (hpos : 0 < m * sz)
  (hg : guardOf all E g = .on) (hN : Nat.ble (d + 1) C.n = true) (hd : lookI d ι = none) (hf : fillS (seqP sz m 0) E (vL (repL m z.zs)) parts.toList = some cs)
  (hk : ∀ b, C.w0.heap.size ≤ b → X C (.ops all l :: k) ((d, .slc d 0 m m) :: E) ((d, b) :: ι) (.blk d e cs :: L) G) : X C (.ops all (⟨some d, .buildSlice t m parts, ty, pos, af, g⟩ :: l) :: k) E ι L G := by
 refine S_buildSliceB hg hN hd ?_ hk
 intro a w hE
 obtain ⟨inf, v, hi, hv, hb, hc, _⟩ := viewZ_eq (hZ _ _ hz)
 obtain ⟨dsc, inf', hu, hi', hk', hsize, _⟩ := tyOk_parts (hT _ _ he)
 rw [hi] at hi'; cases hi'
 have hus := tyOk_slice (hT _ _ ht) rfl
 obtain ⟨vs', hv1, hv2⟩ := fillS_sound (ι := ι) hE (pl := seqP sz m 0) (place := fun i => some (i * sz, sz)) (by intro i x hx; rw [seqP_at hx]; simp) hf (denL_vL ι (repL m z.zs))
 refine ⟨vs', hv1, run_buildSlice w t e m _ vs'.toArray inf v hus hi hv (by rw [hsize]; simp; omega) (by rw [hsize]; simp only; omega) ?_⟩
 rw [hsize, hc]
 simp only
 rw [← hl] at hv2 ⊢
 rw [rep_range, Array.toList_map]
 exact hv2
theorem S_keepB (key : Nat) {b ty : Nat} {cs : List Cel} {vs : List Value} {L' : List Ent} (hj : lookI key ι = some b) (hB : lookB key L = some (ty, cs)) (hd : denL ι cs = some vs) (hL' : delB key L = some L') (hb0 : C.w0.heap.size ≤ b)
  (hk : PH.ext C.w0.heap.size G (G.add b (.cells vs.toArray ty (0, 0))) → X C k E ι L' (G.add b (.cells vs.toArray ty (0, 0)))) : X C k E ι L G := by
 refine S_lendB key hj hB hd hL' fun hG _ => hk ⟨le_add hG, fun x o hx hn => ?_⟩
 unfold PH.add at hx
 split at hx
 ·omega
 ·rw [hn] at hx; cases hx
theorem gcells_add {G : PH} {b ty : Nat} : ∀ {vs : List Value} {pre : List Value}, gcells (G.add b (.cells (pre ++ vs).toArray ty (0, 0))) ⟨b, pre.length, none⟩ vs
 | [], _ => trivial
 | v :: vs, pre => by
  refine ⟨?_, ?_⟩
  ·simp [gcell, PH.add]
  ·have := gcells_add (G := G) (b := b) (ty := ty) (vs := vs) (pre := pre ++ [v])
   rw [add_lit']
   simpa using this
theorem S_sliceG {T : Tab} {Z : ZTab} (hT : tabOk C.P T) (hZ : zOk C.P Z) {d t e m sz sz' : Nat} {os os' : List Nat} {tk : TK} {z : ZI} {parts : Array (Nat × Operand)} {ty : Nat} {pos : String} {af : Array Edge} {g : Option (Nat × Bool)} {cs : List Cel} {vs : List Value}
  (ht : lookT t T = some ⟨.slc e, sz', os'⟩) (he : lookT e T = some ⟨tk, sz, os⟩) (hz : lookZ e Z = some z) (hl : z.zs.length = sz) (hsm : m * sz ≤ 16777216) (hpos : 0 < m * sz)
  (hg : guardOf all E g = .on) (hN : Nat.ble (d + 1) C.n = true) (hd : lookI d ι = none) (hf : fillS (seqP sz m 0) E (vL (repL m z.zs)) parts.toList = some cs) (hcs : ∀ b, denL ((d, b) :: ι) cs = some vs)
  (hk : ∀ b G', PH.ext C.w0.heap.size G G' → gcells G' ⟨b, 0, none⟩ vs → X C (.ops all l :: k) ((d, .val (.slice (some ⟨b, 0, none⟩) m m)) :: E) ((d, b) :: ι) L G') : X C (.ops all (⟨some d, .buildSlice t m parts, ty, pos, af, g⟩ :: l) :: k) E ι L G := by
 refine S_sliceB hT hZ ht he hz hl hsm hpos hg hN hd hf fun b hb => ?_;refine S_keepB (L' := L) (ty := e) d (by simp [lookI]) (by simp [lookB]) (hcs b) (by simp [delB]) hb fun hext => ?_;refine S_reE (s := .slc d 0 m m) d (.val (.slice (some ⟨b, 0, none⟩) m m)) (by simp [look]) (by simp [denO, lookI]) ?_
 have hg0 := gcells_add (G := G) (b := b) (ty := e) (vs := vs) (pre := [])
 intro a w q1 q2 q3 q4
 refine hk b _ hext hg0 a w q1 q2 ?_ q4
 intro i s hi
 refine q3 i s ?_
 simp only [look] at hi ⊢
 split <;> simp_all
end
end
section
section
variable {C : Ctx} {k : List It} {E : Env} {ι : Ids} {L : List Ent} {G : PH}
theorem S_rdLe (κ : Nat) {b N : Nat} {sv : Value} (N' : Nat) {L' : List Ent} (hN : N ≤ N') (hL : getH κ L = some (rdHP b sv N)) (hL' : setH κ (rdHP b sv N') L = some L') (hx : X C k E ι L' G) : X C k E ι L G := by
 intro a w h1 h2 h3 h4
 refine hx a w h1 h2 h3 ?_;obtain ⟨S, hA, hSG, hturn⟩ := h4.turn hL
 refine hturn _ _ G w S hL' ?_ h4.emb XR (fun b hb => ⟨hSG b hb, .inl hb⟩) J J J (Nat.le_refl _) fun _ _ _ => J
 obtain ⟨ι0, L0, Ss0, ⟨p, hp, q1, q2⟩, q3⟩ := hA
 exact ⟨ι0, L0, Ss0, ⟨p, Nat.le_trans hp hN, q1, q2⟩, q3⟩
end
attribute [local irreducible] X Pure Mod
mutual
/-- no list within is long -/
def Stm.short : Stm → Prop
 | .mk _ _ _ _ x y => (x.length ≤ 1000000 ∧ shL x) ∧ y.length ≤ 1000000 ∧ shL y
def shL : List Stm → Prop
 | [] => True
 | s :: r => Stm.short s ∧ shL r
end
def Sh (l : List Stm) : Prop := l.length ≤ 1000000 ∧ shL l
theorem Stm.short_mk {k a b n : Int} {x y : List Stm} : Stm.short (.mk k a b n x y) ↔ Sh x ∧ Sh y := by simp [Stm.short, Sh]
theorem shL_iff : ∀ {l : List Stm}, shL l ↔ ∀ s ∈ l, Stm.short s
 | [] => by simp [shL]
 | s :: r => by simp [shL, shL_iff (l := r)]
theorem shL_append {l l' : List Stm} : shL (l ++ l') ↔ shL l ∧ shL l' := by
 rw [shL_iff, shL_iff, shL_iff]
 constructor
 ·exact fun h => ⟨fun s hs => h s (List.mem_append.2 (.inl hs)), fun s hs => h s (List.mem_append.2 (.inr hs))⟩
 ·rintro ⟨h1, h2⟩ s hs
  rcases List.mem_append.1 hs with hs | hs
  ·exact h1 s hs
  ·exact h2 s hs
theorem Sh_nil : Sh [] := ⟨by simp, trivial⟩
theorem rd_covers (b : Nat) (sv : Value) (N N' : Nat) : Covers (rdHP b sv N) (rdHP b sv N') := by
 rintro w w' S S' ⟨ι0, L0, Ss, ⟨p, _, rfl, rfl⟩, ho, hS⟩ ⟨ι1, L1, Ss', ⟨p', _, rfl, rfl⟩, ho', hS'⟩ x hx
 obtain ⟨T, hT, hTx⟩ := (hS x).1 hx
 cases Ss with
 | nil => cases hT
 | cons U Us =>
  cases Us with
  | cons => simp [owns] at ho
  | nil =>
   cases Ss' with
   | nil => simp [owns] at ho'
   | cons U' Us' =>
    obtain ⟨⟨c, _, hc, _, _, hU⟩, _⟩ := ho
    obtain ⟨⟨c', _, hc', _, _, hU'⟩, _⟩ := ho'
    simp [lookI] at hc hc'
    rw [List.mem_singleton.1 hT] at hTx
    exact (hS' x).2 ⟨U', List.mem_cons_self .., (hU' x).2 (by rw [(hU x).1 hTx, ← hc, ← hc'])⟩
def DrwL (f : Nat) (b : Nat) (sv : Value) (args : List Value) (N K : Nat) (G : PH) (e sz : Nat) (Post : Nat → List Value → PH → Prop) : Prop :=
 Mod Tryz.prog f (.pointer (some ⟨b, 0, none⟩) :: args) G (rdHP b sv N) fun v G' R => ∃ A' B', R = pairHP A' B' ∧ Covers (rdHP b sv N) A' ∧ A' = rdHP b sv (N + K) ∧ ∃ A n c xs base, v = .slice A n c ∧ B' = rowO base e sz A n c xs ∧ Post n xs G'
def stmL (most : Nat) (n : Nat) (xs : List Value) (G : PH) : Prop := ∃ l : List Stm, n = l.length ∧ l.length ≤ most ∧ Cs 6 (Stm.rep G) l xs ∧ shL l
def stmV (v : Value) (G : PH) : Prop := ∃ s cs, v = .agg cs.toArray ∧ Stm.rep G s cs ∧ Stm.short s
def kD : Nat → Nat
 | 0 => 10
 | d + 1 => 10 + 2 * (1 + 3 * kD d)
theorem c_l2Draws (b : Nat) (l : List Int) (sv : Value) (d N most : Nat) (room : Int) (G : PH) (hl : Byts G l sv) (hm : most ≤ 3) (hN : N + (1 + most * kD d) ≤ 1000000000)
  (hd : ∀ M G, Byts G l sv → M + kD d ≤ 1000000000 → Drw 118 b sv [.int .i64 (d : Nat), .int .i64 room] M (kD d) G stmV) :
  DrwL 126 b sv [.int .i64 (d : Nat), .int .i64 room, .int .i64 (most : Nat)] N (1 + most * kD d) G 40 6 (stmL most) := by
 obtain ⟨A, c, rfl, hl1, _⟩ := id hl
 refine Mod.intro Tryz.func126 Tryz.ntmps126 J J fun w S => ?_;refine Va J J ?_;refine S_emptyO Tk 5 J J J J fun A0 => ?_;refine Va J J ?_;refine S_add J J J J (by omega) ?_;refine Va J J ?_;refine S_callM 1 Tryz.call32 (c_pick b l _ _ N G hl ⟨by omega, by omega⟩ (by omega)) J J J J (fun _ => J) ?_;rintro v G2 A' ⟨rfl, rfl, m, rfl, h0, h1⟩ _
 refine Va J J ?_;obtain ⟨m, rfl⟩ := Int.eq_ofNat_of_zero_le h0
 have hmm : m ≤ most := by omega
 refine S_loop (α := Nat × Nat × Option Addr × Nat × List Value × List Stm × PH) (fun y => y.1 + y.2.2.2.2.2.1.length ≤ most ∧ y.2.1 + y.1 * kD d ≤ N + (1 + most * kD d) ∧ PH.ext w.heap.size G2 y.2.2.2.2.2.2 ∧ Cs 6 (Stm.rep y.2.2.2.2.2.2) y.2.2.2.2.2.1 y.2.2.2.2.1 ∧ shL y.2.2.2.2.2.1) (fun y => y.1) []
  (fun y => [(10, .val (.int .i64 (y.1 : Nat))), (9, .val (.slice y.2.2.1 y.2.2.2.2.2.1.length y.2.2.2.1)), (0, .val (.pointer (some ⟨b, 0, none⟩))), (1, .val (.int .i64 (d : Nat))), (2, .val (.int .i64 room))])
  (fun y => [.hp 5 (rowO w.heap.size 40 6 y.2.2.1 y.2.2.2.2.2.1.length y.2.2.2.1 y.2.2.2.2.1), .hp 1 (rdHP b (.slice A l.length c) y.2.1)]) (fun y => y.2.2.2.2.2.2) (m, N + 1, A0, 0, [], [], G2) ⟨by simpa using hmm, ?_, PH.ext.refl _ _, rfl, trivial⟩ rfl ?_ ?_ ?_
 ·have := Nat.mul_le_mul_right (kD d) hmm
  simp only
  omega
 ·exact ⟨⟨_, J, J⟩, ⟨_, J, J⟩, ⟨_, J, J⟩, ⟨_, J, J⟩, ⟨_, J, J⟩, trivial⟩
 ·exact .hp (.hp .nil)
 rintro ⟨i, M, A1, c1, xs, ls, G1⟩ ⟨hi, hM, hext, hcs, hsh⟩
 simp only at hi hM hext hcs hsh ⊢
 refine Va J J ?_
 refine S_condp J (fun h => ?_) (fun h => ?_) <;> refine Va J J ?_
 ·obtain ⟨j, rfl⟩ : ∃ j, i = j + 1 := ⟨i - 1, by omega⟩
  rw [Nat.succ_mul] at hM
  refine S_callM 1 Tryz.call118 (hd M G1 (Byts_le hext.le hl) (by omega)) J J J J (fun _ => J) ?_;rintro v G3 A' ⟨rfl, s, cs, rfl, hrep, hss⟩ hext3
  have hlen := Stm.rep_len hrep
  have hone := Stm.rep_one s cs hrep
  obtain ⟨c0, c1', c2', c3', c4', c5', rfl⟩ : ∃ c0 c1 c2 c3 c4 c5, cs = [c0, c1, c2, c3, c4, c5] := by
   match cs, hlen with
   | [a0, a1, a2, a3, a4, a5], _ => exact ⟨a0, a1, a2, a3, a4, a5, rfl⟩
  refine Va J J ?_;refine S_slice Tk ZT_ok J J J J (by decide) (by decide) J J J J fun b2 => ?_;refine Va J J ?_;refine S_app1 Tk 5 25 J J J J J J J J J J J J J J hone J (fun _ _ => J) (by omega) (Nat.le_refl _) fun A2 c2 => ?_;refine Va J J ?_;refine S_subI J J J J (by omega) ?_;refine Va J J ?_;refine S_again (j, M + kD d, A2, c2, _, ls ++ [s], G3) ⟨by simp; omega, by simp only; omega, hext.trans hext3, Cs_append (Cs_mono (Stm.reps_le hext3.le ls) hcs) hrep rfl, shL_append.2 ⟨hsh, hss, trivial⟩⟩ (by simp only; omega) rfl ⟨⟨_, rfl, by simp [denO]⟩, ⟨_, rfl, by simp [denO]⟩, ⟨_, rfl, rfl⟩, ⟨_, rfl, rfl⟩, ⟨_, rfl, rfl⟩, trivial⟩ ?_
  simp only [List.length_append, List.length_singleton]
  exact .drop (.hp (.hp .nil))
 ·obtain rfl : i = 0 := by omega
  refine S_rdLe 1 (N + (1 + most * kD d)) (by omega) J J ?_;refine S_pair 1 5 6 J J J J ?_;exact S_retm 6 (Res.t1 Tryz.results126 J J) J hext ⟨_, _, J, rd_covers _ _ _ _, J, _, _, _, _, _, J, J, ls, J, by omega, hcs, hsh⟩
theorem ints_of {G : PH} {a : Addr} {l : List Int} {n c : Nat} (h : gcells G a (intC l)) (hn : n = l.length) (hc : n ≤ c) (hcm : c ≤ maxLen) (hb : n ≤ 1000000000) (hi : ∀ x ∈ l, I64 x) : Ints G l (.slice (some a) n c) :=
 Sx_Ints ⟨some a, c, rfl, hb, hc, hcm, by rw [intC_length, hn]; omega, .inr ⟨a, rfl, h⟩⟩ hn hi
theorem c_numL (b : Nat) {l : List Int} {sv : Value} (q : List Int) {a : Addr} {n c N : Nat} {G : PH} (hl : Byts G l sv) (h : gcells G a (intC q)) (hn : (n : Int) = q.length) (hc : n ≤ c) (hcm : c ≤ maxLen) (hb : 0 < q.length ∧ n ≤ 1000000000) (hi : ∀ x ∈ q, I64 x) (hN : N + 1 ≤ 1000000000) :
  Drw 33 b sv [.slice (some a) n c] N 1 G fun v G' => G' = G ∧ ∃ m ∈ q, v = .int .i64 m :=
 c_num b l sv q _ N G hl (ints_of h (by omega) hc hcm hb.2 hi) hb.1 hN
theorem i64_small {l : List Int} (h : (l.all fun x => decide (-9223372036854775808 ≤ x ∧ x ≤ 9223372036854775807)) = true) : ∀ x ∈ l, I64 x := by
 intro x hx
 have := List.all_eq_true.1 h x hx
 simp only [decide_eq_true_eq] at this
 exact ⟨by omega, by omega⟩
theorem frz {α : Type} {G G' : PH} {sz : Nat} {rep : α → List Value → Prop} {L : List α} {A : Option Addr} {n c : Nat} {xs : List Value} (hcs : Cs sz rep L xs) (hn : n = L.length) (hb : n ≤ 1000000000) (hnc : n ≤ c) (hcm : c ≤ maxLen) (hcl : n = 0 ∨ ∃ a, A = some a ∧ gcells (newp G G') a xs) : Sr G' sz rep L (.slice A n c) := by
 subst hn
 refine Sx_Sr ⟨A, c, J, hb, hnc, hcm, Cs_length hcs, ?_⟩ J hcs
 rcases hcl with hcl | ⟨a, h1, h2⟩
 ·exact .inl hcl
 ·exact .inr ⟨a, h1, gcells_le (newp_le _ _) h2⟩
theorem c_l2Draw (b : Nat) (l : List Int) (sv : Value) (d N : Nat) (room : Int) (G : PH) (hl : Byts G l sv) (h3 : d ≤ 100) (hN : N + kD d ≤ 1000000000)
  (hd : 2 ≤ d → ∀ (most M : Nat) (room : Int) G, most ≤ 3 → Byts G l sv → M + (1 + most * kD (d - 1)) ≤ 1000000000 → DrwL 126 b sv [.int .i64 ((d : Int) - 1), .int .i64 room, .int .i64 (most : Nat)] M (1 + most * kD (d - 1)) G 40 6 (stmL most)) :
  Drw 118 b sv [.int .i64 (d : Nat), .int .i64 room] N (kD d) G stmV := by
 obtain ⟨A, c, rfl, hl1, _⟩ := id hl
 have hk : 10 ≤ kD d := by cases d <;> simp only [kD] <;> omega
 refine Mod.intro Tryz.func118 Tryz.ntmps118 J J fun w S => ?_;refine Va J J ?_;refine AZ ZT_ok J J J J fun b6 => ?_;refine Va J J ?_;refine S_callM 1 Tryz.call32 (c_pick b l _ _ N G hl ⟨by omega, by omega⟩ (by omega)) J J J J (fun _ => J) ?_;rintro v G2 A' ⟨rfl, rfl, a, rfl, ha0, ha1⟩ _
 refine Va J J ?_;refine S_callM 1 Tryz.call32 (c_pick b l _ _ _ _ hl ⟨by omega, by omega⟩ (by omega)) J J J J (fun _ => J) ?_;rintro v G2 A' ⟨rfl, rfl, bb, rfl, hb0, hb1⟩ _
 refine Va J J ?_;refine S_sliceG Tk ZT_ok J J J J (by decide) (by decide) J J J J (fun _ => J) fun bq Gq hxq hcq => ?_;refine Va J J ?_;refine S_callM 1 Tryz.call33 (c_numL b [1, 2, 3, 4, 5, 3, 4, 2, 8, 6, 7, 10, 9, 11, 8, 5] (Byts_le hxq.le hl) hcq J (Nat.le_refl _) (by decide) (by decide) (i64_small (by decide)) (by omega)) J J J J (fun _ => J) ?_;rintro v G' A' ⟨rfl, rfl, kind, hmem, rfl⟩ _
 refine Va J J ?_
 simp only [List.mem_cons, List.not_mem_nil, or_false] at hmem
 have hmem2 : kind = 1 ∨ kind = 2 ∨ kind = 3 ∨ kind = 4 ∨ kind = 5 ∨ kind = 6 ∨ kind = 7 ∨ kind = 8 ∨ kind = 9 ∨ kind = 10 ∨ kind = 11 := by omega
 clear hmem
 have hx2 := hxq
 rcases hmem2 with rfl | rfl | rfl | rfl | rfl | rfl | rfl | rfl | rfl | rfl | rfl
 all_goals
  repeat' (first
   | (refine GT J J J ?_; refine Va J J ?_)
   | (refine GF J J J ?_; refine Va J J ?_)
   | (refine S_guardp J J (fun h => ?_) (fun h => ?_) <;> refine Va J J ?_)
   | (refine S_guard J J (fun h => ?_) (fun h => ?_) <;> refine Va J J ?_)
   | (refine RT J J ?_; refine Va J J ?_)
   | (refine RF J J ?_; refine Va J J ?_))
 all_goals (try (simp at h; done))
 all_goals first
  |refine S_rdLe 1 (N + kD d) (by omega) J J ?_
   refine S_retm 1 (Res.c1 Tk Tryz.results118 J J) J (hxq) ⟨J, .mk _ _ _ _ [] [], _, J, Stm.rep_iff.2 ⟨_, _, J, ?_, ?_, ?_, ?_, Sr_nil J, Sr_nil J⟩, Stm.short_mk.2 ⟨Sh_nil, Sh_nil⟩⟩ <;> exact ⟨by omega, by omega⟩
  |refine S_sliceG Tk ZT_ok J J J J (by decide) (by decide) J J J J (fun _ => J) fun bq3 Gq3 hxq3 hcq3 => ?_
   refine Va J J ?_;refine S_callM 1 Tryz.call33 (c_numL b [1, 2, 3, 4, 5] (Byts_le (PH.ext.trans hxq hxq3).le hl) hcq3 J (Nat.le_refl _) (by decide) (by decide) (i64_small (by decide)) (by omega)) J J J J (fun _ => J) ?_;rintro v G' A' ⟨rfl, rfl, kind, hmem, rfl⟩ _
   refine Va J J ?_
   simp only [List.mem_cons, List.not_mem_nil, or_false] at hmem
   rcases hmem with rfl | rfl | rfl | rfl | rfl
   all_goals
    repeat' (first
     | (refine GT J J J ?_; refine Va J J ?_)
     | (refine GF J J J ?_; refine Va J J ?_)
     | (refine S_guardp J J (fun h => ?_) (fun h => ?_) <;> refine Va J J ?_)
     | (refine S_guard J J (fun h => ?_) (fun h => ?_) <;> refine Va J J ?_)
     | (refine RT J J ?_; refine Va J J ?_)
     | (refine RF J J ?_; refine Va J J ?_))
   all_goals first
    |refine S_rdLe 1 (N + kD d) (by omega) J J ?_
     refine S_retm 1 (Res.c1 Tk Tryz.results118 J J) J ((hxq.trans hxq3)) ⟨J, .mk _ _ _ _ [] [], _, J, Stm.rep_iff.2 ⟨_, _, J, ?_, ?_, ?_, ?_, Sr_nil J, Sr_nil J⟩, Stm.short_mk.2 ⟨Sh_nil, Sh_nil⟩⟩ <;> exact ⟨by omega, by omega⟩
    |refine S_sliceG Tk ZT_ok J J J J (by decide) (by decide) J J J J (fun _ => J) fun bq1 Gq1 hxq1 hcq1 => ?_
     refine Va J J ?_;refine S_callM 1 Tryz.call33 (c_numL b [0, 1, 2, 3, -1, 5] (Byts_le (PH.ext.trans ((hxq.trans hxq3)) hxq1).le hl) hcq1 J (Nat.le_refl _) (by decide) (by decide) (i64_small (by decide)) (by omega)) J J J J (fun _ => J) ?_;rintro v G' A' ⟨rfl, rfl, m1, hmem1, rfl⟩ _
     have hm1 : -1 ≤ m1 ∧ m1 ≤ 5 := by (simp only [List.mem_cons, List.not_mem_nil, or_false] at hmem1); omega
     refine Va J J ?_;refine S_rdLe 1 (N + kD d) (by omega) J J ?_
     refine S_retm 1 (Res.c1 Tk Tryz.results118 J J) J ((PH.ext.trans ((hxq.trans hxq3)) hxq1)) ⟨J, .mk _ _ _ _ [] [], _, J, Stm.rep_iff.2 ⟨_, _, J, ?_, ?_, ?_, ?_, Sr_nil J, Sr_nil J⟩, Stm.short_mk.2 ⟨Sh_nil, Sh_nil⟩⟩ <;> exact ⟨by omega, by omega⟩
    |refine S_callM 1 Tryz.call32 (c_pick b l _ _ _ _ (Byts_le (PH.ext.le ((hxq.trans hxq3))) hl) ⟨by omega, by omega⟩ (by omega)) J J J J (fun _ => J) ?_
     rintro v G2 A' ⟨rfl, rfl, m1, rfl, hm0, hm1⟩ _
     refine Va J J ?_;refine S_add J J J J (by omega) ?_;refine Va J J ?_;refine S_rdLe 1 (N + kD d) (by omega) J J ?_
     refine S_retm 1 (Res.c1 Tk Tryz.results118 J J) J ((hxq.trans hxq3)) ⟨J, .mk _ _ _ _ [] [], _, J, Stm.rep_iff.2 ⟨_, _, J, ?_, ?_, ?_, ?_, Sr_nil J, Sr_nil J⟩, Stm.short_mk.2 ⟨Sh_nil, Sh_nil⟩⟩ <;> exact ⟨by omega, by omega⟩
  |refine S_sliceG Tk ZT_ok J J J J (by decide) (by decide) J J J J (fun _ => J) fun bq1 Gq1 hxq1 hcq1 => ?_
   refine Va J J ?_;refine S_callM 1 Tryz.call33 (c_numL b [0, 1, 2, 3, -1, 5] (Byts_le (PH.ext.trans (hxq) hxq1).le hl) hcq1 J (Nat.le_refl _) (by decide) (by decide) (i64_small (by decide)) (by omega)) J J J J (fun _ => J) ?_;rintro v G' A' ⟨rfl, rfl, m1, hmem1, rfl⟩ _
   have hm1 : -1 ≤ m1 ∧ m1 ≤ 5 := by (simp only [List.mem_cons, List.not_mem_nil, or_false] at hmem1); omega
   refine Va J J ?_;refine S_rdLe 1 (N + kD d) (by omega) J J ?_
   refine S_retm 1 (Res.c1 Tk Tryz.results118 J J) J ((PH.ext.trans (hxq) hxq1)) ⟨J, .mk _ _ _ _ [] [], _, J, Stm.rep_iff.2 ⟨_, _, J, ?_, ?_, ?_, ?_, Sr_nil J, Sr_nil J⟩, Stm.short_mk.2 ⟨Sh_nil, Sh_nil⟩⟩ <;> exact ⟨by omega, by omega⟩
  |refine S_callM 1 Tryz.call32 (c_pick b l _ _ _ _ (Byts_le (PH.ext.le (hxq)) hl) ⟨by omega, by omega⟩ (by omega)) J J J J (fun _ => J) ?_
   rintro v G2 A' ⟨rfl, rfl, m1, rfl, hm0, hm1⟩ _
   refine Va J J ?_;refine S_add J J J J (by omega) ?_;refine Va J J ?_;refine S_rdLe 1 (N + kD d) (by omega) J J ?_
   refine S_retm 1 (Res.c1 Tk Tryz.results118 J J) J (hxq) ⟨J, .mk _ _ _ _ [] [], _, J, Stm.rep_iff.2 ⟨_, _, J, ?_, ?_, ?_, ?_, Sr_nil J, Sr_nil J⟩, Stm.short_mk.2 ⟨Sh_nil, Sh_nil⟩⟩ <;> exact ⟨by omega, by omega⟩
  |refine S_callM 1 Tryz.call32 (c_pick b l _ _ _ _ (Byts_le (PH.ext.le (hxq)) hl) ⟨by omega, by omega⟩ (by omega)) J J J J (fun _ => J) ?_
   rintro v G2 A' ⟨rfl, rfl, m1, rfl, hm0, hm1⟩ _
   refine Va J J ?_;refine S_rdLe 1 (N + kD d) (by omega) J J ?_
   refine S_retm 1 (Res.c1 Tk Tryz.results118 J J) J (hxq) ⟨J, .mk _ _ _ _ [] [], _, J, Stm.rep_iff.2 ⟨_, _, J, ?_, ?_, ?_, ?_, Sr_nil J, Sr_nil J⟩, Stm.short_mk.2 ⟨Sh_nil, Sh_nil⟩⟩ <;> exact ⟨by omega, by omega⟩
  | skip
 -- an if
 ·have h2 : 2 ≤ d := by simp at h; omega
  have hkd : kD d = 10 + 2 * (1 + 3 * kD (d - 1)) := by
   cases d
   ·omega
   ·rfl
  refine S_subI J J J J (by omega) ?_;refine Va J J ?_;refine S_callPr 1 300 Tryz.call126 (hd h2 2 _ room _ (by omega) (Byts_le hxq.le hl) (by omega)) J J J J (fun _ => J) ?_;rintro v G3 A' B' ⟨rfl, A1, n1, c1, xs1, base1, rfl, rfl, l1, rfl, hle1, hcs1, hsh1⟩ hext1
  refine S_newRow 300 J J ?_;refine S_freezeR 300 J J (Nat.le_refl _) fun G4 hext2 hnc1 hcm1 hcl1 => ?_
  have hv1 : Sts G4 l1 _ := frz (Cs_mono (Stm.reps_le hext2.le l1) hcs1) rfl (by omega) hnc1 hcm1 hcl1
  refine Va J J ?_;refine S_subI J J J J (by omega) ?_;refine Va J J ?_
  have e1 := (hxq.trans hext1).trans hext2
  refine S_callPr 1 301 Tryz.call126 (hd h2 2 _ room _ (by omega) (Byts_le e1.le hl) (by omega)) J J J J (fun _ => J) ?_;rintro v G5 A' B' ⟨rfl, A2, n2, c2, xs2, base2, rfl, rfl, l2, rfl, hle2, hcs2, hsh2⟩ hext3
  refine S_newRow 301 J J ?_;refine S_freezeR 301 J J (Nat.le_refl _) fun G6 hext4 hnc2 hcm2 hcl2 => ?_
  have hv2 : Sts G6 l2 _ := frz (Cs_mono (Stm.reps_le hext4.le l2) hcs2) rfl (by omega) hnc2 hcm2 hcl2
  refine Va J J ?_
  have e2 := (e1.trans hext3).trans hext4
  refine S_rdLe 1 (N + kD d) (by omega) J J ?_;refine S_retm 1 (Res.c1 Tk Tryz.results118 J J) J e2 ⟨J, .mk _ _ _ _ l1 l2, _, J, Stm.rep_iff.2 ⟨_, _, J, ⟨by omega, by omega⟩, ⟨by omega, by omega⟩, ⟨by omega, by omega⟩, ⟨by omega, by omega⟩, Sts_le (hext3.trans hext4).le hv1, hv2⟩, Stm.short_mk.2 ⟨⟨by omega, hsh1⟩, by omega, hsh2⟩⟩
 -- a while
 ·have h2 : 2 ≤ d := by simp at h; omega
  have hkd : kD d = 10 + 2 * (1 + 3 * kD (d - 1)) := by
   cases d
   ·omega
   ·rfl
  refine S_subI J J J J (by omega) ?_;refine Va J J ?_;refine S_callPr 1 300 Tryz.call126 (hd h2 2 _ room _ (by omega) (Byts_le hxq.le hl) (by omega)) J J J J (fun _ => J) ?_;rintro v G3 A' B' ⟨rfl, A1, n1, c1, xs1, base1, rfl, rfl, l1, rfl, hle1, hcs1, hsh1⟩ hext1
  refine S_newRow 300 J J ?_;refine Va J J ?_
  have e1 := hxq.trans hext1
  refine S_sliceG Tk ZT_ok J J J J (by decide) (by decide) J J J J (fun _ => J) fun bq1 Gq1 hxq1 hcq1 => ?_;refine Va J J ?_;refine S_callM 1 Tryz.call33 (c_numL b [0, 0, 0, 0, 0, 1] (Byts_le (e1.trans hxq1).le hl) hcq1 J (Nat.le_refl _) (by decide) (by decide) (i64_small (by decide)) (by omega)) J J J J (fun _ => J) ?_;rintro v G' A' ⟨rfl, rfl, m1, hmem1, rfl⟩ _
  have hm1 : 0 ≤ m1 ∧ m1 ≤ 1 := by (simp only [List.mem_cons, List.not_mem_nil, or_false] at hmem1); omega
  refine Va J J ?_;refine S_slice Tk ZT_ok J J J J (by decide) (by decide) J J J J fun b2 => ?_;refine Va J J ?_
  refine S_app1 Tk 300 105 J J J J J J J J J J J J J J (by intro u hu; simp at hu; rcases hu with rfl | rfl | rfl | rfl | rfl | rfl <;> rfl) rfl (fun _ _ => rfl) (by omega) (Nat.le_refl _) fun A2 c2 => ?_
  refine Va J J ?_;refine S_freezeR 300 J J (Nat.le_refl _) fun G4 hext2 hnc1 hcm1 hcl1 => ?_;refine Va J J ?_
  have hcs2 := Cs_append (x := Stm.mk 1 a 0 m1 [] []) hcs1 (Stm.rep_iff.2 ⟨_, _, rfl, ⟨by omega, by omega⟩, ⟨by omega, by omega⟩, ⟨by omega, by omega⟩, ⟨by omega, by omega⟩, Sr_nil rfl, Sr_nil rfl⟩) rfl
  have hv1 : Sts G4 (l1 ++ [Stm.mk 1 a 0 m1 [] []]) _ := frz (Cs_mono (Stm.reps_le (hxq1.trans hext2).le _) hcs2) (by simp) (by omega) hnc1 hcm1 hcl1
  refine S_rdLe 1 (N + kD d) (by omega) J J ?_;exact S_retm 1 (Res.c1 Tk Tryz.results118 J J) J ((e1.trans hxq1).trans hext2) ⟨J, .mk _ _ _ _ _ _, _, J, Stm.rep_iff.2 ⟨_, _, J, ⟨by omega, by omega⟩, ⟨by omega, by omega⟩, ⟨by omega, by omega⟩, ⟨by omega, by omega⟩, hv1, Sr_nil J⟩, Stm.short_mk.2 ⟨⟨by simp; omega, shL_append.2 ⟨hsh1, Stm.short_mk.2 ⟨Sh_nil, Sh_nil⟩, trivial⟩⟩, Sh_nil⟩⟩
 -- in a room
 ·have h2 : 2 ≤ d := by
   rename_i h9 h8
   simp at h8 h9
   omega
  have hkd : kD d = 10 + 2 * (1 + 3 * kD (d - 1)) := by
   cases d
   ·omega
   ·rfl
  refine S_callM 1 Tryz.call32 (c_pick b l _ _ _ _ (Byts_le hxq.le hl) ⟨by omega, by omega⟩ (by omega)) J J J J (fun _ => J) ?_;rintro v G2 A' ⟨rfl, rfl, m1, rfl, hm0, hm1⟩ _
  refine Va J J ?_;refine S_subI J J J J (by omega) ?_;refine Va J J ?_;refine S_callPr 1 300 Tryz.call126 (hd h2 3 _ m1 _ (by omega) (Byts_le hxq.le hl) (by omega)) J J J J (fun _ => J) ?_;rintro v G3 A' B' ⟨rfl, A1, n1, c1, xs1, base1, rfl, rfl, l1, rfl, hle1, hcs1, hsh1⟩ hext1
  refine S_newRow 300 J J ?_;refine S_freezeR 300 J J (Nat.le_refl _) fun G4 hext2 hnc1 hcm1 hcl1 => ?_
  have hv1 : Sts G4 l1 _ := frz (Cs_mono (Stm.reps_le hext2.le l1) hcs1) rfl (by omega) hnc1 hcm1 hcl1
  refine Va J J ?_;refine S_rdLe 1 (N + kD d) (by omega) J J ?_;exact S_retm 1 (Res.c1 Tk Tryz.results118 J J) J ((hxq.trans hext1).trans hext2) ⟨J, .mk _ _ _ _ _ _, _, J, Stm.rep_iff.2 ⟨_, _, J, ⟨by omega, by omega⟩, ⟨by omega, by omega⟩, ⟨by omega, by omega⟩, ⟨by omega, by omega⟩, hv1, Sr_nil J⟩, Stm.short_mk.2 ⟨⟨by omega, hsh1⟩, Sh_nil⟩⟩
 -- a wait
 ·refine S_cond J (fun h => ?_) (fun h => ?_) <;> refine Va J J ?_
  ·refine S_sliceG Tk ZT_ok J J J J (by decide) (by decide) J J J J (fun _ => J) fun bq3 Gq3 hxq3 hcq3 => ?_
   refine Va J J ?_;refine S_callM 1 Tryz.call33 (c_numL b [1, 2, 3, 4, 5] (Byts_le (PH.ext.trans hxq hxq3).le hl) hcq3 J (Nat.le_refl _) (by decide) (by decide) (i64_small (by decide)) (by omega)) J J J J (fun _ => J) ?_;rintro v G' A' ⟨rfl, rfl, kind, hmem, rfl⟩ _
   refine Va J J ?_
   simp only [List.mem_cons, List.not_mem_nil, or_false] at hmem
   rcases hmem with rfl | rfl | rfl | rfl | rfl
   all_goals
    repeat' (first
     | (refine GT J J J ?_; refine Va J J ?_)
     | (refine GF J J J ?_; refine Va J J ?_)
     | (refine S_guardp J J (fun h => ?_) (fun h => ?_) <;> refine Va J J ?_)
     | (refine S_guard J J (fun h => ?_) (fun h => ?_) <;> refine Va J J ?_)
     | (refine RT J J ?_; refine Va J J ?_)
     | (refine RF J J ?_; refine Va J J ?_))
   all_goals first
    |refine S_rdLe 1 (N + kD d) (by omega) J J ?_
     refine S_retm 1 (Res.c1 Tk Tryz.results118 J J) J ((hxq.trans hxq3)) ⟨J, .mk _ _ _ _ [] [], _, J, Stm.rep_iff.2 ⟨_, _, J, ?_, ?_, ?_, ?_, Sr_nil J, Sr_nil J⟩, Stm.short_mk.2 ⟨Sh_nil, Sh_nil⟩⟩ <;> exact ⟨by omega, by omega⟩
    |refine S_sliceG Tk ZT_ok J J J J (by decide) (by decide) J J J J (fun _ => J) fun bq1 Gq1 hxq1 hcq1 => ?_
     refine Va J J ?_;refine S_callM 1 Tryz.call33 (c_numL b [0, 1, 2, 3, -1, 5] (Byts_le (PH.ext.trans ((hxq.trans hxq3)) hxq1).le hl) hcq1 J (Nat.le_refl _) (by decide) (by decide) (i64_small (by decide)) (by omega)) J J J J (fun _ => J) ?_;rintro v G' A' ⟨rfl, rfl, m1, hmem1, rfl⟩ _
     have hm1 : -1 ≤ m1 ∧ m1 ≤ 5 := by (simp only [List.mem_cons, List.not_mem_nil, or_false] at hmem1); omega
     refine Va J J ?_;refine S_rdLe 1 (N + kD d) (by omega) J J ?_
     refine S_retm 1 (Res.c1 Tk Tryz.results118 J J) J ((PH.ext.trans ((hxq.trans hxq3)) hxq1)) ⟨J, .mk _ _ _ _ [] [], _, J, Stm.rep_iff.2 ⟨_, _, J, ?_, ?_, ?_, ?_, Sr_nil J, Sr_nil J⟩, Stm.short_mk.2 ⟨Sh_nil, Sh_nil⟩⟩ <;> exact ⟨by omega, by omega⟩
    |refine S_callM 1 Tryz.call32 (c_pick b l _ _ _ _ (Byts_le (PH.ext.le ((hxq.trans hxq3))) hl) ⟨by omega, by omega⟩ (by omega)) J J J J (fun _ => J) ?_
     rintro v G2 A' ⟨rfl, rfl, m1, rfl, hm0, hm1⟩ _
     refine Va J J ?_;refine S_add J J J J (by omega) ?_;refine Va J J ?_;refine S_rdLe 1 (N + kD d) (by omega) J J ?_
     refine S_retm 1 (Res.c1 Tk Tryz.results118 J J) J ((hxq.trans hxq3)) ⟨J, .mk _ _ _ _ [] [], _, J, Stm.rep_iff.2 ⟨_, _, J, ?_, ?_, ?_, ?_, Sr_nil J, Sr_nil J⟩, Stm.short_mk.2 ⟨Sh_nil, Sh_nil⟩⟩ <;> exact ⟨by omega, by omega⟩
  ·repeat' (first
    | (refine GT J J J ?_; refine Va J J ?_)
    | (refine GF J J J ?_; refine Va J J ?_)
    | (refine S_guardp J J (fun h => ?_) (fun h => ?_) <;> refine Va J J ?_)
    | (refine S_guard J J (fun h => ?_) (fun h => ?_) <;> refine Va J J ?_)
    | (refine RT J J ?_; refine Va J J ?_)
    | (refine RF J J ?_; refine Va J J ?_))
   refine S_callM 1 Tryz.call32 (c_pick b l _ _ _ _ (Byts_le (PH.ext.le (hxq)) hl) ⟨by omega, by omega⟩ (by omega)) J J J J (fun _ => J) ?_;rintro v G2 A' ⟨rfl, rfl, m1, rfl, hm0, hm1⟩ _
   refine Va J J ?_;refine S_rdLe 1 (N + kD d) (by omega) J J ?_
   refine S_retm 1 (Res.c1 Tk Tryz.results118 J J) J (hxq) ⟨J, .mk _ _ _ _ [] [], _, J, Stm.rep_iff.2 ⟨_, _, J, ?_, ?_, ?_, ?_, Sr_nil J, Sr_nil J⟩, Stm.short_mk.2 ⟨Sh_nil, Sh_nil⟩⟩ <;> exact ⟨by omega, by omega⟩
theorem c_l2Draws_all (b : Nat) (l : List Int) (sv : Value) : ∀ (d : Nat), d ≤ 100 → (∀ N (room : Int) G, Byts G l sv → N + kD d ≤ 1000000000 → Drw 118 b sv [.int .i64 (d : Nat), .int .i64 room] N (kD d) G stmV) ∧
  ∀ (most N : Nat) (room : Int) G, most ≤ 3 → Byts G l sv → N + (1 + most * kD d) ≤ 1000000000 → DrwL 126 b sv [.int .i64 (d : Nat), .int .i64 room, .int .i64 (most : Nat)] N (1 + most * kD d) G 40 6 (stmL most)
 | 0, h3 => by
  have h1 : ∀ N (room : Int) G, Byts G l sv → N + kD 0 ≤ 1000000000 → Drw 118 b sv [.int .i64 (0 : Nat), .int .i64 room] N (kD 0) G stmV := fun N room G hl hN => c_l2Draw b l sv 0 N room G hl h3 hN (fun h => by omega)
  exact ⟨h1, fun most N room G hm hl hN => c_l2Draws b l sv 0 N most room G hl hm hN fun M G hl hM => h1 M room G hl hM⟩
 | d + 1, h3 => by
  have ih := (c_l2Draws_all b l sv d (by omega)).2
  have h1 : ∀ N (room : Int) G, Byts G l sv → N + kD (d + 1) ≤ 1000000000 → Drw 118 b sv [.int .i64 (d + 1 : Nat), .int .i64 room] N (kD (d + 1)) G stmV := fun N room G hl hN => c_l2Draw b l sv (d + 1) N room G hl h3 hN (fun h most M room G hm hl hM => by
   have := ih most M room G hm hl hM
   rw [show (((d + 1 : Nat) : Int) - 1) = ((d : Nat) : Int) by omega]
   exact this)
  exact ⟨h1, fun most N room G hm hl hN => c_l2Draws b l sv (d + 1) N most room G hl hm hN fun M G hl hM => h1 M room G hl hM⟩
end
section
section
variable {C : Ctx} {k : List It} {E : Env} {ι : Ids} {L : List Ent} {G : PH} {all : Array Oper} {l : List Oper}
theorem set_mid {l : List Value} {o : Nat} {v : Value} (h : o < l.length) : l.take o ++ [v] ++ l.drop (o + 1) = l.set o v := by
 rw [List.set_eq_take_append_cons_drop, if_pos h]; simp
theorem S_storeO {T : Tab} (hT : tabOk C.P T) (κ : Nat) {base e sz t : Nat} {i : TyI} {x y : Operand} {s : Sym} {gb off o n c ty : Nat} {v : Value} {xs : List Value} {L' : List Ent} {pos : String} {af : Array Edge} {g : Option (Nat × Bool)} {ad : Addr}
  (hL : getH κ L = some (rowO base e sz (some ⟨gb, off, none⟩) n c xs)) (hL' : setH κ (rowO base e sz (some ⟨gb, off, none⟩) n c (xs.set o v)) L = some L')
  (hx : ev E x = some (.val (.pointer (some ad)))) (had : ad = ⟨gb, off + o, none⟩) (hy : ev E y = some s) (hys : denO ι s = some v) (hone : v.oneCell' = true) (ht : lookT t T = some i) (hsz : i.size = 1) (ho : o < xs.length) (hg : guardOf all E g = .on)
  (hk : X C (.ops all l :: k) E ι L' G) : X C (.ops all (⟨none, .store t x y, ty, pos, af, g⟩ :: l) :: k) E ι L G := by
 intro a w h1 h2 h3 h4
 obtain ⟨S, hA, hSG, hturn⟩ := h4.turn hL
 obtain ⟨q1, q2, q3, q4⟩ := hA
 rcases q4 with ⟨q, _⟩ | ⟨g', off', cur, q, q0, q5, q6, q7, q8⟩
 ·cases q
 cases q
 have ex := ev_sound h3 hx
 have ey := ev_sound h3 hy
 subst had
 rw [hys] at ey
 simp only [denO, Option.some.injEq] at ex ey
 have hfit : off + o + [v].length ≤ cur.toList.length := by
  have h6 : xs.length ≤ cur.toList.length - off := by
   have := congrArg List.length q7
   simp only [List.length_take, List.length_drop] at this
   omega
  simp only [List.length_singleton]
  omega
 obtain ⟨w', hr, hh', hoth, e1, e2, e3, e4⟩ := run_storeCells_blk (P := C.P) (w := w) (b := gb) (o := off + o) (ty := e) (cs := cur.toList) (vs := [v]) (by simpa using q5) hfit (by intro u hu; rw [List.mem_singleton.1 hu]; exact hone)
 have hrun : (execOp a.eval ⟨none, .store t x y, ty, pos, af, g⟩).run C.P w = .ok .skip w' := by
  have hcells : (a.eval y).cells = [v].toArray := by
   rw [← ey]; exact oneCell_of (P := C.P) hone
  simp only [execOp, ← ex]
  simp [Instr.storeAt, Instr.sureAddr, storeVar, tyOk_size (hT _ _ ht), hsz, hcells]
  rw [hr]
  try simp
 refine wpE_skipv (guardOf_on h3 hg) (by rintro c h; cases h) hrun ?_;refine hk _ _ h1 h2 h3 ?_;refine hturn _ _ G w' S hL' ?_ (fun b o' hb => ?_) XR (fun b hb => ⟨hSG b hb, .inl hb⟩) e1 e2 e3 (by rw [e4]; exact Nat.le_refl _) fun b _ hn => hoth b fun h => hn ((q8 b).2 h)
 ·refine ⟨by simpa using q1, q2, q3, .inr ⟨gb, off, _, J, q0, hh', ?_, ?_, q8⟩⟩
  ·simp at hfit ⊢; omega
  ·rw [List.length_singleton, set_mid (by simp at hfit ⊢; omega)]
   simp only [List.toList_toArray, List.length_set]
   rw [List.drop_set, if_neg (by omega), List.take_set, q7]
   congr 1
   omega
 ·rw [hoth b (by rintro rfl; have := hSG _ ((q8 _).2 rfl); rw [this] at hb; cases hb)]
  exact h4.emb b o' hb
end
theorem V_loadR' {C : Ctx} {ι : Ids} {E : Env} {L : List Ent} {G : PH} {d : Option Nat} {ty : Nat} {pos : String} {af : Array Edge} {g : Option (Nat × Bool)} {T : Tab} (hT : tabOk C.P T) (κ : Nat) {t : Nat} {i : TyI} {x : Operand} {gb off o : Nat} {v : Value} {base e sz : Nat} {n c : Nat} {xs : List Value} {ad : Addr}
  (hL : getH κ L = some (rowO base e sz (some ⟨gb, off, none⟩) n c xs)) (hx : ev E x = some (.val (.pointer (some ad)))) (had : ad = ⟨gb, off + o, none⟩) (ht : lookT t T = some i) (hk0 : i.k.isAgg = false) (hc : xs[o]? = some v) : Vl C ι E L G ⟨d, .load t x, ty, pos, af, g⟩ v := by
 subst had
 exact V_loadR hT κ hL hx ht hk0 hc
theorem V_loadRA {C : Ctx} {ι : Ids} {E : Env} {L : List Ent} {G : PH} {d : Option Nat} {ty : Nat} {pos : String} {af : Array Edge} {g : Option (Nat × Bool)} {T : Tab} (hT : tabOk C.P T) (κ : Nat) {t m : Nat} {os : List Nat} {x : Operand} {gb off o : Nat} {base e sz : Nat} {n c : Nat} {xs cs : List Value} {ad : Addr}
  (hL : getH κ L = some (rowO base e sz (some ⟨gb, off, none⟩) n c xs)) (hx : ev E x = some (.val (.pointer (some ad)))) (had : ad = ⟨gb, off + o, none⟩) (ht : lookT t T = some ⟨.agg, m, os⟩) (hcs : (xs.drop o).take m = cs) (hl : cs.length = m) : Vl C ι E L G ⟨d, .load t x, ty, pos, af, g⟩ (.agg cs.toArray) := by
 intro a w hE hw
 subst had
 obtain ⟨Ss, ho, _⟩ := hw.own
 obtain ⟨S, ⟨q1, q2, q3, q4⟩, _⟩ := owns_split ho hL
 have ex := ev_sound hE hx
 simp only [denO, Option.some.injEq] at ex
 rcases q4 with ⟨q4, _⟩ | ⟨g', off', cur, q, _, q5, q6, q7, q8⟩
 ·cases q4
 ·cases q
  have hcell : ∀ j v, cs[j]? = some v → w.cell? ((⟨gb, off + o, none⟩ : Addr).add j) = some v := by
   intro j v hj
   have hjm : j < m := by rw [← hl]; exact (List.getElem?_eq_some_iff.1 hj).1
   have hj' : xs[o + j]? = some v := by
    rw [← hj, ← hcs, List.getElem?_take_of_lt hjm, List.getElem?_drop]
   have := cells_at q5 q7 (o + j) v hj'
   rw [add_lit'] at this ⊢
   rw [Nat.add_assoc]; exact this
  have hr := run_loadCells_list (P := C.P) (w := w) ⟨gb, off + o, none⟩ cs hcell
  rw [hl] at hr
  have hag : (match (⟨.agg, m, os⟩ : TyI).k with | .agg => true | _ => false) = true := rfl
  simp only [execOp, ← ex]
  simp [Instr.loadAt, loadVar, Instr.sureAddr, tyOk_agg (hT _ _ ht), TK.isAgg, tyOk_size (hT _ _ ht), hr]
theorem Cs_at {α : Type} {sz : Nat} {rep : α → List Value → Prop} : ∀ {L : List α} {xs : List Value} {k : Nat} (h : Cs sz rep L xs) (hk : k < L.length), ∃ cs, (xs.drop (k * sz)).take sz = cs ∧ cs.length = sz ∧ rep L[k] cs ∧ ∀ f v x', f < sz → rep x' (cs.set f v) → Cs sz rep (L.set k x') (xs.set (k * sz + f) v)
 | [], _, _, _, hk => by simp at hk
 | x :: L, xs, 0, h, _ => by
  obtain ⟨cs, ys, rfl, h2, h3, h4⟩ := h
  refine ⟨cs, by simp [← h2], h2, h3, fun f v x' hf hx => ?_⟩
  rw [Nat.zero_mul, Nat.zero_add, List.set_append_left _ _ (by omega)]
  exact ⟨cs.set f v, ys, J, by simpa using h2, hx, h4⟩
 | x :: L, xs, k + 1, h, hk => by
  obtain ⟨cs, ys, rfl, h2, h3, h4⟩ := h
  obtain ⟨ds, e1, e2, e3, e4⟩ := Cs_at h4 (k := k) (by simpa using hk)
  refine ⟨ds, ?_, e2, by simpa using e3, fun f v x' hf hx => ?_⟩
  ·rw [Nat.succ_mul, Nat.add_comm, ← List.drop_drop, List.drop_left' h2]; exact e1
  ·rw [Nat.succ_mul, List.set_append_right _ _ (by rw [h2]; omega)]
   refine ⟨cs, _, J, h2, h3, ?_⟩
   have := e4 f v x' hf hx
   rw [show k * sz + sz + f - cs.length = k * sz + f by omega]
   exact this
end
section
attribute [local irreducible] X Pure Mod
def someV (v : Value) (G : PH) : Prop := ∃ l, Sts G l v ∧ Sh l ∧ stmtsOk l = true
theorem stmtsOk_nil : stmtsOk [] = true := by decide
theorem sts_cells {G : PH} {l : List Stm} {v : Value} (h : Sts G l v) : ∃ A c xs, v = .slice A l.length c ∧ xs.length = l.length * 6 ∧ (l.length = 0 ∨ ∃ a, A = some a ∧ gcells G a xs) ∧ Cs 6 (Stm.rep G) l xs := by
 obtain ⟨xs, hx, hc⟩ := Sr_Sx (fun s cs h => Stm.rep_len h) h
 obtain ⟨A, c, rfl, _, _, _, hl, hr⟩ := hx
 exact ⟨A, c, xs, J, hl, hr, hc⟩
theorem six {cs : List Value} (h : cs.length = 6) : ∃ c0 c1 c2 c3 c4 c5, cs = [c0, c1, c2, c3, c4, c5] := by
 match cs, h with
 | [a0, a1, a2, a3, a4, a5], _ => exact ⟨a0, a1, a2, a3, a4, a5, rfl⟩
theorem c_l2Some (b : Nat) (l : List Int) (sv : Value) (N : Nat) (G : PH) (hl : Byts G l sv) (hN : N + (1 + 6 * kD 3) ≤ 1000000000) : Drw 106 b sv [] N (1 + 6 * kD 3) G someV := by
 obtain ⟨A, c, rfl, hl1, _⟩ := id hl
 refine Mod.intro Tryz.func106 Tryz.ntmps106 J J fun w S => ?_;refine Va J J ?_;refine S_emptyO Tk 5 J J J J fun A0 => ?_;refine S_freezeR 5 J J (Nat.le_refl _) fun G1 hext1 _ _ _ => ?_
 have hout : Sts G1 [] (.slice A0 0 0) := ⟨A0, 0, rfl, by simp, Nat.le_refl _, by simp [maxLen], .inl rfl⟩
 refine Va J J ?_;refine S_sliceG Tk ZT_ok J J J J (by decide) (by decide) J J J J (fun _ => J) fun bq Gq hxq hcq => ?_;refine Va J J ?_;refine S_callM 1 Tryz.call33 (c_numL b [3, 4, 5, 6, 2, 0] (Byts_le (hext1.trans hxq).le hl) hcq J (Nat.le_refl _) (by decide) (by decide) (i64_small (by decide)) (by omega)) J J J J (fun _ => J) ?_;rintro v G' A' ⟨rfl, rfl, m, hmem, rfl⟩ _
 have hm : 0 ≤ m ∧ m ≤ 6 := by (simp only [List.mem_cons, List.not_mem_nil, or_false] at hmem); omega
 obtain ⟨m, rfl⟩ := Int.eq_ofNat_of_zero_le hm.1
 refine Va J J ?_;refine S_loop (α := Nat × Nat × Option Addr × Nat × List Stm × PH) (fun y => y.1 ≤ 6 ∧ y.2.1 + y.1 * kD 3 ≤ N + (1 + 6 * kD 3) ∧ PH.ext w.heap.size G y.2.2.2.2.2 ∧ Sts y.2.2.2.2.2 y.2.2.2.2.1 (.slice y.2.2.1 y.2.2.2.2.1.length y.2.2.2.1) ∧ Sh y.2.2.2.2.1 ∧ stmtsOk y.2.2.2.2.1 = true ∧ y.2.2.2.2.1.length + y.1 ≤ 6) (fun y => y.1) []
  (fun y => [(4, .val (.int .i64 (y.1 : Nat))), (3, .val (.slice y.2.2.1 y.2.2.2.2.1.length y.2.2.2.1)), (0, .val (.pointer (some ⟨b, 0, none⟩)))])
  (fun y => [.hp 1 (rdHP b (.slice A l.length c) y.2.1)]) (fun y => y.2.2.2.2.2) (m, N + 1, A0, 0, [], G') ⟨by simp only; omega, ?_, hext1.trans hxq, Sts_le hxq.le hout, Sh_nil, stmtsOk_nil, by simp only [List.length_nil]; omega⟩ rfl ?_ ?_ ?_
 ·have := Nat.mul_le_mul_right (kD 3) (show m ≤ 6 by omega)
  simp only
  omega
 ·exact ⟨⟨_, J, J⟩, ⟨_, J, J⟩, ⟨_, J, J⟩, trivial⟩
 ·exact .hp .nil
 rintro ⟨i, M, A1, c1, ls, G2⟩ ⟨hi, hM, hext, hst, hsh, hok, hlen⟩
 simp only at hi hM hext hst hsh hok hlen ⊢
 refine Va J J ?_
 refine S_condp J (fun h => ?_) (fun h => ?_) <;> refine Va J J ?_
 ·obtain ⟨j, rfl⟩ : ∃ j, i = j + 1 := ⟨i - 1, by omega⟩
  rw [Nat.succ_mul] at hM
  obtain ⟨A2, c2, xs, e, hxl, hxg, hcs⟩ := sts_cells hst
  cases e
  refine S_emptyO Tk 5 J J J J fun A3 => ?_;refine Va J J ?_;refine S_appO Tk 5 J J J J J J J J J J J (fun _ _ => J) (src_G hxl hxg) (Cs_one Stm.rep_one hcs) (by simp only; omega) (by simp only [maxLen]; omega) (Nat.le_refl _) fun A4 c4 => ?_;refine Va J J ?_;refine S_callM 1 Tryz.call118 ((c_l2Draws_all b l _ 3 (by omega)).1 M (-1) G2 (Byts_le hext.le hl) (by omega)) J J J J (fun _ => J) ?_;rintro v G3 A' ⟨rfl, s, cs, rfl, hrep, hss⟩ hext3
  have hone := Stm.rep_one s cs hrep
  obtain ⟨c0, c1', c2', c3', c4', c5', rfl⟩ := six (Stm.rep_len hrep)
  refine Va J J ?_;refine S_slice Tk ZT_ok J J J J (by decide) (by decide) J J J J fun b2 => ?_;refine Va J J ?_;refine S_app1 Tk 5 19 J J J J J J J J J J J J J J hone J (fun _ _ => J) (by omega) (Nat.le_refl _) fun A5 c5 => ?_;refine Va J J ?_;refine S_freezeR 5 J J (Nat.le_refl _) fun G4 hext4 hnc hcm hcl => ?_
  have hcs2 : Cs 6 (Stm.rep G4) (ls ++ [s]) ([] ++ xs ++ [c0, c1', c2', c3', c4', c5']) := Cs_append (Cs_mono (Stm.reps_le (hext3.trans hext4).le ls) (by simpa using hcs)) (Stm.rep_le hext4.le s _ hrep) rfl
  have hv : Sts G4 (ls ++ [s]) _ := frz hcs2 (by simp) (by omega) hnc hcm hcl
  have hsh2 : Sh (ls ++ [s]) := ⟨by simp; omega, shL_append.2 ⟨hsh.2, hss, trivial⟩⟩
  refine Va J J ?_;refine S_call Tryz.call68 (c_StmtsOk (ls ++ [s]) _ G4 hv) J J J ?_;rintro v G5 ⟨rfl, rfl⟩ _
  refine Va J J ?_
  have hxx := (hext.trans hext3).trans hext4
  refine S_cond J (fun h => ?_) (fun h => ?_) <;> refine Va J J ?_
  ·refine S_subI J J J J (by omega) ?_
   refine Va J J ?_;refine S_again (j, M + kD 3, A5, c5, ls ++ [s], G5) ⟨by simp only; omega, by simp only; omega, hxx, by simpa using hv, hsh2, h, by simp; omega⟩ (by simp only; omega) rfl ⟨⟨_, rfl, by simp [denO]⟩, ⟨_, rfl, by simp [denO]⟩, ⟨_, rfl, rfl⟩, trivial⟩ ?_;exact .drop (.hp .nil)
  ·refine S_subI J J J J (by omega) ?_
   refine Va J J ?_;refine S_again (j, M + kD 3, A1, c1, ls, G5) ⟨by simp only; omega, by simp only; omega, hxx, Sts_le (hext3.trans hext4).le hst, hsh, hok, by simp only; omega⟩ (by simp only; omega) rfl ⟨⟨_, rfl, by simp [denO]⟩, ⟨_, rfl, by simp [denO]⟩, ⟨_, rfl, rfl⟩, trivial⟩ ?_;exact .drop (.hp .nil)
 ·obtain rfl : i = 0 := by omega
  refine S_rdLe 1 (N + (1 + 6 * kD 3)) (by omega) J J ?_;exact S_retm 1 (Res.t1 Tryz.results106 J J) J hext ⟨J, ls, hst, hsh, hok⟩
def prgL (n : Nat) (xs : List Value) (G : PH) : Prop := ∃ p : List (List Stm), n = p.length ∧ 1 ≤ p.length ∧ p.length ≤ 3 ∧ Cs 1 (stsRep G) p xs ∧ ∀ l ∈ p, Sh l ∧ stmtsOk l = true
def kS : Nat := 1 + 6 * kD 3
theorem c_l2Prog (b : Nat) (l : List Int) (sv : Value) (N : Nat) (G : PH) (hl : Byts G l sv) (hN : N + (1 + 3 * kS) ≤ 1000000000) : DrwL 86 b sv [] N (1 + 3 * kS) G 36 1 prgL := by
 obtain ⟨A, c, rfl, hl1, _⟩ := id hl
 refine Mod.intro Tryz.func86 Tryz.ntmps86 J J fun w S => ?_;refine Va J J ?_;refine S_emptyO Tk 5 J J J J fun A0 => ?_;refine Va J J ?_;refine S_callM 1 Tryz.call32 (c_pick b l _ _ N G hl ⟨by omega, by omega⟩ (by omega)) J J J J (fun _ => J) ?_;rintro v G2 A' ⟨rfl, rfl, m, rfl, h0, h1⟩ _
 refine Va J J ?_;refine S_add J J J J (by omega) ?_;refine Va J J ?_;obtain ⟨m, rfl⟩ := Int.eq_ofNat_of_zero_le h0
 have hmm : m ≤ 2 := by omega
 refine S_loop (α := Nat × Nat × Option Addr × Nat × List Value × List (List Stm) × PH) (fun y => y.1 + y.2.2.2.2.2.1.length = m + 1 ∧ y.2.1 + y.1 * kS ≤ N + (1 + 3 * kS) ∧ PH.ext w.heap.size G2 y.2.2.2.2.2.2 ∧ Cs 1 (stsRep y.2.2.2.2.2.2) y.2.2.2.2.2.1 y.2.2.2.2.1 ∧ ∀ l ∈ y.2.2.2.2.2.1, Sh l ∧ stmtsOk l = true) (fun y => y.1) []
  (fun y => [(4, .val (.int .i64 (y.1 : Nat))), (3, .val (.slice y.2.2.1 y.2.2.2.2.2.1.length y.2.2.2.1)), (0, .val (.pointer (some ⟨b, 0, none⟩)))])
  (fun y => [.hp 5 (rowO w.heap.size 36 1 y.2.2.1 y.2.2.2.2.2.1.length y.2.2.2.1 y.2.2.2.2.1), .hp 1 (rdHP b (.slice A l.length c) y.2.1)]) (fun y => y.2.2.2.2.2.2) (m + 1, N + 1, A0, 0, [], [], G2) ⟨rfl, ?_, PH.ext.refl _ _, rfl, by simp⟩ rfl ?_ ?_ ?_
 ·have := Nat.mul_le_mul_right kS (show m + 1 ≤ 3 by omega)
  simp only
  omega
 ·exact ⟨⟨_, J, by simp [denO]; omega⟩, ⟨_, rfl, rfl⟩, ⟨_, rfl, rfl⟩, trivial⟩
 ·exact .hp (.hp .nil)
 rintro ⟨i, M, A1, c1, xs, ls, G1⟩ ⟨hi, hM, hext, hcs, hsh⟩
 simp only at hi hM hext hcs hsh ⊢
 refine Va J J ?_
 refine S_condp J (fun h => ?_) (fun h => ?_) <;> refine Va J J ?_
 ·obtain ⟨j, rfl⟩ : ∃ j, i = j + 1 := ⟨i - 1, by omega⟩
  rw [Nat.succ_mul] at hM
  refine S_callM 1 Tryz.call106 (c_l2Some b l _ M G1 (Byts_le hext.le hl) (by have hks : kS = 1 + 6 * kD 3 := J; omega)) rfl rfl rfl rfl (fun _ => rfl) ?_;rintro v G3 A' ⟨rfl, s, hst, hss, hok⟩ hext3
  obtain ⟨As, cS, rfl, _⟩ := id hst
  refine Va J J ?_;refine S_slice Tk ZT_ok J J J J (by decide) (by decide) J J J J fun b2 => ?_;refine Va J J ?_;refine S_app1 Tk 5 16 J J J J J J J J J J J J J J (by intro u hu; rw [List.mem_singleton.1 hu]; rfl) rfl (fun _ _ => rfl) (by omega) (Nat.le_refl _) fun A2 c2 => ?_;refine Va J J ?_;refine S_subI J J J J (by omega) ?_;refine Va J J ?_;refine S_again (j, M + kS, A2, c2, _, ls ++ [s], G3) ⟨by simp; omega, by simp only; omega, hext.trans hext3, Cs_append (Cs_mono (fun _ _ _ h => stsRep_le hext3.le h) hcs) ⟨_, rfl, hst⟩ rfl, ?_⟩ (by simp only; omega) rfl ⟨⟨_, rfl, by simp [denO]⟩, ⟨_, rfl, by simp [denO]⟩, ⟨_, rfl, rfl⟩, trivial⟩ ?_
  ·intro q hq
   rcases List.mem_append.1 hq with hq | hq
   ·exact hsh q hq
   ·rw [List.mem_singleton.1 hq]; exact ⟨hss, hok⟩
  simp only [List.length_append, List.length_singleton]
  exact .drop (.hp (.hp .nil))
 ·obtain rfl : i = 0 := by omega
  refine S_rdLe 1 (N + (1 + 3 * kS)) (by omega) J J ?_;refine S_pair 1 5 6 J J J J ?_;exact S_retm 6 (Res.t1 Tryz.results86 J J) J hext ⟨_, _, J, rd_covers _ _ _ _, J, _, _, _, _, _, J, J, ls, J, by omega, by omega, hcs, hsh⟩
end
section
attribute [local irreducible] X Pure Mod
def bentV (v : Value) (G : PH) : Prop := ∃ l, Sts G l v ∧ Sh l
theorem Sh_set {l : List Stm} {k : Nat} {s : Stm} (h : Sh l) (hs : Stm.short s) : Sh (l.set k s) := by
 refine ⟨by simpa using h.1, shL_iff.2 fun x hx => ?_⟩
 rcases List.mem_or_eq_of_mem_set hx with hx | rfl
 ·exact shL_iff.1 h.2 x hx
 ·exact hs
theorem c_l2Bent (b : Nat) (l : List Int) (sv : Value) (ls : List Stm) (lv : Value) (N : Nat) (G : PH) (hl : Byts G l sv) (hst : Sts G ls lv) (hsh : Sh ls) (hN : N + 3 ≤ 1000000000) : Drw 88 b sv [lv] N 3 G bentV := by
 obtain ⟨A, c, rfl, hl1, _⟩ := id hl
 obtain ⟨A2, c2, xs, rfl, hxl, hxg, hcs⟩ := sts_cells hst
 have hlen := hsh.1
 refine Mod.intro Tryz.func88 Tryz.ntmps88 J J fun w S => ?_;refine Va J J ?_;refine S_emptyO Tk 5 J J J J fun A0 => ?_;refine Va J J ?_;refine S_appO Tk 5 J J J J J J J J J J J (fun _ _ => J) (src_G hxl hxg) (Cs_one Stm.rep_one hcs) (by simp only; omega) (by simp only [maxLen]; omega) (Nat.le_refl _) fun A4 c4 => ?_
 rw [List.nil_append, Nat.zero_add]
 refine Va J J ?_
 refine S_condp J (fun h => ?_) (fun h => ?_) <;> refine Va J J ?_
 ·refine S_freezeR 5 J J (Nat.le_refl _) fun Gf hextf hncf hcmf hclf => ?_
  have hvf : Sts Gf _ _ := frz (Cs_mono (Stm.reps_le hextf.le _) hcs) rfl (by omega) hncf hcmf hclf
  refine S_rdLe 1 (N + 3) (by omega) J J ?_;exact S_retm 1 (Res.t1 Tryz.results88 J J) J hextf ⟨J, _, hvf, hsh⟩
 refine S_callM 1 Tryz.call32 (c_pick b l _ _ N G hl ⟨by omega, by omega⟩ (by omega)) J J J J (fun _ => J) ?_;rintro v G2 A' ⟨rfl, rfl, k, rfl, hk0, hk1⟩ _
 refine Va J J ?_;refine S_callM 1 Tryz.call32 (c_pick b l _ _ _ _ hl ⟨by omega, by omega⟩ (by omega)) J J J J (fun _ => J) ?_;rintro v G2 A' ⟨rfl, rfl, m, rfl, hm0, hm1⟩ _
 obtain ⟨k, rfl⟩ := Int.eq_ofNat_of_zero_le hk0
 have hkl : k < ls.length := by omega
 refine S_capO 5 J fun hnc4 hcm4 _ => ?_;refine S_someO 5 J (by omega) fun g off eA => ?_
 subst eA
 obtain ⟨cs, hcsd, hcsl, hrep, hset⟩ := Cs_at hcs hkl
 generalize hs : ls[k] = s at hrep
 have hss : Stm.short s := by rw [← hs]; exact shL_iff.1 hsh.2 _ (List.getElem_mem _)
 obtain ⟨q1, q2, q3, q4, q5, q6⟩ := s
 rw [Stm.short_mk] at hss
 obtain ⟨vx, vy, rfl, i1, i2, i3, i4, hx, hy⟩ := Stm.rep_iff.1 hrep
 refine Va J J ?_
 have hoff : ∀ f, f < 6 → k * 6 + f < xs.length := fun f hf => by omega
 have hto : ((k : Int).toNat : Nat) = k := by omega
 refine S_condp J (fun h => ?_) (fun h => ?_) <;> refine Va J J ?_
 ·(refine S_sliceG Tk ZT_ok J J J J (by decide) (by decide) J J J J (fun _ => J) fun bq Gq hxq hcq => ?_)
  refine Va J J ?_;refine S_callM 1 Tryz.call33 (c_numL b [0, 12, 13, -1, 9] (Byts_le hxq.le hl) hcq J (Nat.le_refl _) (by decide) (by decide) (i64_small (by decide)) (by omega)) J J J J (fun _ => J) ?_;rintro v G' A' ⟨rfl, rfl, m1, hmem1, rfl⟩ _
  have hi1 : I64 m1 := i64_small (l := [0, 12, 13, -1, 9]) (by decide) m1 hmem1
  refine Va J J ?_;refine S_index Tk J J J J J J (by omega) (by omega) ?_;refine Va J J ?_;refine S_storeO Tk 5 (o := k * 6 + 0) J J J (by simp [add_lit', Nat.add_assoc]) J J J J J (by omega) J ?_;refine Va J J ?_
  have hcs2 := hset 0 (.int .i64 m1) (.mk m1 q2 q3 q4 q5 q6) (by omega) (Stm.rep_iff.2 ⟨_, _, rfl, by assumption, by assumption, by assumption, by assumption, hx, hy⟩)
  have hcs3 := Cs_mono (Stm.reps_le hxq.le _) hcs2
  refine S_freezeR 5 J J (Nat.le_refl _) fun Gf hextf hncf hcmf hclf => ?_
  have hvf : Sts Gf _ _ := frz (Cs_mono (Stm.reps_le hextf.le _) hcs3) (by simp) (by omega) hncf hcmf hclf
  refine S_rdLe 1 (N + 3) (by omega) J J ?_;exact S_retm 1 (Res.t1 Tryz.results88 J J) J (hxq.trans hextf) ⟨J, _, hvf, Sh_set hsh (Stm.short_mk.2 hss)⟩
 refine S_condp J (fun h => ?_) (fun h => ?_) <;> refine Va J J ?_
 ·(refine S_sliceG Tk ZT_ok J J J J (by decide) (by decide) J J J J (fun _ => J) fun bq Gq hxq hcq => ?_)
  refine Va J J ?_;refine S_callM 1 Tryz.call33 (c_numL b [-1, 3, 2, 9223372036854775807] (Byts_le hxq.le hl) hcq J (Nat.le_refl _) (by decide) (by decide) (i64_small (by decide)) (by omega)) J J J J (fun _ => J) ?_;rintro v G' A' ⟨rfl, rfl, m1, hmem1, rfl⟩ _
  have hi1 : I64 m1 := i64_small (l := [-1, 3, 2, 9223372036854775807]) (by decide) m1 hmem1
  refine Va J J ?_;refine S_index Tk J J J J J J (by omega) (by omega) ?_;refine Va J J ?_;refine S_storeO Tk 5 (o := k * 6 + 1) J J J (by simp [add_lit', Nat.add_assoc]) J J J J J (by omega) J ?_;refine Va J J ?_
  have hcs2 := hset 1 (.int .i64 m1) (.mk q1 m1 q3 q4 q5 q6) (by omega) (Stm.rep_iff.2 ⟨_, _, rfl, by assumption, by assumption, by assumption, by assumption, hx, hy⟩)
  have hcs3 := Cs_mono (Stm.reps_le hxq.le _) hcs2
  refine S_freezeR 5 J J (Nat.le_refl _) fun Gf hextf hncf hcmf hclf => ?_
  have hvf : Sts Gf _ _ := frz (Cs_mono (Stm.reps_le hextf.le _) hcs3) (by simp) (by omega) hncf hcmf hclf
  refine S_rdLe 1 (N + 3) (by omega) J J ?_;exact S_retm 1 (Res.t1 Tryz.results88 J J) J (hxq.trans hextf) ⟨J, _, hvf, Sh_set hsh (Stm.short_mk.2 hss)⟩
 refine S_condp J (fun h => ?_) (fun h => ?_) <;> refine Va J J ?_
 ·(refine S_sliceG Tk ZT_ok J J J J (by decide) (by decide) J J J J (fun _ => J) fun bq Gq hxq hcq => ?_)
  refine Va J J ?_;refine S_callM 1 Tryz.call33 (c_numL b [-1, 3, 1] (Byts_le hxq.le hl) hcq J (Nat.le_refl _) (by decide) (by decide) (i64_small (by decide)) (by omega)) J J J J (fun _ => J) ?_;rintro v G' A' ⟨rfl, rfl, m1, hmem1, rfl⟩ _
  have hi1 : I64 m1 := i64_small (l := [-1, 3, 1]) (by decide) m1 hmem1
  refine Va J J ?_;refine S_index Tk J J J J J J (by omega) (by omega) ?_;refine Va J J ?_;refine S_storeO Tk 5 (o := k * 6 + 2) J J J (by simp [add_lit', Nat.add_assoc]) J J J J J (by omega) J ?_;refine Va J J ?_
  have hcs2 := hset 2 (.int .i64 m1) (.mk q1 q2 m1 q4 q5 q6) (by omega) (Stm.rep_iff.2 ⟨_, _, rfl, by assumption, by assumption, by assumption, by assumption, hx, hy⟩)
  have hcs3 := Cs_mono (Stm.reps_le hxq.le _) hcs2
  refine S_freezeR 5 J J (Nat.le_refl _) fun Gf hextf hncf hcmf hclf => ?_
  have hvf : Sts Gf _ _ := frz (Cs_mono (Stm.reps_le hextf.le _) hcs3) (by simp) (by omega) hncf hcmf hclf
  refine S_rdLe 1 (N + 3) (by omega) J J ?_;exact S_retm 1 (Res.t1 Tryz.results88 J J) J (hxq.trans hextf) ⟨J, _, hvf, Sh_set hsh (Stm.short_mk.2 hss)⟩
 refine S_condp J (fun h => ?_) (fun h => ?_) <;> refine Va J J ?_
 ·(refine S_sliceG Tk ZT_ok J J J J (by decide) (by decide) J J J J (fun _ => J) fun bq Gq hxq hcq => ?_)
  refine Va J J ?_;refine S_callM 1 Tryz.call33 (c_numL b [1000, 6, 1] (Byts_le hxq.le hl) hcq J (Nat.le_refl _) (by decide) (by decide) (i64_small (by decide)) (by omega)) J J J J (fun _ => J) ?_;rintro v G' A' ⟨rfl, rfl, m1, hmem1, rfl⟩ _
  have hi1 : I64 m1 := i64_small (l := [1000, 6, 1]) (by decide) m1 hmem1
  refine Va J J ?_;refine S_index Tk J J J J J J (by omega) (by omega) ?_;refine Va J J ?_;refine S_storeO Tk 5 (o := k * 6 + 3) J J J (by simp [add_lit', Nat.add_assoc]) J J J J J (by omega) J ?_;refine Va J J ?_
  have hcs2 := hset 3 (.int .i64 m1) (.mk q1 q2 q3 m1 q5 q6) (by omega) (Stm.rep_iff.2 ⟨_, _, rfl, by assumption, by assumption, by assumption, by assumption, hx, hy⟩)
  have hcs3 := Cs_mono (Stm.reps_le hxq.le _) hcs2
  refine S_freezeR 5 J J (Nat.le_refl _) fun Gf hextf hncf hcmf hclf => ?_
  have hvf : Sts Gf _ _ := frz (Cs_mono (Stm.reps_le hextf.le _) hcs3) (by simp) (by omega) hncf hcmf hclf
  refine S_rdLe 1 (N + 3) (by omega) J J ?_;exact S_retm 1 (Res.t1 Tryz.results88 J J) J (hxq.trans hextf) ⟨J, _, hvf, Sh_set hsh (Stm.short_mk.2 hss)⟩
 refine S_condp J (fun h => ?_) (fun h => ?_) <;> refine Va J J ?_
 ·refine S_sliceG Tk ZT_ok J J J J (by decide) (by decide) J J J J (fun _ => J) fun bq Gq hxq hcq => ?_
  refine Va J J ?_
  have hy1 : Sts Gq [.mk 11 0 0 0 [] []] (.slice (some ⟨bq, 0, none⟩) 1 1) := ⟨some ⟨bq, 0, none⟩, 1, rfl, by simp, by simp, by simp [maxLen], .inr ⟨_, rfl, ⟨_, hcq, Stm.rep_iff.2 ⟨_, _, rfl, ⟨by omega, by omega⟩, ⟨by omega, by omega⟩, ⟨by omega, by omega⟩, ⟨by omega, by omega⟩, Sr_nil rfl, Sr_nil rfl⟩⟩, trivial⟩⟩
  refine S_index Tk J J J J J J (by omega) (by omega) ?_;refine Va J J ?_;refine S_storeO Tk 5 (o := k * 6 + 5) J J J (by simp [add_lit', Nat.add_assoc]) J J J J J (by omega) J ?_;refine Va J J ?_
  have hcs2 := (Cs_at (Cs_mono (Stm.reps_le hxq.le _) hcs) hkl).choose_spec.2.2.2 5 (.slice (some ⟨bq, 0, none⟩) 1 1) (.mk q1 q2 q3 q4 q5 [.mk 11 0 0 0 [] []]) (by omega) (by
   rw [← (Cs_at (Cs_mono (Stm.reps_le hxq.le _) hcs) hkl).choose_spec.1, hcsd]
   exact Stm.rep_iff.2 ⟨_, _, J, i1, i2, i3, i4, Sts_le hxq.le hx, hy1⟩)
  refine S_freezeR 5 J J (Nat.le_refl _) fun Gf hextf hncf hcmf hclf => ?_
  have hvf : Sts Gf _ _ := frz (Cs_mono (Stm.reps_le hextf.le _) hcs2) (by simp) (by omega) hncf hcmf hclf
  refine S_rdLe 1 (N + 3) (by omega) J J ?_;exact S_retm 1 (Res.t1 Tryz.results88 J J) J (hxq.trans hextf) ⟨J, _, hvf, Sh_set hsh (Stm.short_mk.2 ⟨hss.1, by simp, Stm.short_mk.2 ⟨Sh_nil, Sh_nil⟩, trivial⟩)⟩
 refine S_condp J (fun h => ?_) (fun h => ?_) <;> refine Va J J ?_
 ·refine S_index Tk J J J J J J (by omega) (by omega) ?_
  refine Va J J ?_;refine S_valV J J J (V_loadRA Tk 5 J J (by simp [add_lit']) J hcsd J) ?_;refine Va J J ?_;refine S_sliceG Tk ZT_ok J J J J (by decide) (by decide) J J J J (fun _ => J) fun bq Gq hxq hcq => ?_;refine Va J J ?_
  have hy1 : Sts Gq [.mk q1 q2 q3 q4 q5 q6] (.slice (some ⟨bq, 0, none⟩) 1 1) := ⟨some ⟨bq, 0, none⟩, 1, rfl, by simp, by simp, by simp [maxLen], .inr ⟨_, rfl, ⟨_, hcq, Stm.rep_iff.2 ⟨_, _, rfl, i1, i2, i3, i4, Sts_le hxq.le hx, Sts_le hxq.le hy⟩⟩, trivial⟩⟩
  refine S_index Tk J J J J J J (by omega) (by omega) ?_;refine Va J J ?_;refine S_storeO Tk 5 (o := k * 6 + 4) J J J (by simp [add_lit', Nat.add_assoc]) J J J J J (by omega) J ?_;refine Va J J ?_
  have hcs2 := (Cs_at (Cs_mono (Stm.reps_le hxq.le _) hcs) hkl).choose_spec.2.2.2 4 (.slice (some ⟨bq, 0, none⟩) 1 1) (.mk q1 q2 q3 q4 [.mk q1 q2 q3 q4 q5 q6] q6) (by omega) (by
   rw [← (Cs_at (Cs_mono (Stm.reps_le hxq.le _) hcs) hkl).choose_spec.1, hcsd]
   exact Stm.rep_iff.2 ⟨_, _, J, i1, i2, i3, i4, hy1, Sts_le hxq.le hy⟩)
  refine S_freezeR 5 J J (Nat.le_refl _) fun Gf hextf hncf hcmf hclf => ?_
  have hvf : Sts Gf _ _ := frz (Cs_mono (Stm.reps_le hextf.le _) hcs2) (by simp) (by omega) hncf hcmf hclf
  refine S_rdLe 1 (N + 3) (by omega) J J ?_;exact S_retm 1 (Res.t1 Tryz.results88 J J) J (hxq.trans hextf) ⟨J, _, hvf, Sh_set hsh (Stm.short_mk.2 ⟨⟨by simp, Stm.short_mk.2 hss, trivial⟩, hss.2⟩)⟩
 refine S_condp J (fun h => ?_) (fun h => ?_) <;> refine Va J J ?_
 ·refine S_loop (α := Option Addr × Nat × List Value × List Stm) (fun y => Cs 6 (Stm.rep G2) y.2.2.2 y.2.2.1 ∧ Sh y.2.2.2) (fun y => 15 - y.2.2.2.length) []
   (fun y => [(5, .val (.slice y.1 y.2.2.2.length y.2.1))])
   (fun y => [.hp 5 (rowO w.heap.size 40 6 y.1 y.2.2.2.length y.2.1 y.2.2.1), .hp 1 (rdHP b (.slice A l.length c) (N + 1 + 1))]) (fun y => G2) (some ⟨g, off, none⟩, c4, xs, ls) ⟨hcs, hsh⟩ rfl ?_ ?_ ?_
  ·exact ⟨⟨_, J, J⟩, trivial⟩
  ·exact .hp (.hp .nil)
  rintro ⟨A5, c5, xs5, ls5⟩ ⟨hcs5, hsh5⟩
  simp only at hcs5 hsh5 ⊢
  have hlen5 := hsh5.1
  refine Va J J ?_
  refine S_condp J (fun h => ?_) (fun h => ?_) <;> refine Va J J ?_
  ·refine S_slice Tk ZT_ok J J J J (by decide) (by decide) J J J J fun b2 => ?_
   refine Va J J ?_
   refine S_app1 Tk 5 82 J J J J J J J J J J J J J J (by intro u hu; simp at hu; rcases hu with rfl | rfl | rfl | rfl | rfl | rfl <;> rfl) rfl (fun _ _ => rfl) (by omega) (Nat.le_refl _) fun A6 c6 => ?_
   refine Va J J ?_;refine S_again (A6, c6, _, ls5 ++ [.mk 11 0 0 0 [] []]) ⟨Cs_append hcs5 (Stm.rep_iff.2 ⟨_, _, J, ⟨by omega, by omega⟩, ⟨by omega, by omega⟩, ⟨by omega, by omega⟩, ⟨by omega, by omega⟩, Sr_nil J, Sr_nil J⟩) J, by simp only [List.length_append, List.length_singleton]; omega, shL_append.2 ⟨hsh5.2, Stm.short_mk.2 ⟨Sh_nil, Sh_nil⟩, trivial⟩⟩ (by simp; omega) rfl ⟨⟨_, rfl, by simp [denO]⟩, trivial⟩ ?_
   simp only [List.length_append, List.length_singleton]
   exact .drop (.hp (.hp .nil))
  ·refine S_freezeR 5 J J (Nat.le_refl _) fun Gf hextf hncf hcmf hclf => ?_
   have hvf : Sts Gf _ _ := frz (Cs_mono (Stm.reps_le hextf.le _) hcs5) rfl (by omega) hncf hcmf hclf
   refine S_rdLe 1 (N + 3) (by omega) J J ?_;exact S_retm 1 (Res.t1 Tryz.results88 J J) J hextf ⟨J, _, hvf, hsh5⟩
 ·refine S_freezeR 5 J J (Nat.le_refl _) fun Gf hextf hncf hcmf hclf => ?_
  have hvf : Sts Gf _ _ := frz (Cs_mono (Stm.reps_le hextf.le _) hcs) rfl (by omega) hncf hcmf hclf
  refine S_rdLe 1 (N + 3) (by omega) J J ?_;exact S_retm 1 (Res.t1 Tryz.results88 J J) J hextf ⟨J, _, hvf, hsh⟩
end
end Go.Proofs.YtlmkipckihgehaaGreat
