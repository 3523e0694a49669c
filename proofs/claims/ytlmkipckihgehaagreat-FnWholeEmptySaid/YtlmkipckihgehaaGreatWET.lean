/- Walks of the program's functions, one after the other (part 14); without conditions of their own. -/
import Derived.Test.YtlmkipckihgehaaGreatWM11
import Derived.Test.YtlmkipckihgehaaGreatWM12
import Derived.Test.YtlmkipckihgehaaGreatWM13
import Derived.Test.YtlmkipckihgehaaGreatWM2
set_option linter.unusedVariables false
set_option linter.unusedSimpArgs false
set_option maxRecDepth 100000
set_option maxHeartbeats 4000000
open Go.RowKit
namespace Go.Proofs.YtlmkipckihgehaaGreat
section
attribute [local irreducible] X Pure Mod
end
section
attribute [local irreducible] X Pure Mod
theorem u_bool : Tryz.prog.underlying 4 = some .bool := by kernel_rfl
theorem run_eqB {P : Program} (w : World) {t : TypeId} (p q : Bool) (ht : P.underlying t = some .bool) : (binOp .eql t (.bool p) (.bool q)).run P w = .ok (.bool (p == q)) w := by
 have h : ∀ d : Nat, (Op.equalIn (d + 1) t (.bool p) (.bool q)).run P w = .ok (p == q) w := fun d => by
  simp [Op.equalIn, run_underlying ht]
 simp only [binOp]
 simp [Op.equal, Op.maxDepth, h 9999]
theorem V_eqB {C : Ctx} {E : Env} {ι : Ids} {L : List Ent} {G : PH} {d : Option Nat} {ty : Nat} {pos : String} {af : Array Edge} {g : Option (Nat × Bool)} {t t' : Nat} {x y : Operand} {p q : Bool} (hu : C.P.underlying t = some .bool) (hx : ev E x = some (.val (.bool p))) (hy : ev E y = some (.val (.bool q))) : Vl C ι E L G ⟨d, .binOp .eql t x y t', ty, pos, af, g⟩ (.bool (p == q)) := by
 intro a w hE hw
 have ex := ev_sound hE hx
 have ey := ev_sound hE hy
 simp only [denO, Option.some.injEq] at ex ey
 simp only [execOp, ← ex, ← ey]
 simp [eqGuard, run_eqB w p q hu]
theorem rests_valid : ∀ (l : List Nat) {W W' : Wld} {B : Nat}, Inv W B → (∀ x ∈ l, x < W.procs.length) → rests l W = some W' → Inv W' (B + 200 * l.length) ∧ W'.procs.length = W.procs.length
 | [], W, W', B, h, _, e => by cases e; exact ⟨h.mono (by simp), J⟩
 | who :: r, W, W', B, h, hx, e => by
  unfold rests at e
  have ha := h.rest (who := who) 200 (hx who (List.mem_cons_self ..))
  generalize Go.Proofs.YtlmkipckihgehaaGreat.restP who 200 W = t at e ha
  obtain ⟨V, ok⟩ := t
  cases ok
  ·cases e
  ·obtain ⟨h1, h2⟩ := rests_valid r ha.1 (fun x h' => by rw [ha.2]; exact hx x (List.mem_cons_of_mem _ h')) e
   exact ⟨h1.mono (by simp only [List.length_cons]; omega), h2.trans ha.2⟩
theorem wrun_parts {p : List (List Stm)} {q : List Int} {W : Wld} (h : wrun p q = some W) (hs : ∀ l ∈ p, Sh l) : Inv W 100000 ∧ W.procs.length = p.length := by
 unfold wrun at h
 split at h
 ·rename_i hc
  have hI := Inv_open hc.1 hs
  have hl : (open0 p).procs.length = p.length := by simp [open0]
  have hp3 := (prog_parts hc.1).2.2
  cases hr : runs q (open0 p) with
  | none => rw [hr] at h; cases h
  | some V =>
   rw [hr] at h
   obtain ⟨_, h2, h3⟩ := runs_valid q hI hr
   obtain ⟨h4, h5⟩ := rests_valid _ h2 (fun x hx => by rw [h3, hl]; exact List.mem_range.1 hx) h
   refine ⟨h4.mono ?_, by omega⟩
   have := hc.2
   simp only [List.length_range]
   omega
 ·cases h
end
section
attribute [local irreducible] X Pure Mod
structure Loc (who : Nat) (r : Int) (W : Wld) : Prop where
 a0 : r ≠ 0 → W.m0 = 0
 a1 : r ≠ 1 → W.m1 = 0
 ot : ∀ (j : Nat) (q : Prc), j ≠ who → W.procs[j]? = some q → q.mode = 0 → q.room = -1
theorem Loc.upd {who : Nat} {r : Int} {W : Wld} (h : Loc who r W) (f : Prc → Prc) : Loc who r (W.upd who f) :=
 ⟨h.a0, h.a1, fun j q hj hq => h.ot j q hj (by
  replace hq : (updL f who W.procs)[j]? = some q := hq
  rwa [updL_ne _ _ _ (Ne.symm hj)] at hq)⟩
theorem upd_at {who : Nat} {W : Wld} {p : Prc} (hp : W.procs[who]? = some p) (f : Prc → Prc) : (W.upd who f).procs[who]? = some (f p) := by
 show (updL _ _ _)[who]? = _
 rw [updL_get, hp]; rfl
theorem Loc.setCell {who : Nat} {r : Int} {W : Wld} (h : Loc who r W) (a v : Int) : Loc who r (W.setCell a v) := by
 unfold Wld.setCell
 split
 ·exact ⟨h.a0, h.a1, h.ot⟩
 split
 ·exact ⟨h.a0, h.a1, h.ot⟩
 ·exact ⟨h.a0, h.a1, h.ot⟩
theorem Loc.setQue {who : Nat} {r : Int} {W : Wld} (h : Loc who r W) (a : Int) (q : List Int) : Loc who r (W.setQue a q) := by
 unfold Wld.setQue
 split
 ·exact ⟨h.a0, h.a1, h.ot⟩
 ·exact ⟨h.a0, h.a1, h.ot⟩
theorem Loc.enter {who : Nat} {W : Wld} (h : Loc who (-1) W) {a : Int} (ha : is2 a) (v : Int) : Loc who a (W.setRm a v) := by
 unfold Wld.setRm
 rcases ha with rfl | rfl
 ·exact ⟨fun h => absurd J h, fun _ => h.a1 (by decide), h.ot⟩
 ·exact ⟨fun _ => h.a0 (by decide), fun h => absurd J h, h.ot⟩
theorem Loc.leave {who : Nat} {W : Wld} {a : Int} (h : Loc who a W) (ha : is2 a) : Loc who (-1) (W.setRm a 0) := by
 unfold Wld.setRm
 rcases ha with rfl | rfl
 ·exact ⟨fun _ => rfl, fun _ => h.a1 (by decide), h.ot⟩
 ·exact ⟨fun _ => h.a0 (by decide), fun _ => J, h.ot⟩
theorem Loc.clear {who : Nat} {W : Wld} {a : Int} (h : Loc who (-1) W) (ha : is2 a) : Loc who (-1) (W.setRm a 0) := by
 unfold Wld.setRm
 rcases ha with rfl | rfl
 ·exact ⟨fun _ => rfl, fun _ => h.a1 (by decide), h.ot⟩
 ·exact ⟨fun _ => h.a0 (by decide), fun _ => J, h.ot⟩
theorem Loc.signal {who : Nat} {r : Int} {W : Wld} (h : Loc who r W) (a : Int) : Loc who r (W.signal a) := by
 unfold Wld.signal
 split
 ·exact h
 ·rename_i f q hq
  suffices h1 : Loc who r (W.upd f.toNat (fun p => { p with mode := 2, on := 0 })) from h1.setQue a q
  refine ⟨h.a0, h.a1, fun j x hj hx hm => ?_⟩
  replace hx : (updL (fun p : Prc => { p with mode := 2, on := 0 }) f.toNat W.procs)[j]? = some x := hx
  by_cases e : f.toNat = j
  ·subst e
   rw [updL_get] at hx
   cases hw : W.procs[f.toNat]? with
   | none => rw [hw] at hx; cases hx
   | some y => rw [hw] at hx; cases hx; cases hm
  ·rw [updL_ne _ _ _ e] at hx
   exact h.ot j x hj hx hm
def At (who : Nat) (W : Wld) (r : Int) : Prop := Loc who r W ∧ ∃ p, W.procs[who]? = some p ∧ (p.mode = 0 ∧ p.room = r ∨ p.mode ≠ 0 ∧ r = -1)
structure Fr (W : Wld) : Prop where
 m0 : W.m0 = 0
 m1 : W.m1 = 0
 pr : ∀ (j : Nat) (q : Prc), W.procs[j]? = some q → q.mode = 0 → q.room = -1
theorem Fr.at {W : Wld} (h : Fr W) {who : Nat} (hw : who < W.procs.length) : At who W (-1) :=
 ⟨⟨fun _ => h.m0, fun _ => h.m1, fun j q _ => h.pr j q⟩, W.procs[who], by simp [hw], by
  by_cases hm : W.procs[who].mode = 0
  ·exact .inl ⟨hm, h.pr who _ (by simp [hw]) hm⟩
  ·exact .inr ⟨hm, J⟩⟩
theorem At.fr {W : Wld} {who : Nat} (h : At who W (-1)) : Fr W := by
 obtain ⟨hl, p, hp, hpp⟩ := h
 refine ⟨hl.a0 (by decide), hl.a1 (by decide), fun j q hq hm => ?_⟩
 by_cases e : j = who
 ·subst e
  rw [hp] at hq; cases hq
  rcases hpp with ⟨_, h⟩ | ⟨h, _⟩
  ·exact h
  ·exact absurd hm h
 ·exact hl.ot j q e hq hm
theorem set_mode (p : Prc) (k v : Int) : (p.set k v).mode = p.mode ∧ (p.set k v).room = p.room := by
 unfold Prc.set; split; exact ⟨J, J⟩; split <;> exact ⟨J, J⟩
theorem room_at {W : Wld} {who : Nat} {p : Prc} (hp : W.procs[who]? = some p) : W.room who = p.room := by simp [Wld.room, hp]
theorem signal_at {W : Wld} {who : Nat} {p : Prc} (hq : ∀ f ∈ W.q0 ++ W.q1, 0 ≤ f ∧ ∃ p, W.procs[f.toNat]? = some p ∧ p.mode = 1) (hp : W.procs[who]? = some p) (hm : p.mode ≠ 1) {f : Prc → Prc} (hpq : (W.upd who f).procs[who]? = some (f p)) (a : Int) :
  ∃ p', ((W.upd who f).signal a).procs[who]? = some p' ∧ p'.mode = (f p).mode ∧ p'.room = (f p).room := by
 unfold Wld.signal
 split
 ·exact ⟨_, hpq, J, J⟩
 ·rename_i g r hg
  rw [setQue_procs]
  have hgm : g ∈ W.q0 ++ W.q1 := by
   replace hg : W.que a = g :: r := hg
   unfold Wld.que at hg
   split at hg <;> rw [hg] <;> simp
  obtain ⟨_, x, hx, hxm⟩ := hq g hgm
  refine ⟨f p, ?_, J, J⟩
  show (updL _ g.toNat (W.upd who f).procs)[who]? = _
  rw [updL_ne _ _ _ (by rintro rfl; rw [hp] at hx; cases hx; exact hm hxm)]
  exact hpq
theorem At.step {W : Wld} {B who : Nat} {r : Int} (h : Inv W B) (hA : At who W r) (hc : codeOf W (who : Nat) = 0) :
  ∃ r', At who (W.step who) r' ∧ (isEnt W who = false → r' = r ∨ r' = -1) ∧ (endK (fstK W who) = true → r' = -1) := by
 obtain ⟨hl, p, hp, hpp⟩ := hA
 obtain ⟨hm1, hne⟩ := code0 hp hc
 have hpm : p ∈ W.procs := List.mem_of_getElem? hp
 have q := h.pr p hpm
 have hE : isEnt W who = entP p := by simp [isEnt, hp, hc]
 have hF : fstK W who = fstP p := by simp [fstK, hp]
 rw [hE, hF]
 by_cases hm : p.mode = 2
 ·have e : W.step who = (W.setRm p.room ((who : Int) + 1)).upd who (fun p => { p with mode := 0 }) := by simp [Wld.step, hp, hm]
  obtain rfl : r = -1 := by rcases hpp with ⟨h, _⟩ | ⟨_, h⟩; omega; exact h
  rw [e]
  refine ⟨p.room, ⟨(hl.enter (q.rm (by omega)) _).upd _, _, upd_at (by rw [setRm_procs]; exact hp) _, .inl ⟨rfl, rfl⟩⟩, fun h => ?_, fun h => ?_⟩
  ·simp [entP, hm] at h
  ·simp [fstP, hm, endK] at h
 have hm0 : p.mode = 0 := by rcases q.md with h | h | h <;> simp_all
 obtain rfl : p.room = r := by rcases hpp with ⟨_, h⟩ | ⟨h, _⟩; exact h; exact absurd hm0 h
 rcases hT : p.todo with _ | ⟨s, r0⟩
 ·exact absurd hT (hne hm)
 rw [step_eq hp hm hT]
 have hk : fstP p = s.kind := by simp [fstP, hm, hT]
 have hsok := h.sok hpm hT
 have htd := q.td
 rw [hT] at htd
 have hpop := upd_at hp pop
 have hlp := hl.upd pop
 have pm : (pop p).mode = 0 := hm0
 have pr : (pop p).room = p.room := rfl
 have stay : ∀ {V : Wld} {p' : Prc}, Loc who p.room V → V.procs[who]? = some p' → p'.mode = 0 → p'.room = p.room → endK s.kind = false → ∃ r', At who V r' ∧ (entP p = false → r' = p.room ∨ r' = -1) ∧ (endK (fstP p) = true → r' = -1) :=
  fun h1 h2 h3 h4 h5 => ⟨p.room, ⟨h1, _, h2, .inl ⟨h3, h4⟩⟩, fun _ => .inl rfl, fun h => by rw [hk, h5] at h; cases h⟩
 have hent : ∀ {b : Bool}, s.kind = 8 → entP p = true := fun h8 => by simp [entP, hk, h8]
 unfold Wld.stepS
 by_cases e1 : s.kind = 1
 ·rw [if_pos e1]
  exact stay (hlp.upd _) (upd_at hpop _) ((set_mode _ _ _).1.trans pm) (set_mode _ _ _).2 (by simp [endK, e1])
 rw [if_neg e1]
 by_cases e2 : s.kind = 2
 ·rw [if_pos e2]
  exact stay (hlp.upd _) (upd_at hpop _) ((set_mode _ _ _).1.trans pm) (set_mode _ _ _).2 (by simp [endK, e2])
 rw [if_neg e2]
 by_cases e3 : s.kind = 3
 ·rw [if_pos e3]
  exact stay (hlp.upd _) (upd_at hpop _) ((set_mode _ _ _).1.trans pm) (set_mode _ _ _).2 (by simp [endK, e3])
 rw [if_neg e3]
 by_cases e4 : s.kind = 4
 ·rw [if_pos e4]
  exact stay (hlp.setCell _ _) (by rw [setCell_procs]; exact hpop) pm pr (by simp [endK, e4])
 rw [if_neg e4]
 by_cases e5 : s.kind = 5
 ·rw [if_pos e5]
  exact stay ⟨hlp.a0, hlp.a1, hlp.ot⟩ hpop pm pr (by simp [endK, e5])
 rw [if_neg e5]
 by_cases e6 : s.kind = 6
 ·rw [if_pos e6]
  exact stay (hlp.upd _) (upd_at hpop _) pm pr (by simp [endK, e6])
 rw [if_neg e6]
 by_cases e7 : s.kind = 7
 ·rw [if_pos e7]
  exact stay (hlp.upd _) (upd_at hpop _) pm pr (by simp [endK, e7])
 rw [if_neg e7]
 by_cases e8 : s.kind = 8
 ·rw [if_pos e8]
  have hro : p.room = -1 := by
   have ht2 := htd
   generalize hR : p.room = ro at ht2 ⊢
   have hq := q.ro
   rw [hR] at hq
   generalize hT2 : s :: r0 = L at ht2
   cases ht2 with
   | nil => cases hT2
   | leave ha hr => cases hT2; simp [leaveS, Stm.kind] at e8
   | stm hs hr =>
    cases hT2
    obtain ⟨k, a, b, n, x, y⟩ := s
    simp only [Stm.kind] at e8
    subst e8
    simp only [stmtOk] at hs
    split at hs
    ·cases hs
    ·simp at hs
     rcases hq with h | h
     ·exact h
     ·rcases h with h | h <;> omega
  rw [hro] at hlp
  refine ⟨s.a, ⟨(hlp.enter (hsok.r8 e8).1 _).upd _, _, upd_at (p := pop p) (by rw [setRm_procs]; exact hpop) _, .inl ⟨pm, rfl⟩⟩, fun h => ?_, fun h => ?_⟩
  ·simp [entP, hk, e8] at h
  ·rw [hk, e8] at h; simp [endK] at h
 rw [if_neg e8]
 by_cases e9 : s.kind = 9
 ·rw [if_pos e9]
  have hr := room_at hpop
  rw [hr, pr]
  refine ⟨-1, ⟨((hlp.leave (hsok.r9 e9).2).upd _).setQue _ _, { pop p with mode := 1, on := s.a }, by rw [setQue_procs]; exact upd_at (p := pop p) (by rw [setRm_procs]; exact hpop) _, .inr ⟨by simp, rfl⟩⟩, fun _ => .inr rfl, fun _ => rfl⟩
 rw [if_neg e9]
 by_cases e10 : s.kind = 10
 ·rw [if_pos e10]
  obtain ⟨p', hp', hpm', hpr'⟩ := signal_at h.qf hp hm1 hpop s.a
  exact stay (hlp.signal _) hp' (hpm'.trans pm) hpr' (by simp [endK, e10])
 rw [if_neg e10]
 by_cases e12 : s.kind = 12
 ·rw [if_pos e12]
  have hr : s.a = p.room ∨ p.room = -1 := by
   have ht2 := htd
   generalize hR : p.room = ro at ht2 ⊢
   generalize hT2 : s :: r0 = L at ht2
   cases ht2 with
   | nil => cases hT2
   | leave ha hr => cases hT2; exact .inl J
   | stm hs hr =>
    cases hT2
    obtain ⟨k, a, b, n, x, y⟩ := s
    simp only [Stm.kind] at e12
    subst e12
    simp only [stmtOk] at hs
    split at hs
    ·cases hs
    ·simp [leafOk] at hs
  have hloc : Loc who (-1) ((W.upd who pop).setRm s.a 0) := by
   rcases hr with hr | hr
   ·exact (hr ▸ hlp : Loc who s.a (W.upd who pop)).leave (hsok.r10 (.inr e12))
   ·rw [hr] at hlp
    exact hlp.clear (hsok.r10 (.inr e12))
  exact ⟨-1, ⟨hloc.upd _, _, upd_at (p := pop p) (by rw [setRm_procs]; exact hpop) _, .inl ⟨pm, rfl⟩⟩, fun _ => .inr rfl, fun _ => rfl⟩
 rw [if_neg e12]
 exact stay hlp hpop pm pr (by simp [endK, e12, e9])
theorem Fr.atom {who : Nat} : ∀ (n : Nat) (e : Bool) {W : Wld} {B : Nat} {r : Int}, Inv W B → who < W.procs.length → At who W r → (e = false → r = -1) → (Go.Proofs.YtlmkipckihgehaaGreat.atom who n e W).2 = true → Fr (Go.Proofs.YtlmkipckihgehaaGreat.atom who n e W).1 := by
 intro n
 induction n with
 | zero => intro e W B r h hw hA hr ht; cases ht
 | succ n ih =>
  intro e W B r h hw hA hr ht
  simp only [Go.Proofs.YtlmkipckihgehaaGreat.atom] at ht ⊢
  by_cases hc : codeOf W (who : Nat) = 0
  ·rw [if_neg (by simp [hc])] at ht ⊢
   obtain ⟨r', hA', h1, h2⟩ := hA.step h hc
   by_cases hk : ((e || isEnt W who) && endK (fstK W who)) = true
   ·rw [if_pos hk] at ht ⊢
    simp only [Bool.and_eq_true] at hk
    obtain rfl := h2 hk.2
    exact hA'.fr
   ·rw [if_neg hk] at ht ⊢
    refine ih _ (h.step hw hc) (by rw [W.step_len]; exact hw) hA' (fun he => ?_) ht
    simp only [Bool.or_eq_false_iff] at he
    rcases h1 he.2 with h1 | h1
    ·rw [h1]; exact hr he.1
    ·exact h1
  ·rw [if_pos (by simpa using hc)] at ht
   cases ht
theorem Fr.rest {who : Nat} : ∀ (n : Nat) {W : Wld} {B : Nat}, Inv W B → who < W.procs.length → Fr W → (restP who n W).2 = true → Fr (restP who n W).1 := by
 intro n
 induction n with
 | zero => intro W B h hw hF ht; cases ht
 | succ n ih =>
  intro W B h hw hF ht
  simp only [restP] at ht ⊢
  by_cases hc : codeOf W (who : Nat) = 0 ∧ isEnt W who = false
  ·rw [if_pos hc] at ht ⊢
   obtain ⟨r', hA', h1, _⟩ := (hF.at hw).step h hc.1
   refine ih (h.step hw hc.1) (by rw [W.step_len]; exact hw) ?_ ht
   rcases h1 hc.2 with rfl | rfl <;> exact hA'.fr
  ·rw [if_neg hc] at ht ⊢
   exact hF
theorem Fr.runs : ∀ (q : List Int) {W W' : Wld} {B : Nat}, Inv W B → Fr W → Go.Proofs.YtlmkipckihgehaaGreat.runs q W = some W' → Fr W'
 | [], W, W', B, h, hF, e => by cases e; exact hF
 | who :: r, W, W', B, h, hF, e => by
  unfold Go.Proofs.YtlmkipckihgehaaGreat.runs at e
  split at e
  ·cases e
  ·rename_i hw
   have ha := Inv_atom h (who := who.toNat) (by omega)
   have hf := Fr.atom (who := who.toNat) 200 false h (by omega) (hF.at (by omega)) (fun _ => rfl)
   generalize Go.Proofs.YtlmkipckihgehaaGreat.atom who.toNat 200 false W = t at e ha hf
   obtain ⟨V, ok⟩ := t
   cases ok
   ·cases e
   ·exact Fr.runs r ha.1 (hf J) e
theorem Fr.rests : ∀ (l : List Nat) {W W' : Wld} {B : Nat}, Inv W B → (∀ x ∈ l, x < W.procs.length) → Fr W → Go.Proofs.YtlmkipckihgehaaGreat.rests l W = some W' → Fr W'
 | [], W, W', B, h, _, hF, e => by cases e; exact hF
 | who :: r, W, W', B, h, hx, hF, e => by
  unfold Go.Proofs.YtlmkipckihgehaaGreat.rests at e
  have ha := h.rest (who := who) 200 (hx who (List.mem_cons_self ..))
  have hf := Fr.rest (who := who) 200 h (hx who (List.mem_cons_self ..)) hF
  generalize Go.Proofs.YtlmkipckihgehaaGreat.restP who 200 W = t at e ha hf
  obtain ⟨V, ok⟩ := t
  cases ok
  ·cases e
  ·exact Fr.rests r ha.1 (fun x h' => by rw [ha.2]; exact hx x (List.mem_cons_of_mem _ h')) (hf J) e
theorem wrun_free {p : List (List Stm)} {q : List Int} {W : Wld} (h : wrun p q = some W) (hs : ∀ l ∈ p, Sh l) : Fr W := by
 unfold wrun at h
 split at h
 ·rename_i hc
  have hI := Inv_open hc.1 hs
  have hl : (open0 p).procs.length = p.length := by simp [open0]
  have h0 : Fr (open0 p) := ⟨rfl, rfl, fun j q hq _ => by
   have := List.mem_of_getElem? hq
   simp only [open0, List.mem_map] at this
   obtain ⟨l, _, rfl⟩ := this
   rfl⟩
  cases hr : runs q (open0 p) with
  | none => rw [hr] at h; cases h
  | some V =>
   rw [hr] at h
   obtain ⟨_, h2, h3⟩ := runs_valid q hI hr
   exact Fr.rests _ h2 (fun x hx => by rw [h3, hl]; exact List.mem_range.1 hx) (Fr.runs q hI h0 hr) h
 ·cases h
end
section
attribute [local irreducible] X Pure Mod
theorem run_neB {P : Program} (w : World) {t : TypeId} (p q : Bool) (ht : P.underlying t = some .bool) : (binOp .neq t (.bool p) (.bool q)).run P w = .ok (.bool (!(p == q))) w := by
 have h : ∀ d : Nat, (Op.equalIn (d + 1) t (.bool p) (.bool q)).run P w = .ok (p == q) w := fun d => by
  simp [Op.equalIn, run_underlying ht]
 simp only [binOp]
 simp [Op.equal, Op.maxDepth, h 9999]
theorem V_neB {C : Ctx} {E : Env} {ι : Ids} {L : List Ent} {G : PH} {d : Option Nat} {ty : Nat} {pos : String} {af : Array Edge} {g : Option (Nat × Bool)} {t t' : Nat} {x y : Operand} {p q : Bool} (hu : C.P.underlying t = some .bool) (hx : ev E x = some (.val (.bool p))) (hy : ev E y = some (.val (.bool q))) : Vl C ι E L G ⟨d, .binOp .neq t x y t', ty, pos, af, g⟩ (.bool (!(p == q))) := by
 intro a w hE hw
 have ex := ev_sound hE hx
 have ey := ev_sound hE hy
 simp only [denO, Option.some.injEq] at ex ey
 simp only [execOp, ← ex, ← ey]
 simp [eqGuard, run_neB w p q hu]
theorem rm_zero {W : Wld} (h : Fr W) {i : Nat} (hi : i < [W.m0, W.m1].length) : [W.m0, W.m1][i] = 0 := by
 have := h.m0
 have := h.m1
 rcases (by simp at hi; omega : i = 0 ∨ i = 1) with rfl | rfl <;> simpa
end
section
attribute [local irreducible] X Pure Mod
def Up (W : Wld) : Prop := ∀ (j : Nat) (q : Prc), W.procs[j]? = some q → q.mode = 0
def Rst (p : Prc) : Prop := p.mode = 0 ∧ (p.todo = [] ∨ ∃ s r, p.todo = s :: r ∧ s.kind = 8)
theorem que_nil {W : Wld} {B : Nat} (h : Inv W B) (hU : Up W) (a : Int) : W.que a = [] := by
 have hall : ∀ f ∈ W.q0 ++ W.q1, False := fun f hf => by
  obtain ⟨_, p, hp, hm⟩ := h.qf f hf
  rw [hU _ p hp] at hm; cases hm
 unfold Wld.que
 split
 ·cases hq : W.q0 with
  | nil => rfl
  | cons f r => exact (hall f (by simp [hq])).elim
 ·cases hq : W.q1 with
  | nil => rfl
  | cons f r => exact (hall f (by simp [hq])).elim
theorem step_own {W : Wld} {B who : Nat} {p : Prc} (h : Inv W B) (hU : Up W) (hF : Fr W) (hp : W.procs[who]? = some p) (hc : codeOf W (who : Nat) = 0) (hE : isEnt W who = false) : ∃ g : Prc → Prc, (W.step who).procs = updL g who W.procs ∧ (g p).mode = 0 := by
 have hm0 := hU _ p hp
 have hr0 := hF.pr _ p hp hm0
 obtain ⟨hm1, hne⟩ := code0 hp hc
 have hpm : p ∈ W.procs := List.mem_of_getElem? hp
 have hm : p.mode ≠ 2 := by omega
 rcases hT : p.todo with _ | ⟨s, r0⟩
 ·exact absurd hT (hne hm)
 have hsok := h.sok hpm hT
 have hk8 : s.kind ≠ 8 := by
  intro e
  have : isEnt W who = true := by simp [isEnt, hp, hc, entP, fstP, hm, hT, e]
  rw [this] at hE; cases hE
 have hk9 : s.kind ≠ 9 := by
  intro e
  have := (hsok.r9 e).2
  rw [hr0] at this
  rcases this with h | h <;> cases h
 rw [step_eq hp hm hT]
 have pm : (pop p).mode = 0 := hm0
 have two : ∀ f : Prc → Prc, ((W.upd who pop).upd who f).procs = updL (fun x => f (pop x)) who W.procs := fun f => updL_updL _ _
 unfold Wld.stepS
 by_cases e1 : s.kind = 1
 ·rw [if_pos e1]; exact ⟨_, two _, (set_mode _ _ _).1.trans pm⟩
 rw [if_neg e1]
 by_cases e2 : s.kind = 2
 ·rw [if_pos e2]; exact ⟨_, two _, (set_mode _ _ _).1.trans pm⟩
 rw [if_neg e2]
 by_cases e3 : s.kind = 3
 ·rw [if_pos e3]; exact ⟨_, two _, (set_mode _ _ _).1.trans pm⟩
 rw [if_neg e3]
 by_cases e4 : s.kind = 4
 ·rw [if_pos e4, setCell_procs]; exact ⟨_, J, pm⟩
 rw [if_neg e4]
 by_cases e5 : s.kind = 5
 ·rw [if_pos e5]; exact ⟨_, J, pm⟩
 rw [if_neg e5]
 by_cases e6 : s.kind = 6
 ·rw [if_pos e6]; exact ⟨_, two _, pm⟩
 rw [if_neg e6]
 by_cases e7 : s.kind = 7
 ·rw [if_pos e7]; exact ⟨_, two _, pm⟩
 rw [if_neg e7, if_neg hk8, if_neg hk9]
 by_cases e10 : s.kind = 10
 ·rw [if_pos e10]
  refine ⟨pop, ?_, pm⟩
  unfold Wld.signal
  rw [show (W.upd who pop).que s.a = [] from que_nil h hU s.a]
  rfl
 rw [if_neg e10]
 by_cases e12 : s.kind = 12
 ·rw [if_pos e12]
  refine ⟨fun x => { pop x with room := -1 }, ?_, pm⟩
  rw [setRm_upd]
  show updL _ who ((W.setRm s.a 0).upd who pop).procs = _
  rw [show ((W.setRm s.a 0).upd who pop).procs = updL pop who W.procs by show updL _ _ (W.setRm s.a 0).procs = _; rw [setRm_procs], updL_updL]
 rw [if_neg e12]
 exact ⟨_, J, pm⟩
theorem code_up {W : Wld} {who : Nat} {p : Prc} (hp : W.procs[who]? = some p) (hm : p.mode = 0) (h : ¬ (codeOf W (who : Nat) = 0 ∧ isEnt W who = false)) : Rst p := by
 refine ⟨hm, ?_⟩
 have hl := (List.getElem?_eq_some_iff.1 hp).1
 rcases hT : p.todo with _ | ⟨s, r⟩
 ·exact .inl J
 refine .inr ⟨s, r, J, ?_⟩
 by_cases hk : s.kind = 8
 ·exact hk
 refine absurd ⟨?_, ?_⟩ h
 ·unfold codeOf
  rw [if_neg (by omega)]
  simp [hp, codeP, hm, hT, hk]
 ·unfold isEnt
  rw [hp]
  simp [entP, fstP, hm, hT, hk]
theorem up_rest {who : Nat} : ∀ (n : Nat) {W : Wld} {B : Nat}, Inv W B → who < W.procs.length → Fr W → Up W → (restP who n W).2 = true →
  Up (restP who n W).1 ∧ (∀ j, j ≠ who → (restP who n W).1.procs[j]? = W.procs[j]?) ∧ ∀ p, (restP who n W).1.procs[who]? = some p → Rst p := by
 intro n
 induction n with
 | zero => intro W B h hw hF hU ht; cases ht
 | succ n ih =>
  intro W B h hw hF hU ht
  simp only [restP] at ht ⊢
  by_cases hc : codeOf W (who : Nat) = 0 ∧ isEnt W who = false
  ·rw [if_pos hc] at ht ⊢
   obtain ⟨r', hA', h1, _⟩ := (hF.at hw).step h hc.1
   have hF' : Fr (W.step who) := by rcases h1 hc.2 with rfl | rfl <;> exact hA'.fr
   obtain ⟨g, hg, hgm⟩ := step_own (p := W.procs[who]) h hU hF (by simp [hw]) hc.1 hc.2
   have hU' : Up (W.step who) := fun j q hq => by
    rw [hg] at hq
    by_cases e : who = j
    ·subst e
     rw [updL_get] at hq
     simp only [hw, List.getElem?_eq_getElem, Option.map_some, Option.some.injEq] at hq
     rw [← hq]; exact hgm
    ·rw [updL_ne _ _ _ e] at hq
     exact hU j q hq
   obtain ⟨i1, i2, i3⟩ := ih (h.step hw hc.1) (by rw [W.step_len]; exact hw) hF' hU' ht
   exact ⟨i1, fun j hj => by rw [i2 j hj, hg, updL_ne _ _ _ (Ne.symm hj)], i3⟩
  ·rw [if_neg hc] at ht ⊢
   exact ⟨hU, fun _ _ => rfl, fun p hp => code_up hp (hU _ p hp) hc⟩
theorem up_rests : ∀ (l : List Nat) {W W' : Wld} {B : Nat}, Inv W B → (∀ x ∈ l, x < W.procs.length) → l.Nodup → Fr W → Up W → rests l W = some W' → Up W' ∧ (∀ j, j ∉ l → W'.procs[j]? = W.procs[j]?) ∧ ∀ j ∈ l, ∀ p, W'.procs[j]? = some p → Rst p
 | [], W, W', B, h, _, _, hF, hU, e => by cases e; exact ⟨hU, fun _ _ => J, by simp⟩
 | who :: r, W, W', B, h, hx, hn, hF, hU, e => by
  unfold rests at e
  have hw := hx who (List.mem_cons_self ..)
  have ha := h.rest (who := who) 200 hw
  have hf := Fr.rest (who := who) 200 h hw hF
  have hu := up_rest (who := who) 200 h hw hF hU
  generalize restP who 200 W = t at e ha hf hu
  obtain ⟨V, ok⟩ := t
  cases ok
  ·cases e
  ·obtain ⟨u1, u2, u3⟩ := hu rfl
   obtain ⟨i1, i2, i3⟩ := up_rests r ha.1 (fun x h' => by rw [ha.2]; exact hx x (List.mem_cons_of_mem _ h')) (List.nodup_cons.1 hn).2 (hf J) u1 e
   refine ⟨i1, fun j hj => ?_, fun j hj p hp => ?_⟩
   ·simp only [List.mem_cons, not_or] at hj
    rw [i2 j hj.2]; exact u2 j hj.1
   ·by_cases hjr : j ∈ r
    ·exact i3 j hjr p hp
    ·obtain rfl : j = who := by rcases List.mem_cons.1 hj with h | h; exact h; exact absurd h hjr
     rw [i2 j hjr] at hp
     exact u3 p hp
theorem wrun_empty {p : List (List Stm)} {W : Wld} (h : wrun p [] = some W) (hs : ∀ l ∈ p, Sh l) : ∀ q ∈ W.procs, Rst q := by
 unfold wrun at h
 split at h
 ·rename_i hc
  have hI := Inv_open hc.1 hs
  have hl : (open0 p).procs.length = p.length := by simp [open0]
  have hin : ∀ (j : Nat) (q : Prc), (open0 p).procs[j]? = some q → q.mode = 0 ∧ q.room = -1 := fun j q hq => by
   have := List.mem_of_getElem? hq
   simp only [open0, List.mem_map] at this
   obtain ⟨l, _, rfl⟩ := this
   exact ⟨J, J⟩
  have h0 : Fr (open0 p) := ⟨rfl, rfl, fun j q hq _ => (hin j q hq).2⟩
  replace h : rests (List.range p.length) (open0 p) = some W := h
  obtain ⟨_, u2, u3⟩ := up_rests _ hI (fun x hx => by rw [hl]; exact List.mem_range.1 hx) List.nodup_range h0 (fun j q hq => (hin j q hq).1) h
  intro q hq
  obtain ⟨j, hj⟩ := List.getElem?_of_mem hq
  by_cases hjl : j < p.length
  ·exact u3 j (List.mem_range.2 hjl) q hj
  ·rw [u2 j (fun h => hjl (List.mem_range.1 h)), List.getElem?_eq_none (by omega)] at hj
   cases hj
 ·cases h
end
section
attribute [local irreducible] X Pure Mod
theorem c_orderE (p : List (List Stm)) (pv : Value) (G : PH) (hp : PrgS G p pv) (hpo : progOk p = true) : Pure Tryz.prog 16 [pv, .slice none 0 0] G fun v G' => v = .slice none 0 0 := by
 obtain ⟨Ap, cp, rfl, _⟩ := id hp.1
 refine Pure.intro Tryz.func16 Tryz.ntmps16 J J fun w => ?_; refine Va J J ?_;refine S_call Tryz.call34 (c_playable p [] _ _ _ hp (Sr_nil J)) J J J ?_;rintro v G5 ⟨rfl, rfl⟩ _
 refine Va J J ?_;refine RF J (by simp [hpo]) ?_;refine Va J J ?_;refine S_callN 1 Tryz.call37 (c_opened p _ _ hp.1 (prog_parts hpo).2) J J J ?_;rintro v1 G1 A1 ⟨cs, ts, rfl, rfl, htd⟩ hext1
 refine S_newHP 1 J J ?_;refine S_csV 1 J ?_;rintro bp bc br bs kp asd ksd kc kr ks rfl
 refine Va J J ?_;refine AZ ZT_ok J J J J fun b5 => ?_;refine Va J J ?_;refine S_unroll 1 ?_;refine Va J J ?_;refine RF J J ?_;refine Va J J ?_;exact S_retp (Res.t1 Tryz.results16 J J) hext1 J
theorem c_FnWholeEmpty (A : Option Addr) (n c : Nat) (G : PH) (hl : n ≤ 1048576 → ∃ l, Byts G l (.slice A n c) ∧ l.length = n) : Pure Tryz.prog 4 [.slice A n c] G fun v G' => v = .bool true := by
 refine Pure.intro Tryz.func4 Tryz.ntmps4 J J fun w => ?_; refine Va J J ?_
 refine S_condp J (fun h => ?_) (fun h => ?_) <;> refine Va J J ?_
 ·exact S_retp (Res.t1 Tryz.results4 J J) XR J
 obtain ⟨l, hb, hll⟩ := hl (by omega)
 refine S_call Tryz.call12 (c_DrawWholeRun l _ _ hb) J J J ?_;rintro v1 G1 ⟨p, pv, q, qv, rfl, hp, hq, _⟩ hext1
 obtain ⟨Ap, cp, rfl, _⟩ := id hp.1
 obtain ⟨Aq, cq, rfl, _⟩ := id hq
 refine Va J J ?_;refine S_call Tryz.call13 (c_iWholeRun p [] _ (.slice none 0 0) _ hp (Sr_nil J)) J J J ?_;rintro v2 G2 hr2 hext2
 have c3 := c_sWholeRun p [] _ (.slice none 0 0) _ (PrgS_le hext2.le hp) (Sr_nil rfl)
 cases hw : wrun p [] with
 | none =>
  rw [hw] at hr2 c3
  obtain rfl : v2 = .tuple #[wZero, .bool false] := hr2
  simp only [wZero]
  refine Va J J ?_;refine AZ ZT_ok J J J J fun b5 => ?_;refine Va J J ?_;refine S_call Tryz.call14 c3 J J J ?_;rintro v3 G3 hr3 hext3
  obtain rfl : v3 = .tuple #[wZero, .bool false] := hr3
  simp only [wZero]
  refine Va J J ?_;refine AZ ZT_ok J J J J fun b7 => ?_;refine Va J J ?_;refine S_valV J J J (V_neB u_bool J J) ?_;refine Va J J ?_;refine GF J J J ?_;refine Va J J ?_;refine S_call Tryz.call15 (c_WorldSame _ _ _ _ _ _ _ _ (zero_wl _) (zero_wl _)) J J J ?_;rintro v5 G5 ⟨rfl, rfl⟩ _
  refine Va J J ?_;refine RT J J ?_;refine Va J J ?_;refine S_valV J J J (V_eqB u_bool J J) ?_;refine Va J J ?_;refine GT J J J ?_;refine Va J J ?_;refine S_call Tryz.call15 (c_WorldSame _ _ _ _ _ _ _ _ (zero_wl _) (zero_wl _)) J J J ?_;rintro v6 G6 ⟨rfl, rfl⟩ _
  refine Va J J ?_;exact S_retp (Res.t1 Tryz.results4 J J) ((hext1.trans hext2).trans hext3) J
 | some W =>
  obtain ⟨hI, hlen⟩ := wrun_parts hw hp.2.1
  have hn3 := hI.n3
  have hsd := (hI.rdy (by decide)).sd
  rw [hw] at hr2 c3
  obtain ⟨wv2, rfl, hW2⟩ := hr2
  obtain ⟨vp2, vc2, vr2, vs2, vd2, rfl, hw21, hw22, hw23, hw24, hw25⟩ := id hW2
  obtain ⟨Ap2, cp2, rfl, _⟩ := id hw21
  obtain ⟨Ac2, cc2, rfl, _⟩ := id hw22
  obtain ⟨Ar2, cr2, rfl, _⟩ := id hw23
  obtain ⟨As2, cs2, rfl, _⟩ := id hw24
  obtain ⟨Ad2, cd2, rfl, _⟩ := id hw25
  refine Va J J ?_;refine AZ ZT_ok J J J J fun b5 => ?_;refine Va J J ?_;refine S_call Tryz.call14 c3 J J J ?_;rintro v3 G3 hr3 hext3
  obtain ⟨wv3, rfl, hW3⟩ := hr3
  obtain ⟨vp3, vc3, vr3, vs3, vd3, rfl, hw31, hw32, hw33, hw34, hw35⟩ := id hW3
  obtain ⟨_, _, rfl, _⟩ := id hw31
  obtain ⟨_, _, rfl, _⟩ := id hw32
  obtain ⟨_, _, rfl, _⟩ := id hw33
  obtain ⟨_, _, rfl, _⟩ := id hw34
  obtain ⟨_, _, rfl, _⟩ := id hw35
  refine Va J J ?_;refine AZ ZT_ok J J J J fun b7 => ?_;refine Va J J ?_
  have hfree := wrun_free hw hp.2.1
  have hpo : progOk p = true := by
   unfold wrun at hw
   split at hw
   ·rename_i hc; exact hc.1
   ·cases hw
  have hW2' := WG_le hext3.le hW2
  refine S_valV J J J (V_neB u_bool J J) ?_;refine Va J J ?_;refine GF J J J ?_;refine Va J J ?_;refine S_call Tryz.call15 (c_WorldSame _ _ _ _ _ _ _ _ hW2'.wl hW3.wl) J J J ?_;rintro v5 G5 ⟨rfl, rfl⟩ _
  refine Va J J ?_;refine RF J J ?_;refine Va J J ?_;refine S_loop (α := Nat) (fun i => i ≤ [W.m0, W.m1].length) (fun i => [W.m0, W.m1].length - i) [(5, b5)] (fun i => [(9, .val (.int .i64 (i : Nat))), (3, .val (.slice Ap p.length cp)), (5, .ptr 5 0)])
   (fun _ => [.blk 5 31 (vL [.slice Ap2 W.procs.length cp2, .slice Ac2 [W.c0, W.c1, W.c2].length cc2, .slice Ar2 [W.m0, W.m1].length cr2, .slice As2 [W.q0, W.q1].length cs2, .slice Ad2 W.said.length cd2])]) (fun _ => G5) 0 (Nat.zero_le _) rfl ⟨⟨_, rfl, rfl⟩, ⟨_, rfl, rfl⟩, ⟨_, rfl, rfl⟩, trivial⟩ ?_ ?_
  ·first | exact .drop (.drop (.blk J J .nil)) | exact .drop (.blk J J .nil) | exact .blk J J .nil | fail
  intro i hi
  refine Va J J ?_
  refine S_condp J (fun h9 => ?_) (fun h9 => ?_) <;> refine Va J J ?_
  ·have hil : i < [W.m0, W.m1].length := by omega
   obtain ⟨ad, cs, rfl, hcs, rfl⟩ := Sr_at (IntsU_le hext3.le hw23) hil
   rw [rm_zero hfree hil] at hcs
   refine S_index Tk J J J J J J (by omega) (by omega) ?_;refine Va J J ?_;refine S_load Tk J J J J J (by simpa using hcs.1) ?_;refine Va J J ?_;refine RF J J ?_;refine Va J J ?_;refine S_add J J J J (by simp at hil; omega) ?_;refine Va J J ?_;exact S_again (i + 1) (by omega) (by omega) J ⟨⟨_, J, by simp [denO]⟩, ⟨_, J, J⟩, ⟨_, J, J⟩, trivial⟩ (.blk J J .nil)
  have hrst := wrun_empty hw hp.2.1
  refine S_loop (α := Nat) (fun i => i ≤ W.procs.length) (fun i => W.procs.length - i) [(5, b5)] (fun i => [(10, .val (.int .i64 (i : Nat))), (3, .val (.slice Ap p.length cp)), (5, .ptr 5 0)])
   (fun _ => [.blk 5 31 (vL [.slice Ap2 W.procs.length cp2, .slice Ac2 [W.c0, W.c1, W.c2].length cc2, .slice Ar2 [W.m0, W.m1].length cr2, .slice As2 [W.q0, W.q1].length cs2, .slice Ad2 W.said.length cd2])]) (fun _ => G5) 0 (Nat.zero_le _) rfl ⟨⟨_, rfl, rfl⟩, ⟨_, rfl, rfl⟩, ⟨_, rfl, rfl⟩, trivial⟩ (.blk rfl rfl .nil) ?_
  intro j hj
  refine Va J J ?_
  refine S_condp J (fun h10 => ?_) (fun h10 => ?_) <;> refine Va J J ?_
  ·have hjl : j < W.procs.length := by omega
   obtain ⟨ad, cs, rfl, hcs, hrep⟩ := Sr_at (Sr_mono hext3.le (fun _ _ _ h => prcRep_le hext3.le h) hw21) hjl
   have hr := hrst _ (List.getElem_mem hjl)
   generalize W.procs[j] = P at hcs hrep hr
   obtain ⟨vr, vt, rfl, hvr, hvt⟩ := hrep
   obtain ⟨z0, z1, z2, td, mo, on, ro⟩ := P
   obtain ⟨hmo, htd⟩ := hr
   simp only at hmo htd hvr hvt hcs
   subst hmo
   obtain ⟨Avr, cvr, rfl, _⟩ := id hvr
   obtain ⟨Avt, cvt, rfl, _⟩ := id hvt
   refine S_index Tk J J J J J J (by omega) (by omega) ?_;refine Va J J ?_;refine S_loadA Tk J J J J J (by simpa using hcs) ?_;refine Va J J ?_;refine AZ ZT_ok J J J J fun b11 => ?_;refine Va J J ?_;refine GF J J J ?_;refine Va J J ?_
   rcases htd with rfl | ⟨s, r, rfl, hk⟩
   ·refine GF J J (by simp) ?_
    refine Va J J ?_;refine S_add J J J J (by omega) ?_;refine Va J J ?_;refine S_again (j + 1) (by omega) (by omega) J ⟨⟨_, J, by simp [denO]⟩, ⟨_, J, J⟩, ⟨_, J, J⟩, trivial⟩ ?_
    first | exact .drop (.blk J J .nil) | exact .blk J J .nil | fail
   ·refine GT J J (by simp) ?_
    refine Va J J ?_;obtain ⟨ad2, vx, vy, rfl, hcs2, _⟩ := Sts_head hvt
    refine S_index Tk J J J J J J (by omega) (by simp) ?_;refine Va J J ?_;refine S_load Tk J J J J J (by simpa [add_zero'] using hcs2.1) ?_;refine Va J J ?_;refine RF J (by simp [hk]) ?_;refine Va J J ?_;refine S_add J J J J (by omega) ?_;refine Va J J ?_;refine S_again (j + 1) (by omega) (by omega) J ⟨⟨_, J, by simp [denO]⟩, ⟨_, J, J⟩, ⟨_, J, J⟩, trivial⟩ ?_
    first | exact .drop (.blk J J .nil) | exact .blk J J .nil | fail
  ·refine S_call Tryz.call16 (c_orderE p _ _ (PrgS_le (hext2.trans hext3).le hp) hpo) J J J ?_
   rintro v7 G7 rfl hext7
   refine Va J J ?_;exact S_retp (Res.t1 Tryz.results4 J J) (((hext1.trans hext2).trans hext3).trans hext7) J
end
end Go.Proofs.YtlmkipckihgehaaGreat
