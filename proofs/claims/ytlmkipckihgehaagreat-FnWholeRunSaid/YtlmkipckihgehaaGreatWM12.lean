/- Walks of the program's functions, one after the other (part 12); without conditions of their own. -/
import Derived.Test.YtlmkipckihgehaaGreatWM2
import Derived.Test.YtlmkipckihgehaaGreatWM3
import Derived.Test.YtlmkipckihgehaaGreatWM4
import Derived.Test.YtlmkipckihgehaaGreatWM8
import Derived.Test.YtlmkipckihgehaaGreatWM9
import Derived.Test.YtlmkipckihgehaaGreatWM10
import Derived.Test.YtlmkipckihgehaaGreatWM11
set_option linter.unusedVariables false
set_option linter.unusedSimpArgs false
set_option maxRecDepth 100000
set_option maxHeartbeats 4000000
open Go.RowKit
namespace Go.Proofs.YtlmkipckihgehaaGreat
section
attribute [local irreducible] X Pure Mod
theorem till_left (who : Nat) : ∀ (n : Nat) (inn : Bool) (W : Wld), (till who n inn W).2.2 ≤ n := by
 intro n
 induction n with
 | zero => intro inn W; simp [till]
 | succ n ih =>
  intro inn W
  simp only [till]
  by_cases hc : codeOf W (who : Nat) = 0
  ·rw [if_neg (by simp [hc])]
   by_cases h1 : (isEnt W who && !inn) = true
   ·rw [if_pos h1]; exact Nat.le_refl _
   rw [if_neg h1]
   by_cases h2 : ((!isEnt W who && endK (fstK W who)) && inn) = true
   ·rw [if_pos h2]; exact Nat.le_succ _
   rw [if_neg h2]
   exact Nat.le_succ_of_le (ih _ _)
  ·rw [if_pos (by simpa using hc)]
   exact Nat.le_refl _
theorem Shl_till {who : Nat} : ∀ (n : Nat) (inn : Bool) {W : Wld}, Shl W → Shl (till who n inn W).1 := by
 intro n
 induction n with
 | zero => intro inn W h; exact h
 | succ n ih =>
  intro inn W h
  simp only [Go.Proofs.YtlmkipckihgehaaGreat.till]
  by_cases hc : codeOf W (who : Nat) = 0
  ·rw [if_neg (by simp [hc])]
   by_cases h1 : (isEnt W who && !inn) = true
   ·rw [if_pos h1]; exact h
   rw [if_neg h1]
   by_cases h2 : ((!isEnt W who && endK (fstK W who)) && inn) = true
   ·rw [if_pos h2]; exact h.step who
   rw [if_neg h2]
   exact ih _ (h.step who)
  ·rw [if_pos (by simpa using hc)]
   exact h
theorem Shl_restP {who : Nat} : ∀ (n : Nat) {W : Wld}, Shl W → Shl (restP who n W).1 := by
 intro n
 induction n with
 | zero => intro W h; exact h
 | succ n ih =>
  intro W h
  simp only [Go.Proofs.YtlmkipckihgehaaGreat.restP]
  by_cases hc : codeOf W (who : Nat) = 0 ∧ isEnt W who = false
  ·rw [if_pos hc]; exact ih (h.step who)
  ·rw [if_neg hc]; exact h
theorem Shl_rests : ∀ (l : List Nat) {W W' : Wld}, Shl W → rests l W = some W' → Shl W'
 | [], W, W', h, e => by cases e; exact h
 | who :: r, W, W', h, e => by
  unfold Go.Proofs.YtlmkipckihgehaaGreat.rests at e
  have hs := Shl_restP (who := who) 200 h
  generalize restP who 200 W = q at e hs
  obtain ⟨V, ok⟩ := q
  cases ok
  ·cases e
  ·exact Shl_rests r hs e
def wrun (p : List (List Stm)) (q : List Int) : Option Wld := if progOk p = true ∧ q.length ≤ 200 then (match runs q (open0 p) with
 | none => none
 | some W => rests (List.range p.length) W) else none
theorem Inv_atom {who : Nat} {W : Wld} {B : Nat} (h : Inv W B) (hw : who < W.procs.length) : Inv (atom who 200 false W).1 (B + 400) ∧ (atom who 200 false W).1.procs.length = W.procs.length := by
 rw [atom_out]
 have h1 := h.till (who := who) 200 false hw
 split
 ·have h2 := h1.1.till (who := who) (till who 200 false W).2.2 true (by omega)
  have := till_left who 200 false W
  exact ⟨h2.1.mono (by omega), h2.2.trans h1.2⟩
 ·exact ⟨h1.1.mono (by omega), h1.2⟩
theorem runs_valid : ∀ (q : List Int) {W W' : Wld} {B : Nat}, Inv W B → runs q W = some W' → (∀ x ∈ q, 0 ≤ x ∧ x < W.procs.length) ∧ Inv W' (B + 400 * q.length) ∧ W'.procs.length = W.procs.length
 | [], W, W', B, h, e => by cases e; exact ⟨by simp, h.mono (by simp), J⟩
 | who :: r, W, W', B, h, e => by
  unfold runs at e
  split at e
  ·cases e
  ·rename_i hw
   have ha := Inv_atom h (who := who.toNat) (by omega)
   generalize Go.Proofs.YtlmkipckihgehaaGreat.atom who.toNat 200 false W = t at e ha
   obtain ⟨V, ok⟩ := t
   cases ok
   ·cases e
   ·obtain ⟨h1, h2, h3⟩ := runs_valid r ha.1 e
    refine ⟨?_, h2.mono (by simp only [List.length_cons]; omega), h3.trans ha.2⟩
    intro x hx
    rcases List.mem_cons.1 hx with rfl | hx
    ·omega
    ·have := h1 x hx; rw [ha.2] at this; exact this
end
section
attribute [local irreducible] X Pure Mod
def resV (r : Option Wld) (v : Value) (G : PH) : Prop := match r with
 | some W => ∃ wv, v = .tuple #[wv, .bool true] ∧ WG G W wv
 | none => v = .tuple #[wZero, .bool false]
theorem atom_till {who : Nat} {W : Wld} : atom who 200 false W = if (till who 200 false W).2.1 then ((till who (till who 200 false W).2.2 true (till who 200 false W).1).1, (till who (till who 200 false W).2.2 true (till who 200 false W).1).2.1) else ((till who 200 false W).1, false) := atom_out who 200 W
theorem runs_cons {who : Nat} {r : List Int} {W : Wld} (hw : who < W.procs.length) : runs ((who : Int) :: r) W = match atom who 200 false W with
  | (_, false) => none
  | (W', true) => runs r W' := by
 rw [runs]
 have h : ¬ ((who : Int) < 0 ∨ (W.procs.length : Int) ≤ who) := by omega
 rw [if_neg h, Int.toNat_natCast]
 generalize atom who 200 false W = a
 obtain ⟨V, ok⟩ := a
 cases ok <;> rfl
theorem drop_at {α : Type} {l : List α} {i : Nat} (h : i < l.length) : l.drop i = l[i] :: l.drop (i + 1) := List.drop_eq_getElem_cons h
theorem c_sWholeRun (p : List (List Stm)) (q : List Int) (pv qv : Value) (G : PH) (hp : PrgS G p pv) (hq : Ints G q qv) : Pure Tryz.prog 14 [pv, qv] G (resV (wrun p q)) := by
 obtain ⟨Ap, cp, rfl, _⟩ := id hp.1
 obtain ⟨Aq, cq, rfl, _⟩ := id hq
 refine Pure.intro Tryz.func14 Tryz.ntmps14 J J fun w => ?_; refine Va J J ?_;refine AZ ZT_ok J J J J fun b4 => ?_;refine Va J J ?_;refine S_call Tryz.call28 (c_ProgOk p _ G hp.1) J J J ?_;rintro v G5 ⟨rfl, rfl⟩ _
 refine Va J J ?_
 refine S_cond J (fun h => ?_) (fun h => ?_) <;> refine Va J J ?_
 ·have hnone : wrun p q = none := by
   simp only [Bool.or_eq_true, Bool.not_eq_true', decide_eq_true_eq] at h
   unfold wrun
   rw [if_neg]
   rintro ⟨h1, h2⟩
   rcases h with h | h
   ·rw [h1] at h; cases h
   ·omega
  exact S_retp (Res.c2 Tk Tryz.results14 J J J J) XR (by rw [hnone]; rfl)
 simp only [Bool.or_eq_false_iff, Bool.not_eq_false', decide_eq_false_iff_not] at h
 obtain ⟨hpo, hq2⟩ := h
 have hwr : wrun p q = (match runs q (open0 p) with
  | none => none
  | some W => rests (List.range p.length) W) := by
  unfold wrun
  rw [if_pos ⟨hpo, by omega⟩]
  all_goals (cases runs q (open0 p) <;> rfl)
 refine S_callN 1 Tryz.call41 (c_l3Open p _ G5 hp) J J J ?_;rintro v1 G1 A1 (⟨_, cs, ts, rfl, rfl, htd⟩ | ⟨hpf, _⟩) hext1
 rotate_left
 ·rw [hpo] at hpf; cases hpf
 have hI0 := Inv_open hpo hp.2.1
 have hS0 := Shl_open hpo
 have hpl : (open0 p).procs.length = p.length := by simp [open0]
 refine S_newHP 1 J J ?_;refine S_csV 1 J ?_;rintro bp bc br bs kp asd ksd kc kr ks rfl
 refine Va J J ?_;refine AZ ZT_ok J J J J fun b6 => ?_;refine Va J J ?_;refine S_pick [6, 4, 1] J ?_;refine S_loop (α := RS) (fun y => y.i ≤ q.length ∧ PH.ext w.heap.size G5 y.G ∧ (Inv y.V y.B ∧ y.B ≤ 400 * y.i) ∧ Tds y.G y.V.procs y.ts ∧ y.V.procs.length = p.length ∧ Shl y.V ∧ runs q (open0 p) = runs (q.drop y.i) y.V) (fun y => q.length - y.i) [(6, b6), (4, b4)]
  (fun y => [(7, .val (.int .i64 (y.i : Nat))), (1, .val (.slice Aq q.length cq)), (6, .ptr 6 0), (4, .ptr 4 0), (5, .lit false)])
  (fun y => [.blk 6 31 (vL (y.x.cs y.V)), .blk 4 31 (vL [.slice none 0 0, .slice none 0 0, .slice none 0 0, .slice none 0 0, .slice none 0 0]), .hp 1 (worldV (y.x.cs y.V) y.V y.ts)]) (fun y => y.G) ⟨0, open0 p, 0, ⟨bp, bc, br, bs, kp, asd, ksd, kc, kr, ks⟩, ts, G1⟩ ⟨Nat.zero_le _, hext1, ⟨hI0, Nat.le_refl _⟩, htd, hpl, hS0, rfl⟩ rfl ?_ ?_ ?_
 ·exact ⟨⟨_, J, J⟩, ⟨_, J, J⟩, ⟨_, J, J⟩, ⟨_, J, J⟩, ⟨_, J, J⟩, trivial⟩
 ·exact .blk J J (.blk J J (.hp .nil))
 rintro ⟨i, V, B1, ⟨bp1, bc1, br1, bs1, kp1, asd1, ksd1, kc1, kr1, ks1⟩, ts1, G1⟩ ⟨hi, hext, ⟨h1, hB1⟩, ht1, hlen, hS1, heq⟩
 simp only [WV.cs] at hi hext h1 hB1 ht1 hlen hS1 heq ⊢
 have hn1 := h1.n1
 have hn3 := h1.n3
 refine Va J J ?_
 refine S_condp J (fun h5 => ?_) (fun h5 => ?_) <;> refine Va J J ?_
 ·have hil : i < q.length := by omega
  rw [drop_at hil] at heq
  obtain ⟨ad, cs5, rfl, hcs, rfl, hi5⟩ := Sr_at (Ints_le hext.le hq) hil
  generalize hwe : q[i] = who at hcs hi5 heq
  refine S_index Tk J J J J J J (by omega) (by omega) ?_;refine Va J J ?_;refine S_load Tk J J J J J (by simpa using hcs.1) ?_;refine Va J J ?_
  refine S_cond J (fun h6 => ?_) (fun h6 => ?_) <;> refine Va J J ?_
  ·have hnone : wrun p q = none := by
    simp only [Bool.or_eq_true, decide_eq_true_eq] at h6
    rw [hwr, heq, runs, if_pos (by omega)]
   exact S_retp (Res.c2 Tk Tryz.results14 J J J J) hext (by rw [hnone]; rfl)
  simp only [Bool.or_eq_false_iff, decide_eq_false_iff_not] at h6
  obtain ⟨k, rfl⟩ := Int.eq_ofNat_of_zero_le (show 0 ≤ who by omega)
  have hkl : k < V.procs.length := by omega
  rw [runs_cons hkl, atom_till] at heq
  refine S_callM 1 Tryz.call42 (c_l6Till V k B1 200 false _ ts1 G1 h1 (by omega) ht1 hkl) J J J J (fun _ => J) ?_;rintro v G2 A' ⟨cs2, ts2, rfl, rfl, ht2⟩ hext2
  have h2 := h1.till (who := k) 200 false hkl
  have hS2 := Shl_till (who := k) 200 false hS1
  have hl2 := till_left k 200 false V
  generalize till k 200 false V = t2 at heq ht2 h2 hS2 hl2 ⊢
  obtain ⟨V2, ok2, left2⟩ := t2
  simp only at heq ht2 h2 hS2 hl2 ⊢
  refine S_csV 1 J ?_;rintro bp2 bc2 br2 bs2 kp2 asd2 ksd2 kc2 kr2 ks2 rfl
  refine Va J J ?_;refine AZ ZT_ok J J J J fun b9 => ?_;refine Va J J ?_
  cases ok2
  ·refine RT J J ?_
   refine Va J J ?_;exact S_retp (Res.c2 Tk Tryz.results14 J J J J) (hext.trans hext2) (by rw [hwr, heq]; rfl)
  refine RF J J ?_;refine Va J J ?_;refine S_callM 1 Tryz.call42 (c_l6Till V2 k (B1 + 200) left2 true _ ts2 G2 h2.1 (by omega) ht2 (by omega)) J J J J (fun _ => J) ?_;rintro v G3 A' ⟨cs3, ts3, rfl, rfl, ht3⟩ hext3
  have h3 := h2.1.till (who := k) left2 true (by omega)
  have hS3 := Shl_till (who := k) left2 true hS2
  generalize till k left2 true V2 = t3 at heq ht3 h3 hS3 ⊢
  obtain ⟨V3, ok3, left3⟩ := t3
  simp only [if_true] at heq ht3 h3 hS3 ⊢
  refine S_csV 1 J ?_;rintro bp3 bc3 br3 bs3 kp3 asd3 ksd3 kc3 kr3 ks3 rfl
  refine Va J J ?_
  cases ok3
  ·refine RT J J ?_
   refine Va J J ?_;exact S_retp (Res.c2 Tk Tryz.results14 J J J J) ((hext.trans hext2).trans hext3) (by rw [hwr, heq]; rfl)
  refine RF J J ?_;refine Va J J ?_;refine S_add J J J J (by omega) ?_;refine Va J J ?_;refine S_pick [6, 4, 1] J ?_;exact S_again ⟨i + 1, V3, B1 + 200 + left2, ⟨bp3, bc3, br3, bs3, kp3, asd3, ksd3, kc3, kr3, ks3⟩, ts3, G3⟩ ⟨by simp only; omega, (hext.trans hext2).trans hext3, ⟨h3.1, by simp only; omega⟩, ht3, by simp only; omega, hS3, heq⟩ (by simp only; omega) rfl ⟨⟨_, rfl, by simp [denO]⟩, ⟨_, rfl, rfl⟩, ⟨_, rfl, rfl⟩, ⟨_, rfl, rfl⟩, ⟨_, rfl, rfl⟩, trivial⟩ (by simp only [WV.cs]; exact .blk J J (.blk J J (.hp .nil)))
 ·have hin : i = q.length := by omega
  subst hin
  rw [List.drop_length] at heq
  have hwr2 : wrun p q = rests (List.range V.procs.length) V := by rw [hwr, heq, hlen]; rfl
  refine S_callM 1 Tryz.call43 (c_l6Rest V B1 _ ts1 G1 h1 (by omega) ht1) J J J J (fun _ => J) ?_;rintro v G2 A' ⟨V2, ok2, cs2, ts2, rfl, rfl, ht2, hok, hbad⟩ hext2
  refine S_csV 1 J ?_;rintro bp2 bc2 br2 bs2 kp2 asd2 ksd2 kc2 kr2 ks2 rfl
  refine Va J J ?_;refine AZ ZT_ok J J J J fun b12 => ?_;refine Va J J ?_
  cases ok2
  ·refine RT J J ?_
   refine Va J J ?_;exact S_retp (Res.c2 Tk Tryz.results14 J J J J) (hext.trans hext2) (by rw [hwr2, hbad J]; rfl)
  refine RF J J ?_;refine Va J J ?_;obtain ⟨hr, hI2, hl2⟩ := hok rfl
  have hS2 := Shl_rests _ hS1 hr
  have hB2 : B1 + 200 * V.procs.length ≤ 1000000 := by omega
  refine S_frzV 1 J J (fun _ h => h) ht2 hI2.n3 ⟨by have := (hI2.rdy hB2).sd; omega, by have := (hI2.rdy hB2).q0; omega, by have := (hI2.rdy hB2).q1; omega⟩ fun G3 hext3 hW => ?_;refine S_callN 21 Tryz.call44 (c_l3Out _ _ _ hW (Fin3_of hI2 hB2)) J J J ?_;rintro v3 G4 A3 ⟨cs3, ts3, rfl, rfl, htd3⟩ hext4
  rw [hS2.out] at htd3 ⊢
  refine S_newHP 21 J J ?_;refine S_csV 21 J ?_;rintro bp3 bc3 br3 bs3 kp3 asd3 ksd3 kc3 kr3 ks3 rfl
  refine Va J J ?_;refine S_frzV 21 J J (fun _ h => h) htd3 hI2.n3 ⟨by have := (hI2.rdy hB2).sd; omega, by have := (hI2.rdy hB2).q0; omega, by have := (hI2.rdy hB2).q1; omega⟩ fun G5 hext5 hW5 => ?_;exact S_retp (Res.c2 Tk Tryz.results14 J J J J) ((((hext.trans hext2).trans hext3).trans hext4).trans hext5) (by rw [hwr2, hr]; exact ⟨_, J, hW5⟩)
end
section
attribute [local irreducible] X Pure Mod
def EndsAt (G : PH) (be : Nat) : Prop := gcell G ⟨be, 0, none⟩ = some (.func (.func 72) #[] #[])
theorem EndsAt_le {G G' : PH} (hl : G.le G') {be : Nat} (h : EndsAt G be) : EndsAt G' be := gcell_le hl h
theorem c_atomicF (G : PH) : Pure Tryz.prog 38 [] G fun v G' => ∃ be, v = .func (.func 73) #[] #[.pointer (some ⟨be, 0, none⟩)] ∧ EndsAt G' be := by
 refine Pure.intro Tryz.func38 Tryz.ntmps38 J J fun w => ?_; refine Va J J ?_;refine AZ ZT_ok J J J J fun b1 => ?_;refine Va J J ?_;refine S_valV J J J (V_makeFunc J) ?_;refine Va J J ?_;refine S_freezeB 1 J J J J (fun _ h => h) fun hext1 => ?_;refine S_retp (Res.t1 Tryz.results38 J J) hext1 ⟨b1, J, ?_⟩
 simp [EndsAt, gcell, PH.add_self]
theorem c_restF (G : PH) : Pure Tryz.prog 39 [] G fun v G' => v = .func (.func 75) #[] #[] ∧ G' = G := by
 refine Pure.intro Tryz.func39 Tryz.ntmps39 J J fun w => ?_; refine Va J J ?_;exact S_retp (Res.t1 Tryz.results39 J J) XR ⟨J, J⟩
structure AS where
 V : Wld
 B : Nat
 e : Bool
 i : Nat
 ts : List Value
 G : PH
abbrev APost (b : Nat) (r : Wld × Bool) : Value → PH → HP → Prop := fun v G' A' => ∃ ts', v = .bool r.2 ∧ A' = worldP b r.1 ts' ∧ Tds G' r.1.procs ts'
theorem c_atom (W : Wld) (who B b be : Nat) (ts : List Value) (G : PH) (h : Inv W B) (hB : B + 200 ≤ 1000000) (ht : Tds G W.procs ts) (hw : who < W.procs.length) (he : EndsAt G be) :
  Mod Tryz.prog 73 [.pointer (some ⟨b, 0, none⟩), .int .i64 (who : Nat), .pointer (some ⟨be, 0, none⟩)] G (worldP b W ts) (APost b (atom who 200 false W)) := by
 refine Mod.intro Tryz.func73 Tryz.ntmps73 J J fun w S => ?_;refine Va J J ?_;refine S_loop (α := AS) (fun y => (PH.ext w.heap.size G y.G ∧ Inv y.V y.B ∧ y.B + (200 - y.i) ≤ 1000000 ∧ y.i ≤ 200) ∧ Tds y.G y.V.procs y.ts ∧ who < y.V.procs.length ∧ atom who 200 false W = atom who (200 - y.i) y.e y.V) (fun y => 200 - y.i) []
  (fun y => [(8, .val (.int .i64 (y.i : Nat))), (6, .val (.bool y.e)), (0, .val (.pointer (some ⟨b, 0, none⟩))), (1, .val (.int .i64 (who : Nat))), (2, .val (.pointer (some ⟨be, 0, none⟩)))])
  (fun y => [.hp 1 (worldP b y.V y.ts)]) (fun y => y.G) ⟨W, B, false, 0, ts, G⟩ ⟨⟨PH.ext.refl _ _, h, by simp only; omega, by simp⟩, ht, hw, rfl⟩ rfl ⟨⟨_, rfl, rfl⟩, ⟨_, rfl, rfl⟩, ⟨_, rfl, rfl⟩, ⟨_, rfl, rfl⟩, ⟨_, rfl, rfl⟩, trivial⟩ (.hp .nil) ?_
 rintro ⟨V, B1, e1, i, ts1, G1⟩ ⟨⟨hext, h1, hB1, hi⟩, ht1, hw1, heq⟩
 simp only at hext h1 hB1 hi ht1 hw1 heq ⊢
 refine Va J J ?_
 refine S_condp J (fun h5 => ?_) (fun h5 => ?_) <;> refine Va J J ?_
 ·obtain ⟨m, hm⟩ : ∃ m, 200 - i = m + 1 := ⟨200 - i - 1, by omega⟩
  rw [hm] at heq
  refine S_callM 1 Tryz.call46 (c_code V (who : Nat) b ts1 G1 h1.n1 h1.n3 ht1 h1.head) J J J J (fun _ => J) ?_;rintro v G2 A' ⟨rfl, rfl, rfl⟩ _
  refine Va J J ?_
  by_cases hc : codeOf V (who : Nat) = 0
  ·refine RF J (by simp [hc]) ?_
   refine Va J J ?_
   cases e1
   ·refine GF J J J ?_
    refine Va J J ?_;refine S_callM 1 Tryz.call47 (c_isEntry V who b ts1 _ h1.n1 h1.n3 ht1 h1.head hw1) J J J J (fun _ => J) ?_;rintro v G3 A' ⟨rfl, rfl, rfl⟩ _
    refine Va J J ?_
    cases hE : isEnt V who
    ·refine S_callM 1 Tryz.call74 (c_first V who b ts1 _ h1.n1 h1.n3 ht1 hw1) J J J J (fun _ => J) ?_
     rintro v G4 A' ⟨rfl, rfl, hkv⟩ _
     have hkv2 := hkv
     obtain ⟨va, vb, vn, A1, n1, c1, A2, n2, c2, rfl⟩ := hkv
     refine Va J J ?_;refine AZ ZT_ok J J J J fun b7 => ?_;refine Va J J ?_;refine S_callM 1 Tryz.call48 (c_step V who b ts1 _ (h1.rdy (by omega)) ht1 hw1 (h1.go hc)) J J J J (fun _ => J) ?_;rintro v G5 A' ⟨ts5, rfl, ht5⟩ hext5
     refine Va J J ?_;refine GF J J J ?_;refine Va J J ?_
     have hte : atom who (m + 1) false V = atom who m false (V.step who) := by simp [atom, hc, hE]
     refine S_add J J J J (by omega) ?_;refine Va J J ?_;exact S_again ⟨V.step who, B1 + 1, false, i + 1, ts5, _⟩ ⟨⟨hext.trans hext5, h1.step hw1 hc, by simp only; omega, by simp only; omega⟩, ht5, by simp only; rw [V.step_len]; exact hw1, by simp only; rw [heq, hte, show 200 - (i + 1) = m by omega]⟩ (by simp only; omega) rfl ⟨⟨_, rfl, by simp [denO]⟩, ⟨_, rfl, rfl⟩, ⟨_, rfl, rfl⟩, ⟨_, rfl, rfl⟩, ⟨_, rfl, rfl⟩, trivial⟩ (.drop (.hp .nil))
    ·refine S_callM 1 Tryz.call74 (c_first V who b ts1 _ h1.n1 h1.n3 ht1 hw1) J J J J (fun _ => J) ?_
     rintro v G4 A' ⟨rfl, rfl, hkv⟩ _
     have hkv2 := hkv
     obtain ⟨va, vb, vn, A1, n1, c1, A2, n2, c2, rfl⟩ := hkv
     refine Va J J ?_;refine AZ ZT_ok J J J J fun b7 => ?_;refine Va J J ?_;refine S_callM 1 Tryz.call48 (c_step V who b ts1 _ (h1.rdy (by omega)) ht1 hw1 (h1.go hc)) J J J J (fun _ => J) ?_;rintro v G5 A' ⟨ts5, rfl, ht5⟩ hext5
     refine Va J J ?_;refine GT J J J ?_;refine Va J J ?_;refine S_load Tk J J J J J (EndsAt_le (hext.trans hext5).le he) ?_;refine Va J J ?_;refine S_callV (cap := #[]) (vs := [.agg #[.int .i64 (fstK V who), .int .i64 va, .int .i64 vb, .int .i64 vn, .slice A1 n1 c1, .slice A2 n2 c2]]) J Tryz.call72 (c_ends (fstK V who) _ _ hkv2) J J J ?_;rintro v G6 ⟨rfl, rfl⟩ _
     refine Va J J ?_
     have hte : atom who (m + 1) false V = atom who m true (V.step who) := by simp [atom, hc, hE, ent_no_end hE]
     have hke := ent_no_end hE
     refine RF J (by simpa [endK] using hke) ?_;refine Va J J ?_;refine S_add J J J J (by omega) ?_;refine Va J J ?_;exact S_again ⟨V.step who, B1 + 1, true, i + 1, ts5, _⟩ ⟨⟨hext.trans hext5, h1.step hw1 hc, by simp only; omega, by simp only; omega⟩, ht5, by simp only; rw [V.step_len]; exact hw1, by simp only; rw [heq, hte, show 200 - (i + 1) = m by omega]⟩ (by simp only; omega) rfl ⟨⟨_, rfl, by simp [denO]⟩, ⟨_, rfl, rfl⟩, ⟨_, rfl, rfl⟩, ⟨_, rfl, rfl⟩, ⟨_, rfl, rfl⟩, trivial⟩ (.drop (.hp .nil))
   ·refine GT J J J ?_
    refine Va J J ?_;refine S_callM 1 Tryz.call74 (c_first V who b ts1 _ h1.n1 h1.n3 ht1 hw1) J J J J (fun _ => J) ?_;rintro v G4 A' ⟨rfl, rfl, hkv⟩ _
    have hkv2 := hkv
    obtain ⟨va, vb, vn, A1, n1, c1, A2, n2, c2, rfl⟩ := hkv
    refine Va J J ?_;refine AZ ZT_ok J J J J fun b7 => ?_;refine Va J J ?_;refine S_callM 1 Tryz.call48 (c_step V who b ts1 _ (h1.rdy (by omega)) ht1 hw1 (h1.go hc)) J J J J (fun _ => J) ?_;rintro v G5 A' ⟨ts5, rfl, ht5⟩ hext5
    refine Va J J ?_;refine S_load Tk J J J J J (EndsAt_le (hext.trans hext5).le he) ?_;refine Va J J ?_;refine S_callV (cap := #[]) (vs := [.agg #[.int .i64 (fstK V who), .int .i64 va, .int .i64 vb, .int .i64 vn, .slice A1 n1 c1, .slice A2 n2 c2]]) J Tryz.call72 (c_ends (fstK V who) _ _ hkv2) J J J ?_;rintro v G6 ⟨rfl, rfl⟩ _
    refine Va J J ?_
    cases hke : endK (fstK V who)
    ·refine RF J (by simpa [endK] using hke) ?_
     refine Va J J ?_
     have hte : atom who (m + 1) true V = atom who m true (V.step who) := by simp [atom, hc, hke]
     refine S_add J J J J (by omega) ?_;refine Va J J ?_;exact S_again ⟨V.step who, B1 + 1, true, i + 1, ts5, _⟩ ⟨⟨hext.trans hext5, h1.step hw1 hc, by simp only; omega, by simp only; omega⟩, ht5, by simp only; rw [V.step_len]; exact hw1, by simp only; rw [heq, hte, show 200 - (i + 1) = m by omega]⟩ (by simp only; omega) rfl ⟨⟨_, rfl, by simp [denO]⟩, ⟨_, rfl, rfl⟩, ⟨_, rfl, rfl⟩, ⟨_, rfl, rfl⟩, ⟨_, rfl, rfl⟩, trivial⟩ (.drop (.hp .nil))
    ·refine RT J (by simpa [endK] using hke) ?_
     refine Va J J ?_
     have hte : atom who (m + 1) true V = (V.step who, true) := by simp [atom, hc, hke]
     exact S_retm 1 (Res.t1 Tryz.results73 J J) J (hext.trans hext5) ⟨ts5, by rw [heq, hte], by rw [heq, hte], by rw [heq, hte]; exact ht5⟩
  ·refine RT J (by simp [hc]) ?_
   refine Va J J ?_
   have hte : atom who (m + 1) e1 V = (V, false) := by simp [atom, hc]
   exact S_retm 1 (Res.t1 Tryz.results73 J J) J hext ⟨ts1, by rw [heq, hte], by rw [heq, hte], by rw [heq, hte]; exact ht1⟩
 ·have hi2 : 200 - i = 0 := by omega
  rw [hi2] at heq
  exact S_retm 1 (Res.t1 Tryz.results73 J J) J hext ⟨ts1, by rw [heq]; rfl, by rw [heq]; rfl, by rw [heq]; exact ht1⟩
structure RS1 where
 V : Wld
 B : Nat
 i : Nat
 ts : List Value
 G : PH
theorem c_rest1 (W : Wld) (who B b : Nat) (ts : List Value) (G : PH) (h : Inv W B) (hB : B + 200 ≤ 1000000) (ht : Tds G W.procs ts) (hw : who < W.procs.length) :
  Mod Tryz.prog 75 [.pointer (some ⟨b, 0, none⟩), .int .i64 (who : Nat)] G (worldP b W ts) (APost b (restP who 200 W)) := by
 refine Mod.intro Tryz.func75 Tryz.ntmps75 J J fun w S => ?_;refine Va J J ?_;refine S_loop (α := RS1) (fun y => (PH.ext w.heap.size G y.G ∧ Inv y.V y.B ∧ y.B + (200 - y.i) ≤ 1000000 ∧ y.i ≤ 200) ∧ Tds y.G y.V.procs y.ts ∧ who < y.V.procs.length ∧ restP who 200 W = restP who (200 - y.i) y.V) (fun y => 200 - y.i) []
  (fun y => [(5, .val (.int .i64 (y.i : Nat))), (0, .val (.pointer (some ⟨b, 0, none⟩))), (1, .val (.int .i64 (who : Nat)))])
  (fun y => [.hp 1 (worldP b y.V y.ts)]) (fun y => y.G) ⟨W, B, 0, ts, G⟩ ⟨⟨PH.ext.refl _ _, h, by simp only; omega, by simp⟩, ht, hw, rfl⟩ rfl ⟨⟨_, rfl, rfl⟩, ⟨_, rfl, rfl⟩, ⟨_, rfl, rfl⟩, trivial⟩ (.hp .nil) ?_
 rintro ⟨V, B1, i, ts1, G1⟩ ⟨⟨hext, h1, hB1, hi⟩, ht1, hw1, heq⟩
 simp only at hext h1 hB1 hi ht1 hw1 heq ⊢
 refine Va J J ?_
 refine S_condp J (fun h5 => ?_) (fun h5 => ?_) <;> refine Va J J ?_
 ·obtain ⟨m, hm⟩ : ∃ m, 200 - i = m + 1 := ⟨200 - i - 1, by omega⟩
  rw [hm] at heq
  refine S_callM 1 Tryz.call46 (c_code V (who : Nat) b ts1 G1 h1.n1 h1.n3 ht1 h1.head) J J J J (fun _ => J) ?_;rintro v G2 A' ⟨rfl, rfl, rfl⟩ _
  refine Va J J ?_
  by_cases hc : codeOf V (who : Nat) = 0
  ·refine GF J J (by simp [hc]) ?_
   refine Va J J ?_;refine S_callM 1 Tryz.call47 (c_isEntry V who b ts1 _ h1.n1 h1.n3 ht1 h1.head hw1) J J J J (fun _ => J) ?_;rintro v G3 A' ⟨rfl, rfl, rfl⟩ _
   refine Va J J ?_
   cases hE : isEnt V who
   ·refine RF J J ?_
    refine Va J J ?_;refine S_callM 1 Tryz.call48 (c_step V who b ts1 _ (h1.rdy (by omega)) ht1 hw1 (h1.go hc)) J J J J (fun _ => J) ?_;rintro v G5 A' ⟨ts5, rfl, ht5⟩ hext5
    refine Va J J ?_;refine S_add J J J J (by omega) ?_;refine Va J J ?_
    have hte : restP who (m + 1) V = restP who m (V.step who) := by simp [restP, hc, hE]
    exact S_again ⟨V.step who, B1 + 1, i + 1, ts5, _⟩ ⟨⟨hext.trans hext5, h1.step hw1 hc, by simp only; omega, by simp only; omega⟩, ht5, by simp only; rw [V.step_len]; exact hw1, by simp only; rw [heq, hte, show 200 - (i + 1) = m by omega]⟩ (by simp only; omega) rfl ⟨⟨_, rfl, by simp [denO]⟩, ⟨_, rfl, rfl⟩, ⟨_, rfl, rfl⟩, trivial⟩ (.hp .nil)
   ·refine RT J J ?_
    refine Va J J ?_
    have hte : restP who (m + 1) V = (V, true) := by simp [restP, hE]
    exact S_retm 1 (Res.t1 Tryz.results75 J J) J hext ⟨ts1, by rw [heq, hte], by rw [heq, hte], by rw [heq, hte]; exact ht1⟩
  ·refine GT J J (by simp [hc]) ?_
   refine Va J J ?_
   have hte : restP who (m + 1) V = (V, true) := by simp [restP, hc]
   exact S_retm 1 (Res.t1 Tryz.results75 J J) J hext ⟨ts1, by rw [heq, hte], by rw [heq, hte], by rw [heq, hte]; exact ht1⟩
 ·have hi2 : 200 - i = 0 := by omega
  rw [hi2] at heq
  exact S_retm 1 (Res.t1 Tryz.results75 J J) J hext ⟨ts1, by rw [heq]; rfl, by rw [heq]; rfl, by rw [heq]; exact ht1⟩
end
section
attribute [local irreducible] X Pure Mod
theorem c_opened (p : List (List Stm)) (pv : Value) (G : PH) (hpp : Prg G p pv) (hp13 : 1 ≤ p.length ∧ p.length ≤ 3) : Mod Tryz.prog 37 [pv] G emptyHP fun v G' A' => ∃ cs ts, v = .agg cs.toArray ∧ A' = worldV cs (open0 p) ts ∧ Tds G' (open0 p).procs ts := by
  obtain ⟨A, c, rfl, hl1, _⟩ := id hpp
  refine Mod.intro Tryz.func37 Tryz.ntmps37 J J fun w S => ?_;refine Va J J ?_;refine AZ ZT_ok J J J J fun b2 => ?_;refine Va J J ?_;refine S_cut (α := Nat × Nat × Nat × Nat) (fun _ => True) (fun y => [(2, b2), (3, y.1), (6, y.2.1), (7, y.2.2.1), (8, y.2.2.2)]) (fun y => [(0, .val (.slice A p.length c)), (2, .ptr 2 0), (3, .ptr 3 0)])
    (fun y => [.blk 2 31 (vL [.slice none 0 0, .slice none 0 0, .slice none 0 0, .slice none 0 0, .slice none 0 0]), .blk 3 31 [.v (.slice none 0 0), .s 6 0 3 3, .s 7 0 2 2, .s 8 0 2 2, .v (.slice none 0 0)], .blk 6 3 (vL [.int .i64 0, .int .i64 0, .int .i64 0]), .blk 7 3 (vL [.int .i64 0, .int .i64 0]), .blk 8 24 (vL [.slice none 0 0, .slice none 0 0]), .hp 1 emptyHP]) (fun _ => G) ?_ ?_
  · refine Ds J J J ?_
    refine Da J J ?_
    repeat' (first
      | exact trivial
      | (refine D_list J ?_)
      | refine And.intro ?_ ?_
      | (refine N_turn Tk _ J J J J fun back => ?_
         first
           | refine S_make Tk ZT_ok J J J J J J (by decide) (by decide) J J J fun bm => ?_
           | refine AZ ZT_ok J J J J fun ba => ?_
           | fail
         refine back _ _ _ _ (by kernel_rfl) ?_
         clear back
         refine Da J J ?_)
      | fail)
    all_goals (refine N_store Tk 5 rfl rfl rfl rfl rfl rfl rfl rfl (by kernel_rfl) ?_)
    all_goals refine D_adv Tk (by decide) rfl rfl ?_
    all_goals (refine DD ?_)
    all_goals refine S_adv Tk rfl 1000 rfl ?_
    all_goals (refine S_pick [2, 3, 6, 7, 8, 1] rfl ?_)
    all_goals exact S_meet (_, _, _, _) trivial rfl ⟨⟨_, rfl, rfl⟩, ⟨_, rfl, rfl⟩, ⟨_, rfl, rfl⟩, trivial⟩ (.blk rfl rfl (.blk rfl rfl (.blk rfl rfl (.blk rfl rfl (.blk rfl rfl (.hp .nil))))))
  rintro ⟨b3, b9, b10, b11⟩ _
  simp only
  refine S_nilO (base := w.heap.size) (e := 38) (size := 5) 20 ?_;refine S_newE 21 ?_;refine Va J J ?_;refine S_loop (α := OS) (fun y => y.i ≤ p.length ∧ y.q.length = y.i ∧ PH.ext w.heap.size G y.G ∧ Qds y.G (p.take y.i) y.q ∧ Off0 y.A ∧ ∀ x ∈ y.q, ∃ A n c, x.2 = .slice A n c) (fun y => p.length - y.i) [(2, b2), (3, b3), (6, b9), (7, b10), (8, b11)]
    (fun y => [(12, .val (.int .i64 (y.i : Nat))), (10, .val (.slice A p.length c)), (11, .val (.int .i64 (p.length : Nat))), (2, .ptr 2 0), (3, .ptr 3 0)])
    (fun y => [.hp 21 (regsHP y.q), .hp 20 (rowO w.heap.size 38 5 y.A y.q.length y.c (procX y.q)), .blk 2 31 (vL [.slice none 0 0, .slice none 0 0, .slice none 0 0, .slice none 0 0, .slice none 0 0]), .blk 3 31 [.v (.slice y.A y.q.length y.c), .s 6 0 3 3, .s 7 0 2 2, .s 8 0 2 2, .v (.slice none 0 0)], .blk 6 3 (vL [.int .i64 0, .int .i64 0, .int .i64 0]), .blk 7 3 (vL [.int .i64 0, .int .i64 0]), .blk 8 24 (vL [.slice none 0 0, .slice none 0 0]), .hp 1 emptyHP]) (fun y => y.G) ⟨0, none, 0, [], G⟩ ⟨Nat.zero_le _, rfl, PH.ext.refl _ _, trivial, .inl rfl, by simp⟩ rfl ?_ ?_ ?_
  · exact ⟨⟨_, J, J⟩, ⟨_, J, J⟩, ⟨_, J, J⟩, ⟨_, J, J⟩, ⟨_, J, J⟩, trivial⟩
  · exact .hp (.hp (.blk J J (.blk J J (.blk J J (.blk J J (.blk J J (.hp .nil)))))))
  rintro ⟨i, A5, c5, q, G1⟩ ⟨hi, hq, hext, hqd, hoff, hqs⟩
  simp only at hi hq hext hqd hoff hqs ⊢
  refine Va J J ?_
  refine S_condp J (fun h5 => ?_) (fun h5 => ?_) <;> refine Va J J ?_
  · have hil : i < p.length := by omega
    obtain ⟨ad, lv, rfl, hcell, hlv⟩ := prg_at (Prg_le hext.le hpp) hil
    obtain ⟨Al, cl, rfl, _⟩ := id hlv
    refine S_index Tk J J J J J J (by omega) (by omega) ?_;refine Va J J ?_;refine S_load Tk J J J J J (by simpa using hcell) ?_;refine Va J J ?_;refine S_cut (α := Nat × Option Addr × Nat × PH × Option Addr × Nat) (fun y => Sts y.2.2.2.1 p[i] (.slice y.2.1 p[i].length y.2.2.1) ∧ PH.ext w.heap.size G1 y.2.2.2.1 ∧ Off0 y.2.2.2.2.1) (fun y => [(2, b2), (3, b3), (6, b9), (7, b10), (8, b11), (18, y.1)]) (fun y => [(12, .val (.int .i64 (i : Nat))), (10, .val (.slice (some ad) p.length c)), (11, .val (.int .i64 (p.length : Nat))), (2, .ptr 2 0), (3, .ptr 3 0)])
      (fun y => [.hp 21 (regsHP q), .hp 20 (rowO w.heap.size 38 5 y.2.2.2.2.1 (q.length + 1) y.2.2.2.2.2 (procX q ++ [.slice (some ⟨y.1, 0, none⟩) 3 3, .slice y.2.1 p[i].length y.2.2.1, .int .i64 0, .int .i64 0, .int .i64 (-1)])), .blk 18 3 (vL [.int .i64 0, .int .i64 0, .int .i64 0]), .blk 2 31 (vL [.slice none 0 0, .slice none 0 0, .slice none 0 0, .slice none 0 0, .slice none 0 0]), .blk 3 31 [.v (.slice y.2.2.2.2.1 (q.length + 1) y.2.2.2.2.2), .s 6 0 3 3, .s 7 0 2 2, .s 8 0 2 2, .v (.slice none 0 0)], .blk 6 3 (vL [.int .i64 0, .int .i64 0, .int .i64 0]), .blk 7 3 (vL [.int .i64 0, .int .i64 0]), .blk 8 24 (vL [.slice none 0 0, .slice none 0 0]), .hp 1 emptyHP]) (fun y => y.2.2.2.1) ?_ ?_
    · refine Ds J J J ?_
      refine Da J J ?_
      repeat' (first
        | exact trivial
        | (refine D_list J ?_)
        | refine And.intro ?_ ?_
        | (refine N_call 4 Tryz.call71 (c_copyStmts _ _ _ hlv) J J J J J J J J J J ?_
           rintro v4 G4 hv4 hext4
           obtain ⟨A4, c4, rfl, _⟩ := id hv4
           refine Da J J ?_)
        | (refine N_turn Tk _ J J J J fun back => ?_
           first
             | refine S_make Tk ZT_ok J J J J J J (by decide) (by decide) J J J fun bm => ?_
             | refine S_slice Tk ZT_ok J J J J (by decide) (by decide) J J J J fun b22 => ?_
             | refine S_app1z Tk 20 22 J J J J J J J J J J J J J J (by intro u hu; simp at hu; rcases hu with rfl | rfl | rfl | rfl | rfl <;> rfl) rfl (fun _ _ => rfl) (by omega) (Nat.le_refl _) fun A6 c6 h6 => ?_
             | fail
           refine back _ _ _ _ (by kernel_rfl) ?_
           clear back
           refine Da J J ?_)
        | fail)
      all_goals (refine N_store Tk 9 rfl rfl rfl rfl rfl rfl rfl rfl (by kernel_rfl) ?_)
      all_goals refine D_adv Tk (by decide) rfl rfl ?_
      all_goals (refine DD ?_)
      all_goals refine S_adv Tk rfl 1000 rfl ?_
      all_goals (refine S_pick [21, 20, 18, 2, 3, 6, 7, 8, 1] rfl ?_)
      all_goals exact S_meet (_, _, _, _, _, _) ⟨hv4, hext4, (by rcases h6 with h6 | h6; exact h6 ▸ hoff; exact .inr h6)⟩ J ⟨⟨_, J, J⟩, ⟨_, J, J⟩, ⟨_, J, J⟩, ⟨_, J, J⟩, ⟨_, J, J⟩, trivial⟩ (.hp (.hp (.blk J J (.blk J J (.blk J J (.blk J J (.blk J J (.blk J J (.hp .nil)))))))))
    rintro ⟨b18, A20, c20, G2, A6, c6⟩ ⟨hv, hext2, hoff6⟩
    simp only at hv hext2 hoff6 ⊢
    refine S_Bhp 18 24 J J J J ?_;refine S_pair 24 21 25 J J J J ?_;refine Va J J ?_;refine S_add J J J J (by omega) ?_;refine Va J J ?_;refine S_again ⟨i + 1, A6, c6, q ++ [(b18, .slice A20 p[i].length c20)], G2⟩ ⟨by simp only; omega, by simp; omega, hext.trans hext2, ?_, hoff6, ?_⟩ (by simp only; omega) rfl ⟨⟨_, rfl, by simp [denO]⟩, ⟨_, rfl, rfl⟩, ⟨_, rfl, rfl⟩, ⟨_, rfl, rfl⟩, ⟨_, rfl, rfl⟩, trivial⟩ ?_
    · simp only
      rw [List.take_succ_eq_append_getElem hil]
      exact Qds_snoc hv (Qds_le hext2.le hqd)
    · intro x hx
      rcases List.mem_append.1 hx with hx | hx
      · exact hqs x hx
      · rw [List.mem_singleton.1 hx]; exact ⟨_, _, _, J⟩
    · simp only [regsHP_snoc, procX_snoc, List.length_append, List.length_singleton]
      exact .hp (.hp (.blk J J (.blk J J (.blk J J (.blk J J (.blk J J (.hp .nil)))))))
  · have hin : i = p.length := by omega
    subst hin
    rw [List.take_length] at hqd
    refine S_capO 20 J fun hnc5 hcm5 _ => ?_;refine S_someO 20 J (by omega) fun gp offp eA => ?_;obtain rfl : offp = 0 := by
      rcases hoff with h | ⟨g, h⟩
      · rw [h] at eA; cases eA
      · rw [h] at eA; cases eA; rfl
    subst eA
    refine S_rowB 20 20 J J J fun sp => ?_;refine S_nilO (base := 0) (e := 3) (size := 1) 30 ?_;refine S_nilO (base := 0) (e := 3) (size := 1) 31 ?_;refine S_nilO (base := 0) (e := 104) (size := 2) 32 ?_
    rcases (by omega : p.length = 1 ∨ p.length = 2 ∨ p.length = 3) with h1 | h1 | h1
    · obtain ⟨l0, rfl⟩ := len1 h1
      obtain ⟨⟨g0, t0⟩, rfl⟩ := len1 (hq.trans h1)
      refine S_unpair 21 500 600 J J ?_;refine S_hpB 500 40 J J J ?_;exact RK [20, 6, 7, 8, 32, 30, 31, 40] (Res.c1 Tk Tryz.results37 rfl rfl) ⟨_, [t0], rfl, rfl, Qds_Tds hqd⟩ ⟨gp, b9, b10, b11, [g0], ⟨c5, sp, none, 0, none, 0, none, 0, 3, [], 2, [], 2, [], fun _ => 3, fun _ => []⟩, ⟨0, [], 0, [], 0, []⟩, rfl, (mok0 ⟨by simpa [open0] using hnc5, hcm5⟩), ⟨⟨rfl, rfl⟩, ⟨rfl, rfl⟩, rfl, rfl⟩, rfl, rfl, rfl⟩ rfl (Bs 5 rfl rfl rfl rfl (.blk rfl rfl (.blk rfl rfl (.blk rfl rfl (.hp (.hp (.hp (.blk rfl rfl .nil)))))))) hext
    · obtain ⟨l0, l1, rfl⟩ := len2 h1
      obtain ⟨⟨g0, t0⟩, ⟨g1, t1⟩, rfl⟩ := len2 (hq.trans h1)
      refine S_unpair 21 501 601 J J ?_;refine S_hpB 501 41 J J J ?_;refine S_unpair 601 500 600 J J ?_;refine S_hpB 500 40 J J J ?_;exact RK [20, 6, 7, 8, 32, 30, 31, 40, 41] (Res.c1 Tk Tryz.results37 rfl rfl) ⟨_, [t0, t1], rfl, rfl, Qds_Tds hqd⟩ ⟨gp, b9, b10, b11, [g0, g1], ⟨c5, sp, none, 0, none, 0, none, 0, 3, [], 2, [], 2, [], fun _ => 3, fun _ => []⟩, ⟨0, [], 0, [], 0, []⟩, rfl, (mok0 ⟨by simpa [open0] using hnc5, hcm5⟩), ⟨⟨rfl, rfl⟩, ⟨rfl, rfl⟩, rfl, rfl⟩, rfl, rfl, rfl⟩ rfl (Bs 10 rfl rfl rfl rfl (.blk rfl rfl (.blk rfl rfl (.blk rfl rfl (.hp (.hp (.hp (.blk rfl rfl (.blk rfl rfl .nil))))))))) hext
    · obtain ⟨l0, l1, l2, rfl⟩ := len3 h1
      obtain ⟨⟨g0, t0⟩, ⟨g1, t1⟩, ⟨g2, t2⟩, rfl⟩ := len3 (hq.trans h1)
      refine S_unpair 21 502 602 J J ?_;refine S_hpB 502 42 J J J ?_;refine S_unpair 602 501 601 J J ?_;refine S_hpB 501 41 J J J ?_;refine S_unpair 601 500 600 J J ?_;refine S_hpB 500 40 J J J ?_;exact RK [20, 6, 7, 8, 32, 30, 31, 40, 41, 42] (Res.c1 Tk Tryz.results37 rfl rfl) ⟨_, [t0, t1, t2], rfl, rfl, Qds_Tds hqd⟩ ⟨gp, b9, b10, b11, [g0, g1, g2], ⟨c5, sp, none, 0, none, 0, none, 0, 3, [], 2, [], 2, [], fun _ => 3, fun _ => []⟩, ⟨0, [], 0, [], 0, []⟩, rfl, (mok0 ⟨by simpa [open0] using hnc5, hcm5⟩), ⟨⟨rfl, rfl⟩, ⟨rfl, rfl⟩, rfl, rfl⟩, rfl, rfl, rfl⟩ rfl (Bs 15 rfl rfl rfl rfl (.blk rfl rfl (.blk rfl rfl (.blk rfl rfl (.hp (.hp (.hp (.blk rfl rfl (.blk rfl rfl (.blk rfl rfl .nil)))))))))) hext
end
section
attribute [local irreducible] X Pure Mod
theorem c_CloneU (l : List Int) (v : Value) (G : PH) (h : IntsU G l v) : Pure Tryz.prog 76 [v] G fun v' G' => IntsU G' l v' := by
  obtain ⟨xs, hx, hc⟩ := Sr_Sx (rep := intU) (sz := 1) (fun n cs h => by rw [show cs = [.int .i64 n] from h]; rfl) h
  obtain rfl := Cs_intU_eq hc
  refine (c_CloneInt v _ _ G hx (intC1 _)).mono fun v' G' _ h' => ?_;obtain ⟨A, c, rfl, h2, h3, h4, h5, h6⟩ := h'
  refine Sx_Sr ⟨A, c, J, h2, h3, h4, h5, ?_⟩ J hc
  rcases h6 with h6 | ⟨a, h6, h7⟩
  · exact .inl h6
  · exact .inr ⟨a, h6, gcells_le (newp_le _ _) h7⟩
theorem c_CloneSU (l : List (Int × Int)) (v : Value) (G : PH) (h : SaysU G l v) : Pure Tryz.prog 77 [v] G fun v' G' => SaysU G' l v' := by
  obtain ⟨xs, hx, hc⟩ := Sr_Sx (rep := sayU) (sz := 2) (fun n cs h => by rw [show cs = [.int .i64 n.1, .int .i64 n.2] from h]; rfl) h
  obtain rfl := Cs_sayU_eq hc
  refine (c_CloneSay v _ _ G hx (saidC_one _)).mono fun v' G' _ h' => ?_;obtain ⟨A, c, rfl, h2, h3, h4, h5, h6⟩ := h'
  refine Sx_Sr ⟨A, c, J, h2, h3, h4, h5, ?_⟩ J hc
  rcases h6 with h6 | ⟨a, h6, h7⟩
  · exact .inl h6
  · exact .inr ⟨a, h6, gcells_le (newp_le _ _) h7⟩
structure CY where
  b3 : Nat
  Ac : Option Addr
  cc : Nat
  Ar : Option Addr
  cr : Nat
  Ad : Option Addr
  cd : Nat
  G : PH
structure CL where
  i : Nat
  A : Option Addr
  c : Nat
  xs : List Value
  G : PH
theorem c_wcopy (W : Wld) (v : Value) (G : PH) (hW : WG G W v) (hn : W.procs.length ≤ 3) : Pure Tryz.prog 40 [v] G fun v' G' => WG G' W v' := by
  obtain ⟨vp, vc, vr, vs, vd, rfl, hpr, hce, hro, hsg, hsd⟩ := hW
  obtain ⟨Ac, cc, rfl, _⟩ := id hce
  obtain ⟨Ar, cr, rfl, _⟩ := id hro
  obtain ⟨Ad, cd, rfl, _⟩ := id hsd
  obtain ⟨Ap, cp, rfl, _⟩ := id hpr
  obtain ⟨As, cs', rfl, _⟩ := id hsg
  refine Pure.intro Tryz.func40 Tryz.ntmps40 J J fun w => ?_; refine Va J J ?_;refine S_box J J J J J fun b1 => ?_;refine Va J J ?_;refine AZ ZT_ok J J J J fun b2 => ?_;refine Va J J ?_;refine S_cut (α := CY) (fun y => PH.ext w.heap.size G y.G ∧ IntsU y.G [W.c0, W.c1, W.c2] (.slice y.Ac 3 y.cc) ∧ IntsU y.G [W.m0, W.m1] (.slice y.Ar 2 y.cr) ∧ SaysU y.G W.said (.slice y.Ad W.said.length y.cd)) (fun y => [(1, b1), (2, b2), (3, y.b3)]) (fun y => [(1, .ptr 1 0), (2, .ptr 2 0), (3, .ptr 3 0)])
    (fun y => [.blk 1 31 (vL [.slice Ap W.procs.length cp, .slice Ac [W.c0, W.c1, W.c2].length cc, .slice Ar [W.m0, W.m1].length cr, .slice As [W.q0, W.q1].length cs', .slice Ad W.said.length cd]), .blk 2 31 (vL [.slice none 0 0, .slice none 0 0, .slice none 0 0, .slice none 0 0, .slice none 0 0]),
      .blk 3 31 (vL [.slice none 0 0, .slice y.Ac 3 y.cc, .slice y.Ar 2 y.cr, .slice none 0 0, .slice y.Ad W.said.length y.cd])]) (fun y => y.G) ?_ ?_
  · refine Ds J J J ?_
    refine Da J J ?_
    repeat' (first
      | exact trivial
      | (refine D_list J ?_)
      | refine And.intro ?_ ?_
      | (refine N_call 2 Tryz.call76 (c_CloneU _ _ _ hce) J J J J J J J J J J ?_
         rintro v2 G2 hv2 hext2
         obtain ⟨A2, c2, rfl, _⟩ := id hv2
         refine Da J J ?_)
      | (refine N_call 5 Tryz.call76 (c_CloneU _ _ _ (IntsU_le hext2.le hro)) J J J J J J J J J J ?_
         rintro v5 G5 hv5 hext5
         obtain ⟨A5, c5, rfl, _⟩ := id hv5
         refine Da J J ?_)
      | (refine N_call 8 Tryz.call77 (c_CloneSU _ _ _ (Sr_mono (hext2.le.trans hext5.le) (fun _ _ _ h => h) hsd)) J J J J J J J J J J ?_
         rintro v8 G8 hv8 hext8
         obtain ⟨A8, c8, rfl, _⟩ := id hv8
         refine Da J J ?_)
      | (refine N_turn Tk 10 J J J J fun back => ?_
         refine AZ ZT_ok J J J J fun b3 => ?_;refine back _ _ _ _ (by kernel_rfl) ?_
         clear back
         refine Da J J ?_)
      | fail)
    all_goals (refine N_store Tk 11 rfl rfl rfl rfl rfl rfl rfl rfl (by kernel_rfl) ?_)
    all_goals refine D_adv Tk (by decide) rfl rfl ?_
    all_goals (refine DD ?_)
    all_goals refine S_adv Tk rfl 1000 rfl ?_
    all_goals (refine S_pick [1, 2, 3] rfl ?_)
    all_goals exact S_meet ⟨_, _, _, _, _, _, _, _⟩ ⟨(hext2.trans hext5).trans hext8, IntsU_le (hext5.trans hext8).le hv2, IntsU_le hext8.le hv5, hv8⟩ rfl ⟨⟨_, rfl, rfl⟩, ⟨_, rfl, rfl⟩, ⟨_, rfl, rfl⟩, trivial⟩ (.blk rfl rfl (.blk rfl rfl (.blk rfl rfl .nil)))
  rintro ⟨b3, A2, c2, A5, c5, A8, c8, G0⟩ ⟨hext0, hv2, hv5, hv8⟩
  simp only at hext0 hv2 hv5 hv8 ⊢
  refine S_nilO (base := w.heap.size) (e := 38) (size := 5) 20 ?_;refine Va J J ?_;refine S_loop (α := CL) (fun y => y.i ≤ W.procs.length ∧ PH.ext w.heap.size G0 y.G ∧ Cs 5 (prcRep y.G) (W.procs.take y.i) y.xs) (fun y => W.procs.length - y.i) [(1, b1), (2, b2), (3, b3)]
    (fun y => [(21, .val (.int .i64 (y.i : Nat))), (19, .val (.slice Ap W.procs.length cp)), (20, .val (.int .i64 (W.procs.length : Nat))), (1, .ptr 1 0), (2, .ptr 2 0), (3, .ptr 3 0)])
    (fun y => [.hp 20 (rowO w.heap.size 38 5 y.A y.i y.c y.xs), .blk 1 31 (vL [.slice Ap W.procs.length cp, .slice Ac [W.c0, W.c1, W.c2].length cc, .slice Ar [W.m0, W.m1].length cr, .slice As [W.q0, W.q1].length cs', .slice Ad W.said.length cd]), .blk 2 31 (vL [.slice none 0 0, .slice none 0 0, .slice none 0 0, .slice none 0 0, .slice none 0 0]),
      .blk 3 31 (vL [.slice y.A y.i y.c, .slice A2 3 c2, .slice A5 2 c5, .slice none 0 0, .slice A8 W.said.length c8])]) (fun y => y.G) ⟨0, none, 0, [], G0⟩ ⟨Nat.zero_le _, PH.ext.refl _ _, rfl⟩ rfl ?_ ?_ ?_
  · exact ⟨⟨_, J, J⟩, ⟨_, J, J⟩, ⟨_, J, J⟩, ⟨_, J, J⟩, ⟨_, J, J⟩, ⟨_, J, J⟩, trivial⟩
  · exact .hp (.blk J J (.blk J J (.blk J J .nil)))
  rintro ⟨i, A20, c20, xs, G1⟩ ⟨hi, hext, hcs⟩
  simp only at hi hext hcs ⊢
  refine Va J J ?_
  refine S_condp J (fun h => ?_) (fun h => ?_) <;> refine Va J J ?_
  · have hil : i < W.procs.length := by omega
    obtain ⟨ad, ys, rfl, hys, vr, vt, rfl, hvr, hvt⟩ := Sr_at (Sr_mono (hext0.trans hext).le (fun _ _ _ h => prcRep_le (hext0.trans hext).le h) hpr) hil
    obtain ⟨Ar3, cr3, rfl, _⟩ := id hvr
    obtain ⟨At3, ct3, rfl, _⟩ := id hvt
    refine S_index Tk J J J J J J (by omega) (by omega) ?_;refine Va J J ?_;refine S_loadA Tk J J J J J (by simpa using hys) ?_;refine Va J J ?_;refine AZ ZT_ok J J J J fun b5 => ?_;refine Va J J ?_;refine Ds J J J ?_;refine Da J J ?_;refine D_sole 2 J J (N_call 2 Tryz.call76 (c_CloneU _ _ _ hvr) J J J J J J J J J J ?_)
    rintro vb G2 hvb hext2
    obtain ⟨Ab, cb, rfl, _⟩ := id hvb
    refine Da J J ?_;refine D_sole 5 J J (N_call 5 Tryz.call71 (c_copyStmts _ _ _ (Sts_le hext2.le hvt)) J J J J J J J J J J ?_)
    rintro ve G3 hve hext3
    obtain ⟨Ae, ce, rfl, _⟩ := id hve
    refine Da J J ?_;refine Ns 7 J J J J J J J J J ?_;refine Da J J ?_;refine Ns 9 J J J J J J J J J ?_;refine DD ?_;refine Va J J ?_;refine S_slice Tk ZT_ok J J J J (by decide) (by decide) J J J J fun b36 => ?_;refine Va J J ?_
    refine S_app1 Tk 20 36 J J J J J J J J J J J J J J (by intro u hu; simp at hu; rcases hu with rfl | rfl | rfl | rfl | rfl <;> rfl) rfl (fun _ _ => rfl) (by omega) (Nat.le_refl _) fun A6 c6 => ?_
    refine Va J J ?_;refine S_add J J J J (by omega) ?_;refine Va J J ?_
    have hle := hext2.le.trans hext3.le
    refine S_again ⟨i + 1, A6, c6, xs ++ [.slice Ab [W.procs[i].r0, W.procs[i].r1, W.procs[i].r2].length cb, .slice Ae W.procs[i].todo.length ce, .int .i64 W.procs[i].mode, .int .i64 W.procs[i].on, .int .i64 W.procs[i].room], G3⟩ ⟨by simp only; omega, (hext.trans hext2).trans hext3, ?_⟩ (by simp only; omega) rfl ⟨⟨_, rfl, by simp [denO]⟩, ⟨_, rfl, rfl⟩, ⟨_, rfl, rfl⟩, ⟨_, rfl, rfl⟩, ⟨_, rfl, rfl⟩, ⟨_, rfl, rfl⟩, trivial⟩ ?_
    rotate_left
    · first | exact .drop (.hp (.blk J J (.blk J J (.blk J J .nil)))) | exact .drop (.drop (.hp (.blk J J (.blk J J (.blk J J .nil))))) | exact .hp (.blk J J (.blk J J (.blk J J .nil))) | fail
    simp only
    rw [List.take_succ_eq_append_getElem hil]
    exact Cs_append (Cs_mono (fun s _ cs h => prcRep_le hle h) hcs) ⟨_, _, J, IntsU_le hext3.le hvb, hve⟩ J
  have hin : i = W.procs.length := by omega
  subst hin
  rw [List.take_length] at hcs
  refine S_freezeR 20 J J (Nat.le_refl _) fun Gp hextp hncp hcmp hclp => ?_
  have hvp : Sr Gp 5 (prcRep Gp) W.procs _ := frz (Cs_mono (fun s _ cs h => prcRep_le hextp.le h) hcs) rfl (by omega) hncp hcmp hclp
  refine S_nilO (base := w.heap.size) (e := 24) (size := 1) 40 ?_;refine Va J J ?_;refine S_loop (α := CL) (fun y => y.i ≤ [W.q0, W.q1].length ∧ PH.ext w.heap.size Gp y.G ∧ Cs 1 (intsRep y.G) ([W.q0, W.q1].take y.i) y.xs) (fun y => [W.q0, W.q1].length - y.i) [(1, b1), (2, b2), (3, b3)]
    (fun y => [(43, .val (.int .i64 (y.i : Nat))), (41, .val (.slice As [W.q0, W.q1].length cs')), (42, .val (.int .i64 ([W.q0, W.q1].length : Nat))), (1, .ptr 1 0), (2, .ptr 2 0), (3, .ptr 3 0)])
    (fun y => [.hp 40 (rowO w.heap.size 24 1 y.A y.i y.c y.xs), .blk 2 31 (vL [.slice none 0 0, .slice none 0 0, .slice none 0 0, .slice none 0 0, .slice none 0 0]),
      .blk 3 31 (vL [.slice A20 W.procs.length c20, .slice A2 3 c2, .slice A5 2 c5, .slice y.A y.i y.c, .slice A8 W.said.length c8])]) (fun y => y.G) ⟨0, none, 0, [], Gp⟩ ⟨Nat.zero_le _, PH.ext.refl _ _, rfl⟩ rfl ?_ ?_ ?_
  · exact ⟨⟨_, J, J⟩, ⟨_, J, J⟩, ⟨_, J, J⟩, ⟨_, J, J⟩, ⟨_, J, J⟩, ⟨_, J, J⟩, trivial⟩
  · exact .hp (.drop (.blk J J (.blk J J .nil)))
  rintro ⟨i, A40, c40, xs4, G4⟩ ⟨hi, hext4, hcs4⟩
  simp only at hi hext4 hcs4 ⊢
  refine Va J J ?_
  refine S_condp J (fun h7 => ?_) (fun h7 => ?_) <;> refine Va J J ?_
  · have hil : i < [W.q0, W.q1].length := by omega
    have hle4 := ((hext0.trans hext).trans (hextp.trans hext4)).le
    obtain ⟨ad, ys, rfl, hys, vq, rfl, hvq⟩ := Sr_at (Sr_mono hle4 (fun _ _ _ h => intsRep_le hle4 h) hsg) hil
    obtain ⟨Aq, cq, rfl, _⟩ := id hvq
    refine S_index Tk J J J J J J (by omega) (by omega) ?_;refine Va J J ?_;refine S_load Tk J J J J J (by simpa using hys.1) ?_;refine Va J J ?_;refine Ds J J J ?_;refine Da J J ?_;refine D_sole 3 J J (N_call 3 Tryz.call76 (c_CloneU _ _ _ hvq) J J J J J J J J J J ?_)
    rintro vb G6 hvb hext6
    obtain ⟨Ab, cb, rfl, _⟩ := id hvb
    refine Da J J ?_;refine Nt 4 J J J J J J fun back => ?_;refine S_slice Tk ZT_ok J J J J (by decide) (by decide) J J J J fun b51 => ?_;refine back _ _ _ _ (by kernel_rfl) ?_; clear back
    refine Da J J ?_;refine Nt 5 J J J J J J fun back => ?_;refine S_app1 Tk 40 51 J J J J J J J J J J J J J J (by intro u hu; simp at hu; rcases hu with rfl; rfl) rfl (fun _ _ => rfl) (by omega) (Nat.le_refl _) fun A6 c6 => ?_;refine back _ _ _ _ (by kernel_rfl) ?_; clear back
    refine Da J J ?_;refine Ns 7 J J J J J J J J J ?_;refine DD ?_;refine Va J J ?_;refine S_add J J J J (by simp at hil; omega) ?_;refine Va J J ?_;refine S_again ⟨i + 1, A6, c6, xs4 ++ [.slice Ab ([W.q0, W.q1][i]).length cb], G6⟩ ⟨by simp only; omega, hext4.trans hext6, ?_⟩ (by simp only; omega) rfl ⟨⟨_, rfl, by simp [denO]⟩, ⟨_, rfl, rfl⟩, ⟨_, rfl, rfl⟩, ⟨_, rfl, rfl⟩, ⟨_, rfl, rfl⟩, ⟨_, rfl, rfl⟩, trivial⟩ ?_
    rotate_left
    · first | exact .drop (.hp (.blk J J (.blk J J .nil))) | exact .hp (.blk J J (.blk J J .nil)) | exact .drop (.drop (.hp (.blk J J (.blk J J .nil)))) | fail
    simp only
    rw [List.take_succ_eq_append_getElem hil]
    exact Cs_append (Cs_mono (fun s _ cs h => intsRep_le hext6.le h) hcs4) ⟨_, J, hvb⟩ J
  · have hin : i = [W.q0, W.q1].length := by omega
    subst hin
    rw [List.take_length] at hcs4
    refine S_freezeR 40 J J (Nat.le_refl _) fun Gf hextf hncf hcmf hclf => ?_
    have hvf : Sr Gf 1 (intsRep Gf) [W.q0, W.q1] _ := frz (Cs_mono (fun s _ cs h => intsRep_le hextf.le h) hcs4) rfl (by simp) hncf hcmf hclf
    have hle := hext4.le.trans hextf.le
    have hle2 := hext.le.trans (hextp.le.trans hle)
    exact S_retp (Res.c1 Tk Tryz.results40 rfl rfl) (((hext0.trans hext).trans (hextp.trans hext4)).trans hextf) ⟨_, _, _, _, _, rfl, Sr_mono hle (fun _ _ _ h => prcRep_le hle h) hvp, IntsU_le hle2 hv2, IntsU_le hle2 hv5, hvf, Sr_mono hle2 (fun _ _ _ h => h) hv8⟩
end
section
def YieldM (P : Program) (l : Nat) (vs : List Value) (G : PH) (A At Af : HP) : Prop :=
 ∀ W S, Emb G W → A.holds W S → (∀ b, S b → G b = none) → YieldAt (FW none) 0 P l vs.toArray W (YieldR W S At Af)
theorem YieldM.le {P : Program} {l : Nat} {vs : List Value} {G G' : PH} {A At Af : HP} (h : YieldM P l vs G A At Af) (hG : G.le G') : YieldM P l vs G' A At Af := fun W S hE hA hS =>
 h W S (fun b o hb => hE b o (hG b o hb)) hA fun b hb => by
  cases hq : G b with
  | none => rfl
  | some o => have := hG b o hq; rw [hS b hb] at this; cases this
section
variable {C : Ctx} {k : List It} {E : Env} {ι : Ids} {L : List Ent} {G : PH} {all : Array Oper} {l : List Oper}
theorem S_yield (κ y : Nat) {A At Af : HP} {L' : HP → List Ent} {d : Nat} {x : Operand} {xs : Array Operand} {ats : Array TypeId} {ty : Nat} {pos : String} {af : Array Edge} {g : Option (Nat × Bool)} {vs : List Value} (hr : C.r = none) (hx : ev E x = some (.val (.func (.yield y) #[] #[])))
  (hy : YieldM C.P y vs G A At Af) (hg : guardOf all E g = .on) (hN : Nat.ble (d + 1) C.n = true) (hxs : evs ι E xs.toList = some vs) (hL : getH κ L = some A) (hL' : ∀ A', setH κ A' L = some (L' A'))
  (ht : X C (.ops all l :: k) ((d, .val (.bool true)) :: E) ι (L' At) G) (hf : X C (.ops all l :: k) ((d, .val (.bool false)) :: E) ι (L' Af) G) : X C (.ops all (⟨some d, .call ⟨.value x, xs, ats⟩, ty, pos, af, g⟩ :: l) :: k) E ι L G := by
 intro a w h1 h2 h3 h4
 have hdn : d < a.tmps.size := by rw [h2]; exact Nat.le_of_ble_eq_true hN
 obtain ⟨S, hA, hSG, hturn⟩ := h4.turn hL
 obtain ⟨fn, tmps, assign, body, hrun, hround⟩ := hy w S h4.emb hA hSG
 have hfv := ev_sound h3 hx
 simp only [denO, Option.some.injEq] at hfv
 have hvs := evs_sound h3 hxs
 show wpListIn _ _ _ _ _ _ _ _
 unfold wpListIn
 rw [if_pos (guardOf_on h3 hg)]
 refine ⟨fun _ _ => trivial, ?_⟩
 rw [Oper.semAt_eq _ _ _ (by intro c h; cases h)]
 have hrun2 : (execOp a.eval ⟨some d, .call ⟨.value x, xs, ats⟩, ty, pos, af, g⟩).run C.P w = .ok (.round y fn tmps assign body) w := by
  have e1 : xs.map a.eval = vs.toArray := by
   rw [← hvs]; cases xs; simp
  simp only [execOp, resolve, ← hfv]
  simp [Deferred.ofValue, invoke, e1, callFunc, hrun]
  done
 rw [hrun2]
 simp only [Oper.uponIn]
 refine ⟨fun h => by simp [FW, Fence.wide] at h, ?_⟩
 refine RoundIn.mono (F := FW C.r) (by rw [hr]; exact hround) ?_
 have fin : ∀ (v : Value) (A' : HP) (w' : World) (S' : Nat → Prop), (∀ b, S' b → S b ∨ w.heap.size ≤ b) → Frm S w w' → A'.holds w' S' → SatW C ι (L' A') G w' := by
  intro v A' w' S' hS' hF hA'
  refine hturn A' _ G w' S' (hL' A') hA' (fun b o hb => ?_) XR (fun b hb => ⟨?_, hS' b hb⟩) hF.os hF.tape hF.output hF.size hF.keep
  ·have hlt : b < w.heap.size := (Array.getElem?_eq_some_iff.1 (h4.emb b o hb)).1
   rw [hF.keep b hlt (fun hs => by rw [hSG b hs] at hb; cases hb)]
   exact h4.emb b o hb
  ·cases hq : G b with
   | none => rfl
   | some o =>
    rcases hS' b hb with h | h
    ·rw [hSG b h] at hq; cases hq
    ·have hlt : b < w.heap.size := (Array.getElem?_eq_some_iff.1 (h4.emb b o hq)).1
     omega
 rintro e w' ⟨S', hS', hF, ⟨rfl, hA'⟩ | ⟨rfl, hA'⟩⟩
 ·exact ht (a.put (some d) (.bool true)) w' h1 (by simp [Act.put, h2]) (h3.put hdn J) (fin (.bool true) _ _ _ hS' hF hA')
 ·exact hf (a.put (some d) (.bool false)) w' h1 (by simp [Act.put, h2]) (h3.put hdn J) (fin (.bool false) _ _ _ hS' hF hA')
theorem S_newB {d t : Nat} {op : Op} {ty : Nat} {pos : String} {af : Array Edge} {g : Option (Nat × Bool)} (hg : guardOf all E g = .on) (hnd : ∀ c, op ≠ .defer c) (hN : Nat.ble (d + 1) C.n = true) (hd : lookI d ι = none) {cs : List Cel}
  (hr : ∀ a w, AgE ι E a → SatW C ι L G w → ∃ vs, denL ι cs = some vs ∧ (execOp a.eval ⟨some d, op, ty, pos, af, g⟩).run C.P w = .ok (.value (.pointer (some ⟨w.heap.size, 0, none⟩))) (w.alloc (.cells vs.toArray t)))
  (hx : ∀ b, C.w0.heap.size ≤ b → X C (.ops all l :: k) ((d, .ptr d 0) :: E) ((d, b) :: ι) (.blk d t cs :: L) G) : X C (.ops all (⟨some d, op, ty, pos, af, g⟩ :: l) :: k) E ι L G := by
 intro a w h1 h2 h3 h4
 obtain ⟨vs, hvs, hrun⟩ := hr a w h3 h4
 refine wpE_val (guardOf_on h3 hg) hnd hrun ?_
 have hdn : d < a.tmps.size := by rw [h2]; exact Nat.le_of_ble_eq_true hN
 exact hx w.heap.size h4.size _ _ h1 (by simp [Act.put, h2]) ((h3.ids hd).put hdn (by simp [denO, lookI])) (h4.alloc hd cs hvs)
theorem S_boxB {d t : Nat} {x : Operand} {ty : Nat} {pos : String} {af : Array Edge} {g : Option (Nat × Bool)} {s : Sym} {cs : List Cel} (hg : guardOf all E g = .on) (hN : Nat.ble (d + 1) C.n = true) (hd : lookI d ι = none)
  (hx : ev E x = some s) (hc : cellsS s = some cs) (hk : ∀ b, C.w0.heap.size ≤ b → X C (.ops all l :: k) ((d, .ptr d 0) :: E) ((d, b) :: ι) (.blk d t cs :: L) G) : X C (.ops all (⟨some d, .box t x, ty, pos, af, g⟩ :: l) :: k) E ι L G := by
 refine S_newB (t := t) (cs := cs) hg (by intro c h; cases h) hN hd ?_ hk
 intro a w hE hw
 have ex := ev_sound hE hx
 exact ⟨_, cellsS_eq hc ex, by simp [execOp, Instr.box, newVar, newRow]⟩
theorem S_allocB {Z : ZTab} (hZ : zOk C.P Z) {d t : Nat} {z : ZI} {ty : Nat} {pos : String} {af : Array Edge} {g : Option (Nat × Bool)} (hz : lookZ t Z = some z) (hg : guardOf all E g = .on) (hN : Nat.ble (d + 1) C.n = true) (hd : lookI d ι = none)
  (hk : ∀ b, C.w0.heap.size ≤ b → X C (.ops all l :: k) ((d, .ptr d 0) :: E) ((d, b) :: ι) (.blk d t (vL z.zs) :: L) G) : X C (.ops all (⟨some d, .alloc t, ty, pos, af, g⟩ :: l) :: k) E ι L G := by
 obtain ⟨inf, v, hi, hv, hb, hc, _⟩ := viewZ_eq (hZ _ _ hz)
 refine S_newB (t := t) (cs := vL z.zs) hg (by intro c h; cases h) hN hd ?_ hk
 intro a w hE hw
 exact ⟨z.zs, denL_vL ι z.zs, by simp [execOp, Instr.alloc, newVar, newRow, zeroValue, typeInfo, hi, hv, hc]⟩
end
theorem IterR_of {α : Type} {P : Program} {gf : Nat} {cap : Array Value} {G : PH} {enc : α → List Value → Prop} {xs : List α}
  (h : ∀ (l : Nat) (A Ax : List α → HP), (∀ pre x vs, (pre ++ [x]) <+: xs → enc x vs → YieldM P l vs G (A pre) (A (pre ++ [x])) (Ax (pre ++ [x]))) →
   Mod P gf (.func (.yield l) #[] #[] :: cap.toList) G (A []) fun v G' A' => A' = A xs ∨ ∃ pre, A' = Ax pre) : IterR P gf cap G enc xs := by
 intro l A Ax W0 S0 hE hA hS hY
 have := h l A Ax (fun pre x vs hpre henc W S hE hA hS => hY pre x vs W S hpre henc hE hA hS) W0 S0 hE hA hS
 rw [show (.func (.yield l) #[] #[] :: cap.toList).toArray = #[.func (.yield l) #[] #[]] ++ cap by cases cap; simp] at this
 refine this.mono ?_;rintro e w' ⟨v, G', A', S', rfl, hp, hA', hext, hemb, hS', e1, e2, e3, e4, hkeep⟩
 refine ⟨v, S', rfl, fun b hb => (hS' b hb).2, ⟨e1, e2, e3, e4, hkeep⟩, ?_⟩
 rcases hp with rfl | ⟨pre, rfl⟩
 ·exact .inl hA'
 ·exact .inr ⟨pre, hA'⟩
end
section
def KC (P : Program) (n : Nat) (fn : Func) (G : PH) (Post : Value → Prop) (w : World) : Ctx := ⟨P, none, n, bodyPostM (FW none) 0 P fn (PureR G w fun v G' => Post v ∧ G' = G), w, fun _ => False, true⟩
theorem Pure.introM {P : Program} {f : FuncId} {fn : Func} {c : Code} {vs : List Value} {G : PH} {Post : Value → Prop} {n : Nat} (hf : P.funcs[f]? = some fn) (hn : fn.ntmps = n) (hb : fn.body = some c) (hle : Nat.ble vs.length n = true)
  (hx : ∀ w, Emb G w → X (KC P n fn G Post w) [.code c] (envOf 0 vs) [] [] G) : Pure P f vs G fun v G' => Post v ∧ G' = G := by
 intro w hw
 have hle' : vs.length ≤ n := Nat.le_of_ble_eq_true hle
 refine (callsIn_FW (r := none) (n := 0)).1 (callsIn_of_wp_marks hf hb trivial ?_ J)
 refine hx w hw { tmps := vs.toArray ++ Array.replicate (fn.ntmps - vs.toArray.size) undef, defers := [] } w DfsOk.nil (by simp [hn, KC]; omega) ?_ ?_
 ·intro i s hi
  obtain ⟨_, v, hv, rfl⟩ := look_envOf hi
  refine ⟨v, J, ?_⟩
  simp only [Nat.sub_zero] at hv
  rw [Array.getElem?_append_left (by
   have := (List.getElem?_eq_some_iff.1 hv).1
   simpa using this)]
  simpa using hv
 ·exact ⟨rfl, rfl, rfl, Nat.le_refl _, fun _ _ _ => rfl, hw, [], trivial, fun T hT => by cases hT⟩
theorem leaveM {P : Program} {fn : Func} {tmps : Array Value} {R : Ending → World → Prop} {w0 : World} {v : Value} (hres : ∀ w, (results fn tmps).run P w = .ok v w) (hR : ∀ w, Below w0.heap.size w0 w → R (.returned v) w) :
  ∀ (Ds : List Nat) (w : World), Ds.Nodup → (∀ D ∈ Ds, w0.heap.size ≤ D ∧ w.heap[D]? = some (.deferred (some []))) → Below w0.heap.size w0 w → LeavesInM (FW none) 0 P fn tmps R (Ds.map fun D => { target := .collected D, args := #[] }) .returning w := by
 intro Ds
 induction Ds with
 | nil => intro w _ _ hb; exact ⟨v, hres w, hR w hb⟩
 | cons D Ds ih =>
  intro w hn hD hb
  obtain ⟨h1, h2⟩ := hD D (List.mem_cons_self ..)
  refine ⟨by simp, .inl ⟨_, _, J, run_takeDeferred h2, ih _ (List.nodup_cons.1 hn).2 ?_ ?_⟩⟩
  ·intro D' hD'
   obtain ⟨h3, h4⟩ := hD D' (List.mem_cons_of_mem _ hD')
   refine ⟨h3, ?_⟩
   rw [World.putObj_heap_other (by rintro rfl; exact (List.nodup_cons.1 hn).1 hD')]
   exact h4
  ·refine ⟨hb.os, hb.tape, hb.output, ?_, fun b hb' => ?_⟩
   ·have := hb.size; simp; omega
   ·rw [World.putObj_heap_other (by omega)]
    exact hb.block b hb'
section
variable {P : Program} {fn : Func} {n : Nat} {G0 G : PH} {Post : Value → Prop} {w0 : World} {k : List It} {E : Env} {ι : Ids} {L : List Ent}
theorem S_retK {t : Nat} {s : Sym} {v : Value} (hw0 : Emb G0 w0) (hr : fn.results = #[.tmp t]) (hl : look t E = some s) (hv : denO ι s = some v) (hp : Post v) : X (KC P n fn G0 Post w0) (.code .ret :: k) E ι L G := by
 intro a w h1 h2 h3 h4
 refine wpE_ret (wpE_out k ?_)
 obtain ⟨Ds, d1, d2, d3⟩ := h1
 show LeavesInM _ _ _ _ _ _ a.defers .returning w
 rw [d2]
 refine leaveM (w0 := w0) (v := v) (fun w' => ?_) (fun w' hb => ?_) Ds w d1 (fun D hD => ⟨(d3 D hD).1, h4.emb _ _ (d3 D hD).2⟩) (h4.below fun _ h => h)
 ·obtain ⟨u, hu, ht⟩ := h3 t s hl
  rw [hv] at hu; cases hu
  rw [results_tmp hr]
  simp [Array.getD_eq_getD_getElem?, ht]
 ·refine ⟨v, G0, rfl, ⟨hp, rfl⟩, PH.ext.refl _ _, fun b o hbo => ?_, hb⟩
  have hlt : b < w0.heap.size := (Array.getElem?_eq_some_iff.1 (hw0 b o hbo)).1
  rw [hb.block b hlt]
  exact hw0 b o hbo
end
def deadHP : HP where
 holds _ _ := False
 loc _ _ _ h _ := h
 lt _ _ h := h.elim
theorem S_dead {C : Ctx} {k : List It} {E : Env} {ι : Ids} {L : List Ent} {G : PH} (κ : Nat) (hL : getH κ L = some deadHP) : X C k E ι L G := by
 intro a w h1 h2 h3 h4
 obtain ⟨S, hA, _⟩ := h4.turn hL
 exact hA.elim
end
section
attribute [local irreducible] X Pure Mod
theorem any_at {α : Type} {L : List α} {p : α → Bool} {k : Nat} (hk : k < L.length) (h : p L[k] = true) : L.any p = true := List.any_eq_true.2 ⟨_, List.getElem_mem hk, h⟩
theorem any_not {α : Type} {L : List α} {p : α → Bool} (h : ∀ j (hj : j < L.length), p L[j] = false) : L.any p = false := by
 rw [List.any_eq_false]
 intro s hs
 obtain ⟨j, hj, rfl⟩ := List.getElem_of_mem hs
 simp [h j hj]
theorem c_IndexStm (L : List Stm) (p : Stm → Bool) (fid : Nat) (cap : Array Value) (v : Value) (G : PH) (hv : Sts G L v) (hcf : ∀ args w, (callFunc fid args).run Tryz.prog w = .ok (.enter fid args) w)
  (hp : ∀ k (hk : k < L.length) cs, Stm.rep G L[k] cs → Pure Tryz.prog fid (.agg cs.toArray :: cap.toList) G fun v G' => v = .bool (p L[k]) ∧ G' = G) :
  Pure Tryz.prog 128 [v, .func (.func fid) #[] cap] G fun v G' => (∃ r : Int, v = .int .i64 r ∧ (0 ≤ r ↔ L.any p = true)) ∧ G' = G := by
 obtain ⟨A, c, rfl, hn, hc1, hc2, hr⟩ := id hv
 refine Pure.intro Tryz.func128 Tryz.ntmps128 J J fun w => ?_; refine Va J J ?_;refine S_loop (α := Nat) (fun k => k ≤ L.length ∧ ∀ j (hj : j < L.length), j < k → p L[j] = false) (fun k => L.length - k) []
  (fun k => [(8, .val (.int .i64 k)), (7, .val (.int .i64 L.length)), (0, .val (.slice A L.length c)), (1, .val (.func (.func fid) #[] cap))]) (fun _ => []) (fun _ => G) 0 ⟨Nat.zero_le _, fun j _ h => by omega⟩ rfl
  ⟨⟨_, rfl, rfl⟩, ⟨_, rfl, rfl⟩, ⟨_, rfl, rfl⟩, ⟨_, rfl, rfl⟩, trivial⟩ .nil ?_
 rintro k ⟨hk, hall⟩
 refine Va J J ?_
 refine S_condp J (fun h => ?_) (fun h => ?_) <;> refine Va J J ?_
 ·have hkl : k < L.length := by omega
  obtain ⟨ad, cs, rfl, hcs, hrep⟩ := Sr_at hv hkl
  have hlen := Stm.rep_len hrep
  refine S_index Tk J J J J J J (by omega) (by omega) ?_;refine Va J J ?_;refine S_loadA Tk J J J J hlen (by simpa using hcs) ?_;refine Va J J ?_;refine S_callV (vs := [.agg cs.toArray]) J hcf (hp k hkl cs hrep) J J J ?_;rintro v1 G1 ⟨rfl, rfl⟩ _
  refine Va J J ?_
  refine S_cond J (fun h => ?_) (fun h => ?_) <;> refine Va J J ?_
  ·refine S_retP Tryz.results128 J J XR ⟨⟨_, J, ?_⟩, J⟩
   rw [any_at hkl h]; simp
  ·refine S_add J J J J (by omega) ?_
   refine Va J J ?_;refine S_again (k + 1) ⟨by omega, fun j hj hjk => ?_⟩ (by omega) J ⟨⟨_, J, J⟩, ⟨_, J, J⟩, ⟨_, J, J⟩, ⟨_, J, J⟩, trivial⟩ .nil
   rcases Nat.lt_or_ge j k with h' | h'
   ·exact hall j hj h'
   ·obtain rfl : j = k := by omega
    exact h
 ·refine S_retP Tryz.results128 J J XR ⟨⟨_, J, ?_⟩, J⟩
  rw [any_not fun j hj => hall j hj (by omega)]; simp
theorem c_ContainsStm (L : List Stm) (p : Stm → Bool) (fid : Nat) (cap : Array Value) (v : Value) (G : PH) (hv : Sts G L v) (hcf : ∀ args w, (callFunc fid args).run Tryz.prog w = .ok (.enter fid args) w)
  (hp : ∀ k (hk : k < L.length) cs, Stm.rep G L[k] cs → Pure Tryz.prog fid (.agg cs.toArray :: cap.toList) G fun v G' => v = .bool (p L[k]) ∧ G' = G) :
  Pure Tryz.prog 120 [v, .func (.func fid) #[] cap] G fun v G' => v = .bool (L.any p) ∧ G' = G := by
 obtain ⟨A, c, rfl, hn, hc1, hc2, hr⟩ := id hv
 refine Pure.intro Tryz.func120 Tryz.ntmps120 J J fun w => ?_; refine Va J J ?_;refine S_call Tryz.call128 (c_IndexStm L p fid cap _ _ hv hcf hp) J J J ?_;rintro v1 G1 ⟨⟨r, rfl, hrr⟩, rfl⟩ _
 refine Va J J ?_;refine S_retP Tryz.results120 J J XR ⟨?_, J⟩
 congr 1
 exact (Bool.eq_iff_iff.2 (by rw [← hrr]; simp))
theorem c_IndexSts (L : List (List Stm)) (p : (List Stm) → Bool) (fid : Nat) (cap : Array Value) (v : Value) (G : PH) (hv : Prg G L v) (hcf : ∀ args w, (callFunc fid args).run Tryz.prog w = .ok (.enter fid args) w)
  (hp : ∀ k (hk : k < L.length) u, Sts G L[k] u → Pure Tryz.prog fid (u :: cap.toList) G fun v G' => v = .bool (p L[k]) ∧ G' = G) :
  Pure Tryz.prog 112 [v, .func (.func fid) #[] cap] G fun v G' => (∃ r : Int, v = .int .i64 r ∧ (0 ≤ r ↔ L.any p = true)) ∧ G' = G := by
 obtain ⟨A, c, rfl, hn, hc1, hc2, hr⟩ := id hv
 refine Pure.intro Tryz.func112 Tryz.ntmps112 J J fun w => ?_; refine Va J J ?_;refine S_loop (α := Nat) (fun k => k ≤ L.length ∧ ∀ j (hj : j < L.length), j < k → p L[j] = false) (fun k => L.length - k) []
  (fun k => [(8, .val (.int .i64 k)), (7, .val (.int .i64 L.length)), (0, .val (.slice A L.length c)), (1, .val (.func (.func fid) #[] cap))]) (fun _ => []) (fun _ => G) 0 ⟨Nat.zero_le _, fun j _ h => by omega⟩ rfl
  ⟨⟨_, rfl, rfl⟩, ⟨_, rfl, rfl⟩, ⟨_, rfl, rfl⟩, ⟨_, rfl, rfl⟩, trivial⟩ .nil ?_
 rintro k ⟨hk, hall⟩
 refine Va J J ?_
 refine S_condp J (fun h => ?_) (fun h => ?_) <;> refine Va J J ?_
 ·have hkl : k < L.length := by omega
  obtain ⟨ad, cs, rfl, hcs, u, rfl, hu⟩ := Sr_at hv hkl
  obtain ⟨A1, c1, rfl, _⟩ := id hu
  refine S_index Tk J J J J J J (by omega) (by omega) ?_;refine Va J J ?_;refine S_load Tk J J J J J (by simpa using hcs.1) ?_;refine Va J J ?_;refine S_callV (vs := [.slice A1 L[k].length c1]) J hcf (hp k hkl _ hu) J J J ?_;rintro v1 G1 ⟨rfl, rfl⟩ _
  refine Va J J ?_
  refine S_cond J (fun h => ?_) (fun h => ?_) <;> refine Va J J ?_
  ·refine S_retP Tryz.results112 J J XR ⟨⟨_, J, ?_⟩, J⟩
   rw [any_at hkl h]; simp
  ·refine S_add J J J J (by omega) ?_
   refine Va J J ?_;refine S_again (k + 1) ⟨by omega, fun j hj hjk => ?_⟩ (by omega) J ⟨⟨_, J, J⟩, ⟨_, J, J⟩, ⟨_, J, J⟩, ⟨_, J, J⟩, trivial⟩ .nil
   rcases Nat.lt_or_ge j k with h' | h'
   ·exact hall j hj h'
   ·obtain rfl : j = k := by omega
    exact h
 ·refine S_retP Tryz.results112 J J XR ⟨⟨_, J, ?_⟩, J⟩
  rw [any_not fun j hj => hall j hj (by omega)]; simp
theorem c_ContainsSts (L : List (List Stm)) (p : (List Stm) → Bool) (fid : Nat) (cap : Array Value) (v : Value) (G : PH) (hv : Prg G L v) (hcf : ∀ args w, (callFunc fid args).run Tryz.prog w = .ok (.enter fid args) w)
  (hp : ∀ k (hk : k < L.length) u, Sts G L[k] u → Pure Tryz.prog fid (u :: cap.toList) G fun v G' => v = .bool (p L[k]) ∧ G' = G) :
  Pure Tryz.prog 92 [v, .func (.func fid) #[] cap] G fun v G' => v = .bool (L.any p) ∧ G' = G := by
 obtain ⟨A, c, rfl, hn, hc1, hc2, hr⟩ := id hv
 refine Pure.intro Tryz.func92 Tryz.ntmps92 J J fun w => ?_; refine Va J J ?_;refine S_call Tryz.call112 (c_IndexSts L p fid cap _ _ hv hcf hp) J J J ?_;rintro v1 G1 ⟨⟨r, rfl, hrr⟩, rfl⟩ _
 refine Va J J ?_;refine S_retP Tryz.results92 J J XR ⟨?_, J⟩
 congr 1
 exact (Bool.eq_iff_iff.2 (by rw [← hrr]; simp))
theorem c_IndexInt (L : List Int) (p : Int → Bool) (fid : Nat) (cap : Array Value) (v : Value) (G : PH) (hv : Ints G L v) (hcf : ∀ args w, (callFunc fid args).run Tryz.prog w = .ok (.enter fid args) w)
  (hp : ∀ k (hk : k < L.length), I64 L[k] → Pure Tryz.prog fid (.int .i64 L[k] :: cap.toList) G fun v G' => v = .bool (p L[k]) ∧ G' = G) :
  Pure Tryz.prog 70 [v, .func (.func fid) #[] cap] G fun v G' => (∃ r : Int, v = .int .i64 r ∧ (0 ≤ r ↔ L.any p = true)) ∧ G' = G := by
 obtain ⟨A, c, rfl, hn, hc1, hc2, hr⟩ := id hv
 refine Pure.intro Tryz.func70 Tryz.ntmps70 J J fun w => ?_; refine Va J J ?_;refine S_loop (α := Nat) (fun k => k ≤ L.length ∧ ∀ j (hj : j < L.length), j < k → p L[j] = false) (fun k => L.length - k) []
  (fun k => [(8, .val (.int .i64 k)), (7, .val (.int .i64 L.length)), (0, .val (.slice A L.length c)), (1, .val (.func (.func fid) #[] cap))]) (fun _ => []) (fun _ => G) 0 ⟨Nat.zero_le _, fun j _ h => by omega⟩ rfl
  ⟨⟨_, rfl, rfl⟩, ⟨_, rfl, rfl⟩, ⟨_, rfl, rfl⟩, ⟨_, rfl, rfl⟩, trivial⟩ .nil ?_
 rintro k ⟨hk, hall⟩
 refine Va J J ?_
 refine S_condp J (fun h => ?_) (fun h => ?_) <;> refine Va J J ?_
 ·have hkl : k < L.length := by omega
  obtain ⟨ad, cs, rfl, hcs, rfl, hu⟩ := Sr_at hv hkl
  refine S_index Tk J J J J J J (by omega) (by omega) ?_;refine Va J J ?_;refine S_load Tk J J J J J (by simpa using hcs.1) ?_;refine Va J J ?_;refine S_callV (vs := [.int .i64 L[k]]) J hcf (hp k hkl hu) J J J ?_;rintro v1 G1 ⟨rfl, rfl⟩ _
  refine Va J J ?_
  refine S_cond J (fun h => ?_) (fun h => ?_) <;> refine Va J J ?_
  ·refine S_retP Tryz.results70 J J XR ⟨⟨_, J, ?_⟩, J⟩
   rw [any_at hkl h]; simp
  ·refine S_add J J J J (by omega) ?_
   refine Va J J ?_;refine S_again (k + 1) ⟨by omega, fun j hj hjk => ?_⟩ (by omega) J ⟨⟨_, J, J⟩, ⟨_, J, J⟩, ⟨_, J, J⟩, ⟨_, J, J⟩, trivial⟩ .nil
   rcases Nat.lt_or_ge j k with h' | h'
   ·exact hall j hj h'
   ·obtain rfl : j = k := by omega
    exact h
 ·refine S_retP Tryz.results70 J J XR ⟨⟨_, J, ?_⟩, J⟩
  rw [any_not fun j hj => hall j hj (by omega)]; simp
theorem c_ContainsInt (L : List Int) (p : Int → Bool) (fid : Nat) (cap : Array Value) (v : Value) (G : PH) (hv : Ints G L v) (hcf : ∀ args w, (callFunc fid args).run Tryz.prog w = .ok (.enter fid args) w)
  (hp : ∀ k (hk : k < L.length), I64 L[k] → Pure Tryz.prog fid (.int .i64 L[k] :: cap.toList) G fun v G' => v = .bool (p L[k]) ∧ G' = G) :
  Pure Tryz.prog 35 [v, .func (.func fid) #[] cap] G fun v G' => v = .bool (L.any p) ∧ G' = G := by
 obtain ⟨A, c, rfl, hn, hc1, hc2, hr⟩ := id hv
 refine Pure.intro Tryz.func35 Tryz.ntmps35 J J fun w => ?_; refine Va J J ?_;refine S_call Tryz.call70 (c_IndexInt L p fid cap _ _ hv hcf hp) J J J ?_;rintro v1 G1 ⟨⟨r, rfl, hrr⟩, rfl⟩ _
 refine Va J J ?_;refine S_retP Tryz.results35 J J XR ⟨?_, J⟩
 congr 1
 exact (Bool.eq_iff_iff.2 (by rw [← hrr]; simp))
end
section
attribute [local irreducible] X Pure Mod
def fm (k : Int) : Option (Int × Int × Bool × Bool) :=
 if k = 1 then some (3, 0, false, false) else if k = 2 then some (3, 3, false, false) else if k = 3 then some (3, 3, false, false) else if k = 4 then some (3, 3, false, false) else if k = 5 then some (3, 0, false, false)
 else if k = 6 then some (3, 0, true, true) else if k = 7 then some (3, 0, true, false) else if k = 8 then some (2, 0, true, false) else if k = 9 then some (2, 0, false, false) else if k = 10 then some (2, 0, false, false) else if k = 11 then some (0, 0, false, false) else none
theorem fm_of {f : Int → Option Value} (h : formsP f) (k : Int) : (∃ s a b body els, f k = some (formV s a b body els) ∧ fm k = some (a, b, body, els)) ∨ (f k = none ∧ fm k = none) := by
 obtain ⟨⟨s1, h1⟩, ⟨s2, h2⟩, ⟨s3, h3⟩, ⟨s4, h4⟩, ⟨s5, h5⟩, ⟨s6, h6⟩, ⟨s7, h7⟩, ⟨s8, h8⟩, ⟨s9, h9⟩, ⟨s10, h10⟩, ⟨s11, h11⟩, hn⟩ := h
 by_cases hk : 1 ≤ k ∧ k ≤ 11
 ·left
  have hc : k = 1 ∨ k = 2 ∨ k = 3 ∨ k = 4 ∨ k = 5 ∨ k = 6 ∨ k = 7 ∨ k = 8 ∨ k = 9 ∨ k = 10 ∨ k = 11 := by omega
  rcases hc with rfl | rfl | rfl | rfl | rfl | rfl | rfl | rfl | rfl | rfl | rfl <;> exact ⟨_, _, _, _, _, by assumption, J⟩
 ·right
  refine ⟨hn k hk, ?_⟩
  unfold fm
  repeat rw [if_neg (by omega)]
def iOk (k a b n : Int) (x y : List Stm) (deep room : Int) : Bool :=
 match fm k with
 | none => false
 | some (fa, fb, body, els) =>
  if deep < 1 then false else if fitsB a fa = false then false else if fitsB b fb = false then false else if numberOkB k n = false then false
  else if body = false ∧ 0 < x.length then false else if els = false ∧ 0 < y.length then false
  else if k = 8 then (if room = -1 then listOk x (deep - 1) a && listOk y (deep - 1) a else false)
  else if k = 9 ∧ room = -1 then false
  else listOk x (deep - 1) room && listOk y (deep - 1) room
theorem iOk_eq (k a b n : Int) (x y : List Stm) (deep room : Int) (hr : -1 ≤ room) : iOk k a b n x y deep room = stmtOk (.mk k a b n x y) deep room := by
 have hnil : ∀ d r, listOk [] d r = true := fun _ _ => rfl
 have hynil : ∀ d r, y = [] → listOk y d r = true := by rintro d r rfl; rfl
 by_cases hk : 1 ≤ k ∧ k ≤ 11
 ·have hc : k = 1 ∨ k = 2 ∨ k = 3 ∨ k = 4 ∨ k = 5 ∨ k = 6 ∨ k = 7 ∨ k = 8 ∨ k = 9 ∨ k = 10 ∨ k = 11 := by omega
  by_cases hd : deep < 1
  ·rcases hc with rfl | rfl | rfl | rfl | rfl | rfl | rfl | rfl | rfl | rfl | rfl <;> simp [iOk, fm, stmtOk, hd]
  ·cases x with
   | nil =>
    cases y with
    | nil => rcases hc with rfl | rfl | rfl | rfl | rfl | rfl | rfl | rfl | rfl | rfl | rfl <;> simp [iOk, fm, stmtOk, leafOk, listOk, fitsB, numberOkB, opOk, numOk, hd] <;> rw [Bool.eq_iff_iff] <;> simp <;> (first | omega | grind)
    | cons t y => rcases hc with rfl | rfl | rfl | rfl | rfl | rfl | rfl | rfl | rfl | rfl | rfl <;> simp [iOk, fm, stmtOk, leafOk, fitsB, numberOkB, opOk, numOk, hd] <;> rw [Bool.eq_iff_iff] <;> simp <;> (first | omega | grind)
   | cons t x => rcases hc with rfl | rfl | rfl | rfl | rfl | rfl | rfl | rfl | rfl | rfl | rfl <;> simp [iOk, fm, stmtOk, leafOk, fitsB, numberOkB, opOk, numOk, hd] <;> rw [Bool.eq_iff_iff] <;> simp <;> (first | omega | grind)
 ·have : fm k = none := by unfold fm; repeat rw [if_neg (by omega)]
  obtain ⟨h1, h2, h3, h4, h5, h6, h7, h8, h9, h10, h11⟩ : k ≠ 1 ∧ k ≠ 2 ∧ k ≠ 3 ∧ k ≠ 4 ∧ k ≠ 5 ∧ k ≠ 6 ∧ k ≠ 7 ∧ k ≠ 8 ∧ k ≠ 9 ∧ k ≠ 10 ∧ k ≠ 11 := by omega
  simp [iOk, this, stmtOk, leafOk, h1, h2, h3, h4, h5, h6, h7, h8, h9, h10, h11]
def IL (L : List Stm) : Prop := ∀ (deep room : Int) (v : Value) (G : PH), I64 deep → -1 ≤ room → I64 room → Sts G L v → Pure Tryz.prog 113 [v, .int .i64 deep, .int .i64 room] G fun v G' => v = .bool (listOk L deep room) ∧ G' = G
theorem zform : ∀ w, (zeroValue 176).run Tryz.prog w = .ok (.agg #[.string ByteArray.empty, .int .i64 0, .int .i64 0, .bool false, .bool false]) w := by
 intro w
 have h : (Tryz.prog.info? 176).bind (·.zero) = some (.agg #[.string ByteArray.empty, .int .i64 0, .int .i64 0, .bool false, .bool false]) := by kernel_rfl
 cases hi : Tryz.prog.info? 176 with
 | none => rw [hi] at h; cases h
 | some i =>
  rw [hi] at h
  simp only [Option.bind_some] at h
  simp [zeroValue, typeInfo, hi, h]
theorem c_stmtOk_of (k a b n : Int) (x y : List Stm) (hX : IL x) (hY : IL y) (deep room : Int) (hd : I64 deep) (hr : -1 ≤ room) (hr' : I64 room) (cs : List Value) (G : PH) (hs : Stm.rep G (.mk k a b n x y) cs) :
  Pure Tryz.prog 122 [.agg cs.toArray, .int .i64 deep, .int .i64 room] G fun v G' => v = .bool (iOk k a b n x y deep room) := by
 obtain ⟨vx, vy, rfl, hk, ha, hb, hn, h1, h2⟩ := Stm.rep_iff.1 hs
 obtain ⟨Ax, cx, rfl, _⟩ := id h1
 have hd' : -9223372036854775808 ≤ deep ∧ deep ≤ 9223372036854775807 := hd
 obtain ⟨Ay, cy, rfl, _⟩ := id h2
 refine Pure.intro Tryz.func122 Tryz.ntmps122 J J fun w => ?_; refine Va J J ?_;refine S_box J J J J J fun b3 => ?_;refine Va J J ?_;refine Ds J J J ?_;refine Da J J ?_;refine D_or 0 7 J J (N_call 0 Tryz.call129 (c_forms _) J J J J J J J J J J ?_) (N_new 7 J J J J J J J J J J J (AZ ZT_ok J J J J) fun b => ?_)
 ·rintro v G1 ⟨bm, es, clock, rfl, hbm, hkeys, hforms⟩ hext
  rcases fm_of hforms k with ⟨s, fa, fb, body, els, hf, hfm⟩ | ⟨hf, hfm⟩
  ·refine D_val 3 J J J J J J J J J (V_lookupS u_forms u_int hbm hkeys hf J J) ?_
   unfold formV
   refine Da J J ?_;refine D_sole 7 J J (N_new 7 J J J J J J J J J J J (AZ ZT_ok J J J J) fun b => ?_)
   refine Da J J ?_;refine Ns 8 J J J J J J J J J ?_;refine Da J J ?_;refine DD ?_;refine Va J J ?_
   repeat' (first
    | (refine S_condp J (fun h => ?_) (fun h => ?_) <;> refine Va J J ?_) | (refine S_cond J (fun h => ?_) (fun h => ?_) <;> refine Va J J ?_) | (refine S_box J J J J J fun b => ?_; refine Va J J ?_) | (refine AZ ZT_ok J J J J fun b => ?_; refine Va J J ?_) | (refine S_guardp J J (fun h => ?_) (fun h => ?_) <;> refine Va J J ?_) | (refine S_guard J J (fun h => ?_) (fun h => ?_) <;> refine Va J J ?_)
    | (refine S_subI J J J J (by first | omega | (simp_all; omega)) ?_; refine Va J J ?_)
    | (refine S_call Tryz.call130 (c_fits _ _ _) J J J ?_; rintro v G' ⟨rfl, rfl⟩ _; refine Va J J ?_)
    | (refine S_call Tryz.call131 (c_numberOk _ _ _ _ _ _ _) J J J ?_; rintro v G' ⟨rfl, rfl⟩ _; refine Va J J ?_)
    | (refine S_call Tryz.call113 (hX _ _ _ _ (by unfold I64; first | omega | (simp_all; omega)) (by first | exact hr | (simp_all [fitsB]; omega)) (by first | exact hr' | exact ha) (Sts_le hext.le h1)) rfl rfl rfl ?_; rintro v G' ⟨rfl, rfl⟩ _; refine Va J J ?_)
    | (refine S_call Tryz.call113 (hY _ _ _ _ (by unfold I64; first | omega | (simp_all; omega)) (by first | exact hr | (simp_all [fitsB]; omega)) (by first | exact hr' | exact ha) (Sts_le hext.le h2)) rfl rfl rfl ?_; rintro v G' ⟨rfl, rfl⟩ _; refine Va J J ?_)
    | refine S_retP Tryz.results122 J J hext ?_)
   all_goals (try clear hX hY hforms hkeys hs)
   all_goals (refine congrArg Value.bool ?_)
   all_goals (unfold iOk; rw [hfm]; dsimp only)
   all_goals (clear hext; cases body <;> cases els <;> simp_all [listOk] <;> omega)
  ·refine D_val 3 J J J J J J J J J (V_lookupN ZT_ok (z := ⟨32, [.string ByteArray.empty, .int .i64 0, .int .i64 0, .bool false, .bool false], []⟩) u_forms u_int hbm hkeys hf J J zform) ?_
   refine Da J J ?_;refine D_sole 7 J J (N_new 7 J J J J J J J J J J J (AZ ZT_ok J J J J) fun b => ?_)
   refine Da J J ?_;refine Ns 8 J J J J J J J J J ?_;refine Da J J ?_;refine DD ?_;refine Va J J ?_;refine GT J J J ?_;refine Va J J ?_;refine S_retP Tryz.results122 J J hext ?_;refine congrArg Value.bool ?_
   unfold iOk
   rw [hfm]
 ·refine Da J J ?_
  refine D_sole 0 J J (N_call 0 Tryz.call129 (c_forms _) J J J J J J J J J J ?_)
  rintro v G1 ⟨bm, es, clock, rfl, hbm, hkeys, hforms⟩ hext
  rcases fm_of hforms k with ⟨s, fa, fb, body, els, hf, hfm⟩ | ⟨hf, hfm⟩
  ·refine D_val 3 J J J J J J J J J (V_lookupS u_forms u_int hbm hkeys hf J J) ?_
   unfold formV
   refine Da J J ?_;refine Ns 8 J J J J J J J J J ?_;refine Da J J ?_;refine DD ?_;refine Va J J ?_
   repeat' (first
    | (refine S_condp J (fun h => ?_) (fun h => ?_) <;> refine Va J J ?_) | (refine S_cond J (fun h => ?_) (fun h => ?_) <;> refine Va J J ?_) | (refine S_box J J J J J fun b => ?_; refine Va J J ?_) | (refine AZ ZT_ok J J J J fun b => ?_; refine Va J J ?_) | (refine S_guardp J J (fun h => ?_) (fun h => ?_) <;> refine Va J J ?_) | (refine S_guard J J (fun h => ?_) (fun h => ?_) <;> refine Va J J ?_)
    | (refine S_subI J J J J (by first | omega | (simp_all; omega)) ?_; refine Va J J ?_)
    | (refine S_call Tryz.call130 (c_fits _ _ _) J J J ?_; rintro v G' ⟨rfl, rfl⟩ _; refine Va J J ?_)
    | (refine S_call Tryz.call131 (c_numberOk _ _ _ _ _ _ _) J J J ?_; rintro v G' ⟨rfl, rfl⟩ _; refine Va J J ?_)
    | (refine S_call Tryz.call113 (hX _ _ _ _ (by unfold I64; first | omega | (simp_all; omega)) (by first | exact hr | (simp_all [fitsB]; omega)) (by first | exact hr' | exact ha) (Sts_le hext.le h1)) rfl rfl rfl ?_; rintro v G' ⟨rfl, rfl⟩ _; refine Va J J ?_)
    | (refine S_call Tryz.call113 (hY _ _ _ _ (by unfold I64; first | omega | (simp_all; omega)) (by first | exact hr | (simp_all [fitsB]; omega)) (by first | exact hr' | exact ha) (Sts_le hext.le h2)) rfl rfl rfl ?_; rintro v G' ⟨rfl, rfl⟩ _; refine Va J J ?_)
    | refine S_retP Tryz.results122 J J hext ?_)
   all_goals (try clear hX hY hforms hkeys hs)
   all_goals (refine congrArg Value.bool ?_)
   all_goals (unfold iOk; rw [hfm]; dsimp only)
   all_goals (clear hext; cases body <;> cases els <;> simp_all [listOk] <;> omega)
  ·refine D_val 3 J J J J J J J J J (V_lookupN ZT_ok (z := ⟨32, [.string ByteArray.empty, .int .i64 0, .int .i64 0, .bool false, .bool false], []⟩) u_forms u_int hbm hkeys hf J J zform) ?_
   refine Da J J ?_;refine Ns 8 J J J J J J J J J ?_;refine Da J J ?_;refine DD ?_;refine Va J J ?_;refine GT J J J ?_;refine Va J J ?_;refine S_retP Tryz.results122 J J hext ?_;refine congrArg Value.bool ?_
   unfold iOk
   rw [hfm]
end
section
attribute [local irreducible] X Pure Mod
theorem c_listOkC (cs : List Value) (hlen : cs.length = 6) (deep room : Int) (r : Bool) (b4 b5 : Nat) (G : PH) (h4 : gcell G ⟨b4, 0, none⟩ = some (.int .i64 deep)) (h5 : gcell G ⟨b5, 0, none⟩ = some (.int .i64 room))
  (hst : Pure Tryz.prog 122 [.agg cs.toArray, .int .i64 deep, .int .i64 room] G fun v G' => v = .bool r ∧ G' = G) :
  Pure Tryz.prog 121 [.agg cs.toArray, .pointer (some ⟨b4, 0, none⟩), .pointer (some ⟨b5, 0, none⟩)] G fun v G' => v = .bool (!r) ∧ G' = G := by
 obtain ⟨x1, x2, x3, x4, x5, x6, rfl⟩ : ∃ x1 x2 x3 x4 x5 x6, cs = [x1, x2, x3, x4, x5, x6] := by
  match cs, hlen with
  | [x1, x2, x3, x4, x5, x6], _ => exact ⟨_, _, _, _, _, _, rfl⟩
 refine Pure.intro Tryz.func121 Tryz.ntmps121 J J fun w => ?_; refine Va J J ?_;refine S_box J J J J J fun b3 => ?_;refine Va J J ?_;refine S_load Tk J J J J J h4 ?_;refine Va J J ?_;refine S_load Tk J J J J J h5 ?_;refine Va J J ?_;refine S_call Tryz.call122 hst J J J ?_;rintro v G' ⟨rfl, rfl⟩ _
 refine Va J J ?_;exact S_retP Tryz.results121 J J XR ⟨J, J⟩
theorem notany_all {α : Type} (L : List α) (p : α → Bool) : (!L.any fun s => !p s) = L.all p := by
 induction L with
 | nil => rfl
 | cons s L ih => simp only [List.any_cons, List.all_cons, Bool.not_or, Bool.not_not, ih]
theorem IL_of (L : List Stm) (h : ∀ k (hk : k < L.length), IL L[k].body ∧ IL L[k].els) : IL L := by
 intro deep room v G hd hr hr' hv
 obtain ⟨A, c, rfl, _⟩ := id hv
 refine Pure.drop (Post := fun v _ => v = .bool (listOk L deep room)) ?_ (fun v G' h => h)
 refine Pure.intro Tryz.func113 Tryz.ntmps113 J J fun w => ?_; refine Va J J ?_;refine S_box J J J J J fun b4 => ?_;refine Va J J ?_;refine S_box J J J J J fun b5 => ?_;refine Va J J ?_;refine S_valV J J J (V_makeFunc J) ?_;refine Va J J ?_;refine S_freezeB 4 J J J J (fun _ h => h) fun hext1 => ?_;refine S_freezeB 5 J J J J (fun _ h => h) fun hext2 => ?_
 have hle := hext1.le.trans hext2.le
 refine S_call Tryz.call120 (c_ContainsStm L (fun s => !stmtOk s deep room) _ _ _ _ (Sts_le hle hv) Tryz.call121 ?_) J J J ?_
 ·intro k hk cs hs
  refine c_listOkC cs (Stm.rep_len hs) deep room _ b4 b5 _ (gcell_le hext2.le ?_) ?_ ?_
  ·simp [gcell, PH.add_self]
  ·simp [gcell, PH.add_self]
  ·obtain ⟨hb, he⟩ := h k hk
   rcases hk' : L[k] with ⟨q1, q2, q3, q4, x, y⟩
   rw [hk'] at hb he hs
   exact (c_stmtOk_of q1 q2 q3 q4 x y hb he deep room hd hr hr' cs _ hs).drop fun v G' e => by rw [e, iOk_eq _ _ _ _ _ _ _ _ hr]
 ·rintro v1 G1 ⟨rfl, rfl⟩ _
  refine Va J J ?_;refine S_retP Tryz.results113 J J (hext1.trans hext2) ?_
  rw [listOk_all, notany_all]
mutual
theorem IL_stm : ∀ (s : Stm), IL s.body ∧ IL s.els
 | .mk k a b n x y => ⟨IL_all x, IL_all y⟩
theorem IL_at : ∀ (L : List Stm) (k : Nat) (hk : k < L.length), IL L[k].body ∧ IL L[k].els
 | [], k, hk => absurd hk (by simp)
 | s :: L, 0, _ => IL_stm s
 | s :: L, k + 1, hk => IL_at L k (by simpa using hk)
theorem IL_all : ∀ (L : List Stm), IL L
 | L => IL_of L (IL_at L)
end
end
section
attribute [local irreducible] X Pure Mod
mutual
def flatS : Stm → Int → List (Stm × Int)
 | .mk k a b n x y, room => flatL x (if k = 8 then a else room) ++ flatL y (if k = 8 then a else room)
def flatL : List Stm → Int → List (Stm × Int)
 | [], _ => []
 | s :: r, room => (s, room) :: (flatS s room ++ flatL r room)
end
theorem flatL_append (L M : List Stm) (room : Int) : flatL (L ++ M) room = flatL L room ++ flatL M room := by
 induction L with
 | nil => simp [flatL]
 | cons s L ih => simp [flatL, ih]
theorem flat_take {L : List Stm} {i : Nat} (hi : i < L.length) (room : Int) : flatL (L.take (i + 1)) room = flatL (L.take i) room ++ (L[i], room) :: flatS L[i] room := by
 rw [List.take_succ_eq_append_getElem hi, flatL_append]; simp [flatL]
theorem flat_pre (L : List Stm) (i : Nat) (room : Int) : flatL (L.take i) room <+: flatL L room := ⟨flatL (L.drop i) room, by rw [← flatL_append, List.take_append_drop]⟩
def encP (G : PH) (x : Stm × Int) (vs : List Value) : Prop := ∃ cs, Stm.rep G x.1 cs ∧ vs = [Value.agg (cs ++ [Value.int .i64 x.2]).toArray]
def walkF (by_ bw : Nat) : Value := .func (.func 96) #[] #[.pointer (some ⟨by_, 0, none⟩), .pointer (some ⟨bw, 0, none⟩)]
def WalkC (L : List Stm) : Prop := ∀ (l by_ bw : Nat) (A Ax : List (Stm × Int) → HP) (xs pre : List (Stm × Int)) (room : Int) (v : Value) (G0 G : PH), G0.le G → Sts G0 L v → gcell G ⟨by_, 0, none⟩ = some (.func (.yield l) #[] #[]) → gcell G ⟨bw, 0, none⟩ = some (walkF by_ bw) →
 (∀ pre x vs, (pre ++ [x]) <+: xs → encP G0 x vs → YieldM Tryz.prog l vs G0 (A pre) (A (pre ++ [x])) (Ax (pre ++ [x]))) → (pre ++ flatL L room) <+: xs →
 Mod Tryz.prog 96 [v, .int .i64 room, .pointer (some ⟨by_, 0, none⟩), .pointer (some ⟨bw, 0, none⟩)] G (A pre) fun r G' A' => G' = G ∧ ((r = .bool true ∧ A' = A (pre ++ flatL L room)) ∨ (r = .bool false ∧ ∃ q, A' = Ax q))
theorem c_walk_of (L : List Stm) (hbs : ∀ k (hk : k < L.length), WalkC L[k].body) (hes : ∀ k (hk : k < L.length), WalkC L[k].els) : WalkC L := by
 intro l by_ bw A Ax xs pre room v G0 G hle hv hy hw hY hpre
 obtain ⟨Al, c, rfl, hn, hc1, hc2, hr⟩ := id hv
 refine Mod.intro Tryz.func96 Tryz.ntmps96 J J fun w S => ?_;refine Va J J ?_;refine S_loop (α := Nat) (fun i => i ≤ L.length) (fun i => L.length - i) []
  (fun i => [(12, .val (.int .i64 (i : Nat))), (11, .val (.int .i64 (L.length : Nat))), (10, .val (.slice Al L.length c)), (1, .val (.int .i64 room)), (2, .val (.pointer (some ⟨by_, 0, none⟩))), (3, .val (.pointer (some ⟨bw, 0, none⟩)))])
  (fun i => [.hp 1 (A (pre ++ flatL (L.take i) room))]) (fun _ => G) 0 (Nat.zero_le _) rfl ⟨⟨_, rfl, rfl⟩, ⟨_, rfl, rfl⟩, ⟨_, rfl, rfl⟩, ⟨_, rfl, rfl⟩, ⟨_, rfl, rfl⟩, ⟨_, rfl, rfl⟩, trivial⟩ (by simp only [List.take_zero, flatL, List.append_nil]; exact .hp .nil) ?_
 intro i hi
 refine Va J J ?_
 refine S_condp J (fun h5 => ?_) (fun h5 => ?_) <;> refine Va J J ?_
 ·have hil : i < L.length := by omega
  obtain ⟨ad, cs, rfl, hcs, hrep⟩ := Sr_at hv hil
  have hb := hbs i hil
  have he := hes i hil
  have htk := flat_take hil room
  have hp1 : (pre ++ flatL (L.take (i + 1)) room) <+: xs := ((List.prefix_append_right_inj pre).2 (flat_pre L (i + 1) room)).trans hpre
  rcases hs : L[i] with ⟨k, a, b, n, x, y⟩
  rw [hs] at hrep hb he htk
  rw [htk] at hp1
  obtain ⟨vx, vy, rfl, i1, i2, i3, i4, hx, hyy⟩ := Stm.rep_iff.1 hrep
  simp only [Stm.body, Stm.els] at hb he hx hyy
  have HP0 : (pre ++ flatL (L.take i) room ++ [(Stm.mk k a b n x y, room)]) <+: xs := List.IsPrefix.trans ⟨flatS (Stm.mk k a b n x y) room, by simp⟩ hp1
  have HP1 : ∀ {rr : Int}, (if k = 8 then a else room) = rr → (pre ++ flatL (L.take i) room ++ [(Stm.mk k a b n x y, room)] ++ flatL x rr) <+: xs := fun {rr} e => List.IsPrefix.trans ⟨flatL y rr, by subst e; simp [flatS]⟩ hp1
  have HP2 : ∀ {rr : Int}, (if k = 8 then a else room) = rr → (pre ++ flatL (L.take i) room ++ [(Stm.mk k a b n x y, room)] ++ flatL x rr ++ flatL y rr) <+: xs := fun {rr} e => List.IsPrefix.trans ⟨[], by subst e; simp [flatS]⟩ hp1
  have HPE : ∀ {rr : Int}, (if k = 8 then a else room) = rr → pre ++ flatL (L.take (i + 1)) room = (pre ++ flatL (L.take i) room ++ [(Stm.mk k a b n x y, room)] ++ flatL x rr ++ flatL y rr) := fun {rr} e => by subst e; rw [htk]; simp [flatS]
  obtain ⟨Ax', cx', rfl, _⟩ := id hx
  obtain ⟨Ay', cy', rfl, _⟩ := id hyy
  refine S_index Tk J J J J J J (by omega) (by omega) ?_;refine Va J J ?_;refine S_loadA Tk J J J J J (by simpa using gcells_le hle hcs) ?_;refine Va J J ?_;refine AZ ZT_ok J J J J fun b8 => ?_;refine Va J J ?_;refine S_load Tk J J J J J hy ?_;refine Va J J ?_
  refine S_yield 1 l rfl rfl ((hY _ (Stm.mk k a b n x y, room) _ HP0 ⟨_, hrep, rfl⟩).le hle) rfl rfl rfl rfl (fun _ => rfl) ?_ ?_ <;> refine Va J J ?_
  ·refine RF J J ?_
   refine Va J J ?_
   refine S_condp J (fun h8 => ?_) (fun h8 => ?_) <;> refine Va J J ?_
   ·refine S_load Tk J J J J J hw ?_
    refine Va J J ?_;refine S_callMV 1 (vs := [.slice Ax' x.length cx', .int .i64 a]) (cap := #[.pointer (some ⟨by_, 0, none⟩), .pointer (some ⟨bw, 0, none⟩)]) J Tryz.call96 (hb l by_ bw A Ax xs (pre ++ flatL (L.take i) room ++ [(Stm.mk k a b n x y, room)]) a _ G0 G hle hx hy hw hY (HP1 (if_pos h8))) J J J J (fun _ => J) ?_
    rintro v2 G2 A2 ⟨rfl, ⟨rfl, rfl⟩ | ⟨rfl, q, rfl⟩⟩ _ <;> refine Va J J ?_
    ·refine GF J J J ?_
     refine Va J J ?_;refine S_load Tk J J J J J hw ?_;refine Va J J ?_;refine S_callMV 1 (vs := [.slice Ay' y.length cy', .int .i64 a]) (cap := #[.pointer (some ⟨by_, 0, none⟩), .pointer (some ⟨bw, 0, none⟩)]) J Tryz.call96 (he l by_ bw A Ax xs (pre ++ flatL (L.take i) room ++ [(Stm.mk k a b n x y, room)] ++ flatL x a) a _ G0 _ hle hyy hy hw hY (HP2 (if_pos h8))) J J J J (fun _ => J) ?_
     rintro v3 G3 A3 ⟨rfl, ⟨rfl, rfl⟩ | ⟨rfl, q, rfl⟩⟩ _ <;> refine Va J J ?_
     ·refine RF J J ?_
      refine Va J J ?_;refine S_add J J J J (by omega) ?_;refine Va J J ?_;refine S_again (i + 1) (by omega) (by omega) J ⟨⟨_, J, by simp [denO]⟩, ⟨_, J, J⟩, ⟨_, J, J⟩, ⟨_, J, J⟩, ⟨_, J, J⟩, ⟨_, J, J⟩, trivial⟩ ?_
      rw [HPE (if_pos h8)]
      exact .drop (.hp .nil)
     ·refine RT J J ?_
      refine Va J J ?_;exact S_retm 1 (Res.t1 Tryz.results96 J J) J XR ⟨J, .inr ⟨J, _, J⟩⟩
    ·refine GT J J J ?_
     refine Va J J ?_;exact S_retm 1 (Res.t1 Tryz.results96 J J) J XR ⟨J, .inr ⟨J, _, J⟩⟩
   ·refine S_load Tk J J J J J hw ?_
    refine Va J J ?_;refine S_callMV 1 (vs := [.slice Ax' x.length cx', .int .i64 room]) (cap := #[.pointer (some ⟨by_, 0, none⟩), .pointer (some ⟨bw, 0, none⟩)]) J Tryz.call96 (hb l by_ bw A Ax xs (pre ++ flatL (L.take i) room ++ [(Stm.mk k a b n x y, room)]) room _ G0 G hle hx hy hw hY (HP1 (if_neg h8))) J J J J (fun _ => J) ?_
    rintro v2 G2 A2 ⟨rfl, ⟨rfl, rfl⟩ | ⟨rfl, q, rfl⟩⟩ _ <;> refine Va J J ?_
    ·refine GF J J J ?_
     refine Va J J ?_;refine S_load Tk J J J J J hw ?_;refine Va J J ?_;refine S_callMV 1 (vs := [.slice Ay' y.length cy', .int .i64 room]) (cap := #[.pointer (some ⟨by_, 0, none⟩), .pointer (some ⟨bw, 0, none⟩)]) J Tryz.call96 (he l by_ bw A Ax xs (pre ++ flatL (L.take i) room ++ [(Stm.mk k a b n x y, room)] ++ flatL x room) room _ G0 _ hle hyy hy hw hY (HP2 (if_neg h8))) J J J J (fun _ => J) ?_
     rintro v3 G3 A3 ⟨rfl, ⟨rfl, rfl⟩ | ⟨rfl, q, rfl⟩⟩ _ <;> refine Va J J ?_
     ·refine RF J J ?_
      refine Va J J ?_;refine S_add J J J J (by omega) ?_;refine Va J J ?_;refine S_again (i + 1) (by omega) (by omega) J ⟨⟨_, J, by simp [denO]⟩, ⟨_, J, J⟩, ⟨_, J, J⟩, ⟨_, J, J⟩, ⟨_, J, J⟩, ⟨_, J, J⟩, trivial⟩ ?_
      rw [HPE (if_neg h8)]
      exact .drop (.hp .nil)
     ·refine RT J J ?_
      refine Va J J ?_;exact S_retm 1 (Res.t1 Tryz.results96 J J) J XR ⟨J, .inr ⟨J, _, J⟩⟩
    ·refine GT J J J ?_
     refine Va J J ?_;exact S_retm 1 (Res.t1 Tryz.results96 J J) J XR ⟨J, .inr ⟨J, _, J⟩⟩
  ·refine RT J J ?_
   refine Va J J ?_;exact S_retm 1 (Res.t1 Tryz.results96 J J) J XR ⟨J, .inr ⟨J, _, J⟩⟩
 ·have hin : i = L.length := by omega
  subst hin
  rw [List.take_length]
  exact S_retm 1 (Res.t1 Tryz.results96 J J) J XR ⟨J, .inl ⟨J, J⟩⟩
mutual
theorem c_walkS : ∀ (s : Stm), WalkC s.body ∧ WalkC s.els
 | .mk k a b n x y => ⟨c_walk x, c_walk y⟩
theorem c_walkA : ∀ (L : List Stm), ∀ k (hk : k < L.length), WalkC L[k].body ∧ WalkC L[k].els
 | [], k, hk => absurd hk (by simp)
 | s :: L, 0, _ => c_walkS s
 | s :: L, k + 1, hk => c_walkA L k (by simpa using hk)
theorem c_walk : ∀ (L : List Stm), WalkC L
 | L => c_walk_of L (fun k hk => (c_walkA L k hk).1) (fun k hk => (c_walkA L k hk).2)
end
end
section
attribute [local irreducible] X Pure Mod
theorem c_all1 (L : List Stm) (room : Int) (v : Value) (b1 b2 : Nat) (G : PH) (hv : Sts G L v) (h1 : gcell G ⟨b1, 0, none⟩ = some v) (h2 : gcell G ⟨b2, 0, none⟩ = some (.int .i64 room)) :
  IterR Tryz.prog 95 #[.pointer (some ⟨b1, 0, none⟩), .pointer (some ⟨b2, 0, none⟩)] G (encP G) (flatL L room) := by
 refine IterR_of fun l A Ax hY => ?_;obtain ⟨Al, c, rfl, _⟩ := id hv
 refine Mod.intro Tryz.func95 Tryz.ntmps95 J J fun w S => ?_;refine Va J J ?_;refine S_boxB J J J J J fun b3 hb3 => ?_;refine Va J J ?_;refine S_allocB ZT_ok J J J J fun b4 hb4 => ?_;refine Va J J ?_;refine S_valV J J J (V_makeFunc J) ?_;refine Va J J ?_;refine S_keepB 3 J J J J hb3 fun hext1 => ?_;refine S_keepB 4 J J J J hb4 fun hext2 => ?_
 have hle := hext1.le.trans hext2.le
 refine S_load Tk J J J J J (gcell_le hle h1) ?_;refine Va J J ?_;refine S_load Tk J J J J J (gcell_le hle h2) ?_;refine Va J J ?_;refine S_callMV 1 (vs := [.slice Al L.length c, .int .i64 room]) (cap := #[.pointer (some ⟨b3, 0, none⟩), .pointer (some ⟨b4, 0, none⟩)]) J Tryz.call96 (c_walk L l b3 b4 A Ax (flatL L room) [] room _ G _ hle hv (gcell_le hext2.le (by simp [gcell, PH.add_self])) (by simp [gcell, PH.add_self, walkF]) hY (List.prefix_refl _)) J J J J (fun _ => J) ?_
 rintro v2 G2 A2 ⟨rfl, h⟩ hext3
 refine Va J J ?_;refine S_endm 1 (Res.t0 Tryz.results95) J ((hext1.trans hext2).trans hext3) ?_
 rcases h with ⟨_, rfl⟩ | ⟨_, q, rfl⟩
 ·exact .inl (by simp)
 ·exact .inr ⟨q, J⟩
theorem c_all (L : List Stm) (room : Int) (v : Value) (G : PH) (hv : Sts G L v) : Pure Tryz.prog 53 [v, .int .i64 room] G fun v' G' => ∃ b2 b3, v' = .func (.func 95) #[] #[.pointer (some ⟨b2, 0, none⟩), .pointer (some ⟨b3, 0, none⟩)] ∧ gcell G' ⟨b2, 0, none⟩ = some v ∧ gcell G' ⟨b3, 0, none⟩ = some (.int .i64 room) := by
 obtain ⟨Al, c, rfl, _⟩ := id hv
 refine Pure.intro Tryz.func53 Tryz.ntmps53 J J fun w => ?_; refine Va J J ?_;refine S_box J J J J J fun b2 => ?_;refine Va J J ?_;refine S_box J J J J J fun b3 => ?_;refine Va J J ?_;refine S_valV J J J (V_makeFunc J) ?_;refine Va J J ?_;refine S_freezeB 2 J J J J (fun _ h => h) fun hext1 => ?_;refine S_freezeB 3 J J J J (fun _ h => h) fun hext2 => ?_;refine S_retp (Res.t1 Tryz.results53 J J) (hext1.trans hext2) ⟨b2, b3, J, gcell_le hext2.le (by simp [gcell, PH.add_self]), by simp [gcell, PH.add_self]⟩
theorem flat_len : ∀ (n : Nat) (L : List Stm) (room : Int), dpL L ≤ n → ((flatL L room).length : Int) = many L (n : Nat)
 | n, [], room, _ => by simp [flatL, many]
 | 0, s :: L, room, h => by
  have := dpS_eq s
  simp only [dpL] at h
  omega
 | n + 1, s :: L, room, h => by
  simp only [dpL] at h
  have a3 := flat_len (n + 1) L room (by omega)
  obtain ⟨k, a, b, m, x, y⟩ := s
  simp only [dpS] at h
  have a1 := flat_len n x (if k = 8 then a else room) (by omega)
  have a2 := flat_len n y (if k = 8 then a else room) (by omega)
  simp only [flatL, flatS, List.length_cons, List.length_append, many, manyS, if_pos (show (0 : Int) < ((n + 1 : Nat) : Int) by omega), show (((n + 1 : Nat) : Int) - 1) = (n : Nat) by omega]
  omega
theorem c_iStmtsOk (L : List Stm) (v : Value) (G : PH) (hv : Sts G L v) (hs : Sh L) : Pure Tryz.prog 94 [v] G fun v G' => v = .bool (stmtsOk L) ∧ G' = G := by
 obtain ⟨Al, c, rfl, _⟩ := id hv
 refine Pure.introM Tryz.func94 Tryz.ntmps94 J J fun w hw => ?_;refine Va J J ?_;refine S_call Tryz.call113 (IL_all L 3 (-1) _ _ (by unfold I64; omega) (by omega) (by unfold I64; omega) hv) rfl rfl rfl ?_;rintro v1 G1 ⟨rfl, rfl⟩ _
 refine Va J J ?_
 cases hl : listOk L 3 (-1)
 ·refine RT J J ?_
  refine Va J J ?_;exact S_retK hw Tryz.results94 J J (by simp [stmtsOk, hl])
 refine RF J J ?_;refine Va J J ?_;refine AZ ZT_ok J J J J fun b3 => ?_;refine Va J J ?_;refine S_call Tryz.call53 (c_all L (-1) _ _ hv) J J J ?_;rintro v2 G2 ⟨b5, b6, rfl, h5, h6⟩ hext2
 refine Va J J ?_
 have hd : dpL L ≤ 3 := dpL_ok 3 L 3 (-1) hl (by omega)
 have hf := flat_len 3 L (-1) hd
 have hm := many_bnd 3 L hs
 have hB := MB3
 rw [show ((3 : Nat) : Int) = 3 from rfl] at hf hm
 refine S_range (fun pre => [.blk 3 3 (vL [.int .i64 (pre.length : Nat)])]) (fun pre => [.hp 3 deadHP]) rfl rfl rfl Tryz.call95 (c_all1 L (-1) _ b5 b6 G2 (Sts_le hext2.le hv) h5 h6) (fun x vs h => by obtain ⟨cs, _, rfl⟩ := h; rfl) rfl (.blk rfl rfl .nil) ?_ ?_ ?_
 ·intro l pre x vs W S I hpre henc hW hI
  obtain ⟨cs, _, rfl⟩ := henc
  have hlen : pre.length + 1 ≤ (flatL L (-1)).length := by have := hpre.length_le; simpa using this
  refine Va J J ?_;refine hI _ _ _ fun W2 S2 hW2 => ?_;refine Va J J ?_;refine S_add J J J J (by omega) ?_;refine Va J J ?_;refine S_roundEnd ?_
  simp only [List.length_append, List.length_singleton]
  exact .blk J J .nil
 ·intro D hD hDs
  refine Va J J ?_;refine S_retK hw Tryz.results94 J J ?_
  have e : w64 ((flatL L (-1)).length : Int) = (flatL L (-1)).length := w64_eq ⟨by omega, by omega⟩
  simp [stmtsOk, hl, ← hf, e]
 ·intro D pre hD hDs
  exact S_dead 3 J
theorem c_iProgOkC (L : List Stm) (v : Value) (G : PH) (hv : Sts G L v) (hs : Sh L) : Pure Tryz.prog 93 [v] G fun v G' => v = .bool (!stmtsOk L) ∧ G' = G := by
 obtain ⟨Al, c, rfl, _⟩ := id hv
 refine Pure.intro Tryz.func93 Tryz.ntmps93 J J fun w => ?_; refine Va J J ?_;refine S_call Tryz.call94 (c_iStmtsOk L _ _ hv hs) J J J ?_;rintro v1 G1 ⟨rfl, rfl⟩ _
 refine Va J J ?_;exact S_retp (Res.t1 Tryz.results93 J J) XR ⟨J, J⟩
theorem c_iProgOk (p : List (List Stm)) (v : Value) (G : PH) (hp : PrgS G p v) : Pure Tryz.prog 51 [v] G fun v G' => v = .bool (progOk p) ∧ G' = G := by
 obtain ⟨hpp, hsh, hpl⟩ := id hp
 obtain ⟨A, c, rfl, hl1, _⟩ := id hpp
 refine Pure.intro Tryz.func51 Tryz.ntmps51 J J fun w => ?_; refine Va J J ?_
 by_cases h1 : 1 ≤ p.length ∧ p.length ≤ 3
 ·refine GT J J (by simp; omega) ?_
  refine Va J J ?_;refine S_call Tryz.call92 (c_ContainsSts p (fun l => !stmtsOk l) 93 #[] _ _ hpp Tryz.call93 fun k hk v hv => c_iProgOkC _ _ _ hv (hsh _ (List.getElem_mem hk))) J J J ?_;rintro v1 G1 ⟨rfl, rfl⟩ _
  refine Va J J ?_;refine S_retp (Res.t1 Tryz.results51 J J) XR ⟨?_, J⟩
  rw [notany_all]
  simp [progOk, h1]
 ·refine GF J J (by simp; omega) ?_
  refine Va J J ?_;refine S_retp (Res.t1 Tryz.results51 J J) XR ⟨?_, J⟩
  have : progOk p = false := by
   cases hq : progOk p with
   | false => rfl
   | true => exact absurd (prog_parts hq).2 h1
  rw [this]
theorem c_playable (p : List (List Stm)) (q : List Int) (pv qv : Value) (G : PH) (hp : PrgS G p pv) (hq : Ints G q qv) : Pure Tryz.prog 34 [pv, qv] G fun v G' => v = .bool (progOk p && decide (q.length ≤ 200)) ∧ G' = G := by
 obtain ⟨Ap, cp, rfl, _⟩ := id hp.1
 obtain ⟨Aq, cq, rfl, _⟩ := id hq
 refine Pure.intro Tryz.func34 Tryz.ntmps34 J J fun w => ?_; refine Va J J ?_;refine S_call Tryz.call51 (c_iProgOk p _ _ hp) J J J ?_;rintro v1 G1 ⟨rfl, rfl⟩ _
 refine Va J J ?_;exact S_retp (Res.t1 Tryz.results34 J J) XR ⟨by rw [show decide ((q.length : Int) ≤ 200) = decide (q.length ≤ 200) from decide_eq_decide.2 (by omega)], J⟩
end
section
attribute [local irreducible] X Pure Mod
theorem c_outOf (p : List (List Stm)) (pv : Value) (who : Int) (b : Nat) (G : PH) (hp : Prg G p pv) (hb : gcell G ⟨b, 0, none⟩ = some pv) : Pure Tryz.prog 36 [.int .i64 who, .pointer (some ⟨b, 0, none⟩)] G fun v G' => v = .bool (decide (who < 0) || decide ((p.length : Int) ≤ who)) ∧ G' = G := by
 obtain ⟨Ap, cp, rfl, _⟩ := id hp
 refine Pure.intro Tryz.func36 Tryz.ntmps36 J J fun w => ?_; refine Va J J ?_
 by_cases h : who < 0
 ·refine GT J J (by simpa using h) ?_
  refine Va J J ?_;exact S_retp (Res.t1 Tryz.results36 J J) XR ⟨by simp [h], J⟩
 ·refine GF J J (by simpa using h) ?_
  refine Va J J ?_;refine S_load Tk J J J J J hb ?_;refine Va J J ?_;exact S_retp (Res.t1 Tryz.results36 J J) XR ⟨by simp [h], J⟩
structure WSi where
 i : Nat
 V : Wld
 B : Nat
 ts : List Value
 G : PH
theorem c_iWholeRun (p : List (List Stm)) (q : List Int) (pv qv : Value) (G : PH) (hp : PrgS G p pv) (hq : Ints G q qv) : Pure Tryz.prog 13 [pv, qv] G (resV (wrun p q)) := by
 obtain ⟨Ap, cp, rfl, _⟩ := id hp.1
 obtain ⟨Aq, cq, rfl, _⟩ := id hq
 refine Pure.intro Tryz.func13 Tryz.ntmps13 J J fun w => ?_; refine Va J J ?_;refine S_box J J J J J fun b2 => ?_;refine Va J J ?_;refine AZ ZT_ok J J J J fun b4 => ?_;refine Va J J ?_;refine S_call Tryz.call34 (c_playable p q _ _ _ hp hq) J J J ?_;rintro v G5 ⟨rfl, rfl⟩ _
 refine Va J J ?_
 cases hpl0 : (progOk p && decide (q.length ≤ 200))
 ·refine GT J J J ?_
  refine Va J J ?_
  have hnone : wrun p q = none := by
   unfold wrun
   rw [if_neg]
   rintro ⟨h1, h2⟩
   simp [h1, h2] at hpl0
  exact S_retp (Res.c2 Tk Tryz.results13 J J J J) XR (by rw [hnone]; rfl)
 refine GF J J J ?_;refine Va J J ?_
 simp only [Bool.and_eq_true, decide_eq_true_eq] at hpl0
 obtain ⟨hpo, hq2⟩ := hpl0
 have hp13 := (prog_parts hpo).2
 have hI0 := Inv_open hpo hp.2.1
 have hpl : (open0 p).procs.length = p.length := by simp [open0]
 have hwr : wrun p q = (match runs q (open0 p) with
  | none => none
  | some W => rests (List.range p.length) W) := by
  unfold wrun
  rw [if_pos ⟨hpo, hq2⟩]
  all_goals (cases runs q (open0 p) <;> rfl)
 refine S_valV J J J (V_makeFunc J) ?_;refine Va J J ?_;refine S_freezeB 2 J J J J (fun _ h => h) fun hext2 => ?_
 generalize hG6 : G5.add b2 _ = G6 at hext2 ⊢
 have hp6 : Prg G6 p (.slice Ap p.length cp) := Prg_le hext2.le hp.1
 have hb6 : gcell G6 ⟨b2, 0, none⟩ = some (.slice Ap p.length cp) := by rw [← hG6]; simp [gcell, PH.add_self]
 refine S_reE 2 (.val (.pointer (some ⟨b2, 0, none⟩))) J J ?_;refine S_call Tryz.call35 (c_ContainsInt q (fun who => decide (who < 0) || decide ((p.length : Int) ≤ who)) 36 #[.pointer (some ⟨b2, 0, none⟩)] _ _ (Ints_le hext2.le hq) Tryz.call36 fun k hk hi => c_outOf p _ _ b2 _ hp6 hb6) J J J ?_;rintro v G7 ⟨rfl, rfl⟩ _
 refine Va J J ?_
 cases hany : q.any fun who => decide (who < 0) || decide ((p.length : Int) ≤ who)
 rotate_left
 ·refine RT J J ?_
  refine Va J J ?_
  have hnone : wrun p q = none := by
   rw [hwr]
   cases hr : runs q (open0 p) with
   | none => rfl
   | some W =>
    obtain ⟨x, hx, hxo⟩ := List.any_eq_true.1 hany
    have := (runs_valid q hI0 hr).1 x hx
    rw [hpl] at this
    simp only [Bool.or_eq_true, decide_eq_true_eq] at hxo
    omega
  exact S_retp (Res.c2 Tk Tryz.results13 J J J J) hext2 (by rw [hnone]; rfl)
 refine RF J J ?_;refine Va J J ?_
 have hin : ∀ x ∈ q, 0 ≤ x ∧ x < p.length := by
  intro x hx
  have := List.any_eq_false.1 hany x hx
  simp only [Bool.or_eq_true, decide_eq_true_eq, not_or] at this
  omega
 refine S_load Tk J J J J J hb6 ?_;refine Va J J ?_;refine S_callN 1 Tryz.call37 (c_opened p _ _ hp6 hp13) J J J ?_;rintro v1 G1 A1 ⟨cs, ts, rfl, rfl, htd⟩ hext1
 refine S_newHP 1 J J ?_;refine S_csV 1 J ?_;rintro bp bc br bs kp asd ksd kc kr ks rfl
 refine Va J J ?_;refine AZ ZT_ok J J J J fun b6 => ?_;refine Va J J ?_;refine S_V2P 6 1 1 J J J J J J ?_;refine S_reE 6 (.val (.pointer (some ⟨b6, 0, none⟩))) J J ?_;refine S_call Tryz.call38 (c_atomicF _) J J J ?_;rintro v2 G2 ⟨be, rfl, hbe⟩ hext3
 refine Va J J ?_;refine S_loop (α := WSi) (fun y => y.i ≤ q.length ∧ PH.ext w.heap.size G2 y.G ∧ (Inv y.V y.B ∧ y.B ≤ 400 * y.i) ∧ Tds y.G y.V.procs y.ts ∧ y.V.procs.length = p.length ∧ runs q (open0 p) = runs (q.drop y.i) y.V) (fun y => q.length - y.i) [(4, b4), (6, b6)]
  (fun y => [(27, .val (.int .i64 (y.i : Nat))), (25, .val (.slice Aq q.length cq)), (26, .val (.int .i64 (q.length : Nat))), (7, .val (.func (.func 73) #[] #[.pointer (some ⟨be, 0, none⟩)])), (6, .val (.pointer (some ⟨b6, 0, none⟩))), (2, .val (.pointer (some ⟨b2, 0, none⟩))), (4, .ptr 4 0)])
  (fun y => [.hp 1 (worldP b6 y.V y.ts), .blk 4 31 (vL [.slice none 0 0, .slice none 0 0, .slice none 0 0, .slice none 0 0, .slice none 0 0])]) (fun y => y.G) ⟨0, open0 p, 0, ts, G2⟩ ⟨Nat.zero_le _, PH.ext.refl _ _, ⟨hI0, Nat.le_refl _⟩, Tds_le hext3.le htd, hpl, rfl⟩ rfl ?_ ?_ ?_
 ·exact ⟨⟨_, J, J⟩, ⟨_, J, J⟩, ⟨_, J, J⟩, ⟨_, J, J⟩, ⟨_, J, J⟩, ⟨_, J, J⟩, ⟨_, J, J⟩, trivial⟩
 ·exact .hp (.blk J J .nil)
 rintro ⟨i, V, B1, ts1, G3⟩ ⟨hi, hext, ⟨h1, hB1⟩, ht1, hlen, heq⟩
 simp only at hi hext h1 hB1 ht1 hlen heq ⊢
 have hn1 := h1.n1
 have hn3 := h1.n3
 have hextA := ((hext2.trans hext1).trans hext3).trans hext
 refine Va J J ?_
 refine S_condp J (fun h5 => ?_) (fun h5 => ?_) <;> refine Va J J ?_
 ·have hil : i < q.length := by omega
  rw [drop_at hil] at heq
  have hxr := hin q[i] (List.getElem_mem hil)
  obtain ⟨ad, cs5, rfl, hcs, rfl, hi5⟩ := Sr_at (Ints_le hextA.le hq) hil
  generalize hwe : q[i] = who at hcs hi5 heq hxr
  obtain ⟨k, rfl⟩ := Int.eq_ofNat_of_zero_le hxr.1
  have hkl : k < V.procs.length := by omega
  refine S_index Tk J J J J J J (by omega) (by omega) ?_;refine Va J J ?_;refine S_load Tk J J J J J (by simpa using hcs.1) ?_;refine Va J J ?_
  rw [runs_cons hkl] at heq
  have hIa := Inv_atom h1 hkl
  refine S_callMV 1 (vs := [.pointer (some ⟨b6, 0, none⟩), .int .i64 (k : Nat)]) (cap := #[.pointer (some ⟨be, 0, none⟩)]) J Tryz.call73 (c_atom V k B1 b6 be ts1 _ h1 (by omega) ht1 hkl (EndsAt_le hext.le hbe)) J J J J (fun _ => J) ?_;rintro v G4 A' ⟨ts4, rfl, rfl, ht4⟩ hext4
  generalize atom k 200 false V = r at heq hIa ht4 ⊢
  obtain ⟨V4, ok⟩ := r
  simp only at heq hIa ht4 ⊢
  refine Va J J ?_
  cases ok
  ·refine RT J J ?_
   refine Va J J ?_
   have hnone : wrun p q = none := by rw [hwr, heq]
   exact S_retp (Res.c2 Tk Tryz.results13 J J J J) (hextA.trans hext4) (by rw [hnone]; rfl)
  refine RF J J ?_;refine Va J J ?_;refine S_add J J J J (by omega) ?_;refine Va J J ?_;exact S_again ⟨i + 1, V4, B1 + 400, ts4, G4⟩ ⟨by simp only; omega, hext.trans hext4, ⟨hIa.1, by simp only; omega⟩, ht4, by simp only; omega, heq⟩ (by simp only; omega) rfl ⟨⟨_, rfl, by simp [denO]⟩, ⟨_, rfl, rfl⟩, ⟨_, rfl, rfl⟩, ⟨_, rfl, rfl⟩, ⟨_, rfl, rfl⟩, ⟨_, rfl, rfl⟩, ⟨_, rfl, rfl⟩, trivial⟩ (.hp (.blk rfl rfl .nil))
 have hin : i = q.length := by omega
 subst hin
 rw [List.drop_length] at heq
 have hwr2 : wrun p q = rests (List.range p.length) V := by rw [hwr, heq]; rfl
 refine S_call Tryz.call39 (c_restF _) J J J ?_;rintro v G4 ⟨rfl, rfl⟩ _
 refine Va J J ?_;refine S_load Tk J J J J J (gcell_le ((hext1.trans hext3).trans hext).le hb6) ?_;refine Va J J ?_;refine S_loop (α := WSi) (fun y => y.i ≤ p.length ∧ PH.ext w.heap.size G4 y.G ∧ (Inv y.V y.B ∧ y.B ≤ 400 * q.length + 200 * y.i) ∧ Tds y.G y.V.procs y.ts ∧ y.V.procs.length = p.length ∧ wrun p q = rests ((List.range p.length).drop y.i) y.V) (fun y => p.length - y.i) [(4, b4), (6, b6)]
  (fun y => [(40, .val (.int .i64 (y.i : Nat))), (39, .val (.int .i64 (p.length : Nat))), (10, .val (.func (.func 75) #[] #[])), (6, .val (.pointer (some ⟨b6, 0, none⟩))), (4, .ptr 4 0)])
  (fun y => [.hp 1 (worldP b6 y.V y.ts), .blk 4 31 (vL [.slice none 0 0, .slice none 0 0, .slice none 0 0, .slice none 0 0, .slice none 0 0])]) (fun y => y.G) ⟨0, V, B1, ts1, G4⟩ ⟨Nat.zero_le _, PH.ext.refl _ _, ⟨h1, by simp only; omega⟩, ht1, hlen, hwr2⟩ rfl ?_ ?_ ?_
 ·exact ⟨⟨_, J, J⟩, ⟨_, J, J⟩, ⟨_, J, J⟩, ⟨_, J, J⟩, ⟨_, J, J⟩, trivial⟩
 ·exact .hp (.blk J J .nil)
 rintro ⟨i, V2, B2, ts2, G6⟩ ⟨hi2, hext6, ⟨h2, hB2⟩, ht2, hlen2, heq2⟩
 simp only at hi2 hext6 h2 hB2 ht2 hlen2 heq2 ⊢
 have hextB := hextA.trans hext6
 refine Va J J ?_
 refine S_condp J (fun h5 => ?_) (fun h5 => ?_) <;> refine Va J J ?_
 ·have hil : i < p.length := by omega
  rw [drop_range hil] at heq2
  have hIr := h2.rest (who := i) 200 (by omega)
  refine S_callMV 1 (vs := [.pointer (some ⟨b6, 0, none⟩), .int .i64 (i : Nat)]) (cap := #[]) J Tryz.call75 (c_rest1 V2 i B2 b6 ts2 _ h2 (by omega) ht2 (by omega)) J J J J (fun _ => J) ?_;rintro v G7 A' ⟨ts7, rfl, rfl, ht7⟩ hext7
  rw [rests] at heq2
  generalize restP i 200 V2 = r at heq2 hIr ht7 ⊢
  obtain ⟨V7, ok⟩ := r
  simp only at heq2 hIr ht7 ⊢
  refine Va J J ?_
  cases ok
  ·refine RT J J ?_
   refine Va J J ?_
   have hnone : wrun p q = none := heq2
   exact S_retp (Res.c2 Tk Tryz.results13 J J J J) (hextB.trans hext7) (by rw [hnone]; rfl)
  refine RF J J ?_;refine Va J J ?_;refine S_add J J J J (by omega) ?_;refine Va J J ?_;exact S_again ⟨i + 1, V7, B2 + 200, ts7, G7⟩ ⟨by simp only; omega, hext6.trans hext7, ⟨hIr.1, by simp only; omega⟩, ht7, by simp only; omega, heq2⟩ (by simp only; omega) rfl ⟨⟨_, rfl, by simp [denO]⟩, ⟨_, rfl, rfl⟩, ⟨_, rfl, rfl⟩, ⟨_, rfl, rfl⟩, ⟨_, rfl, rfl⟩, trivial⟩ (.hp (.blk rfl rfl .nil))
 have hin2 : i = p.length := by omega
 subst hin2
 rw [List.drop_of_length_le (by simp)] at heq2
 have hr : wrun p q = some V2 := heq2
 have hBB : B2 ≤ 1000000 := by omega
 refine S_P2V 1 60 1 J J J fun cs2 => ?_;refine S_reE 6 (.ptr 60 0) J J ?_;refine S_csV 1 J ?_;rintro bp2 bc2 br2 bs2 kp2 asd2 ksd2 kc2 kr2 ks2 rfl
 refine Va J J ?_;refine S_frzV 1 J J (fun _ h => h) ht2 h2.n3 ⟨by have := (h2.rdy hBB).sd; omega, by have := (h2.rdy hBB).q0; omega, by have := (h2.rdy hBB).q1; omega⟩ fun G8 hext8 hW => ?_;refine S_call Tryz.call40 (c_wcopy _ _ _ hW h2.n3) J J J ?_;rintro v9 G9 hW9 hext9
 obtain ⟨vp, vc, vr, vs, vd, rfl, hw1, hw2, hw3, hw4, hw5⟩ := id hW9
 obtain ⟨_, _, rfl, _⟩ := id hw1
 obtain ⟨_, _, rfl, _⟩ := id hw2
 obtain ⟨_, _, rfl, _⟩ := id hw3
 obtain ⟨_, _, rfl, _⟩ := id hw4
 obtain ⟨_, _, rfl, _⟩ := id hw5
 refine Va J J ?_;exact S_retp (Res.c2 Tk Tryz.results13 J J J J) ((hextB.trans hext8).trans hext9) (by rw [hr]; exact ⟨_, J, hW9⟩)
end
section
theorem run_eqS2 {P : Program} (w : World) {t : TypeId} {f0 f1 : Field} {k0 k1 : IntKind} (ht : P.underlying t = some (.struct #[f0, f1])) (hst : P.stoodInHeld t = false) (h0 : P.underlying f0.type = some (.int k0)) (h1 : P.underlying f1.type = some (.int k1)) (n0 : f0.name ≠ "_") (n1 : f1.name ≠ "_") (o0 : f0.offset = 0) (o1 : f1.offset = 1) (p q p' q' : Int) :
  (Op.equal t (.agg #[.int .i64 p, .int .i64 q]) (.agg #[.int .i64 p', .int .i64 q'])).run P w = .ok (decide (p = p') && decide (q = q')) w := by
 have e1 : ∀ d (f : Field) k (a b : Int), P.underlying f.type = some (.int k) → (Op.equalIn (d + 1) f.type (.int .i64 a) (.int .i64 b)).run P w = .ok (decide (a = b)) w := by
  intro d f k a b hf
  simp [Op.equalIn, run_underlying hf]
  rfl
 have h : ∀ d : Nat, (Op.equalIn (d + 2) t (.agg #[.int .i64 p, .int .i64 q]) (.agg #[.int .i64 p', .int .i64 q'])).run P w = .ok (decide (p = p') && decide (q = q')) w := fun d => by
  have a0 := e1 d f0 k0 p p' h0
  have a1 := e1 d f1 k1 q q' h1
  by_cases hp : p = p' <;> by_cases hq : q = q' <;>
  simp [Op.equalIn, run_underlying ht, hst, part, isAgg, run_underlying h0, run_underlying h1, n0, n1, o0, o1, a0, a1, hp, hq] <;> simp_all
 simp [Op.equal, Op.maxDepth, h 9998]
end
end Go.Proofs.YtlmkipckihgehaaGreat
