/- Walks of the program's functions, one after the other (part 13); without conditions of their own. -/
import Derived.Test.YtphbcboejmhaoaaGreatWM10
import Derived.Test.YtphbcboejmhaoaaGreatWM12
import Derived.Test.YtphbcboejmhaoaaGreatWM2
set_option linter.unusedVariables false
set_option linter.unusedSimpArgs false
set_option maxRecDepth 100000
set_option maxHeartbeats 4000000
open Go.RowKit
namespace Go.Proofs.YtphbcboejmhaoaaGreat
section
attribute [local irreducible] X Pure Mod
mutual
def entS : Stm → Nat → Bool
 | .mk k a b n x y, d => decide (k = 8) || entL x d || entL y d
def entL : List Stm → Nat → Bool
 | _, 0 => false
 | [], _ + 1 => false
 | s :: r, d + 1 => entS s d || entL r (d + 1)
end
theorem entL_succ (L : List Stm) (d : Nat) : entL L (d + 1) = L.any (entS · d) := by
 induction L with
 | nil => rfl
 | cons s r ih => simp [entL, ih]
mutual
def no8S : Stm → Prop
 | .mk k a b n x y => k ≠ 8 ∧ no8L x ∧ no8L y
def no8L : List Stm → Prop
 | [] => True
 | s :: r => no8S s ∧ no8L r
end
theorem no8L_iff : ∀ {L : List Stm}, no8L L ↔ ∀ s ∈ L, no8S s
 | [] => by simp [no8L]
 | s :: r => by simp [no8L, no8L_iff (L := r)]
theorem no8L_append {L M : List Stm} : no8L (L ++ M) ↔ no8L L ∧ no8L M := by
 rw [no8L_iff, no8L_iff, no8L_iff]
 constructor
 ·exact fun h => ⟨fun s hs => h s (List.mem_append.2 (.inl hs)), fun s hs => h s (List.mem_append.2 (.inr hs))⟩
 ·rintro ⟨h1, h2⟩ s hs
  rcases List.mem_append.1 hs with hs | hs
  ·exact h1 s hs
  ·exact h2 s hs
theorem dp_mem {L : List Stm} {s : Stm} (h : s ∈ L) : dpS s ≤ dpL L := by
 induction L with
 | nil => cases h
 | cons x r ih =>
  simp only [dpL]
  rcases List.mem_cons.1 h with rfl | h
  ·omega
  ·have := ih h; omega
theorem no8_of : ∀ (d : Nat) (L : List Stm), dpL L ≤ d → entL L d = false → no8L L
 | 0, L, h, _ => by
  cases L with
  | nil => trivial
  | cons s r =>
   have := dp_mem (List.mem_cons_self (a := s) (l := r))
   have := dpS_eq s
   omega
 | d + 1, L, h, he => by
  rw [entL_succ] at he
  refine no8L_iff.2 fun s hs => ?_
  have h1 := dp_mem hs
  have h2 := List.any_eq_false.1 he s hs
  obtain ⟨k, a, b, n, x, y⟩ := s
  simp only [dpS] at h1
  simp only [entS, Bool.not_eq_true, Bool.or_eq_false_iff, decide_eq_false_iff_not] at h2
  exact ⟨h2.1.1, no8_of d x (by omega) h2.1.2, no8_of d y (by omega) h2.2⟩
def N8p (p : Prc) : Prop := p.mode = 0 ∧ p.room = -1 ∧ no8L p.todo
def N8 (W : Wld) : Prop := ∀ p ∈ W.procs, N8p p
theorem N8.upd {W : Wld} (h : N8 W) {who : Nat} {f : Prc → Prc} (hf : ∀ p, W.procs[who]? = some p → N8p (f p)) : N8 (W.upd who f) := by
 intro q hq
 rcases mem_updL' _ _ hq with hq | ⟨x, hx, rfl⟩
 ·exact h q hq
 ·exact hf x hx
theorem N8.of {W V : Wld} (h : N8 W) (e : V.procs = W.procs) : N8 V := by unfold N8; rw [e]; exact h
theorem que_nil' {W : Wld} {B : Nat} (h : Inv W B) (hN : N8 W) (a : Int) : W.que a = [] := by
 have hall : ∀ f ∈ W.q0 ++ W.q1, False := fun f hf => by
  obtain ⟨_, p, hp, hm⟩ := h.qf f hf
  rw [(hN p (List.mem_of_getElem? hp)).1] at hm; cases hm
 unfold Wld.que
 split
 ·cases hq : W.q0 with
  | nil => rfl
  | cons f r => exact (hall f (by simp [hq])).elim
 ·cases hq : W.q1 with
  | nil => rfl
  | cons f r => exact (hall f (by simp [hq])).elim
theorem set_p (p : Prc) (k v : Int) : (p.set k v).mode = p.mode ∧ (p.set k v).room = p.room ∧ (p.set k v).todo = p.todo := by
 unfold Prc.set
 split
 ·exact ⟨J, J, J⟩
 ·split <;> exact ⟨J, J, J⟩
theorem ite_n8 {c : Prop} [Decidable c] {A B : Wld} (h1 : c → N8 A) (h2 : ¬ c → N8 B) : N8 (if c then A else B) := by
 by_cases h : c
 ·rw [if_pos h]; exact h1 h
 ·rw [if_neg h]; exact h2 h
theorem ite_L {c : Prop} [Decidable c] {A B : List Stm} (h1 : no8L A) (h2 : no8L B) : no8L (if c then A else B) := by
 by_cases h : c
 ·rw [if_pos h]; exact h1
 ·rw [if_neg h]; exact h2
theorem N8.step {W : Wld} {B who : Nat} (h : Inv W B) (hN : N8 W) (hw : who < W.procs.length) (hc : codeOf W (who : Nat) = 0) : N8 (W.step who) := by
 have hp : W.procs[who]? = some W.procs[who] := List.getElem?_eq_getElem hw
 have hpm : W.procs[who] ∈ W.procs := List.getElem_mem hw
 generalize W.procs[who] = p at hp hpm
 obtain ⟨hm, hro, h8⟩ := hN p hpm
 obtain ⟨_, hne⟩ := code0 hp hc
 rcases hT : p.todo with _ | ⟨s, r⟩
 ·exact absurd hT (hne (by omega))
 have hsok := h.sok hpm hT
 rw [hT] at h8
 obtain ⟨hs8, hr8⟩ := h8
 rw [step_eq hp (by omega) hT]
 have hpop : N8 (W.upd who pop) := hN.upd fun q hq => by
  rw [hp] at hq; cases hq
  exact ⟨hm, hro, by show no8L p.todo.tail; rw [hT]; exact hr8⟩
 have get : ∀ q, (W.upd who pop).procs[who]? = some q → q = pop p := fun q hq => by
  rw [show (W.upd who pop).procs[who]? = W.procs[who]?.map pop from updL_get _ _, hp] at hq
  simpa using hq.symm
 have pgood : N8p (pop p) := ⟨hm, hro, by show no8L p.todo.tail; rw [hT]; exact hr8⟩
 have hset : ∀ g : Prc → Prc, (∀ q, (g q).mode = q.mode ∧ (g q).room = q.room ∧ (g q).todo = q.todo) → N8 ((W.upd who pop).upd who g) := fun g hg => hpop.upd fun q hq => by
  rw [get q hq]
  obtain ⟨g1, g2, g3⟩ := hg (pop p)
  exact ⟨by rw [g1]; exact pgood.1, by rw [g2]; exact pgood.2.1, by rw [g3]; exact pgood.2.2⟩
 have htd : ∀ (T : List Stm), no8L T → N8 ((W.upd who pop).upd who fun q => { q with todo := T ++ q.todo }) := fun T hTT => hpop.upd fun q hq => by
  rw [get q hq]
  exact ⟨pgood.1, pgood.2.1, no8L_append.2 ⟨hTT, pgood.2.2⟩⟩
 have h8k : s.kind ≠ 8 ∧ no8L s.body ∧ no8L s.els := by
  obtain ⟨k, a, b, n, x, y⟩ := s
  exact hs8
 have h9 : s.kind ≠ 9 := fun e => by
  have := (hsok.r9 e).2
  rw [hro] at this
  rcases this with h | h <;> cases h
 unfold Wld.stepS
 refine ite_n8 (fun _ => hset _ fun q => set_p q _ _) fun _ => ?_;refine ite_n8 (fun _ => hset _ fun q => set_p q _ _) fun _ => ?_;refine ite_n8 (fun _ => hset _ fun q => set_p q _ _) fun _ => ?_;refine ite_n8 (fun _ => hpop.of (setCell_procs ..)) fun _ => ?_;refine ite_n8 (fun _ => hpop.of J) fun _ => ?_;refine ite_n8 (fun _ => htd _ (ite_L h8k.2.2 h8k.2.1)) fun _ => ?_;refine ite_n8 (fun _ => htd _ (ite_L trivial (no8L_append.2 ⟨h8k.2.1, hs8, trivial⟩))) fun _ => ?_
 refine ite_n8 (fun e => absurd e h8k.1) fun _ => ?_;refine ite_n8 (fun e => absurd e h9) fun _ => ?_;refine ite_n8 (fun _ => ?_) fun _ => ?_
 ·have hq : (W.upd who pop).que s.a = [] := que_nil' h hN s.a
  unfold Wld.signal
  rw [hq]; exact hpop
 refine ite_n8 (fun _ => ?_) fun _ => hpop
 refine N8.upd (hpop.of (setRm_procs ..)) fun q hq => ?_
 rw [setRm_procs] at hq
 rw [get q hq]
 exact ⟨pgood.1, J, pgood.2.2⟩
theorem N8_ahead {C : Ck} {W : Wld} {B who : Nat} (h : Inv W B) (hN : N8 W) (hw : who < W.procs.length) : (C.ahead W who).pr = upF C.pr who (C.own who) := by
 have hp : W.procs[who]? = some W.procs[who] := List.getElem?_eq_getElem hw
 have hpm : W.procs[who] ∈ W.procs := List.getElem_mem hw
 rw [ahead_eq hp]
 generalize W.procs[who] = p at hp hpm
 obtain ⟨hm, hro, h8⟩ := hN p hpm
 have hk : fstP p ≠ 8 := by
  unfold fstP
  rw [if_neg (by omega)]
  split
  ·decide
  ·rename_i s r hT
   rw [hT] at h8
   obtain ⟨k, a, b, n, x, y⟩ := s
   exact h8.1.1
 rw [if_neg (by omega), if_neg hk]
 split
 ·rfl
 split
 ·rfl
 split
 ·rw [que_nil' h hN]; rfl
 ·rfl
theorem marks_own (n : Nat) : ∀ (q : List Int) (i B : Nat) (C : Ck) (W : Wld), Inv W B → N8 W → W.procs.length = n → (∀ a k, 0 ≤ C.pr a k) → (∀ a k, a ≠ k → C.pr a k = 0) → ∀ m ∈ marksF n q i C W, m.who < n ∧ m.clock.length = n ∧ 1 ≤ m.clock[m.who]?.getD 0 ∧ ∀ k, k < n → k ≠ m.who → m.clock[k]?.getD 0 = 0 := by
 intro q
 induction q with
 | nil => intro i B C W _ _ _ _ _ m hm; simp [marksF] at hm
 | cons a r ih =>
  intro i B C W hI hN hn h0 hz m hm
  rw [marksF] at hm
  split at hm
  ·rename_i hc
   obtain ⟨k, hk, hkl⟩ := code0_who hc
   subst hk
   rw [Int.toNat_natCast] at hm
   have hpr := N8_ahead (C := C) hI hN hkl
   have hg : ∀ j, (C.ahead W k).pr k j = C.own k j := fun j => by rw [hpr, upF_self]
   have ho : ∀ j, C.own k j = if j = k then C.pr k j + 1 else C.pr k j := fun j => rfl
   have key : ∀ (st : Bool) (ce : Int), (⟨k, i, st, ce, clkL n ((C.ahead W k).pr k)⟩ : Mk).who < n ∧ (clkL n ((C.ahead W k).pr k)).length = n ∧ 1 ≤ (clkL n ((C.ahead W k).pr k))[k]?.getD 0 ∧ ∀ j, j < n → j ≠ k → (clkL n ((C.ahead W k).pr k))[j]?.getD 0 = 0 := by
    intro st ce
    refine ⟨by simp only; omega, clkL_len _ _, ?_, fun j hj hjk => ?_⟩
    ·have e : (clkL n ((C.ahead W k).pr k))[k]?.getD 0 = (C.ahead W k).pr k k := by simp [clkL, show k < n by omega]
     rw [e, hg, ho, if_pos rfl]
     have := h0 k k; omega
    ·have e : (clkL n ((C.ahead W k).pr k))[j]?.getD 0 = (C.ahead W k).pr k j := by simp [clkL, hj]
     rw [e, hg, ho, if_neg hjk]
     exact hz k j (Ne.symm hjk)
   rcases List.mem_append.1 hm with hm | hm
   ·rw [markP_eq (List.getElem?_eq_getElem hkl)] at hm
    split at hm
    ·rw [List.mem_singleton.1 hm]; exact key _ _
    ·split at hm
     ·rw [List.mem_singleton.1 hm]; exact key _ _
     ·cases hm
   ·refine ih (i + 1) (B + 1) _ _ (hI.step hkl hc) (N8.step hI hN hkl hc) (by rw [Wld.step_len]; exact hn) (fun a j => ?_) (fun a j haj => ?_) m hm
    ·rw [hpr]; unfold upF
     split
     ·rw [ho]; have := h0 k j; split <;> omega
     ·exact h0 a j
    ·rw [hpr]; unfold upF
     split
     ·rename_i e; subst e
      rw [ho, if_neg (Ne.symm haj)]; exact hz a j haj
     ·exact hz a j haj
  ·exact ih (i + 1) B C W hI hN hn h0 hz m hm
theorem two_race {p : List (List Stm)} {q : List Int} (hs : ∀ l ∈ p, Sh l) (h8 : ∀ l ∈ p, entL l 3 = false) {a b : Mk} (ha : a ∈ marksL p q) (hb : b ∈ marksL p q) (hne : ¬ (a.who : Int) = (b.who : Int)) : a.ahead b = false := by
 unfold marksL at ha hb
 split at ha
 ·rename_i h
  rw [if_pos h] at hb
  have hI := Inv_open h.1 hs
  have hN : N8 (open0 p) := by
   intro x hx
   simp only [open0, List.mem_map] at hx
   obtain ⟨l, hl, rfl⟩ := hx
   have a1 := (prog_parts h.1).1 l hl
   simp only [stmtsOk, Bool.and_eq_true] at a1
   exact ⟨J, J, no8_of 3 l (dpL_ok 3 l 3 (-1) a1.1 (by omega)) (h8 l hl)⟩
  have hn : (open0 p).procs.length = p.length := by simp [open0]
  obtain ⟨a1, a2, a3, a4⟩ := marks_own p.length q 0 0 Ck.zero (open0 p) hI hN hn (fun _ _ => Int.le_refl _) (fun _ _ _ => rfl) a ha
  obtain ⟨b1, b2, b3, b4⟩ := marks_own p.length q 0 0 Ck.zero (open0 p) hI hN hn (fun _ _ => Int.le_refl _) (fun _ _ _ => rfl) b hb
  rw [ahead_if (by omega) (by omega), if_neg (by omega)]
  have := b4 a.who a1 (by omega)
  exact decide_eq_false (by omega)
 ·cases ha
end
section
attribute [local irreducible] X Pure Mod
def Ent8 (L : List Stm) : Prop := ∀ (d : Nat) (v : Value) (G : PH), Sts G L v → d ≤ 1000 → Pure Tryz.prog 16 [v, .int .i64 (d : Nat)] G fun v' G' => v' = .bool (entL L d) ∧ G' = G
theorem c_wpEnters (L : List Stm) (hb : ∀ k (hk : k < L.length), Ent8 L[k].body ∧ Ent8 L[k].els) : Ent8 L := by
 intro d v G hst hd3
 obtain ⟨A, c, rfl, hl1, _⟩ := id hst
 refine Pure.intro Tryz.func16 Tryz.ntmps16 J J fun w => ?_; refine Va J J ?_;refine S_loop (α := Nat) (fun i => i ≤ L.length ∧ (0 < i → 0 < d) ∧ (L.take i).any (entS · (d - 1)) = false) (fun i => L.length - i) []
  (fun i => [(5, .val (.int .i64 (i : Nat))), (0, .val (.slice A L.length c)), (1, .val (.int .i64 (d : Nat)))]) (fun _ => []) (fun _ => G) 0 ⟨Nat.zero_le _, fun h => absurd h (by simp), by simp⟩ rfl ⟨⟨_, rfl, rfl⟩, ⟨_, rfl, rfl⟩, ⟨_, rfl, rfl⟩, trivial⟩ .nil ?_
 rintro i ⟨hi, hid, hno⟩
 refine Va J J ?_
 refine S_cond J (fun h => ?_) (fun h => ?_) <;> refine Va J J ?_
 ·simp only [Bool.and_eq_true, decide_eq_true_eq] at h
  have hkl : i < L.length := by omega
  obtain ⟨e, rfl⟩ : ∃ e, d = e + 1 := ⟨d - 1, by omega⟩
  simp only [Nat.add_sub_cancel] at hno
  obtain ⟨ad, cs, rfl, hcs, hrep⟩ := Sr_at hst hkl
  obtain ⟨hbx, hby⟩ := hb i hkl
  have hyes : entS L[i] e = true → entL L (e + 1) = true := fun hy => by rw [entL_succ]; exact List.any_eq_true.2 ⟨_, List.getElem_mem hkl, hy⟩
  have hgo : entS L[i] e = false → (L.take (i + 1)).any (entS · (e + 1 - 1)) = false := fun hy => by rw [List.take_succ_eq_append_getElem hkl, List.any_append]; simp [hno, hy]
  generalize L[i] = s at hrep hbx hby hyes hgo
  obtain ⟨q1, q2, q3, q4, q5, q6⟩ := s
  obtain ⟨vx, vy, rfl, i1, i2, i3, i4, hx, hy⟩ := Stm.rep_iff.1 hrep
  simp only [Stm.body, Stm.els] at hbx hby
  obtain ⟨Ax, cx, rfl, hx1, _⟩ := id hx
  obtain ⟨Ay, cy, rfl, hy1, _⟩ := id hy
  refine S_index Tk J J J J J J (by omega) (by omega) ?_;refine Va J J ?_;refine S_load Tk J J J J J (by simpa [add_zero'] using gcells_at hcs 0 _ J) ?_;refine Va J J ?_
  refine S_guardp J J (fun h8 => ?_) (fun h8 => ?_) <;> refine Va J J ?_
  ·exact S_retp (Res.t1 Tryz.results16 J J) XR ⟨by rw [hyes (by simp [entS, *])], J⟩
  refine S_index Tk J J J J J J (by omega) (by omega) ?_;refine Va J J ?_;refine S_load Tk J J J J J (by simpa [add_add'] using gcells_at hcs 4 _ J) ?_;refine Va J J ?_;refine S_subI J J J J (by omega) ?_;refine Va J J ?_
  rw [show (((e + 1 : Nat) : Int) - 1) = ((e : Nat) : Int) by omega]
  refine S_call Tryz.call16 (hbx e _ _ hx (by omega)) J J J ?_;rintro v3 G3 ⟨rfl, rfl⟩ _
  refine Va J J ?_
  refine S_guard J J (fun hA => ?_) (fun hA => ?_) <;> refine Va J J ?_
  ·exact S_retp (Res.t1 Tryz.results16 J J) XR ⟨by rw [hyes (by simp [entS, *])], J⟩
  refine S_index Tk J J J J J J (by omega) (by omega) ?_;refine Va J J ?_;refine S_load Tk J J J J J (by simpa [add_add'] using gcells_at hcs 5 _ J) ?_;refine Va J J ?_;refine S_subI J J J J (by omega) ?_;refine Va J J ?_
  rw [show (((e + 1 : Nat) : Int) - 1) = ((e : Nat) : Int) by omega]
  refine S_call Tryz.call16 (hby e _ _ hy (by omega)) J J J ?_;rintro v4 G4 ⟨rfl, rfl⟩ _
  refine Va J J ?_
  refine S_cond J (fun hB => ?_) (fun hB => ?_) <;> refine Va J J ?_
  ·exact S_retp (Res.t1 Tryz.results16 J J) XR ⟨by rw [hyes (by simp [entS, *])], J⟩
  refine S_add J J J J (by omega) ?_;refine Va J J ?_;exact S_again (i + 1) ⟨by omega, fun _ => by omega, hgo (by simp [entS, *])⟩ (by omega) J ⟨⟨_, J, by simp [denO]⟩, ⟨_, J, J⟩, ⟨_, J, J⟩, trivial⟩ .nil
 ·refine S_retp (Res.t1 Tryz.results16 J J) XR ⟨?_, J⟩
  have h' : ¬ (i < L.length ∧ 0 < d) := by simpa using h
  rcases Nat.eq_zero_or_pos d with rfl | hd
  ·have : entL L 0 = false := by cases L <;> rfl
   rw [this]
  ·obtain ⟨e, rfl⟩ : ∃ e, d = e + 1 := ⟨d - 1, by omega⟩
   have : i = L.length := by omega
   subst this
   rw [List.take_length] at hno
   rw [entL_succ]
   simp only [Nat.add_sub_cancel] at hno
   rw [hno]
mutual
theorem Ent_stm : ∀ (s : Stm), Ent8 s.body ∧ Ent8 s.els
 | .mk k a b n x y => ⟨Ent_all x, Ent_all y⟩
theorem Ent_at : ∀ (L : List Stm) (k : Nat) (hk : k < L.length), Ent8 L[k].body ∧ Ent8 L[k].els
 | [], k, hk => absurd hk (by simp)
 | s :: L, 0, _ => Ent_stm s
 | s :: L, k + 1, hk => Ent_at L k (by simpa using hk)
theorem Ent_all : ∀ (L : List Stm), Ent8 L
 | L => c_wpEnters L fun k hk => Ent_at L k hk
end
theorem c_FnRaceTwo (A : Option Addr) (n c : Nat) (G : PH) (hl : n ≤ 1048576 → ∃ l, Byts G l (.slice A n c) ∧ l.length = n) : Pure Tryz.prog 7 [.slice A n c] G fun v G' => v = .bool true := by
 refine Pure.intro Tryz.func7 Tryz.ntmps7 J J fun w => ?_; refine Va J J ?_
 refine S_condp J (fun h => ?_) (fun h => ?_) <;> refine Va J J ?_
 ·exact S_retp (Res.t1 Tryz.results7 J J) XR J
 obtain ⟨l, hb, hll⟩ := hl (by omega)
 refine S_call Tryz.call9 (c_DrawRacesOf l _ _ hb) J J J ?_;rintro v1 G1 ⟨p, pv, q, qv, rfl, hp, hq, _⟩ hext1
 obtain ⟨Ap, cp, rfl, _⟩ := id hp.1
 obtain ⟨Aq, cq, rfl, _⟩ := id hq
 refine Va J J ?_;refine S_call Tryz.call10 (c_iRacesOf p q _ _ _ hp hq) J J J ?_;rintro v2 G2 hr2 hext2
 obtain ⟨Ar, cr, rfl, _⟩ := id hr2
 refine Va J J ?_;refine S_call Tryz.call11 (c_sRacesOf p q _ _ _ (PrgS_le hext2.le hp) (Ints_le hext2.le hq)) J J J ?_;rintro v3 G3 hr3 hext3
 obtain ⟨Ar3, cr3, rfl, _⟩ := id hr3
 refine Va J J ?_;refine RF J (by simp) ?_
 have hp3 := PrgS_le (hext2.trans hext3).le hp
 have hq3 := Ints_le (hext2.trans hext3).le hq
 have hplen := hp.2.2
 refine Va J J ?_;refine S_loop (α := Nat) (fun i => i ≤ p.length ∧ ∀ l ∈ p.take i, entL l 3 = false) (fun i => p.length - i) []
  (fun i => [(6, .val (.int .i64 (i : Nat))), (3, .val (.slice Ap p.length cp)), (4, .val (.slice Aq q.length cq)), (5, .val (.slice Ar (racesL (marksL p q)).length cr))])
  (fun _ => []) (fun _ => G3) 0 ⟨Nat.zero_le _, by simp⟩ rfl ⟨⟨_, rfl, rfl⟩, ⟨_, rfl, rfl⟩, ⟨_, rfl, rfl⟩, ⟨_, rfl, rfl⟩, trivial⟩ .nil ?_
 rintro i ⟨hi, h8⟩
 refine Va J J ?_
 refine S_condp J (fun h5 => ?_) (fun h5 => ?_) <;> refine Va J J ?_
 ·have hil : i < p.length := by omega
  obtain ⟨ad, lv, rfl, hcell, hlv⟩ := prg_at hp3.1 hil
  obtain ⟨Al, cl, rfl, _⟩ := id hlv
  refine S_index Tk J J J J J J (by omega) (by omega) ?_;refine Va J J ?_;refine S_load Tk J J J J J (by simpa using hcell) ?_;refine Va J J ?_;refine S_call Tryz.call16 (Ent_all _ 3 _ _ hlv (by omega)) J J J ?_;rintro v4 G4 ⟨rfl, rfl⟩ _
  refine Va J J ?_
  refine S_cond J (fun h6 => ?_) (fun h6 => ?_) <;> refine Va J J ?_
  ·exact S_retp (Res.t1 Tryz.results7 J J) ((hext1.trans hext2).trans hext3) J
  ·refine S_add J J J J (by omega) ?_
   refine Va J J ?_;refine S_again (i + 1) ⟨by omega, fun l hl => ?_⟩ (by omega) J ⟨⟨_, J, by simp [denO]⟩, ⟨_, J, J⟩, ⟨_, J, J⟩, ⟨_, J, J⟩, trivial⟩ .nil
   rw [List.take_succ_eq_append_getElem hil] at hl
   rcases List.mem_append.1 hl with hl | hl
   ·exact h8 l hl
   ·rw [List.mem_singleton.1 hl]; exact h6
 obtain rfl : i = p.length := by omega
 rw [List.take_length] at h8
 refine S_call Tryz.call12 (c_iMarksOf p q _ _ _ hp3 hq3) J J J ?_;rintro v4 G4 hm4 hext4
 obtain ⟨Am, cm, rfl, _⟩ := id hm4
 have hml := marksL_len p q
 have htwo := fun a ha b hb => two_race (q := q) hp.2.1 h8 (a := a) (b := b) ha hb
 clear hr2 hr3
 generalize marksL p q = ms at hm4 hml htwo ⊢
 refine Va J J ?_;refine S_loop (α := Nat) (fun i => i ≤ ms.length) (fun i => ms.length - i) []
  (fun i => [(9, .val (.int .i64 (i : Nat))), (8, .val (.int .i64 ((racesTo ms i).length : Nat))), (7, .val (.slice Am ms.length cm)), (5, .val (.slice Ar (racesL ms).length cr))])
  (fun _ => []) (fun _ => G4) 0 (Nat.zero_le _) rfl ⟨⟨_, rfl, rfl⟩, ⟨_, rfl, rfl⟩, ⟨_, rfl, rfl⟩, ⟨_, rfl, rfl⟩, trivial⟩ .nil ?_
 intro i hi
 refine Va J J ?_
 refine S_condp J (fun h5 => ?_) (fun h5 => ?_) <;> refine Va J J ?_
 ·refine S_add J J J J (by omega) ?_
  refine Va J J ?_;refine S_loop (α := Nat) (fun j => i < j ∧ j ≤ ms.length) (fun j => ms.length - j) []
   (fun j => [(10, .val (.int .i64 (j : Nat))), (8, .val (.int .i64 ((racesTo ms i ++ rowTo ms i j).length : Nat))), (7, .val (.slice Am ms.length cm)), (9, .val (.int .i64 (i : Nat))), (5, .val (.slice Ar (racesL ms).length cr))])
   (fun _ => []) (fun _ => G4) (i + 1) ⟨by omega, by omega⟩ rfl ⟨⟨_, rfl, by simp [denO]⟩, ⟨_, rfl, by rw [rowTo_start, List.append_nil]⟩, ⟨_, rfl, rfl⟩, ⟨_, rfl, rfl⟩, ⟨_, rfl, rfl⟩, trivial⟩ .nil ?_
  rintro j ⟨hj1, hj2⟩
  refine Va J J ?_
  refine S_condp J (fun h6 => ?_) (fun h6 => ?_) <;> refine Va J J ?_
  ·have hil : i < ms.length := by omega
   have hjl : j < ms.length := by omega
   have hlen := races_len2 (i := i) (j := j) hi hj2 hml
   obtain ⟨ad, ca, rfl, hca, hma⟩ := mk_at hm4 hil
   obtain ⟨ad', cb, e, hcb, hmb⟩ := mk_at hm4 hjl
   cases e
   have hrc := rcAt_eq hil hjl
   have hah := htwo _ (List.getElem_mem hil) _ (List.getElem_mem hjl)
   generalize ms[i] = a at hma hrc hah
   generalize ms[j] = b at hmb hrc hah
   obtain ⟨Aa, ka, rfl, _⟩ := id hma
   obtain ⟨Ab, kb, rfl, _⟩ := id hmb
   refine Ds J J J ?_;refine Da J J ?_;refine D_val 2 J J J J J J J J J (V_index Tk J J J J (by omega) (by omega)) ?_;refine Da J J ?_;refine D_val 4 J J J J J J J J J (V_load Tk J J J (by simpa [add_zero'] using gcells_at hca 0 _ J)) ?_;refine Da J J ?_;refine D_val 7 J J J J J J J J J (V_index Tk J J J J (by omega) (by omega)) ?_;refine Da J J ?_;refine D_val 9 J J J J J J J J J (V_load Tk J J J (by simpa [add_zero'] using gcells_at hcb 0 _ J)) ?_
   refine Da J J ?_;refine D_split 68 J (fun _ => J) (fun hwh => ?_) (fun hwh => ?_)
   ·have hah' := hah (of_decide_eq_true hwh)
    refine Da J J ?_;refine D_val 14 J J J J J J J J J (V_index Tk J J J J (by omega) (by omega)) ?_;refine Da J J ?_;refine D_val 16 J J J J J J J J J (V_load Tk J J J (by simpa [add_add'] using gcells_at hca 3 _ J)) ?_;refine Da J J ?_;refine D_val 19 J J J J J J J J J (V_index Tk J J J J (by omega) (by omega)) ?_;refine Da J J ?_;refine D_val 21 J J J J J J J J J (V_load Tk J J J (by simpa [add_add'] using gcells_at hcb 3 _ J)) ?_
    refine Da J J ?_;refine D_split 81 J (fun _ => J) (fun hce => ?_) (fun hce => ?_)
    ·refine Da J J ?_
     refine D_val 27 J J J J J J J J J (V_index Tk J J J J (by omega) (by omega)) ?_;refine Da J J ?_;refine D_val 29 J J J J J J J J J (V_load Tk J J J (by simpa [add_add'] using gcells_at hca 2 _ J)) ?_;refine Da J J ?_;refine D_split 87 J (fun _ => J) (fun hsa => ?_) (fun hsa => ?_)
     ·refine Da J J ?_
      refine DD ?_;refine Va J J ?_
      have hrt : rcAt ms i j = true := by rw [hrc, race_eq]; simp_all
      refine S_add J J J J (by omega) ?_;refine Va J J ?_;refine S_add J J J J (by omega) ?_;refine Va J J ?_;exact S_again (j + 1) ⟨by omega, by omega⟩ (by omega) J ⟨⟨_, J, by simp [denO]⟩, ⟨_, J, by simp [denO, go_true hj1 hrt]; omega⟩, ⟨_, rfl, rfl⟩, ⟨_, rfl, rfl⟩, ⟨_, rfl, rfl⟩, trivial⟩ .nil
     ·refine Da J J ?_
      refine D_val 33 J J J J J J J J J (V_index Tk J J J J (by omega) (by omega)) ?_;refine Da J J ?_;refine D_val 35 J J J J J J J J J (V_load Tk J J J (by simpa [add_add'] using gcells_at hcb 2 _ J)) ?_;refine Da J J ?_;refine DD ?_;refine Va J J ?_
      refine S_cond J (fun hsb => ?_) (fun hsb => ?_) <;> refine Va J J ?_
      ·have hrt : rcAt ms i j = true := by rw [hrc, race_eq]; simp_all
       refine S_add J J J J (by omega) ?_;refine Va J J ?_;refine S_add J J J J (by omega) ?_;refine Va J J ?_;exact S_again (j + 1) ⟨by omega, by omega⟩ (by omega) J ⟨⟨_, J, by simp [denO]⟩, ⟨_, J, by simp [denO, go_true hj1 hrt]; omega⟩, ⟨_, rfl, rfl⟩, ⟨_, rfl, rfl⟩, ⟨_, rfl, rfl⟩, trivial⟩ .nil
      ·have hrf : rcAt ms i j = false := by rw [hrc, race_eq]; simp_all
       refine S_add J J J J (by omega) ?_;refine Va J J ?_;exact S_again (j + 1) ⟨by omega, by omega⟩ (by omega) J ⟨⟨_, J, by simp [denO]⟩, ⟨_, J, by rw [go_false hj1 hrf]⟩, ⟨_, J, J⟩, ⟨_, J, J⟩, ⟨_, J, J⟩, trivial⟩ .nil
    ·refine D_takeOff 25 (by decide) J (by decide) J J J J ?_
     refine D_takeOff 26 (by decide) J (by decide) J J J J ?_;refine D_takeOff 27 (by decide) J (by decide) J J J J ?_;refine D_takeOff 28 (by decide) J (by decide) J J J J ?_;refine D_takeOff 29 (by decide) J (by decide) J J J J ?_;refine D_sole 30 J J (N_off 30 J J J J J J J J J J ?_)
     refine Da J J ?_;refine DD ?_;refine Va J J ?_
     have hrf : rcAt ms i j = false := by rw [hrc, race_eq]; simp_all
     refine S_add J J J J (by omega) ?_;refine Va J J ?_;exact S_again (j + 1) ⟨by omega, by omega⟩ (by omega) J ⟨⟨_, J, by simp [denO]⟩, ⟨_, J, by rw [go_false hj1 hrf]⟩, ⟨_, J, J⟩, ⟨_, J, J⟩, ⟨_, J, J⟩, trivial⟩ .nil
   ·refine D_takeOff 12 (by decide) J (by decide) J J J J ?_
    refine D_takeOff 13 (by decide) J (by decide) J J J J ?_;refine D_takeOff 14 (by decide) J (by decide) J J J J ?_;refine D_takeOff 15 (by decide) J (by decide) J J J J ?_;refine D_takeOff 16 (by decide) J (by decide) J J J J ?_;refine D_takeOff 17 (by decide) J (by decide) J J J J ?_;refine D_takeOff 18 (by decide) J (by decide) J J J J ?_;refine D_takeOff 19 (by decide) J (by decide) J J J J ?_
    refine D_takeOff 20 (by decide) J (by decide) J J J J ?_;refine D_takeOff 21 (by decide) J (by decide) J J J J ?_;refine D_takeOff 22 (by decide) J (by decide) J J J J ?_;refine D_sole 23 J J (N_pure Tk 23 J J J J J J J J J J J ?_)
    refine D_sole 24 J J (N_pure Tk 24 J J J J J J J J J J J ?_)
    refine D_takeOff 25 (by decide) J (by decide) J J J J ?_;refine D_takeOff 26 (by decide) J (by decide) J J J J ?_;refine D_takeOff 27 (by decide) J (by decide) J J J J ?_;refine D_takeOff 28 (by decide) J (by decide) J J J J ?_;refine D_takeOff 29 (by decide) J (by decide) J J J J ?_;refine D_sole 30 J J (N_off 30 J J J J J J J J J J ?_)
    refine Da J J ?_;refine DD ?_;refine Va J J ?_
    have hrf : rcAt ms i j = false := by rw [hrc, race_eq]; simp_all
    refine S_add J J J J (by omega) ?_;refine Va J J ?_;exact S_again (j + 1) ⟨by omega, by omega⟩ (by omega) J ⟨⟨_, J, by simp [denO]⟩, ⟨_, J, by rw [go_false hj1 hrf]⟩, ⟨_, J, J⟩, ⟨_, J, J⟩, ⟨_, J, J⟩, trivial⟩ .nil
  ·obtain rfl : j = ms.length := by omega
   refine S_add J J J J (by omega) ?_;refine Va J J ?_;exact S_again (i + 1) (by omega) (by omega) J ⟨⟨_, J, by simp [denO]⟩, ⟨_, J, by rw [racesTo_succ]⟩, ⟨_, J, J⟩, ⟨_, J, J⟩, trivial⟩ .nil
 ·obtain rfl : i = ms.length := by omega
  exact S_retp (Res.t1 Tryz.results7 J J) (((hext1.trans hext2).trans hext3).trans hext4) (by simp [racesL])
end
end Go.Proofs.YtphbcboejmhaoaaGreat
