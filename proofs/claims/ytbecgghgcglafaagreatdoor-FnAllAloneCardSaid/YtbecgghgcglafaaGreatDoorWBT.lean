/- Walks of the program's functions, one after the other (part 13); without conditions of their own. -/
import Derived.Test.YtbecgghgcglafaaGreatDoorWM9
import Derived.Test.YtbecgghgcglafaaGreatDoorWM11
import Derived.Test.YtbecgghgcglafaaGreatDoorWM12
import Derived.Test.YtbecgghgcglafaaGreatDoorWM2
set_option linter.unusedVariables false
set_option linter.unusedSimpArgs false
set_option maxRecDepth 100000
set_option maxHeartbeats 4000000
open Go.RowKit
namespace Go.Proofs.YtbecgghgcglafaaGreatDoor
section
open Go.Lib (itoa decDigits)
attribute [local irreducible] X Pure Mod
def Nb (b : UInt8) : Prop := b = 45 ∨ (48 ≤ b.toNat ∧ b.toNat ≤ 57)
def digV (l : List UInt8) : Nat := l.foldl (fun a b => a * 10 + (b.toNat - 48)) 0
theorem dig_nat {k : Nat} (h : k < 10) : (UInt8.ofNat (48 + k)).toNat = 48 + k := by
 rw [UInt8.toNat_ofNat']
 omega
theorem dec_dig : ∀ (u : Nat), ∀ b ∈ decDigits u, 48 ≤ b.toNat ∧ b.toNat ≤ 57 := by
 intro u
 induction u using Nat.strongRecOn with
 | _ u ih =>
  intro b hb
  rw [decDigits] at hb
  split at hb
  ·rename_i h
   rw [List.mem_singleton.1 hb, dig_nat h]; omega
  ·rcases List.mem_append.1 hb with hb | hb
   ·exact ih (u / 10) (by omega) b hb
   ·rw [List.mem_singleton.1 hb, dig_nat (by omega)]; omega
theorem dec_val : ∀ (u : Nat), digV (decDigits u) = u := by
 intro u
 induction u using Nat.strongRecOn with
 | _ u ih =>
  rw [decDigits]
  split
  ·rename_i h
   simp only [digV, List.foldl_cons, List.foldl_nil, dig_nat h]; omega
  ·have := ih (u / 10) (by omega)
   unfold digV at this ⊢
   rw [List.foldl_append, this]
   simp only [List.foldl_cons, List.foldl_nil, dig_nat (show u % 10 < 10 by omega)]
   omega
theorem dec_ne (u : Nat) : decDigits u ≠ [] := by
 rw [decDigits]
 split <;> simp
theorem itoa_nb (n : Int) : ∀ b ∈ itoa n, Nb b := by
 intro b hb
 unfold itoa at hb
 split at hb
 ·rcases List.mem_cons.1 hb with rfl | hb
  ·exact .inl J
  ·exact .inr (dec_dig _ b hb)
 ·exact .inr (dec_dig _ b hb)
theorem itoa_ne (n : Int) : itoa n ≠ [] := by
 unfold itoa
 split
 ·simp
 ·exact dec_ne _
theorem itoa_inj {a b : Int} (h : itoa a = itoa b) : a = b := by
 have h45 : ∀ {u : Nat} {r : List UInt8}, decDigits u = 45 :: r → False := fun {u r} e => by
  have := dec_dig u 45 (by rw [e]; exact List.mem_cons_self ..)
  have e : (45 : UInt8).toNat = 45 := rfl
  omega
 unfold itoa at h
 split at h <;> split at h
 ·have := congrArg digV (List.cons.inj h).2
  rw [dec_val, dec_val] at this
  omega
 ·exact (h45 h.symm).elim
 ·exact (h45 h).elim
 ·have := congrArg digV h
  rw [dec_val, dec_val] at this
  omega
def Sep (X : List UInt8) : Prop := ∀ b r, X = b :: r → ¬ Nb b
theorem Sep.cons {s : UInt8} {X : List UInt8} (h : ¬ Nb s) : Sep (s :: X) := fun b r e => by cases e; exact h
theorem span_eq : ∀ {u u' X Y : List UInt8}, (∀ b ∈ u, Nb b) → (∀ b ∈ u', Nb b) → Sep X → Sep Y → u ++ X = u' ++ Y → u = u' ∧ X = Y
 | [], [], _, _, _, _, _, _, e => ⟨rfl, e⟩
 | [], b :: u', X, Y, _, h', hX, _, e => absurd (h' b (List.mem_cons_self ..)) (hX b _ e)
 | a :: u, [], X, Y, h, _, _, hY, e => absurd (h a (List.mem_cons_self ..)) (hY a _ e.symm)
 | a :: u, b :: u', X, Y, h, h', hX, hY, e => by
  obtain ⟨rfl, e2⟩ := List.cons.inj e
  obtain ⟨rfl, rfl⟩ := span_eq (fun c hc => h c (List.mem_cons_of_mem _ hc)) (fun c hc => h' c (List.mem_cons_of_mem _ hc)) hX hY e2
  exact ⟨J, J⟩
theorem num_cut {a b : Int} {X Y : List UInt8} (hX : Sep X) (hY : Sep Y) (e : itoa a ++ X = itoa b ++ Y) : a = b ∧ X = Y := by
 obtain ⟨h1, h2⟩ := span_eq (itoa_nb a) (itoa_nb b) hX hY e
 exact ⟨itoa_inj h1, h2⟩
theorem nb10 : ¬ Nb 10 := by rintro (h | ⟨h, _⟩) <;> revert h <;> decide
theorem nb32 : ¬ Nb 32 := by rintro (h | ⟨h, _⟩) <;> revert h <;> decide
theorem nb40 : ¬ Nb 40 := by rintro (h | ⟨h, _⟩) <;> revert h <;> decide
theorem nb41 : ¬ Nb 41 := by rintro (h | ⟨h, _⟩) <;> revert h <;> decide
theorem nb44 : ¬ Nb 44 := by rintro (h | ⟨h, _⟩) <;> revert h <;> decide
def numsT (l : List Int) : List UInt8 := l.flatMap fun n => 32 :: itoa n
theorem numsT_cons (n : Int) (l : List Int) : numsT (n :: l) = 32 :: (itoa n ++ numsT l) := by simp [numsT]
theorem nums_sep (l : List Int) (X : List UInt8) : Sep (numsT l ++ 10 :: X) := by
 cases l with
 | nil => exact Sep.cons nb10
 | cons n l => rw [numsT_cons]; exact Sep.cons nb32
theorem nums_cut : ∀ {l l' : List Int} {X Y : List UInt8}, numsT l ++ 10 :: X = numsT l' ++ 10 :: Y → l = l' ∧ X = Y
 | [], [], X, Y, e => ⟨rfl, (List.cons.inj e).2⟩
 | [], n :: l', X, Y, e => by
  rw [numsT_cons] at e
  have := (List.cons.inj e).1
  exact absurd this (by decide)
 | n :: l, [], X, Y, e => by
  rw [numsT_cons] at e
  have := (List.cons.inj e).1
  exact absurd this (by decide)
 | n :: l, n' :: l', X, Y, e => by
  rw [numsT_cons, numsT_cons, List.cons_append, List.cons_append, List.append_assoc, List.append_assoc] at e
  obtain ⟨rfl, e2⟩ := num_cut (nums_sep _ _) (nums_sep _ _) (List.cons.inj e).2
  obtain ⟨rfl, rfl⟩ := nums_cut e2
  exact ⟨J, J⟩
theorem line_cut {w : List UInt8} {l l' : List Int} {X Y : List UInt8} (e : lineT w l ++ X = lineT w l' ++ Y) : l = l' ∧ X = Y := by
 have h : ∀ (l : List Int) (X : List UInt8), lineT w l ++ X = w ++ (numsT l ++ 10 :: X) := fun l X => by simp [lineT, numsT]
 rw [h, h] at e
 exact nums_cut (List.append_cancel_left e)
theorem todo_head (d : Nat) (L : List Stm) : ∃ r, todoT d L = 40 :: r := by
 cases d with
 | zero => exact ⟨_, rfl⟩
 | succ d => exact ⟨_, by rw [todoT_succ, List.append_assoc]; rfl⟩
theorem todo_sep (d : Nat) (L : List Stm) (X : List UInt8) : Sep (todoT d L ++ X) := by
 obtain ⟨r, e⟩ := todo_head d L
 rw [e]; exact Sep.cons nb40
theorem stmT_eq (d : Nat) (k a b n : Int) (x y : List Stm) (X : List UInt8) : stmT d (.mk k a b n x y) ++ X = itoa k ++ 44 :: (itoa a ++ 44 :: (itoa b ++ 44 :: (itoa n ++ (todoT d x ++ (todoT d y ++ X))))) := by
 simp [stmT, fourT, Stm.kind, Stm.a, Stm.b, Stm.n, Stm.body, Stm.els]
theorem todo_cut : ∀ (d : Nat) {L L' : List Stm} {X Y : List UInt8}, dpL L ≤ d → dpL L' ≤ d → todoT d L ++ X = todoT d L' ++ Y → L = L' ∧ X = Y
 | 0, L, L', X, Y, h, h', e => by
  have hn : ∀ {L : List Stm}, dpL L ≤ 0 → L = [] := fun {L} h => by
   cases L with
   | nil => rfl
   | cons s r =>
    have := dp_memS (List.mem_cons_self (a := s) (l := r))
    have := dpS_eq s
    omega
  rw [hn h, hn h'] at e ⊢
  exact ⟨J, List.append_cancel_left e⟩
 | d + 1, L, L', X, Y, h, h', e => by
  have hex : ∀ (L : List Stm) (X : List UInt8), todoT (d + 1) L ++ X = 40 :: (L.flatMap (stmT d) ++ 41 :: X) := fun L X => by rw [todoT_succ]; simp
  rw [hex, hex] at e
  have main : ∀ {L L' : List Stm} {X Y : List UInt8}, dpL L ≤ d + 1 → dpL L' ≤ d + 1 → L.flatMap (stmT d) ++ 41 :: X = L'.flatMap (stmT d) ++ 41 :: Y → L = L' ∧ X = Y := by
   intro L
   induction L with
   | nil =>
    intro L' X Y _ _ e
    cases L' with
    | nil => exact ⟨rfl, (List.cons.inj e).2⟩
    | cons s r =>
     obtain ⟨k, a, b, n, x, y⟩ := s
     rw [List.flatMap_cons, List.append_assoc, stmT_eq] at e
     cases hk : itoa k with
     | nil => exact absurd hk (itoa_ne k)
     | cons c cr =>
      rw [hk] at e
      have := (List.cons.inj e).1
      exact absurd (itoa_nb k 41 (by rw [hk, ← this]; exact List.mem_cons_self ..)) nb41
   | cons s r ih =>
    intro L' X Y hL hL' e
    obtain ⟨k, a, b, n, x, y⟩ := s
    cases L' with
    | nil =>
     rw [List.flatMap_cons, List.append_assoc, stmT_eq] at e
     cases hk : itoa k with
     | nil => exact absurd hk (itoa_ne k)
     | cons c cr =>
      rw [hk] at e
      have := (List.cons.inj e).1
      exact absurd (itoa_nb k 41 (by rw [hk, this]; exact List.mem_cons_self ..)) nb41
    | cons s' r' =>
     obtain ⟨k', a', b', n', x', y'⟩ := s'
     rw [List.flatMap_cons, List.flatMap_cons, List.append_assoc, List.append_assoc, stmT_eq, stmT_eq] at e
     simp only [dpL, dpS] at hL hL'
     obtain ⟨rfl, e1⟩ := num_cut (Sep.cons nb44) (Sep.cons nb44) e
     obtain ⟨rfl, e2⟩ := num_cut (Sep.cons nb44) (Sep.cons nb44) (List.cons.inj e1).2
     obtain ⟨rfl, e3⟩ := num_cut (Sep.cons nb44) (Sep.cons nb44) (List.cons.inj e2).2
     obtain ⟨rfl, e4⟩ := num_cut (todo_sep _ _ _) (todo_sep _ _ _) (List.cons.inj e3).2
     obtain ⟨rfl, e5⟩ := todo_cut d (by omega) (by omega) e4
     obtain ⟨rfl, e6⟩ := todo_cut d (by omega) (by omega) e5
     obtain ⟨rfl, rfl⟩ := ih (by omega) (by omega) e6
     exact ⟨J, J⟩
  exact main h h' (List.cons.inj e).2
theorem proc_cut {p q : Prc} {X Y : List UInt8} (hp : dpL p.todo ≤ 3) (hq : dpL q.todo ≤ 3) (e : procT p ++ X = procT q ++ Y) : p = q ∧ X = Y := by
 have h : ∀ (p : Prc) (X : List UInt8), procT p ++ X = lineT wProc [p.mode, p.on, p.room] ++ (lineT wRegs [p.r0, p.r1, p.r2] ++ (todoT 6 p.todo ++ 10 :: X)) := fun p X => by simp [procT]
 rw [h, h] at e
 obtain ⟨e1, f1⟩ := line_cut e
 obtain ⟨e2, f2⟩ := line_cut f1
 obtain ⟨e3, f3⟩ := todo_cut 6 (by omega) (by omega) f2
 obtain ⟨a0, a1, a2, td, mo, on, ro⟩ := p
 obtain ⟨b0, b1, b2, td', mo', on', ro'⟩ := q
 simp only [List.cons.injEq, and_true] at e1 e2 e3
 obtain ⟨rfl, rfl, rfl⟩ := e1
 obtain ⟨rfl, rfl, rfl⟩ := e2
 subst e3
 exact ⟨J, (List.cons.inj f3).2⟩
theorem procs_cut : ∀ {P Q : List Prc} {X Y : List UInt8}, P.length = Q.length → (∀ p ∈ P, dpL p.todo ≤ 3) → (∀ p ∈ Q, dpL p.todo ≤ 3) → P.flatMap procT ++ X = Q.flatMap procT ++ Y → P = Q ∧ X = Y
 | [], [], X, Y, _, _, _, e => ⟨rfl, e⟩
 | [], q :: Q, X, Y, hl, _, _, _ => by simp at hl
 | p :: P, [], X, Y, hl, _, _, _ => by simp at hl
 | p :: P, q :: Q, X, Y, hl, h, h', e => by
  rw [List.flatMap_cons, List.flatMap_cons, List.append_assoc, List.append_assoc] at e
  obtain ⟨rfl, e1⟩ := proc_cut (h p (List.mem_cons_self ..)) (h' q (List.mem_cons_self ..)) e
  obtain ⟨rfl, rfl⟩ := procs_cut (by simpa using hl) (fun x hx => h x (List.mem_cons_of_mem _ hx)) (fun x hx => h' x (List.mem_cons_of_mem _ hx)) e1
  exact ⟨J, J⟩
theorem said_cut : ∀ {l l' : List (Int × Int)}, l.flatMap saidT = l'.flatMap saidT → l = l'
 | [], [], _ => rfl
 | [], s :: l', e => by simp [saidT, lineT] at e
 | s :: l, [], e => by simp [saidT, lineT] at e
 | s :: l, s' :: l', e => by
  rw [List.flatMap_cons, List.flatMap_cons] at e
  obtain ⟨e1, e2⟩ := line_cut e
  obtain ⟨a, b⟩ := s
  obtain ⟨a', b'⟩ := s'
  simp only [List.cons.injEq, and_true] at e1
  obtain ⟨rfl, rfl⟩ := e1
  rw [said_cut e2]
theorem wText_inj {V W : Wld} (hn : V.procs.length = W.procs.length) (hV : Shl V) (hW : Shl W) (e : wText V = wText W) : V = W := by
 have h : ∀ (W : Wld), wText W = W.procs.flatMap procT ++ (lineT wCells [W.c0, W.c1, W.c2] ++ (lineT wRooms [W.m0, W.m1] ++ (lineT wSign W.q0 ++ (lineT wSign W.q1 ++ W.said.flatMap saidT)))) := fun W => by simp [wText]
 rw [h, h] at e
 obtain ⟨e0, e⟩ := procs_cut hn hV hW e
 obtain ⟨e1, e⟩ := line_cut e
 obtain ⟨e2, e⟩ := line_cut e
 obtain ⟨e3, e⟩ := line_cut e
 obtain ⟨e4, e⟩ := line_cut e
 have e5 := said_cut e
 obtain ⟨ps, w1, w2, w3, w4, w5, w6, w7, w8⟩ := V
 obtain ⟨ps', v1, v2, v3, v4, v5, v6, v7, v8⟩ := W
 simp only [List.cons.injEq, and_true] at e0 e1 e2 e3 e4 e5
 obtain ⟨rfl, rfl, rfl⟩ := e1
 obtain ⟨rfl, rfl⟩ := e2
 subst e0 e3 e4 e5
 rfl
end
section
attribute [local irreducible] X Pure Mod
theorem ends_one : ∀ {Ws : List Wld}, (∀ (j : Nat) W, j + 1 < Ws.length → Ws[j]? = some W → finalW W = false) → (endsW Ws).length ≤ 1
 | [], _ => by simp [endsW]
 | [x], _ => Nat.le_trans (List.length_filter_le ..) (by simp)
 | x :: y :: r, h => by
  have hx := h 0 x (by simp) rfl
  have ih := ends_one (Ws := y :: r) fun j W hj hW => h (j + 1) W (by simp at hj ⊢; omega) hW
  unfold endsW at ih ⊢
  rw [List.filter_cons_of_neg (by simp [hx])]
  exact ih
theorem addW_lenA (Ws : List Wld) (W : Wld) : (addW Ws W).length ≤ Ws.length + 1 := by unfold addW; split <;> simp
theorem alone_inv : ∀ (f k : Nat) (Ws Ws' : List Wld), (∀ W ∈ Ws, W.procs.length = 1) → Ws.length ≤ k + 1 → (∀ (j : Nat) W, j + 1 < Ws.length → Ws[j]? = some W → finalW W = false) → allF f k Ws = some Ws' → (endsW Ws').length ≤ 1
 | 0, _, _, _, _, _, _, e => by cases e
 | f + 1, k, Ws, Ws', h1, hl, hf, e => by
  rw [allF] at e
  split at e
  ·cases e; exact ends_one hf
  ·rename_i W hW
   have hk := (List.getElem?_eq_some_iff.1 hW).1
   have hWm := List.mem_of_getElem? hW
   rw [h1 W hWm] at e
   have hr : List.range 1 = [0] := rfl
   rw [hr] at e
   split at e
   ·cases e
   ·rename_i Ws2 h2
    rw [roundW] at h2
    split at h2
    ·rename_i hc
     split at h2
     ·cases h2
     ·rw [roundW] at h2
      cases h2
      have hfW : finalW W = false := by
       unfold finalW
       rw [List.all_eq_false]
       exact ⟨0, by rw [h1 W hWm]; simp, by simpa using hc⟩
      have hn1 : (W.step 0).procs.length = 1 := by rw [Wld.step_len]; exact h1 W hWm
      refine alone_inv f (k + 1) _ Ws' ?_ ?_ ?_ e
      ·intro V hV
       unfold addW at hV
       split at hV
       ·exact h1 V hV
       ·rcases List.mem_append.1 hV with hV | hV
        ·exact h1 V hV
        ·rw [List.mem_singleton.1 hV]; exact hn1
      ·have := addW_lenA Ws (W.step 0)
       omega
      ·intro j V hj hV
       unfold addW at hj hV
       split at hj
       ·rename_i hh
        rw [if_pos hh] at hV
        exact hf j V hj hV
       ·rename_i hh
        rw [if_neg hh] at hV
        simp only [List.length_append, List.length_singleton] at hj
        rw [List.getElem?_append_left (by omega)] at hV
        by_cases hjk : j = k
        ·subst hjk
         rw [hW] at hV
         cases hV
         exact hfW
        ·exact hf j V (by omega) hV
    ·rw [roundW] at h2
     cases h2
     exact alone_inv f (k + 1) _ Ws' h1 (by omega) hf e
theorem all_alone {p : List (List Stm)} {Ws : List Wld} (hp : p.length = 1) (h : allW p = some Ws) : (endsW Ws).length ≤ 1 :=
 alone_inv 122 0 _ _ (fun W hW => by rw [List.mem_singleton.1 hW]; simpa [open0] using hp) (by simp) (fun j W hj => by simp at hj) h
def idle : Prc := proc0 []
def Wld.ext (W : Wld) : Wld := { W with procs := W.procs ++ [idle] }
theorem updL_ext {f : Prc → Prc} {z : Prc} : ∀ {ps : List Prc} {i : Nat}, i < ps.length → updL f i (ps ++ [z]) = updL f i ps ++ [z]
 | p :: ps, 0, _ => rfl
 | p :: ps, i + 1, h => by
  simp only [List.cons_append, updL]
  rw [updL_ext (by simpa using h)]
theorem upd_ext (W : Wld) {who : Nat} (h : who < W.procs.length) (f : Prc → Prc) : W.ext.upd who f = (W.upd who f).ext := by
 unfold Wld.upd Wld.ext
 simp only [updL_ext h]
theorem setRm_ext (W : Wld) (a v : Int) : W.ext.setRm a v = (W.setRm a v).ext := by unfold Wld.setRm; split <;> rfl
theorem setQue_ext (W : Wld) (a : Int) (q : List Int) : W.ext.setQue a q = (W.setQue a q).ext := by unfold Wld.setQue; split <;> rfl
theorem setCell_ext (W : Wld) (a v : Int) : W.ext.setCell a v = (W.setCell a v).ext := by
 unfold Wld.setCell
 split
 ·rfl
 split <;> rfl
theorem ext_at (W : Wld) {who : Nat} (h : who < W.procs.length) : W.ext.procs[who]? = W.procs[who]? := List.getElem?_append_left h
theorem reg_ext (W : Wld) {who : Nat} (h : who < W.procs.length) (k : Int) : W.ext.reg who k = W.reg who k := by unfold Wld.reg; rw [ext_at W h]
theorem room_ext (W : Wld) {who : Nat} (h : who < W.procs.length) : W.ext.room who = W.room who := by unfold Wld.room; rw [ext_at W h]
theorem ite_ext {c : Prop} [Decidable c] {A B A' B' : Wld} (h1 : A = A'.ext) (h2 : B = B'.ext) : (if c then A else B) = (if c then A' else B').ext := by
 split
 ·exact h1
 ·exact h2
theorem setRm_len (W : Wld) (a v : Int) : (W.setRm a v).procs = W.procs := by unfold Wld.setRm; split <;> rfl
theorem stepS_ext (W : Wld) {who : Nat} (h : who < W.procs.length) (hq : ∀ f ∈ W.q0 ++ W.q1, f.toNat < W.procs.length) (s : Stm) : W.ext.stepS who s = (W.stepS who s).ext := by
 unfold Wld.stepS
 simp only [reg_ext W h, room_ext W h]
 refine ite_ext (upd_ext W h _) (ite_ext (upd_ext W h _) (ite_ext (upd_ext W h _) (ite_ext (setCell_ext W _ _) (ite_ext J (ite_ext (upd_ext W h _) (ite_ext (upd_ext W h _) (ite_ext ?_ (ite_ext ?_ (ite_ext ?_ (ite_ext ?_ J))))))))))
 ·rw [setRm_ext, upd_ext _ (by rw [setRm_len]; exact h)]
 ·rw [setRm_ext, upd_ext _ (by rw [setRm_len]; exact h), setQue_ext]
  rfl
 ·unfold Wld.signal
  have e : W.ext.que s.a = W.que s.a := rfl
  rw [e]
  cases hh : W.que s.a with
  | nil => rfl
  | cons f r =>
   have hf : f.toNat < W.procs.length := hq f (by
    unfold Wld.que at hh
    split at hh
    ·rw [hh]; simp
    ·rw [hh]; simp)
   simp only
   rw [upd_ext W hf, setQue_ext]
 ·rw [setRm_ext, upd_ext _ (by rw [setRm_len]; exact h)]
theorem step_ext {W : Wld} {B who : Nat} (hI : Inv W B) (h : who < W.procs.length) : W.ext.step who = (W.step who).ext := by
 have hq : ∀ f ∈ W.q0 ++ W.q1, f.toNat < W.procs.length := fun f hf => by
  obtain ⟨_, p, hp, _⟩ := hI.qf f hf
  exact (List.getElem?_eq_some_iff.1 hp).1
 unfold Wld.step
 rw [ext_at W h, List.getElem?_eq_getElem h]
 simp only
 split
 ·rw [setRm_ext, upd_ext _ (by rw [setRm_len]; exact h)]
 ·split
  ·rfl
  ·rw [upd_ext W h]
   exact stepS_ext (W.upd who pop) (by show who < (updL _ _ _).length; rw [length_updL]; exact h) (fun f hf => by show f.toNat < (updL _ _ _).length; rw [length_updL]; exact hq f hf) _
theorem code_ext (W : Wld) {who : Nat} (h : who < W.procs.length) : codeOf W.ext (who : Nat) = codeOf W (who : Nat) := by
 have e := List.getElem?_eq_getElem h
 rw [codeOf_at e, codeOf_at ((ext_at W h).trans e)]
 rfl
theorem code_idle (W : Wld) : codeOf W.ext (W.procs.length : Nat) = 1 := by
 have e : W.ext.procs[W.procs.length]? = some idle := by
  show (W.procs ++ [idle])[W.procs.length]? = _
  rw [List.getElem?_append_right (Nat.le_refl _)]; simp
 rw [codeOf_at e]
 rfl
theorem ext_inj {V W : Wld} (h : V.ext = W.ext) : V = W := by
 obtain ⟨ps, w1, w2, w3, w4, w5, w6, w7, w8⟩ := V
 obtain ⟨ps', v1, v2, v3, v4, v5, v6, v7, v8⟩ := W
 simp only [Wld.ext, Wld.mk.injEq] at h
 obtain ⟨h0, rfl, rfl, rfl, rfl, rfl, rfl, rfl, rfl⟩ := h
 rw [List.append_cancel_right h0]
theorem Shl_ext {W : Wld} (h : Shl W) : Shl W.ext := by
 intro q hq
 rcases List.mem_append.1 hq with hq | hq
 ·exact h q hq
 ·rw [List.mem_singleton.1 hq]; simp [idle, proc0, dpL]
def Pw (n : Nat) (Ws : List Wld) : Prop := ∀ V ∈ Ws, (∃ B, Wok V B) ∧ V.procs.length = n
theorem has_ext {n : Nat} {Ws : List Wld} {W : Wld} (h : Pw n Ws) (hW : (∃ B, Wok W B) ∧ W.procs.length = n) : hasW (Ws.map Wld.ext) W.ext = hasW Ws W := by
 unfold hasW
 rw [List.any_map]
 have : ∀ V ∈ Ws, decide (wText V.ext = wText W.ext) = decide (wText V = wText W) := fun V hV => by
  obtain ⟨⟨B, hB⟩, hn⟩ := h V hV
  obtain ⟨⟨B', hB'⟩, hn'⟩ := hW
  have : wText V.ext = wText W.ext ↔ wText V = wText W := by
   constructor
   ·intro e
    rw [ext_inj (wText_inj (by simp [Wld.ext, hn, hn']) (Shl_ext hB.shl) (Shl_ext hB'.shl) e)]
   ·intro e
    rw [wText_inj (by rw [hn, hn']) hB.shl hB'.shl e]
  by_cases hc : wText V = wText W
  ·rw [decide_eq_true hc, decide_eq_true (this.2 hc)]
  ·rw [decide_eq_false hc, decide_eq_false (fun e => hc (this.1 e))]
 clear h
 induction Ws with
 | nil => rfl
 | cons V r ih =>
  rw [List.any_cons, List.any_cons, ih fun V hV => this V (List.mem_cons_of_mem _ hV)]
  congr 1
  exact this V (List.mem_cons_self ..)
theorem add_ext {n : Nat} {Ws : List Wld} {W : Wld} (h : Pw n Ws) (hW : (∃ B, Wok W B) ∧ W.procs.length = n) : addW (Ws.map Wld.ext) W.ext = (addW Ws W).map Wld.ext := by
 unfold addW
 rw [has_ext h hW]
 split
 ·rfl
 ·simp
theorem Pw.add {n : Nat} {Ws : List Wld} {W : Wld} (h : Pw n Ws) (hW : (∃ B, Wok W B) ∧ W.procs.length = n) : Pw n (addW Ws W) := by
 intro V hV
 unfold addW at hV
 split at hV
 ·exact h V hV
 ·rcases List.mem_append.1 hV with hV | hV
  ·exact h V hV
  ·rw [List.mem_singleton.1 hV]; exact hW
theorem round_ext {n : Nat} {W : Wld} (hW : (∃ B, Wok W B) ∧ W.procs.length = n) : ∀ (l : List Nat) (Ws : List Wld), (∀ w ∈ l, w < n) → Pw n Ws → roundW W.ext l (Ws.map Wld.ext) = (roundW W l Ws).map (List.map Wld.ext) ∧ ∀ Ws', roundW W l Ws = some Ws' → Pw n Ws'
 | [], Ws, _, h => ⟨rfl, fun Ws' e => by cases e; exact h⟩
 | who :: r, Ws, hl, h => by
  have hw : who < W.procs.length := by rw [hW.2]; exact hl who (List.mem_cons_self ..)
  have hr : ∀ w ∈ r, w < n := fun w hw => hl w (List.mem_cons_of_mem _ hw)
  obtain ⟨⟨B, hB⟩, hn⟩ := id hW
  rw [roundW, roundW, code_ext W hw, step_ext hB.inv hw]
  by_cases hc : codeOf W (who : Nat) = 0
  ·have hS : (∃ B, Wok (W.step who) B) ∧ (W.step who).procs.length = n := ⟨⟨_, hB.step hw hc⟩, by rw [Wld.step_len]; exact hn⟩
   rw [if_pos hc, if_pos hc, add_ext h hS, List.length_map]
   by_cases h120 : 120 < (addW Ws (W.step who)).length
   ·rw [if_pos h120, if_pos h120]
    exact ⟨rfl, fun Ws' e => by cases e⟩
   ·rw [if_neg h120, if_neg h120]
    exact round_ext hW r _ hr (h.add hS)
  ·rw [if_neg hc, if_neg hc]
   exact round_ext hW r _ hr h
theorem round_last {W : Wld} (l : List Nat) (m : Nat) (hm : ¬ codeOf W (m : Nat) = 0) : ∀ Ws, roundW W (l ++ [m]) Ws = roundW W l Ws := by
 induction l with
 | nil => intro Ws; show roundW W [m] Ws = roundW W [] Ws; simp only [roundW, if_neg hm]
 | cons a l ih =>
  intro Ws
  rw [List.cons_append, roundW, roundW]
  simp only [ih]
theorem allF_ext {n : Nat} : ∀ (f k : Nat) (Ws : List Wld), Pw n Ws → allF f k (Ws.map Wld.ext) = (allF f k Ws).map (List.map Wld.ext)
 | 0, _, _, _ => rfl
 | f + 1, k, Ws, h => by
  rw [allF, allF, List.getElem?_map]
  cases hW : Ws[k]? with
  | none => rfl
  | some W =>
   have hWm := h W (List.mem_of_getElem? hW)
   simp only [Option.map_some]
   have hlen : W.ext.procs.length = W.procs.length + 1 := by simp [Wld.ext]
   rw [hlen, List.range_succ, round_last _ _ (by rw [code_idle]; decide)]
   obtain ⟨e1, e2⟩ := round_ext hWm (List.range W.procs.length) Ws (fun w hw => by rw [← hWm.2]; exact List.mem_range.1 hw) h
   rw [e1]
   cases hr : roundW W (List.range W.procs.length) Ws with
   | none => rfl
   | some Ws' =>
    simp only [Option.map_some]
    exact allF_ext f (k + 1) Ws' (e2 Ws' hr)
theorem final_ext (W : Wld) : finalW W.ext = finalW W := by
 unfold finalW
 have hlen : W.ext.procs.length = W.procs.length + 1 := by simp [Wld.ext]
 rw [hlen, List.range_succ, List.all_append]
 have h1 : ([W.procs.length].all fun who => !decide (codeOf W.ext (who : Nat) = 0)) = true := by simp [code_idle]
 rw [h1, Bool.and_true]
 have aux : ∀ (l : List Nat), (∀ w ∈ l, w < W.procs.length) → (l.all fun who => !decide (codeOf W.ext (who : Nat) = 0)) = (l.all fun who => !decide (codeOf W (who : Nat) = 0)) := by
  intro l
  induction l with
  | nil => intro _; rfl
  | cons a l ih =>
   intro h
   rw [List.all_cons, List.all_cons, ih fun w hw => h w (List.mem_cons_of_mem _ hw), code_ext W (h a (List.mem_cons_self ..))]
 exact aux _ fun w hw => List.mem_range.1 hw
theorem ends_ext (Ws : List Wld) : endsW (Ws.map Wld.ext) = (endsW Ws).map Wld.ext := by
 unfold endsW
 rw [List.filter_map]
 congr 1
 exact List.filter_congr fun W _ => final_ext W
theorem open_ext (p : List (List Stm)) : open0 (p ++ [[]]) = (open0 p).ext := by simp [open0, Wld.ext, idle]
theorem allW_ext {p : List (List Stm)} (hp : progOk p = true) (hs : ∀ l ∈ p, Sh l) (hi : ∀ l ∈ p, iL l) : allW (p ++ [[]]) = (allW p).map (List.map Wld.ext) := by
 unfold allW
 rw [open_ext]
 have h0 := open_ok hp hs hi
 exact allF_ext (n := p.length) 122 0 [open0 p] fun V hV => by
  rw [List.mem_singleton.1 hV]
  exact ⟨⟨0, (h0.ok 0 _ J).1⟩, (h0.ok 0 _ J).2⟩
theorem progOk_ext {p : List (List Stm)} (hp : progOk p = true) (hl : p.length < 3) : progOk (p ++ [[]]) = true := by
 obtain ⟨h1, h2, h3⟩ := prog_parts hp
 unfold progOk
 simp only [List.length_append, List.length_singleton, List.all_append, Bool.and_eq_true, decide_eq_true_eq]
 have h0 : stmtsOk [] = true := by decide
 exact ⟨⟨⟨List.all_eq_true.2 fun l hl => h1 l hl, by simp [h0]⟩, by omega⟩, by omega⟩
end
section
attribute [local irreducible] X Pure Mod
theorem g_boolA : Tryz.prog.eqGuardType Tryz.prog.depth 4 = false := by kernel_rfl
theorem u_boolA : Tryz.prog.underlying 4 = some .bool := by kernel_rfl
theorem endsP_one {p : List (List Stm)} (hp : p.length ≤ 1) : ((endsP p).getD []).length ≤ 1 := by
 unfold endsP
 split
 ·rename_i hpo
  cases h : allW p with
  | none => simp
  | some Ws =>
   have := (prog_parts hpo).2
   exact all_alone (by omega) h
 ·simp
theorem endsP_ext {p : List (List Stm)} {G : PH} {pv : Value} (hp : PrgS G p pv) (hl : p.length < 3) (hs : (endsP p).isSome = true) : (endsP (p ++ [[]])).isSome = true ∧ ((endsP (p ++ [[]])).getD []).length = ((endsP p).getD []).length := by
 unfold endsP at hs ⊢
 split at hs
 ·rename_i hpo
  rw [if_pos hpo, if_pos (progOk_ext hpo hl), allW_ext hpo hp.2.1 (prg_iL hp.1)]
  cases h : allW p with
  | none => rw [h] at hs; cases hs
  | some Ws => simp [ends_ext]
 ·cases hs
theorem Prg_take1 {G : PH} {p : List (List Stm)} {A : Option Addr} {n c : Nat} (h : Prg G p (.slice A n c)) (hm : 1 ≤ n) : Prg G (p.take 1) (.slice (A.map (·.add 0)) 1 c) := by
 obtain ⟨A', c', e, h1, h2, h3, h4⟩ := h
 cases e
 refine ⟨_, _, by rw [List.length_take, Nat.min_eq_left (by omega)], by rw [List.length_take]; omega, by rw [List.length_take]; omega, h3, ?_⟩
 rcases h4 with h4 | ⟨ad, rfl, hr⟩
 ·omega
 ·exact .inr ⟨ad, by simp [add_zero'], Rw_takeW 1 hr⟩
theorem Sr_nil0 {α : Type} {G : PH} {sz : Nat} {rep : α → List Value → Prop} {A : Option Addr} : Sr G sz rep [] (.slice A 0 0) := ⟨A, 0, rfl, by simp, by simp, by simp [maxLen], .inl rfl⟩
theorem c_FnAllAlone (A : Option Addr) (n c : Nat) (G : PH) (hTab : TabG G) (hl : n ≤ 1048576 → ∃ l, Byts G l (.slice A n c) ∧ l.length = n) : Pure Tryz.prog 5 [.slice A n c] G fun v G' => v = .bool true := by
 refine Pure.intro Tryz.func5 Tryz.ntmps5 J J fun w => ?_; refine Va J J ?_
 refine S_condp J (fun h => ?_) (fun h => ?_) <;> refine Va J J ?_
 ·exact S_retp (Res.t1 Tryz.results5 J J) XR J
 obtain ⟨l, hb, hll⟩ := hl (by omega)
 refine S_call Tryz.call11 (c_DrawAllEnds l _ _ hb) J J J ?_;rintro v1 G1 ⟨p, hp⟩ hext1
 obtain ⟨Ap, cp, rfl, hpn⟩ := id hp.1
 have hTab1 := TabG_le hext1.le hTab
 refine Va J J ?_;refine S_call Tryz.call10 (c_iAllEnds p _ _ hp hTab1) J J J ?_;rintro v2 G2 ⟨lv2, rfl, hlv2⟩ hext2
 have hp2 := PrgS_le hext2.le hp
 have hsome := @endsP_ext p G1 _ hp
 have hpok : (endsP p).isSome = true → 1 ≤ p.length ∧ p.length ≤ 3 := fun h => by
  unfold endsP at h
  split at h
  ·rename_i hpo; exact (prog_parts hpo).2
  ·cases h
 have hlenE := endsP_len hp
 have hsE := c_sAllEnds p _ G2 hp2
 generalize hbk : (endsP p).isSome = bk at hsome hpok hsE ⊢
 generalize hEs : (endsP p).getD [] = Es at hlv2 hsome hlenE hsE
 obtain ⟨Ae, ce, rfl, _⟩ := id hlv2
 refine Va J J ?_;refine S_call Tryz.call12 hsE J J J ?_;rintro v3 G3 ⟨lv3, rfl, hlv3⟩ hext3
 have hp3 := PrgS_le hext3.le hp2
 have hTab3 := TabG_le (hext2.trans hext3).le hTab1
 obtain ⟨Ae3, ce3, rfl, _⟩ := id hlv3
 refine Va J J ?_;refine S_valV J J J (V_neqB g_boolA u_boolA J J) ?_;refine Va J J ?_
 cases bk
 ·refine RT J (by simp) ?_
  refine Va J J ?_;refine S_valV J J J (V_eqB g_boolA u_boolA J J) ?_;refine Va J J ?_;exact S_retp (Res.t1 Tryz.results5 J J) ((hext1.trans hext2).trans hext3) (by simp)
 refine RF J (by simp) ?_;refine Va J J ?_;obtain ⟨hp1, hp33⟩ := hpok rfl
 have hptl : (p.take 1).length = 1 := by rw [List.length_take]; omega
 refine S_valV J J J (V_sliceHi (m := 1) Tk J J J (by omega) (by omega) (by omega)) ?_;refine Va J J ?_
 have hpt : PrgS G3 (p.take 1) (.slice (Ap.map (·.add 0)) 1 cp) := ⟨Prg_take1 hp3.1 hp1, fun q hq => hp3.2.1 q (List.mem_of_mem_take hq), by omega⟩
 have ho1 := endsP_one (p := p.take 1) (by omega)
 refine S_call Tryz.call10 (c_iAllEnds (p.take 1) _ _ hpt hTab3) J J J ?_;rintro v4 G4 ⟨lv4, rfl, hlv4⟩ hext4
 have hp4 := PrgS_le hext4.le hp3
 have hTab4 := TabG_le hext4.le hTab3
 generalize (endsP (p.take 1)).getD [] = E1 at ho1 hlv4
 generalize (endsP (p.take 1)).isSome = b1 at ⊢
 obtain ⟨Ae4, ce4, rfl, _⟩ := id hlv4
 have hextA := ((hext1.trans hext2).trans hext3).trans hext4
 refine Va J J ?_;refine RF J (by simp; omega) ?_;refine Va J J ?_
 by_cases h3 : p.length = 3
 ·refine RT J (by simp; omega) ?_
  refine Va J J ?_;exact S_retp (Res.t1 Tryz.results5 J J) hextA J
 refine RF J (by simp; omega) ?_;refine Va J J ?_;obtain ⟨hs1, hs2⟩ := hsome (by omega) rfl
 obtain ⟨xs, hxs, hcs⟩ := Sr_Sx (rep := stsRep G4) (sz := 1) (fun l cs h => by obtain ⟨v, rfl, _⟩ := h; rfl) hp4.1
 obtain ⟨Ax, cx, ex, hx1, hx2, hx3, hxl, hxr⟩ := hxs
 cases ex
 refine S_emptyO Tk 5 J J J J fun A0 => ?_;refine Va J J ?_;refine S_appO Tk 5 J J J J J J J J J J J (fun _ _ => J) (src_G hxl (by
  rcases hxr with h | ⟨a', h, h2⟩
  ·exact .inl h
  ·exact .inr ⟨a', h, h2⟩)) (Cs_one stsRep_one hcs) (by simp only; omega) (by simp only [maxLen]; omega) (Nat.le_refl _) fun A5 c5 => ?_
 refine Va J J ?_;refine S_emptyO Tk 7 J J J J fun A7 => ?_;refine Va J J ?_;refine S_slice Tk ZT_ok J J J J (by decide) (by decide) J J J J fun b57 => ?_;refine Va J J ?_;refine S_app1 Tk 5 57 J J J J J J J J J J J J J J (by intro u hu; simp at hu; rcases hu with rfl; rfl) rfl (fun _ _ => rfl) (by omega) (Nat.le_refl _) fun A6 c6 => ?_;refine S_freezeR 5 J J (Nat.le_refl _) fun Gf hextf hncf hcmf hclf => ?_
 have hcs2 : Cs 1 (stsRep Gf) (p ++ [[]]) ([] ++ xs ++ [Value.slice A7 0 0]) := by
  rw [List.nil_append]
  exact Cs_append (Cs_mono (fun _ _ _ h => stsRep_le hextf.le h) hcs) ⟨_, J, Sr_nil0⟩ J
 have hP : Prg Gf (p ++ [[]]) (.slice A6 (0 + p.length + 1) c6) := frz hcs2 (by simp) (by omega) hncf hcmf hclf
 have hPS : PrgS Gf (p ++ [[]]) (.slice A6 (0 + p.length + 1) c6) := ⟨hP, fun q hq => by
  rcases List.mem_append.1 hq with hq | hq
  ·exact hp4.2.1 q hq
  ·rw [List.mem_singleton.1 hq]; exact Sh_nil, by simp; omega⟩
 have hends := c_iAllEnds (p ++ [[]]) _ Gf hPS (TabG_le hextf.le hTab4)
 refine Va J J ?_;refine S_call Tryz.call10 hends J J J ?_;rintro v5 G5 ⟨lv5, rfl, hlv5⟩ hext5
 rw [hs1]
 generalize (endsP (p ++ [[]])).getD [] = E5 at hlv5 hs2
 obtain ⟨Ae5, ce5, rfl, _⟩ := id hlv5
 refine Va J J ?_;exact S_retp (Res.t1 Tryz.results5 J J) ((hextA.trans hextf).trans hext5) (by simp [hs2])
end
end Go.Proofs.YtbecgghgcglafaaGreatDoor
