/- Walks of the program's functions, one after the other (part 13); without conditions of their own. -/
import Derived.Test.YtbecgghgcglafaaGreatDoorWM9
import Derived.Test.YtbecgghgcglafaaGreatDoorWM11
import Derived.Test.YtbecgghgcglafaaGreatDoorWM12
import Derived.Test.YtbecgghgcglafaaGreatDoorWM2
set_option linter.unusedVariables false
set_option linter.unusedSimpArgs false
set_option maxRecDepth 100000
set_option maxHeartbeats 4000000
open Go.RowKit
namespace Go.Proofs.YtbecgghgcglafaaGreatDoor
section
open Go.Lib (itoa decDigits)
attribute [local irreducible] X Pure Mod
def Nb (b : UInt8) : Prop := b = 45 ∨ (48 ≤ b.toNat ∧ b.toNat ≤ 57)
def digV (l : List UInt8) : Nat := l.foldl (fun a b => a * 10 + (b.toNat - 48)) 0
theorem dig_nat {k : Nat} (h : k < 10) : (UInt8.ofNat (48 + k)).toNat = 48 + k := by
 rw [UInt8.toNat_ofNat']
 omega
theorem dec_dig : ∀ (u : Nat), ∀ b ∈ decDigits u, 48 ≤ b.toNat ∧ b.toNat ≤ 57 := by
 intro u
 induction u using Nat.strongRecOn with
 | _ u ih =>
  intro b hb
  rw [decDigits] at hb
  split at hb
  ·rename_i h
   rw [List.mem_singleton.1 hb, dig_nat h]; omega
  ·rcases List.mem_append.1 hb with hb | hb
   ·exact ih (u / 10) (by omega) b hb
   ·rw [List.mem_singleton.1 hb, dig_nat (by omega)]; omega
theorem dec_val : ∀ (u : Nat), digV (decDigits u) = u := by
 intro u
 induction u using Nat.strongRecOn with
 | _ u ih =>
  rw [decDigits]
  split
  ·rename_i h
   simp only [digV, List.foldl_cons, List.foldl_nil, dig_nat h]; omega
  ·have := ih (u / 10) (by omega)
   unfold digV at this ⊢
   rw [List.foldl_append, this]
   simp only [List.foldl_cons, List.foldl_nil, dig_nat (show u % 10 < 10 by omega)]
   omega
theorem dec_ne (u : Nat) : decDigits u ≠ [] := by
 rw [decDigits]
 split <;> simp
theorem itoa_nb (n : Int) : ∀ b ∈ itoa n, Nb b := by
 intro b hb
 unfold itoa at hb
 split at hb
 ·rcases List.mem_cons.1 hb with rfl | hb
  ·exact .inl J
  ·exact .inr (dec_dig _ b hb)
 ·exact .inr (dec_dig _ b hb)
theorem itoa_ne (n : Int) : itoa n ≠ [] := by
 unfold itoa
 split
 ·simp
 ·exact dec_ne _
theorem itoa_inj {a b : Int} (h : itoa a = itoa b) : a = b := by
 have h45 : ∀ {u : Nat} {r : List UInt8}, decDigits u = 45 :: r → False := fun {u r} e => by
  have := dec_dig u 45 (by rw [e]; exact List.mem_cons_self ..)
  have e : (45 : UInt8).toNat = 45 := rfl
  omega
 unfold itoa at h
 split at h <;> split at h
 ·have := congrArg digV (List.cons.inj h).2
  rw [dec_val, dec_val] at this
  omega
 ·exact (h45 h.symm).elim
 ·exact (h45 h).elim
 ·have := congrArg digV h
  rw [dec_val, dec_val] at this
  omega
def Sep (X : List UInt8) : Prop := ∀ b r, X = b :: r → ¬ Nb b
theorem Sep.cons {s : UInt8} {X : List UInt8} (h : ¬ Nb s) : Sep (s :: X) := fun b r e => by cases e; exact h
theorem span_eq : ∀ {u u' X Y : List UInt8}, (∀ b ∈ u, Nb b) → (∀ b ∈ u', Nb b) → Sep X → Sep Y → u ++ X = u' ++ Y → u = u' ∧ X = Y
 | [], [], _, _, _, _, _, _, e => ⟨rfl, e⟩
 | [], b :: u', X, Y, _, h', hX, _, e => absurd (h' b (List.mem_cons_self ..)) (hX b _ e)
 | a :: u, [], X, Y, h, _, _, hY, e => absurd (h a (List.mem_cons_self ..)) (hY a _ e.symm)
 | a :: u, b :: u', X, Y, h, h', hX, hY, e => by
  obtain ⟨rfl, e2⟩ := List.cons.inj e
  obtain ⟨rfl, rfl⟩ := span_eq (fun c hc => h c (List.mem_cons_of_mem _ hc)) (fun c hc => h' c (List.mem_cons_of_mem _ hc)) hX hY e2
  exact ⟨J, J⟩
theorem num_cut {a b : Int} {X Y : List UInt8} (hX : Sep X) (hY : Sep Y) (e : itoa a ++ X = itoa b ++ Y) : a = b ∧ X = Y := by
 obtain ⟨h1, h2⟩ := span_eq (itoa_nb a) (itoa_nb b) hX hY e
 exact ⟨itoa_inj h1, h2⟩
theorem nb10 : ¬ Nb 10 := by rintro (h | ⟨h, _⟩) <;> revert h <;> decide
theorem nb32 : ¬ Nb 32 := by rintro (h | ⟨h, _⟩) <;> revert h <;> decide
theorem nb40 : ¬ Nb 40 := by rintro (h | ⟨h, _⟩) <;> revert h <;> decide
theorem nb41 : ¬ Nb 41 := by rintro (h | ⟨h, _⟩) <;> revert h <;> decide
theorem nb44 : ¬ Nb 44 := by rintro (h | ⟨h, _⟩) <;> revert h <;> decide
def numsT (l : List Int) : List UInt8 := l.flatMap fun n => 32 :: itoa n
theorem numsT_cons (n : Int) (l : List Int) : numsT (n :: l) = 32 :: (itoa n ++ numsT l) := by simp [numsT]
theorem nums_sep (l : List Int) (X : List UInt8) : Sep (numsT l ++ 10 :: X) := by
 cases l with
 | nil => exact Sep.cons nb10
 | cons n l => rw [numsT_cons]; exact Sep.cons nb32
theorem nums_cut : ∀ {l l' : List Int} {X Y : List UInt8}, numsT l ++ 10 :: X = numsT l' ++ 10 :: Y → l = l' ∧ X = Y
 | [], [], X, Y, e => ⟨rfl, (List.cons.inj e).2⟩
 | [], n :: l', X, Y, e => by
  rw [numsT_cons] at e
  have := (List.cons.inj e).1
  exact absurd this (by decide)
 | n :: l, [], X, Y, e => by
  rw [numsT_cons] at e
  have := (List.cons.inj e).1
  exact absurd this (by decide)
 | n :: l, n' :: l', X, Y, e => by
  rw [numsT_cons, numsT_cons, List.cons_append, List.cons_append, List.append_assoc, List.append_assoc] at e
  obtain ⟨rfl, e2⟩ := num_cut (nums_sep _ _) (nums_sep _ _) (List.cons.inj e).2
  obtain ⟨rfl, rfl⟩ := nums_cut e2
  exact ⟨J, J⟩
theorem line_cut {w : List UInt8} {l l' : List Int} {X Y : List UInt8} (e : lineT w l ++ X = lineT w l' ++ Y) : l = l' ∧ X = Y := by
 have h : ∀ (l : List Int) (X : List UInt8), lineT w l ++ X = w ++ (numsT l ++ 10 :: X) := fun l X => by simp [lineT, numsT]
 rw [h, h] at e
 exact nums_cut (List.append_cancel_left e)
theorem todo_head (d : Nat) (L : List Stm) : ∃ r, todoT d L = 40 :: r := by
 cases d with
 | zero => exact ⟨_, rfl⟩
 | succ d => exact ⟨_, by rw [todoT_succ, List.append_assoc]; rfl⟩
theorem todo_sep (d : Nat) (L : List Stm) (X : List UInt8) : Sep (todoT d L ++ X) := by
 obtain ⟨r, e⟩ := todo_head d L
 rw [e]; exact Sep.cons nb40
theorem stmT_eq (d : Nat) (k a b n : Int) (x y : List Stm) (X : List UInt8) : stmT d (.mk k a b n x y) ++ X = itoa k ++ 44 :: (itoa a ++ 44 :: (itoa b ++ 44 :: (itoa n ++ (todoT d x ++ (todoT d y ++ X))))) := by
 simp [stmT, fourT, Stm.kind, Stm.a, Stm.b, Stm.n, Stm.body, Stm.els]
theorem todo_cut : ∀ (d : Nat) {L L' : List Stm} {X Y : List UInt8}, dpL L ≤ d → dpL L' ≤ d → todoT d L ++ X = todoT d L' ++ Y → L = L' ∧ X = Y
 | 0, L, L', X, Y, h, h', e => by
  have hn : ∀ {L : List Stm}, dpL L ≤ 0 → L = [] := fun {L} h => by
   cases L with
   | nil => rfl
   | cons s r =>
    have := dp_memS (List.mem_cons_self (a := s) (l := r))
    have := dpS_eq s
    omega
  rw [hn h, hn h'] at e ⊢
  exact ⟨J, List.append_cancel_left e⟩
 | d + 1, L, L', X, Y, h, h', e => by
  have hex : ∀ (L : List Stm) (X : List UInt8), todoT (d + 1) L ++ X = 40 :: (L.flatMap (stmT d) ++ 41 :: X) := fun L X => by rw [todoT_succ]; simp
  rw [hex, hex] at e
  have main : ∀ {L L' : List Stm} {X Y : List UInt8}, dpL L ≤ d + 1 → dpL L' ≤ d + 1 → L.flatMap (stmT d) ++ 41 :: X = L'.flatMap (stmT d) ++ 41 :: Y → L = L' ∧ X = Y := by
   intro L
   induction L with
   | nil =>
    intro L' X Y _ _ e
    cases L' with
    | nil => exact ⟨rfl, (List.cons.inj e).2⟩
    | cons s r =>
     obtain ⟨k, a, b, n, x, y⟩ := s
     rw [List.flatMap_cons, List.append_assoc, stmT_eq] at e
     cases hk : itoa k with
     | nil => exact absurd hk (itoa_ne k)
     | cons c cr =>
      rw [hk] at e
      have := (List.cons.inj e).1
      exact absurd (itoa_nb k 41 (by rw [hk, ← this]; exact List.mem_cons_self ..)) nb41
   | cons s r ih =>
    intro L' X Y hL hL' e
    obtain ⟨k, a, b, n, x, y⟩ := s
    cases L' with
    | nil =>
     rw [List.flatMap_cons, List.append_assoc, stmT_eq] at e
     cases hk : itoa k with
     | nil => exact absurd hk (itoa_ne k)
     | cons c cr =>
      rw [hk] at e
      have := (List.cons.inj e).1
      exact absurd (itoa_nb k 41 (by rw [hk, this]; exact List.mem_cons_self ..)) nb41
    | cons s' r' =>
     obtain ⟨k', a', b', n', x', y'⟩ := s'
     rw [List.flatMap_cons, List.flatMap_cons, List.append_assoc, List.append_assoc, stmT_eq, stmT_eq] at e
     simp only [dpL, dpS] at hL hL'
     obtain ⟨rfl, e1⟩ := num_cut (Sep.cons nb44) (Sep.cons nb44) e
     obtain ⟨rfl, e2⟩ := num_cut (Sep.cons nb44) (Sep.cons nb44) (List.cons.inj e1).2
     obtain ⟨rfl, e3⟩ := num_cut (Sep.cons nb44) (Sep.cons nb44) (List.cons.inj e2).2
     obtain ⟨rfl, e4⟩ := num_cut (todo_sep _ _ _) (todo_sep _ _ _) (List.cons.inj e3).2
     obtain ⟨rfl, e5⟩ := todo_cut d (by omega) (by omega) e4
     obtain ⟨rfl, e6⟩ := todo_cut d (by omega) (by omega) e5
     obtain ⟨rfl, rfl⟩ := ih (by omega) (by omega) e6
     exact ⟨J, J⟩
  exact main h h' (List.cons.inj e).2
theorem proc_cut {p q : Prc} {X Y : List UInt8} (hp : dpL p.todo ≤ 3) (hq : dpL q.todo ≤ 3) (e : procT p ++ X = procT q ++ Y) : p = q ∧ X = Y := by
 have h : ∀ (p : Prc) (X : List UInt8), procT p ++ X = lineT wProc [p.mode, p.on, p.room] ++ (lineT wRegs [p.r0, p.r1, p.r2] ++ (todoT 6 p.todo ++ 10 :: X)) := fun p X => by simp [procT]
 rw [h, h] at e
 obtain ⟨e1, f1⟩ := line_cut e
 obtain ⟨e2, f2⟩ := line_cut f1
 obtain ⟨e3, f3⟩ := todo_cut 6 (by omega) (by omega) f2
 obtain ⟨a0, a1, a2, td, mo, on, ro⟩ := p
 obtain ⟨b0, b1, b2, td', mo', on', ro'⟩ := q
 simp only [List.cons.injEq, and_true] at e1 e2 e3
 obtain ⟨rfl, rfl, rfl⟩ := e1
 obtain ⟨rfl, rfl, rfl⟩ := e2
 subst e3
 exact ⟨J, (List.cons.inj f3).2⟩
theorem procs_cut : ∀ {P Q : List Prc} {X Y : List UInt8}, P.length = Q.length → (∀ p ∈ P, dpL p.todo ≤ 3) → (∀ p ∈ Q, dpL p.todo ≤ 3) → P.flatMap procT ++ X = Q.flatMap procT ++ Y → P = Q ∧ X = Y
 | [], [], X, Y, _, _, _, e => ⟨rfl, e⟩
 | [], q :: Q, X, Y, hl, _, _, _ => by simp at hl
 | p :: P, [], X, Y, hl, _, _, _ => by simp at hl
 | p :: P, q :: Q, X, Y, hl, h, h', e => by
  rw [List.flatMap_cons, List.flatMap_cons, List.append_assoc, List.append_assoc] at e
  obtain ⟨rfl, e1⟩ := proc_cut (h p (List.mem_cons_self ..)) (h' q (List.mem_cons_self ..)) e
  obtain ⟨rfl, rfl⟩ := procs_cut (by simpa using hl) (fun x hx => h x (List.mem_cons_of_mem _ hx)) (fun x hx => h' x (List.mem_cons_of_mem _ hx)) e1
  exact ⟨J, J⟩
theorem said_cut : ∀ {l l' : List (Int × Int)}, l.flatMap saidT = l'.flatMap saidT → l = l'
 | [], [], _ => rfl
 | [], s :: l', e => by simp [saidT, lineT] at e
 | s :: l, [], e => by simp [saidT, lineT] at e
 | s :: l, s' :: l', e => by
  rw [List.flatMap_cons, List.flatMap_cons] at e
  obtain ⟨e1, e2⟩ := line_cut e
  obtain ⟨a, b⟩ := s
  obtain ⟨a', b'⟩ := s'
  simp only [List.cons.injEq, and_true] at e1
  obtain ⟨rfl, rfl⟩ := e1
  rw [said_cut e2]
theorem wText_inj {V W : Wld} (hn : V.procs.length = W.procs.length) (hV : Shl V) (hW : Shl W) (e : wText V = wText W) : V = W := by
 have h : ∀ (W : Wld), wText W = W.procs.flatMap procT ++ (lineT wCells [W.c0, W.c1, W.c2] ++ (lineT wRooms [W.m0, W.m1] ++ (lineT wSign W.q0 ++ (lineT wSign W.q1 ++ W.said.flatMap saidT)))) := fun W => by simp [wText]
 rw [h, h] at e
 obtain ⟨e0, e⟩ := procs_cut hn hV hW e
 obtain ⟨e1, e⟩ := line_cut e
 obtain ⟨e2, e⟩ := line_cut e
 obtain ⟨e3, e⟩ := line_cut e
 obtain ⟨e4, e⟩ := line_cut e
 have e5 := said_cut e
 obtain ⟨ps, w1, w2, w3, w4, w5, w6, w7, w8⟩ := V
 obtain ⟨ps', v1, v2, v3, v4, v5, v6, v7, v8⟩ := W
 simp only [List.cons.injEq, and_true] at e0 e1 e2 e3 e4 e5
 obtain ⟨rfl, rfl, rfl⟩ := e1
 obtain ⟨rfl, rfl⟩ := e2
 subst e0 e3 e4 e5
 rfl
end
section
attribute [local irreducible] X Pure Mod
def idle : Prc := proc0 []
def Wld.ext (W : Wld) : Wld := { W with procs := W.procs ++ [idle] }
theorem setRm_len (W : Wld) (a v : Int) : (W.setRm a v).procs = W.procs := by unfold Wld.setRm; split <;> rfl
def Pw (n : Nat) (Ws : List Wld) : Prop := ∀ V ∈ Ws, (∃ B, Wok V B) ∧ V.procs.length = n
theorem Pw.add {n : Nat} {Ws : List Wld} {W : Wld} (h : Pw n Ws) (hW : (∃ B, Wok W B) ∧ W.procs.length = n) : Pw n (addW Ws W) := by
 intro V hV
 unfold addW at hV
 split at hV
 ·exact h V hV
 ·rcases List.mem_append.1 hV with hV | hV
  ·exact h V hV
  ·rw [List.mem_singleton.1 hV]; exact hW
end
section
attribute [local irreducible] X Pure Mod
theorem nodup_le {α : Type} : ∀ {l m : List α}, l.Nodup → (∀ x ∈ l, x ∈ m) → l.length ≤ m.length
 | [], m, _, _ => Nat.zero_le _
 | x :: l, m, hn, h => by
  obtain ⟨m1, m2, rfl⟩ := List.append_of_mem (h x (List.mem_cons_self ..))
  obtain ⟨hx, hn'⟩ := List.nodup_cons.1 hn
  have := nodup_le (l := l) (m := m1 ++ m2) hn' fun y hy => by
   have := h y (List.mem_cons_of_mem _ hy)
   rcases List.mem_append.1 this with h1 | h1
   ·exact List.mem_append_left _ h1
   ·rcases List.mem_cons.1 h1 with rfl | h1
    ·exact absurd hy hx
    ·exact List.mem_append_right _ h1
  simp only [List.length_append, List.length_cons] at this ⊢
  omega
theorem nodup_map {α : Type} {f : α → α} (hf : ∀ x y, f x = f y → x = y) : ∀ {l : List α}, l.Nodup → (l.map f).Nodup
 | [], _ => List.nodup_nil
 | x :: l, h => by
  obtain ⟨hx, hn⟩ := List.nodup_cons.1 h
  rw [List.map_cons]
  refine List.nodup_cons.2 ⟨fun hm => ?_, nodup_map hf hn⟩
  obtain ⟨y, hy, e⟩ := List.mem_map.1 hm
  rw [hf _ _ e] at hy
  exact hx hy
inductive Rch (p : List (List Stm)) : Wld → Prop
 | base : Rch p (open0 p)
 | step {W : Wld} {who : Nat} : Rch p W → who < W.procs.length → codeOf W (who : Nat) = 0 → Rch p (W.step who)
def OkP (p : List (List Stm)) : Prop := progOk p = true ∧ (∀ l ∈ p, Sh l) ∧ ∀ l ∈ p, iL l
theorem Rch.ok {p : List (List Stm)} (h : OkP p) {W : Wld} (hW : Rch p W) : (∃ B, Wok W B) ∧ W.procs.length = p.length := by
 induction hW with
 | base =>
  have := (open_ok h.1 h.2.1 h.2.2).ok 0 _ rfl
  exact ⟨⟨0, this.1⟩, this.2⟩
 | step _ hw hc ih =>
  obtain ⟨⟨B, hB⟩, hn⟩ := ih
  exact ⟨⟨_, hB.step hw hc⟩, by rw [Wld.step_len]; exact hn⟩
theorem Rch.inj {p : List (List Stm)} (h : OkP p) {V W : Wld} (hV : Rch p V) (hW : Rch p W) (e : wText V = wText W) : V = W := by
 obtain ⟨⟨B, hB⟩, hn⟩ := hV.ok h
 obtain ⟨⟨B', hB'⟩, hn'⟩ := hW.ok h
 exact wText_inj (by rw [hn, hn']) hB.shl hB'.shl e
def GoodW (p : List (List Stm)) (Ws : List Wld) : Prop := Ws.Nodup ∧ ∀ V ∈ Ws, Rch p V
def BigW (p : List (List Stm)) : Prop := ∃ L : List Wld, L.Nodup ∧ 121 ≤ L.length ∧ ∀ V ∈ L, Rch p V
theorem GoodW.add {p : List (List Stm)} (h : OkP p) {Ws : List Wld} {W : Wld} (hg : GoodW p Ws) (hW : Rch p W) : GoodW p (addW Ws W) ∧ W ∈ addW Ws W := by
 unfold addW
 by_cases hh : hasW Ws W = true
 ·rw [if_pos hh]
  obtain ⟨V, hV, e⟩ := List.any_eq_true.1 hh
  have := (hg.2 V hV).inj h hW (of_decide_eq_true e)
  exact ⟨hg, this ▸ hV⟩
 ·rw [if_neg hh]
  refine ⟨⟨List.nodup_append.2 ⟨hg.1, by simp, fun V hV V' hV' e => ?_⟩, fun V hV => ?_⟩, by simp⟩
  ·rw [List.mem_singleton.1 hV'] at e
   exact hh (List.any_eq_true.2 ⟨V, hV, decide_eq_true (by rw [e])⟩)
  ·rcases List.mem_append.1 hV with hV | hV
   ·exact hg.2 V hV
   ·rw [List.mem_singleton.1 hV]; exact hW
theorem round_cl {p : List (List Stm)} (h : OkP p) {W : Wld} (hW : Rch p W) : ∀ (l : List Nat) (Ws : List Wld), (∀ w ∈ l, w < W.procs.length) → GoodW p Ws → Ws.length ≤ 120 →
  (∀ Ws', roundW W l Ws = some Ws' → GoodW p Ws' ∧ Ws <+: Ws' ∧ Ws'.length ≤ 120 ∧ ∀ w ∈ l, codeOf W (w : Nat) = 0 → W.step w ∈ Ws') ∧ (roundW W l Ws = none → BigW p)
 | [], Ws, _, hg, hl => ⟨fun Ws' e => by cases e; exact ⟨hg, List.prefix_refl _, hl, fun w hw => by cases hw⟩, fun e => by cases e⟩
 | who :: r, Ws, hr, hg, hl => by
  have hw := hr who (List.mem_cons_self ..)
  have hr' : ∀ w ∈ r, w < W.procs.length := fun w hw => hr w (List.mem_cons_of_mem _ hw)
  rw [roundW]
  by_cases hc : codeOf W (who : Nat) = 0
  ·rw [if_pos hc]
   obtain ⟨hg2, hm⟩ := hg.add h (hW.step hw hc)
   by_cases h120 : 120 < (addW Ws (W.step who)).length
   ·rw [if_pos h120]
    exact ⟨fun Ws' e => (by cases e), fun _ => ⟨_, hg2.1, h120, hg2.2⟩⟩
   ·rw [if_neg h120]
    obtain ⟨h1, h2⟩ := round_cl h hW r _ hr' hg2 (by omega)
    refine ⟨fun Ws' e => ?_, h2⟩
    obtain ⟨a1, a2, a3, a4⟩ := h1 Ws' e
    refine ⟨a1, (addW_pre _ _).trans a2, a3, fun w hw hcw => ?_⟩
    rcases List.mem_cons.1 hw with rfl | hw
    ·exact a2.subset hm
    ·exact a4 w hw hcw
  ·rw [if_neg hc]
   obtain ⟨h1, h2⟩ := round_cl h hW r _ hr' hg hl
   refine ⟨fun Ws' e => ?_, h2⟩
   obtain ⟨a1, a2, a3, a4⟩ := h1 Ws' e
   refine ⟨a1, a2, a3, fun w hw hcw => ?_⟩
   rcases List.mem_cons.1 hw with rfl | hw
   ·exact absurd hcw hc
   ·exact a4 w hw hcw
def ClW (W : Wld) (Ws : List Wld) : Prop := ∀ w, w < W.procs.length → codeOf W (w : Nat) = 0 → W.step w ∈ Ws
theorem all_cl {p : List (List Stm)} (h : OkP p) : ∀ (f k : Nat) (Ws : List Wld), GoodW p Ws → Ws.length ≤ 120 → k ≤ Ws.length → 121 ≤ f + k → (∀ (j : Nat) W, j < k → Ws[j]? = some W → ClW W Ws) →
  (∀ Ws', allF f k Ws = some Ws' → GoodW p Ws' ∧ Ws <+: Ws' ∧ Ws'.length ≤ 120 ∧ ∀ W ∈ Ws', ClW W Ws') ∧ (allF f k Ws = none → BigW p)
 | 0, k, Ws, _, hl, hk, hf, _ => absurd hf (by omega)
 | f + 1, k, Ws, hg, hl, hk, hf, hc => by
  rw [allF]
  cases hW : Ws[k]? with
  | none =>
   have hk2 := List.getElem?_eq_none_iff.1 hW
   refine ⟨fun Ws' e => ?_, fun e => by cases e⟩
   cases e
   refine ⟨hg, List.prefix_refl _, hl, fun W hWm => ?_⟩
   obtain ⟨j, hj, rfl⟩ := List.getElem_of_mem hWm
   exact hc j _ (by omega) (List.getElem?_eq_getElem hj)
  | some W =>
   have hk2 := (List.getElem?_eq_some_iff.1 hW).1
   have hWr := hg.2 W (List.mem_of_getElem? hW)
   obtain ⟨h1, h2⟩ := round_cl h hWr (List.range W.procs.length) Ws (fun w hw => List.mem_range.1 hw) hg hl
   simp only
   cases hr : roundW W (List.range W.procs.length) Ws with
   | none => exact ⟨fun Ws' e => (by cases e), fun _ => h2 hr⟩
   | some Ws2 =>
    obtain ⟨a1, a2, a3, a4⟩ := h1 Ws2 hr
    have hlen := a2.length_le
    obtain ⟨b1, b2⟩ := all_cl h f (k + 1) Ws2 a1 a3 (by omega) (by omega) fun j V hj hV => by
     by_cases hjk : j = k
     ·subst hjk
      have : Ws2[j]? = some W := by
       obtain ⟨t, rfl⟩ := a2
       rw [List.getElem?_append_left hk2]; exact hW
      rw [this] at hV
      cases hV
      exact fun w hw hcw => a4 w (List.mem_range.2 hw) hcw
     ·have hjl : j < Ws.length := by omega
      have : Ws[j]? = some V := by
       obtain ⟨t, rfl⟩ := a2
       rw [List.getElem?_append_left hjl] at hV; exact hV
      exact fun w hw hcw => a2.subset (hc j V (by omega) this w hw hcw)
    refine ⟨fun Ws' e => ?_, b2⟩
    obtain ⟨c1, c2, c3, c4⟩ := b1 Ws' e
    exact ⟨c1, a2.trans c2, c3, c4⟩
theorem allW_cl {p : List (List Stm)} (h : OkP p) : (∀ Ws, allW p = some Ws → Ws.Nodup ∧ Ws.length ≤ 120 ∧ ∀ W, W ∈ Ws ↔ Rch p W) ∧ (allW p = none → BigW p) := by
 obtain ⟨h1, h2⟩ := all_cl h 122 0 [open0 p] ⟨by simp, fun V hV => by rw [List.mem_singleton.1 hV]; exact .base⟩ (by simp) (Nat.zero_le _) (by omega) fun j W hj => by omega
 refine ⟨fun Ws e => ?_, h2⟩
 obtain ⟨a1, a2, a3, a4⟩ := h1 Ws e
 refine ⟨a1.1, a3, fun W => ⟨a1.2 W, fun hW => ?_⟩⟩
 induction hW with
 | base => exact a2.subset (by simp)
 | step _ hw hc ih => exact a4 _ ih _ hw hc
def swL {α : Type} : List α → List α
 | [x, y] => [y, x]
 | l => l
theorem swL_swL {α : Type} : ∀ (l : List α), swL (swL l) = l
 | [] => rfl
 | [_] => rfl
 | [_, _] => rfl
 | _ :: _ :: _ :: _ => rfl
theorem swL_len {α : Type} : ∀ (l : List α), (swL l).length = l.length
 | [] => rfl
 | [_] => rfl
 | [_, _] => rfl
 | _ :: _ :: _ :: _ => rfl
def swR (v : Int) : Int := if v = 1 then 2 else if v = 2 then 1 else v
def swI (v : Int) : Int := if v = 0 then 1 else if v = 1 then 0 else v
theorem swR_swR (v : Int) : swR (swR v) = v := by unfold swR; split <;> (try split) <;> (try split) <;> omega
theorem swI_swI (v : Int) : swI (swI v) = v := by unfold swI; split <;> (try split) <;> (try split) <;> omega
theorem swR_zero {v : Int} : swR v = 0 ↔ v = 0 := by unfold swR; split <;> (try split) <;> omega
def swS (s : Int × Int) : Int × Int := (swI s.1, s.2)
def Wld.sw (W : Wld) : Wld := { W with procs := swL W.procs, m0 := swR W.m0, m1 := swR W.m1, q0 := W.q0.map swI, q1 := W.q1.map swI, said := W.said.map swS }
theorem map_invol {α : Type} {f : α → α} (h : ∀ x, f (f x) = x) (l : List α) : (l.map f).map f = l := by
 rw [List.map_map]
 induction l with
 | nil => rfl
 | cons x l ih => rw [List.map_cons, ih]; simp [h]
theorem sw_sw (W : Wld) : W.sw.sw = W := by
 obtain ⟨ps, w1, w2, w3, w4, w5, w6, w7, w8⟩ := W
 simp only [Wld.sw, swL_swL, swR_swR, map_invol swI_swI, map_invol (f := swS) (fun s => by simp [swS, swI_swI])]
theorem sw_inj (V W : Wld) (h : V.sw = W.sw) : V = W := by rw [← sw_sw V, h, sw_sw]
theorem updL_sw {α : Type} {f : α → α} : ∀ {l : List α} {i : Nat}, l.length = 2 → i < 2 → updL f (1 - i) (swL l) = swL (updL f i l)
 | [x, y], 0, _, _ => rfl
 | [x, y], 1, _, _ => rfl
 | [x, y], i + 2, _, h => absurd h (by omega)
 | [], _, h, _ => by simp at h
 | [_], _, h, _ => by simp at h
 | _ :: _ :: _ :: _, _, h, _ => by simp at h
theorem at_swL {α : Type} : ∀ {l : List α} {i : Nat}, l.length = 2 → i < 2 → (swL l)[1 - i]? = l[i]?
 | [x, y], 0, _, _ => rfl
 | [x, y], 1, _, _ => rfl
 | [x, y], i + 2, _, h => absurd h (by omega)
 | [], _, h, _ => by simp at h
 | [_], _, h, _ => by simp at h
 | _ :: _ :: _ :: _, _, h, _ => by simp at h
section
variable (W : Wld) (h2 : W.procs.length = 2) {who : Nat} (hw : who < 2)
include h2 hw
theorem at_sw : W.sw.procs[1 - who]? = W.procs[who]? := at_swL h2 hw
theorem upd_sw (f : Prc → Prc) : W.sw.upd (1 - who) f = (W.upd who f).sw := by
 unfold Wld.upd Wld.sw
 simp only [updL_sw h2 hw]
theorem reg_sw (k : Int) : W.sw.reg (1 - who) k = W.reg who k := by unfold Wld.reg; rw [at_sw W h2 hw]
theorem room_sw : W.sw.room (1 - who) = W.room who := by unfold Wld.room; rw [at_sw W h2 hw]
end
theorem setRm_sw (W : Wld) (a : Int) {v v' : Int} (hv : swR v = v') : W.sw.setRm a v' = (W.setRm a v).sw := by subst hv; unfold Wld.setRm; split <;> rfl
theorem setQue_sw (W : Wld) (a : Int) {q q' : List Int} (hq : q.map swI = q') : W.sw.setQue a q' = (W.setQue a q).sw := by subst hq; unfold Wld.setQue; split <;> rfl
theorem setCell_sw (W : Wld) (a v : Int) : W.sw.setCell a v = (W.setCell a v).sw := by
 unfold Wld.setCell
 split
 ·rfl
 split <;> rfl
theorem que_sw (W : Wld) (a : Int) : W.sw.que a = (W.que a).map swI := by unfold Wld.que; split <;> rfl
theorem ite_sw {c : Prop} [Decidable c] {A B A' B' : Wld} (h1 : A = A'.sw) (h2 : B = B'.sw) : (if c then A else B) = (if c then A' else B').sw := by
 split
 ·exact h1
 ·exact h2
theorem who_sw {who : Nat} (hw : who < 2) : swR ((who : Int) + 1) = (((1 - who : Nat) : Int) + 1) ∧ swI (who : Int) = ((1 - who : Nat) : Int) := by
 rcases (by omega : who = 0 ∨ who = 1) with rfl | rfl <;> simp [swR, swI]
theorem stepS_sw (W : Wld) (h2 : W.procs.length = 2) {who : Nat} (hw : who < 2) (hq : ∀ f ∈ W.q0 ++ W.q1, 0 ≤ f ∧ f.toNat < 2) (s : Stm) : W.sw.stepS (1 - who) s = (W.stepS who s).sw := by
 obtain ⟨e1, e2⟩ := who_sw hw
 unfold Wld.stepS
 simp only [reg_sw W h2 hw, room_sw W h2 hw]
 refine ite_sw (upd_sw W h2 hw _) (ite_sw (upd_sw W h2 hw _) (ite_sw (upd_sw W h2 hw _) (ite_sw (setCell_sw W _ _) (ite_sw ?_ (ite_sw (upd_sw W h2 hw _) (ite_sw (upd_sw W h2 hw _) (ite_sw ?_ (ite_sw ?_ (ite_sw ?_ (ite_sw ?_ J))))))))))
 ·simp only [Wld.sw, List.map_append, List.map_cons, List.map_nil, swS, e2]
 ·rw [setRm_sw W _ e1, upd_sw _ (by rw [setRm_len]; exact h2) hw]
 ·rw [setRm_sw W _ (show swR 0 = 0 from rfl), upd_sw _ (by rw [setRm_len]; exact h2) hw, que_sw]
  refine setQue_sw _ _ ?_
  rw [List.map_append, List.map_cons, List.map_nil, e2]
 ·unfold Wld.signal
  rw [que_sw]
  cases hh : W.que s.a with
  | nil => rfl
  | cons f r =>
   obtain ⟨hf0, hf2⟩ := hq f (by
    unfold Wld.que at hh
    split at hh
    ·rw [hh]; simp
    ·rw [hh]; simp)
   have e3 : (swI f).toNat = 1 - f.toNat := by
    rcases (by omega : f = 0 ∨ f = 1) with rfl | rfl <;> rfl
   simp only [List.map_cons]
   rw [e3, upd_sw W h2 hf2, setQue_sw _ _ rfl]
 ·rw [setRm_sw W _ (show swR 0 = 0 from rfl), upd_sw _ (by rw [setRm_len]; exact h2) hw]
theorem step_sw {W : Wld} {B who : Nat} (hI : Inv W B) (h2 : W.procs.length = 2) (hw : who < 2) : W.sw.step (1 - who) = (W.step who).sw := by
 have hq : ∀ f ∈ W.q0 ++ W.q1, 0 ≤ f ∧ f.toNat < 2 := fun f hf => by
  obtain ⟨h0, p, hp, _⟩ := hI.qf f hf
  have := (List.getElem?_eq_some_iff.1 hp).1
  exact ⟨h0, by omega⟩
 unfold Wld.step
 rw [at_sw W h2 hw, List.getElem?_eq_getElem (show who < W.procs.length by omega)]
 simp only
 split
 ·rw [setRm_sw W _ (who_sw hw).1, upd_sw _ (by rw [setRm_len]; exact h2) hw]
 ·split
  ·rfl
  ·rw [upd_sw W h2 hw]
   exact stepS_sw (W.upd who pop) (by show (updL _ _ _).length = 2; rw [length_updL]; exact h2) hw hq _
theorem code_sw {W : Wld} {who : Nat} (h2 : W.procs.length = 2) (hw : who < 2) : codeOf W.sw ((1 - who : Nat) : Nat) = codeOf W (who : Nat) := by
 have e := List.getElem?_eq_getElem (show who < W.procs.length by omega)
 rw [codeOf_at e, codeOf_at ((at_sw W h2 hw).trans e)]
 have hrm : ∀ k, W.sw.rm k = 0 ↔ W.rm k = 0 := fun k => by
  unfold Wld.rm
  split
  ·exact swR_zero
  ·exact swR_zero
 unfold codeP
 simp only [hrm]
theorem open_sw (a b : List Stm) : open0 [b, a] = (open0 [a, b]).sw := rfl
theorem Rch_sw {a b : List Stm} (h : OkP [a, b]) {W : Wld} (hW : Rch [a, b] W) : Rch [b, a] W.sw := by
 induction hW with
 | base => rw [← open_sw]; exact .base
 | @step W who hW hw hc ih =>
  obtain ⟨⟨B, hB⟩, hn⟩ := hW.ok h
  have h2 : W.procs.length = 2 := hn
  rw [← step_sw hB.inv h2 (by omega)]
  refine .step ih ?_ ?_
  ·show _ < (swL W.procs).length
   rw [swL_len]; omega
  ·rw [code_sw h2 (by omega)]; exact hc
theorem final_sw {W : Wld} (h2 : W.procs.length = 2) : finalW W.sw = finalW W := by
 have e0 := code_sw h2 (show 0 < 2 by omega)
 have e1 := code_sw h2 (show 1 < 2 by omega)
 unfold finalW
 rw [show W.sw.procs.length = 2 by show (swL W.procs).length = 2; rw [swL_len]; exact h2, h2]
 show (([0, 1] : List Nat).all _) = (([0, 1] : List Nat).all _)
 simp only [List.all_cons, List.all_nil, Bool.and_true]
 rw [show (1 - 0 : Nat) = 1 from rfl] at e0
 rw [show (1 - 1 : Nat) = 0 from rfl] at e1
 rw [e0, e1, Bool.and_comm]
theorem OkP.sw {a b : List Stm} (h : OkP [a, b]) : OkP [b, a] := by
 obtain ⟨h1, h2, h3⟩ := h
 refine ⟨?_, fun l hl => h2 l (by simp at hl ⊢; exact hl.symm), fun l hl => h3 l (by simp at hl ⊢; exact hl.symm)⟩
 unfold progOk at h1 ⊢
 simp only [List.all_cons, List.all_nil, Bool.and_true, List.length_cons, List.length_nil] at h1 ⊢
 rw [Bool.and_comm (stmtsOk b)]
 exact h1
theorem sw_le {a b : List Stm} (h : OkP [a, b]) {Ws' : List Wld} (hs : allW [b, a] = some Ws') : ∃ Ws, allW [a, b] = some Ws ∧ Ws.length ≤ Ws'.length ∧ (endsW Ws).length ≤ (endsW Ws').length := by
 obtain ⟨c1, c2⟩ := allW_cl h
 obtain ⟨d1, d2⟩ := allW_cl h.sw
 obtain ⟨n1, n2, n3⟩ := d1 Ws' hs
 cases ha : allW [a, b] with
 | none =>
  obtain ⟨L, l1, l2, l3⟩ := c2 ha
  have := nodup_le (nodup_map sw_inj l1) (m := Ws') fun V hV => by
   obtain ⟨U, hU, rfl⟩ := List.mem_map.1 hV
   exact (n3 _).2 (Rch_sw h (l3 U hU))
  rw [List.length_map] at this
  omega
 | some Ws =>
  obtain ⟨m1, m2, m3⟩ := c1 Ws ha
  refine ⟨Ws, J, ?_, ?_⟩
  ·have := nodup_le (nodup_map sw_inj m1) (m := Ws') fun V hV => by
    obtain ⟨U, hU, rfl⟩ := List.mem_map.1 hV
    exact (n3 _).2 (Rch_sw h ((m3 U).1 hU))
   rwa [List.length_map] at this
  ·have hnd : (endsW Ws).Nodup := m1.sublist (List.filter_sublist ..)
   have := nodup_le (nodup_map sw_inj hnd) (m := endsW Ws') fun V hV => by
    obtain ⟨U, hU, rfl⟩ := List.mem_map.1 hV
    obtain ⟨hU1, hU2⟩ := List.mem_filter.1 hU
    have hr := (m3 U).1 hU1
    exact List.mem_filter.2 ⟨(n3 _).2 (Rch_sw h hr), by rw [final_sw (hr.ok h).2]; exact hU2⟩
   rwa [List.length_map] at this
end
section
attribute [local irreducible] X Pure Mod
theorem g_boolU : Tryz.prog.eqGuardType Tryz.prog.depth 4 = false := by kernel_rfl
theorem u_boolU : Tryz.prog.underlying 4 = some .bool := by kernel_rfl
theorem progOk_sw (a b : List Stm) : progOk [b, a] = progOk [a, b] := by
 unfold progOk
 simp only [List.all_cons, List.all_nil, Bool.and_true, List.length_cons, List.length_nil]
 rw [Bool.and_comm (stmtsOk b)]
theorem turnP {a b : List Stm} (hs : ∀ l ∈ [a, b], Sh l) (hi : ∀ l ∈ [a, b], iL l) : (endsP [b, a]).isSome = (endsP [a, b]).isSome ∧ ((endsP [b, a]).getD []).length = ((endsP [a, b]).getD []).length ∧ manyP [b, a] = manyP [a, b] := by
 unfold manyP explP endsP
 rw [progOk_sw a b]
 by_cases hpo : progOk [a, b] = true
 ·have hO : OkP [a, b] := ⟨hpo, hs, hi⟩
  rw [if_pos hpo, if_pos hpo, if_pos hpo, if_pos hpo]
  cases h : allW [b, a] with
  | none =>
   cases h' : allW [a, b] with
   | none => exact ⟨rfl, rfl, rfl⟩
   | some Ws =>
    obtain ⟨Ws', e, _⟩ := sw_le hO.sw h'
    rw [h] at e; cases e
  | some Ws' =>
   obtain ⟨Ws, e, l1, l2⟩ := sw_le hO h
   obtain ⟨Ws2, e2, l3, l4⟩ := sw_le hO.sw e
   rw [h] at e2
   cases e2
   rw [e]
   refine ⟨J, ?_, ?_⟩
   ·simp only [Option.map_some, Option.getD_some]; omega
   ·simp only [Option.getD_some]; omega
 ·rw [if_neg hpo, if_neg hpo, if_neg hpo, if_neg hpo]
  exact ⟨J, J, J⟩
theorem c_FnAllTurn (A : Option Addr) (n c : Nat) (G : PH) (hTab : TabG G) (hl : n ≤ 1048576 → ∃ l, Byts G l (.slice A n c) ∧ l.length = n) : Pure Tryz.prog 6 [.slice A n c] G fun v G' => v = .bool true := by
 refine Pure.intro Tryz.func6 Tryz.ntmps6 J J fun w => ?_; refine Va J J ?_
 refine S_condp J (fun h => ?_) (fun h => ?_) <;> refine Va J J ?_
 ·exact S_retp (Res.t1 Tryz.results6 J J) XR J
 obtain ⟨l, hb, hll⟩ := hl (by omega)
 refine S_call Tryz.call11 (c_DrawAllEnds l _ _ hb) J J J ?_;rintro v1 G1 ⟨p, hp⟩ hext1
 obtain ⟨Ap, cp, rfl, hpn⟩ := id hp.1
 have hTab1 := TabG_le hext1.le hTab
 refine Va J J ?_;refine S_call Tryz.call10 (c_iAllEnds p _ _ hp hTab1) J J J ?_;rintro v2 G2 ⟨lv2, rfl, hlv2⟩ hext2
 have hp2 := PrgS_le hext2.le hp
 have hsE := c_sAllEnds p _ G2 hp2
 have hlv2len : ∃ Ae ce, lv2 = .slice Ae ((endsP p).getD []).length ce := by
  obtain ⟨Ae, ce, rfl, _⟩ := id hlv2
  exact ⟨Ae, ce, J⟩
 obtain ⟨Ae, ce, rfl⟩ := hlv2len
 refine Va J J ?_;refine S_call Tryz.call12 hsE J J J ?_;rintro v3 G3 ⟨lv3, rfl, hlv3⟩ hext3
 have hp3 := PrgS_le hext3.le hp2
 have hTab3 := TabG_le (hext2.trans hext3).le hTab1
 obtain ⟨Ae3, ce3, rfl, _⟩ := id hlv3
 refine Va J J ?_;refine S_valV J J J (V_neqB g_boolU u_boolU J J) ?_;refine Va J J ?_
 by_cases h2 : p.length = 2
 rotate_left
 ·refine RT J (by simp; omega) ?_
  refine Va J J ?_;refine S_valV J J J (V_eqB g_boolU u_boolU J J) ?_;refine Va J J ?_;exact S_retp (Res.t1 Tryz.results6 J J) ((hext1.trans hext2).trans hext3) (by simp)
 refine RF J (by simp; omega) ?_;refine Va J J ?_;obtain ⟨a, b, rfl⟩ : ∃ a b, p = [a, b] := by
  match p, h2 with
  | [a, b], _ => exact ⟨a, b, rfl⟩
 obtain ⟨ada, va, e0, hca, hva⟩ := prg_at hp3.1 (i := 0) (by simp)
 subst e0
 obtain ⟨adb, vb, e1, hcb, hvb⟩ := prg_at hp3.1 (i := 1) (by simp)
 cases e1
 simp only [List.getElem_cons_zero, List.getElem_cons_succ] at hva hvb
 obtain ⟨Aa, ca, rfl, _⟩ := id hva
 obtain ⟨Ab, cb, rfl, _⟩ := id hvb
 obtain ⟨q1, q2, q3⟩ := turnP hp3.2.1 (prg_iL hp3.1)
 have hextA := (hext1.trans hext2).trans hext3
 refine D_startK [8] (by exact MO) J J J (by kernel_rfl) ?_;refine Da J J ?_;refine D_val 1 J J J J J J J J J (V_index Tk J J J J (by simp) (by simp)) ?_;refine Da J J ?_;refine D_val 2 J J J J J J J J J (V_load Tk J J J (by simpa [add_zero', add_add'] using hcb)) ?_;refine Da J J ?_;refine D_val 4 J J J J J J J J J (V_index Tk J J J J (by simp) (by simp)) ?_;refine Da J J ?_;refine D_val 5 J J J J J J J J J (V_load Tk J J J (by simpa [add_zero', add_add'] using hca)) ?_
 refine Da J J ?_;refine D_sole 6 J J (N_turnV 6 J J J J fun back => ?_)
 refine S_sliceG Tk ZT_ok J J J J (by decide) (by decide) J J J J (fun _ => J) fun bq Gq hxq hcq => ?_;refine back _ _ _ _ (pk_val J J J J J J J J (V_index Tk J J J J (by simp) (by simp)) (pk_val J J J J J J J J (V_index Tk J J J J (by simp) (by simp)) (pk_all Tk (by kernel_rfl)))) ?_; clear back
 refine Da J J ?_;refine D_sole 7 J J (N_assign Tk 7 J J J J J J J J J (by kernel_rfl) ?_)
 refine DD ?_;refine Va J J ?_
 have hP : Prg Gq [b, a] (.slice (some ⟨bq, 0, none⟩) 2 2) := by
  refine ⟨_, 2, J, by simp, by simp, by simp [maxLen], .inr ⟨_, J, ?_⟩⟩
  exact ⟨⟨[_], ⟨hcq.1, trivial⟩, _, J, Sts_le hxq.le hvb⟩, ⟨[_], ⟨hcq.2.1, trivial⟩, _, J, Sts_le hxq.le hva⟩, trivial⟩
 have hPS : PrgS Gq [b, a] (.slice (some ⟨bq, 0, none⟩) 2 2) := ⟨hP, fun q hq => hp3.2.1 q (by simp at hq ⊢; exact hq.symm), by simp⟩
 have hTab4 := TabG_le hxq.le hTab3
 refine S_call Tryz.call10 (c_iAllEnds [b, a] _ _ hPS hTab4) J J J ?_;rintro v5 G5 ⟨lv5, rfl, hlv5⟩ hext5
 obtain ⟨Ae5, ce5, rfl, _⟩ := id hlv5
 refine Va J J ?_;refine S_call Tryz.call13 (c_iAllMany [a, b] _ _ (PrgS_le (hxq.trans hext5).le hp3) (TabG_le hext5.le hTab4)) J J J ?_;rintro v6 G6 rfl hext6
 refine Va J J ?_;refine S_call Tryz.call13 (c_iAllMany [b, a] _ _ (PrgS_le (hext5.trans hext6).le hPS) (TabG_le (hext5.trans hext6).le hTab4)) J J J ?_;rintro v7 G7 rfl hext7
 rw [q1, q3]
 generalize (endsP [a, b]).isSome = bk
 generalize hE1 : ((endsP [b, a]).getD []).length = n1 at q2 ⊢
 generalize ((endsP [a, b]).getD []).length = n2 at q2 ⊢
 subst q2
 refine Va J J ?_;refine S_valV J J J (V_eqB g_boolU u_boolU J J) ?_;refine Va J J ?_;exact S_retp (Res.t1 Tryz.results6 J J) ((((hextA.trans hxq).trans hext5).trans hext6).trans hext7) (by simp)
end
end Go.Proofs.YtbecgghgcglafaaGreatDoor
