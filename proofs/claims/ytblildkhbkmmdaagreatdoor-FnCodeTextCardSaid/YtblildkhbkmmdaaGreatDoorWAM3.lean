/- Walks of the program's functions, one after the other (part 3); without conditions of their own. -/
import Derived.Test.YtblildkhbkmmdaaGreatDoorWAM1
import Derived.Test.YtblildkhbkmmdaaGreatDoorWAM2
import Derived.Lib.AtoiAll
import Derived.Lib.ItoaLen
import Derived.Lib.Split
set_option linter.unusedVariables false
set_option linter.unusedSimpArgs false
set_option maxRecDepth 100000
set_option maxHeartbeats 4000000
open Go.RowKit
namespace Go.Proofs.YtblildkhbkmmdaaGreatDoor
section
attribute [local irreducible] X Pure Mod
mutual
/-- no list within is long -/
def Stm.short : Stm → Prop
 | .mk _ _ _ _ x y => (x.length ≤ 1048576 ∧ shL x) ∧ y.length ≤ 1048576 ∧ shL y
def shL : List Stm → Prop
 | [] => True
 | s :: r => Stm.short s ∧ shL r
end
def Sh (l : List Stm) : Prop := l.length ≤ 1048576 ∧ shL l
theorem Stm.short_mk {k a b n : Int} {x y : List Stm} : Stm.short (.mk k a b n x y) ↔ Sh x ∧ Sh y := by simp [Stm.short, Sh]
theorem shL_iff : ∀ {l : List Stm}, shL l ↔ ∀ s ∈ l, Stm.short s
 | [] => by simp [shL]
 | s :: r => by simp [shL, shL_iff (l := r)]
theorem shL_append {l l' : List Stm} : shL (l ++ l') ↔ shL l ∧ shL l' := by
 rw [shL_iff, shL_iff, shL_iff]
 constructor
 ·exact fun h => ⟨fun s hs => h s (List.mem_append.2 (.inl hs)), fun s hs => h s (List.mem_append.2 (.inr hs))⟩
 ·rintro ⟨h1, h2⟩ s hs
  rcases List.mem_append.1 hs with hs | hs
  ·exact h1 s hs
  ·exact h2 s hs
theorem Sh_nil : Sh [] := ⟨by simp, trivial⟩
theorem stmtsOk_nil : stmtsOk [] = true := by decide
theorem sts_cells {G : PH} {l : List Stm} {v : Value} (h : Sts G l v) : ∃ A c xs, v = .slice A l.length c ∧ xs.length = l.length * 6 ∧ (l.length = 0 ∨ ∃ a, A = some a ∧ gcells G a xs) ∧ Cs 6 (Stm.rep G) l xs := by
 obtain ⟨xs, hx, hc⟩ := Sr_Sx (fun s cs h => Stm.rep_len h) h
 obtain ⟨A, c, rfl, _, _, _, hl, hr⟩ := hx
 exact ⟨A, c, xs, J, hl, hr, hc⟩
end
section
attribute [local irreducible] X Pure Mod
theorem stmtOk_deep {k a b n : Int} {x y : List Stm} {d r : Int} (h : stmtOk (.mk k a b n x y) d r = true) : 1 ≤ d ∧ (∃ r', listOk x (d - 1) r' = true) ∧ ∃ r', listOk y (d - 1) r' = true := by
 simp only [stmtOk] at h
 split at h
 ·cases h
 rename_i h0
 simp only [Bool.or_eq_true, Bool.and_eq_true, decide_eq_true_eq, not_or, not_and] at h0
 have hy : k ≠ 6 → y = [] := fun hk => List.eq_nil_of_length_eq_zero (by have := h0.1 hk; omega)
 refine ⟨by omega, ?_⟩
 split at h
 ·simp only [Bool.and_eq_true] at h
  exact ⟨⟨_, h.1.2⟩, ⟨_, h.2⟩⟩
 split at h
 ·simp only [Bool.and_eq_true] at h
  exact ⟨⟨_, h.2⟩, 0, by rw [hy (by omega)]; rfl⟩
 ·simp only [Bool.and_eq_true, decide_eq_true_eq] at h
  rename_i h6 h8
  exact ⟨⟨0, by rw [List.eq_nil_of_length_eq_zero h.1]; rfl⟩, 0, by rw [hy (by omega)]; rfl⟩
def MB : Nat → Nat
 | 0 => 0
 | d + 1 => 1048576 * (1 + 2 * MB d)
theorem many_bnd : ∀ (d : Nat) (L : List Stm), Sh L → 0 ≤ many L d ∧ many L d ≤ MB d
 | 0, L, _ => by rw [many_zero L (by omega)]; simp [MB]
 | d + 1, L, h => by
  obtain ⟨K, hK⟩ : ∃ K, K = 1 + 2 * MB d := ⟨_, rfl⟩
  have key : ∀ (L : List Stm), shL L → 0 ≤ many L ((d + 1 : Nat) : Int) ∧ many L ((d + 1 : Nat) : Int) ≤ (L.length * K : Nat) := by
   intro L
   induction L with
   | nil => intro _; simp [many]
   | cons s L ih =>
    intro hs
    obtain ⟨h1, h2⟩ := hs
    have a1 := ih h2
    obtain ⟨k, a, b, m, x, y⟩ := s
    rw [Stm.short_mk] at h1
    have b1 := many_bnd d x h1.1
    have b2 := many_bnd d y h1.2
    have e : (((d + 1 : Nat) : Int) - 1) = (d : Nat) := by omega
    simp only [many, manyS, e, if_pos (show (0 : Int) < ((d + 1 : Nat) : Int) by omega), List.length_cons, Nat.succ_mul]
    omega
  obtain ⟨k1, k2⟩ := key L h.2
  refine ⟨k1, Int.le_trans k2 ?_⟩
  have := Nat.mul_le_mul_right K h.1
  simp only [MB, ← hK]
  omega
theorem MB3 : MB 3 ≤ 9000000000000000000 := by decide
end
section
attribute [local irreducible] X Pure Mod
mutual
/-- never less than the code's length -/
def czS : Stm → Nat
 | .mk _ _ _ _ x y => 2 + cz x + cz y
def cz : List Stm → Nat
 | [] => 0
 | s :: r => czS s + cz r
end
theorem cz_take_succ {L : List Stm} {i : Nat} (h : i < L.length) : cz (L.take (i + 1)) = cz (L.take i) + czS L[i] := by
 rw [List.take_succ_eq_append_getElem h]
 generalize L.take i = M
 induction M with
 | nil => simp [cz]
 | cons s M ih => simp only [List.cons_append, cz, ih]; omega
theorem cz_take_le (L : List Stm) (i : Nat) : cz (L.take i) ≤ cz L := by
 induction L generalizing i with
 | nil => simp
 | cons s L ih =>
  cases i with
  | zero => simp [cz]
  | succ i => have := ih i; simp only [List.take_succ_cons, cz]; omega
theorem cz_many : ∀ (n : Nat) (L : List Stm) (d r : Int), listOk L d r = true → d ≤ n → (cz L : Int) ≤ 2 * many L d
 | n, [], d, r, _, _ => by simp [cz, many]
 | 0, s :: L, d, r, h, hd => by
  simp only [listOk, Bool.and_eq_true] at h
  obtain ⟨k, a, b, m, x, y⟩ := s
  have := (stmtOk_deep h.1).1
  omega
 | n + 1, s :: L, d, r, h, hd => by
  simp only [listOk, Bool.and_eq_true] at h
  obtain ⟨k, a, b, m, x, y⟩ := s
  obtain ⟨h1, ⟨r1, h2⟩, r2, h3⟩ := stmtOk_deep h.1
  have a1 := cz_many n x (d - 1) r1 h2 (by omega)
  have a2 := cz_many n y (d - 1) r2 h3 (by omega)
  have a3 := cz_many (n + 1) L d r h.2 hd
  simp only [cz, czS, many, manyS, if_pos (show 0 < d by omega)]
  omega
theorem cz_ok {L : List Stm} (h : stmtsOk L = true) (hs : Sh L) : cz L ≤ 28 := by
 simp only [stmtsOk, Bool.and_eq_true, decide_eq_true_eq] at h
 have b := many_bnd 3 L hs
 have m3 := MB3
 rw [show ((3 : Nat) : Int) = 3 from rfl] at b
 have e : w64 (many L 3) = many L 3 := w64_eq ⟨by omega, by omega⟩
 rw [e] at h
 have := cz_many 3 L 3 (-1) h.1 (by omega)
 omega
end
section
open Go.Lib (itoa decDigits)
attribute [local irreducible] X Pure Mod
theorem dig_range : ∀ (u : Nat), ∀ c ∈ decDigits u, 48 ≤ c.toNat ∧ c.toNat ≤ 57 := by
 intro u
 induction u using Nat.strongRecOn with
 | _ u ih =>
  intro c hc
  rw [decDigits] at hc
  split at hc
  ·rw [List.mem_singleton] at hc
   subst hc
   rw [UInt8.toNat_ofNat']
   omega
  ·rcases List.mem_append.1 hc with hc | hc
   ·exact ih (u / 10) (by omega) c hc
   ·rw [List.mem_singleton] at hc
    subst hc
    rw [UInt8.toNat_ofNat']
    omega
def valD (acc : Nat) (l : List UInt8) : Nat := l.foldl (fun a c => a * 10 + (c.toNat - 48)) acc
theorem valD_append (acc : Nat) (l m : List UInt8) : valD acc (l ++ m) = valD (valD acc l) m := by simp [valD]
theorem valD_dec : ∀ (u : Nat), valD 0 (decDigits u) = u := by
 intro u
 induction u using Nat.strongRecOn with
 | _ u ih =>
  rw [decDigits]
  split
  ·simp only [valD, List.foldl_cons, List.foldl_nil, UInt8.toNat_ofNat']
   omega
  ·rw [valD_append, ih (u / 10) (by omega)]
   simp only [valD, List.foldl_cons, List.foldl_nil, UInt8.toNat_ofNat']
   omega
theorem dec_ne (u : Nat) : decDigits u ≠ [] := by
 rw [decDigits]
 split <;> simp
theorem dec_head : ∀ (u : Nat), 1 ≤ u → (decDigits u).head? ≠ some 48 := by
 intro u
 induction u using Nat.strongRecOn with
 | _ u ih =>
  intro h
  rw [decDigits]
  split
  ·rename_i h10
   simp only [List.head?_cons, ne_eq, Option.some.injEq]
   intro e
   have := congrArg UInt8.toNat e
   rw [UInt8.toNat_ofNat'] at this
   simp at this
   omega
  ·have := ih (u / 10) (by omega) (by omega)
   cases hd : decDigits (u / 10) with
   | nil => exact absurd hd (dec_ne _)
   | cons a r => rw [hd] at this; simpa using this
theorem dec_zero : decDigits 0 = [48] := by rw [decDigits]; rfl
theorem valD_ge : ∀ (l : List UInt8) (a : Nat), a ≤ valD a l
 | [], a => Nat.le_refl _
 | c :: l, a => by
  simp only [valD, List.foldl_cons]
  have := valD_ge l (a * 10 + (c.toNat - 48))
  simp only [valD] at this
  omega
theorem parse10 : ∀ (l : List UInt8) (acc : Nat), (∀ c ∈ l, 48 ≤ c.toNat ∧ c.toNat ≤ 57) → valD acc l < 18446744073709551616 → Lib.parseUint10 acc l = .ok (valD acc l)
 | [], acc, _, _ => rfl
 | c :: l, acc, hd, hv => by
  have h1 := hd c (List.mem_cons_self ..)
  have h2 : valD acc (c :: l) = valD (acc * 10 + (c.toNat - 48)) l := rfl
  rw [h2] at hv ⊢
  have h3 := valD_ge l (acc * 10 + (c.toNat - 48))
  rw [Lib.parseUint10, if_pos h1, if_neg (by omega), if_neg (by omega)]
  exact parse10 l _ (fun x hx => hd x (List.mem_cons_of_mem _ hx)) hv
theorem itoa_pos {n : Int} (h : 0 ≤ n) : itoa n = decDigits n.toNat := by unfold Lib.itoa; rw [if_neg (by omega)]
theorem itoa_neg' {n : Int} (h : n < 0) : itoa n = 45 :: decDigits n.natAbs := by unfold Lib.itoa; rw [if_pos h]
theorem itoa_bytes (n : Int) : ∀ c ∈ itoa n, c.toNat = 45 ∨ (48 ≤ c.toNat ∧ c.toNat ≤ 57) := by
 intro c hc
 by_cases h : n < 0
 ·rw [itoa_neg' h] at hc
  rcases List.mem_cons.1 hc with rfl | hc
  ·left; rfl
  ·right; exact dig_range _ c hc
 ·rw [itoa_pos (by omega)] at hc
  right; exact dig_range _ c hc
theorem atoi_itoa {n : Int} (h0 : -9223372036854775808 ≤ n) (h1 : n ≤ 9223372036854775807) : Lib.atoiAll (itoa n) = .ok n := by
 by_cases h : n < 0
 ·rw [itoa_neg' h]
  have hp : Lib.parseMag (decDigits n.natAbs) = .ok n.natAbs := by
   unfold Lib.parseMag
   rw [if_neg (dec_ne _), parse10 _ 0 (dig_range _) (by rw [valD_dec]; omega), valD_dec]
  have e45 : (45 : UInt8).toNat = 45 := rfl
  simp only [Lib.atoiAll, e45, or_true, if_true, hp, not_true_eq_false, false_and, if_false]
  rw [if_neg (by omega)]
  congr 1
  omega
 ·rw [itoa_pos (by omega)]
  cases hd : decDigits n.toNat with
  | nil => exact absurd hd (dec_ne _)
  | cons c r =>
   have hc := dig_range n.toNat c (by rw [hd]; exact List.mem_cons_self ..)
   have hp : Lib.parseMag (c :: r) = .ok n.toNat := by
    rw [← hd]
    unfold Lib.parseMag
    rw [if_neg (dec_ne _), parse10 _ 0 (dig_range _) (by rw [valD_dec]; omega), valD_dec]
   have n1 : ¬ (c.toNat = 43 ∨ c.toNat = 45) := by omega
   have n2 : ¬ c.toNat = 45 := by omega
   simp only [Lib.atoiAll, if_neg n1, hp]
   rw [if_neg (fun e => by have := e.2; omega), if_neg (fun e => n2 e.1), if_neg n2]
   congr 1
   omega
def digB (c : UInt8) : Bool := decide (48 ≤ c.toNat ∧ c.toNat ≤ 57)
def rdN (s : List UInt8) : Int × Bool :=
 let neg : Bool := decide (s.head? = some 45)
 let t := if neg then s.tail else s
 if t.length = 0 ∨ 17 < t.length ∨ (t.head? = some 48 ∧ (1 < t.length ∨ neg = true)) then (0, false)
 else if t.all digB then (if neg then -(valD 0 t : Int) else (valD 0 t : Int), true) else (0, false)
theorem rdN_itoa {n : Int} (h0 : -9999 ≤ n) (h1 : n ≤ 9999) : rdN (itoa n) = (n, true) := by
 have hall : ∀ u, (decDigits u).all digB = true := fun u => List.all_eq_true.2 fun c hc => by simpa [digB] using dig_range u c hc
 have hlen : ∀ u, u ≤ 9999 → (decDigits u).length ≤ 17 := by
  intro u hu
  have d4 : ∀ v, v < 10 → (decDigits v).length = 1 := fun v hv => by rw [decDigits]; simp [hv]
  have step : ∀ v, ¬ v < 10 → (decDigits v).length = (decDigits (v / 10)).length + 1 := fun v hv => by rw [decDigits]; simp [hv]
  by_cases a : u < 10
  ·rw [d4 u a]; omega
  rw [step u a]
  by_cases b : u / 10 < 10
  ·rw [d4 _ b]; omega
  rw [step _ b]
  by_cases c : u / 10 / 10 < 10
  ·rw [d4 _ c]; omega
  rw [step _ c, d4 _ (by omega)]
  omega
 have hpos : ∀ u, (decDigits u).length ≠ 0 := fun u h => dec_ne u (List.eq_nil_of_length_eq_zero h)
 by_cases h : n < 0
 ·rw [itoa_neg' h]
  have hh := dec_head n.natAbs (by omega)
  unfold rdN
  simp only [List.head?_cons, decide_true, if_true, List.tail_cons]
  rw [if_neg (by
   rintro (e | e | ⟨e, _⟩)
   ·exact hpos _ e
   ·have := hlen n.natAbs (by omega); omega
   ·exact hh e), if_pos (hall _), valD_dec]
  congr 1
  omega
 ·rw [itoa_pos (by omega)]
  have hd45 : (decDigits n.toNat).head? ≠ some 45 := by
   cases hd : decDigits n.toNat with
   | nil => simp
   | cons c r =>
    have hc := dig_range n.toNat c (by rw [hd]; exact List.mem_cons_self ..)
    simp only [List.head?_cons, ne_eq, Option.some.injEq]
    rintro rfl
    simp at hc
  unfold rdN
  simp only [hd45, decide_false, Bool.false_eq_true, if_false, or_false]
  rw [if_neg (by
   rintro (e | e | ⟨e, e2⟩)
   ·exact hpos _ e
   ·have := hlen n.toNat (by omega); omega
   ·by_cases h3 : n.toNat = 0
    ·rw [h3, dec_zero] at e2; simp at e2
    ·exact dec_head n.toNat (by omega) e), if_pos (hall _), valD_dec]
  congr 1
  omega
def cutB (c : UInt8) : List UInt8 → List (List UInt8)
 | [] => [[]]
 | x :: r => if x = c then [] :: cutB c r else match cutB c r with
  | [] => [[x]]
  | p :: ps => (x :: p) :: ps
theorem cutB_ne (c : UInt8) : ∀ l, cutB c l ≠ []
 | [] => by simp [cutB]
 | x :: r => by
  simp only [cutB]
  split
  ·simp
  ·split <;> simp
theorem cutB_none {c : UInt8} : ∀ {l : List UInt8}, c ∉ l → cutB c l = [l]
 | [], _ => rfl
 | x :: r, h => by
  simp only [List.mem_cons, not_or] at h
  rw [cutB, if_neg (fun e => h.1 e.symm), cutB_none h.2]
theorem cutB_app {c : UInt8} : ∀ {l : List UInt8} (m : List UInt8), c ∉ l → cutB c (l ++ c :: m) = l :: cutB c m
 | [], m, _ => by simp [cutB]
 | x :: r, m, h => by
  simp only [List.mem_cons, not_or] at h
  rw [List.cons_append, cutB, if_neg (fun e => h.1 e.symm), cutB_app m h.2]
theorem cutB_lines {c : UInt8} : ∀ {L : List (List UInt8)}, (∀ l ∈ L, c ∉ l) → cutB c (L.flatMap fun l => l ++ [c]) = L ++ [[]]
 | [], _ => by simp [cutB]
 | l :: L, h => by
  rw [List.flatMap_cons, List.append_assoc, List.singleton_append, cutB_app _ (h l (List.mem_cons_self ..)), cutB_lines fun x hx => h x (List.mem_cons_of_mem _ hx)]
  rfl
theorem cutB_words {c : UInt8} : ∀ {L : List (List UInt8)} {w : List UInt8}, c ∉ w → (∀ l ∈ L, c ∉ l) → cutB c (w ++ L.flatMap fun l => c :: l) = w :: L
 | [], w, hw, _ => by simpa using cutB_none hw
 | l :: L, w, hw, h => by
  rw [List.flatMap_cons, List.cons_append, cutB_app _ hw, cutB_words (h l (List.mem_cons_self ..)) fun x hx => h x (List.mem_cons_of_mem _ hx)]
theorem cutB_len (c : UInt8) : ∀ l : List UInt8, (cutB c l).length ≤ l.length + 1
 | [] => by simp [cutB]
 | x :: r => by
  have := cutB_len c r
  simp only [cutB]
  split
  ·simp only [List.length_cons]; omega
  ·split
   ·simp
   ·rename_i p ps e
    rw [e] at this
    simp only [List.length_cons] at this ⊢
    omega
end
section
open Go.Lib (itoa decDigits)
attribute [local irreducible] X Pure Mod
structure Ins where
 op : Int
 a : Int
 b : Int
 n : Int
deriving DecidableEq
def wordN : Nat → List UInt8
 | 1 => [110, 117, 109]
 | 2 => [100, 111]
 | 3 => [108, 111, 97, 100]
 | 4 => [115, 116, 111, 114, 101]
 | 5 => [115, 97, 121]
 | 6 => [115, 107, 105, 112]
 | 7 => [106, 117, 109, 112]
 | 8 => [101, 110, 116, 101, 114]
 | 9 => [108, 101, 97, 118, 101]
 | 10 => [119, 97, 105, 116]
 | 11 => [115, 105, 103, 110, 97, 108]
 | 12 => [121, 105, 101, 108, 100]
 | 13 => [101, 110, 100]
 | _ => []
def hasA (op : Int) : Bool := !(decide (op = 7) || decide (op = 12) || decide (op = 13))
def hasB (op : Int) : Bool := decide (op = 2) || decide (op = 3) || decide (op = 4)
def hasN (op : Int) : Bool := decide (op = 1) || decide (op = 2) || decide (op = 6) || decide (op = 7)
def numsI (i : Ins) : List Int := (if hasA i.op then [i.a] else []) ++ (if hasB i.op then [i.b] else []) ++ (if hasN i.op then [i.n] else [])
def lineI (i : Ins) : List UInt8 := wordN i.op.toNat ++ (numsI i).flatMap fun n => 32 :: itoa n
def textI (c : List Ins) : List UInt8 := c.flatMap fun i => lineI i ++ [10]
def insOk (i : Ins) (many : Int) : Bool :=
 if 1 ≤ i.op ∧ i.op ≤ 5 then leafOk i.op i.a i.b i.n (-1)
 else if i.op = 6 then decide (0 ≤ i.a) && decide (i.a < 3) && decide (i.b = 0) && decide (0 ≤ i.n) && decide (i.n < many)
 else if i.op = 7 then decide (i.a = 0) && decide (i.b = 0) && decide (0 ≤ i.n) && decide (i.n < many)
 else if 8 ≤ i.op ∧ i.op ≤ 11 then decide (0 ≤ i.a) && decide (i.a < 2) && decide (i.b = 0) && decide (i.n = 0)
 else if i.op = 12 ∨ i.op = 13 then decide (i.a = 0) && decide (i.b = 0) && decide (i.n = 0)
 else false
theorem insOk_op {i : Ins} {many : Int} (h : insOk i many = true) : 1 ≤ i.op ∧ i.op ≤ 13 := by
 unfold insOk at h
 split at h
 ·omega
 split at h
 ·omega
 split at h
 ·omega
 split at h
 ·omega
 split at h
 ·omega
 ·cases h
theorem insOk_nums {i : Ins} {many : Int} (h : insOk i many = true) (hm : many ≤ 60) : (-999 ≤ i.a ∧ i.a ≤ 999) ∧ (-999 ≤ i.b ∧ i.b ≤ 999) ∧ -999 ≤ i.n ∧ i.n ≤ 999 := by
 unfold insOk at h
 split at h
 ·unfold leafOk at h
  simp only [numOk] at h
  split at h
  ·simp at h; omega
  split at h
  ·simp at h; omega
  split at h
  ·simp at h; omega
  split at h
  ·simp at h; omega
  split at h
  ·simp at h; omega
  ·omega
 split at h
 ·simp at h; omega
 split at h
 ·simp at h; omega
 split at h
 ·simp at h; omega
 split at h
 ·simp at h; omega
 ·cases h
theorem insOk_zero {i : Ins} {many : Int} (h : insOk i many = true) : (hasA i.op = false → i.a = 0) ∧ (hasB i.op = false → i.b = 0) ∧ (hasN i.op = false → i.n = 0) := by
 have hop := insOk_op h
 unfold insOk at h
 unfold hasA hasB hasN
 split at h
 ·unfold leafOk at h
  split at h
  ·simp at h ⊢; omega
  split at h
  ·simp at h ⊢; omega
  split at h
  ·simp at h ⊢; omega
  split at h
  ·simp at h ⊢; omega
  split at h
  ·simp at h ⊢; omega
  ·omega
 split at h
 ·simp at h ⊢; omega
 split at h
 ·simp at h ⊢; omega
 split at h
 ·simp at h ⊢; omega
 split at h
 ·simp at h ⊢; omega
 ·cases h
def succI (i : Ins) (at_ : Int) : List Int := if i.op = 13 then [] else if i.op = 7 then [i.n] else if i.op = 6 then [at_ + 1, i.n] else [at_ + 1]
def heldI (i : Ins) (room : Int) : Int × Bool :=
 if i.op = 8 then (i.a + 1, decide (room = 0)) else if i.op = 9 then (0, decide (room = i.a + 1)) else if i.op = 10 then (room, decide (0 < room)) else if i.op = 13 then (0, decide (room = 0)) else (room, true)
def visitI (room : Int) : List Int → List Int × List Int → Option (List Int × List Int)
 | [], s => some s
 | x :: r, (rooms, todo) =>
  if rooms.getD x.toNat 0 < 0 then visitI room r (rooms.set x.toNat room, todo ++ [x])
  else if rooms.getD x.toNat 0 = room then visitI room r (rooms, todo) else none
def roomsF (c : List Ins) : Nat → Nat → List Int → List Int → Bool
 | 0, _, _, _ => true
 | f + 1, k, rooms, todo => match todo[k]? with
  | none => true
  | some x => match c[x.toNat]? with
   | none => true
   | some i =>
    if (heldI i (rooms.getD x.toNat 0)).2 then match visitI (heldI i (rooms.getD x.toNat 0)).1 (succI i x) (rooms, todo) with
     | none => false
     | some (rooms', todo') => roomsF c f (k + 1) rooms' todo'
    else false
def roomsP (c : List Ins) : Bool := roomsF c (c.length + 1) 0 ((List.replicate c.length (-1)).set 0 0) [0]
def allOk (c : List Ins) : Bool := (List.range c.length).all fun k => match c[k]? with
 | some i => insOk i c.length && (decide (i.op = 13) == decide (k = c.length - 1))
 | none => true
def codeOk (c : List Ins) : Bool := decide (1 ≤ c.length) && decide (c.length ≤ 60) && allOk c && roomsP c
theorem codeOk_ins {c : List Ins} (h : codeOk c = true) : 1 ≤ c.length ∧ c.length ≤ 60 ∧ ∀ i ∈ c, insOk i c.length = true := by
 unfold codeOk at h
 simp only [Bool.and_eq_true, decide_eq_true_eq] at h
 obtain ⟨⟨⟨h1, h2⟩, h3⟩, h4⟩ := h
 unfold allOk at h3
 rw [List.all_eq_true] at h3
 refine ⟨h1, h2, fun i hi => ?_⟩
 obtain ⟨k, hk, rfl⟩ := List.getElem_of_mem hi
 have := h3 k (List.mem_range.2 hk)
 rw [List.getElem?_eq_getElem hk] at this
 simp only [Bool.and_eq_true] at this
 exact this.1
theorem word_bytes : ∀ k : Nat, ∀ c ∈ wordN k, 97 ≤ c.toNat ∧ c.toNat ≤ 122 := by
 intro k c hc
 have h14 : k < 14 ∨ wordN k = [] := by
  by_cases h : k < 14
  ·exact .inl h
  ·right
   match k, h with
   | n + 14, _ => rfl
 rcases h14 with h | h
 ·have key : ∀ k < 14, (wordN k).all (fun c => decide (97 ≤ c.toNat ∧ c.toNat ≤ 122)) = true := by decide
  simpa using List.all_eq_true.1 (key k h) c hc
 ·rw [h] at hc; cases hc
theorem line_bytes (i : Ins) : ∀ c ∈ lineI i, c.toNat = 32 ∨ c.toNat = 45 ∨ (48 ≤ c.toNat ∧ c.toNat ≤ 57) ∨ (97 ≤ c.toNat ∧ c.toNat ≤ 122) := by
 intro c hc
 unfold lineI at hc
 rcases List.mem_append.1 hc with hc | hc
 ·right; right; right; exact word_bytes _ c hc
 ·obtain ⟨n, _, hn⟩ := List.mem_flatMap.1 hc
  rcases List.mem_cons.1 hn with rfl | hn
  ·left; rfl
  ·rcases itoa_bytes n c hn with h | h
   ·right; left; exact h
   ·right; right; left; exact h
theorem cut_text (c : List Ins) : cutB 10 (textI c) = c.map lineI ++ [[]] := by
 have : textI c = (c.map lineI).flatMap fun l => l ++ [10] := by unfold textI; rw [List.flatMap_map]
 rw [this]
 refine cutB_lines fun l hl hm => ?_;obtain ⟨i, _, rfl⟩ := List.mem_map.1 hl
 have := line_bytes i 10 hm
 simp at this
theorem cut_line (i : Ins) : cutB 32 (lineI i) = wordN i.op.toNat :: (numsI i).map itoa := by
 have : lineI i = wordN i.op.toNat ++ ((numsI i).map itoa).flatMap fun l => 32 :: l := by unfold lineI; rw [List.flatMap_map]
 rw [this]
 refine cutB_words (fun hm => ?_) fun l hl hm => ?_
 ·have := word_bytes _ 32 hm
  simp at this
 ·obtain ⟨n, _, rfl⟩ := List.mem_map.1 hl
  have := itoa_bytes n 32 hm
  simp at this
def opOf (w : List UInt8) : Nat := (List.range 14).foldl (fun o k => if 1 ≤ k ∧ wordN k = w then k else o) 0
theorem opOf_word : ∀ k : Nat, 1 ≤ k → k ≤ 13 → opOf (wordN k) = k := by
 have key : ∀ k < 14, 1 ≤ k → opOf (wordN k) = k := by decide
 exact fun k h1 h2 => key k (by omega) h1
def mkIns (op : Int) (x y z : Int) : Ins :=
 if op = 7 then ⟨op, 0, 0, x⟩ else if op = 1 ∨ op = 6 then ⟨op, x, 0, y⟩ else if op = 2 then ⟨op, x, y, z⟩ else if op = 3 ∨ op = 4 then ⟨op, x, y, 0⟩ else ⟨op, x, 0, 0⟩
def numAt (w : List (List UInt8)) (k : Nat) : Int := match w[k]? with
 | some s => (rdN s).1
 | none => 0
def readS (line : List UInt8) : Ins := mkIns (opOf ((cutB 32 line).headD [])) (numAt (cutB 32 line) 1) (numAt (cutB 32 line) 2) (numAt (cutB 32 line) 3)
theorem rdN_of {n : Int} (h : -999 ≤ n ∧ n ≤ 999) : (rdN (itoa n)).1 = n := by rw [rdN_itoa (by omega) (by omega)]
theorem readS_line {i : Ins} {many : Int} (h : insOk i many = true) (hm : many ≤ 60) : readS (lineI i) = i := by
 obtain ⟨h1, h2⟩ := insOk_op h
 obtain ⟨ha, hb, hn⟩ := insOk_nums h hm
 obtain ⟨za, zb, zn⟩ := insOk_zero h
 unfold readS
 rw [cut_line]
 have hop : ((opOf ((wordN i.op.toNat :: (numsI i).map itoa).headD []) : Nat) : Int) = i.op := by
  simp only [List.headD_cons]
  rw [opOf_word _ (by omega) (by omega)]
  omega
 rw [hop]
 obtain ⟨op, a, b, n⟩ := i
 simp only at *
 have na := rdN_of ha
 have nb := rdN_of hb
 have nn := rdN_of hn
 have hcase : op = 1 ∨ op = 2 ∨ op = 3 ∨ op = 4 ∨ op = 5 ∨ op = 6 ∨ op = 7 ∨ op = 8 ∨ op = 9 ∨ op = 10 ∨ op = 11 ∨ op = 12 ∨ op = 13 := by omega
 rcases hcase with rfl | rfl | rfl | rfl | rfl | rfl | rfl | rfl | rfl | rfl | rfl | rfl | rfl <;>
  simp [numsI, hasA, hasB, hasN, mkIns, numAt, na, nb, nn] at za zb zn ⊢ <;> (try simp [za, zb, zn]) <;> (try exact ⟨zb, zn⟩)
def readC (text : List UInt8) : List Ins := (((cutB 10 text).dropLast).take 61).map readS
def codeRead (text : List UInt8) : Option (List Ins) := if codeOk (readC text) = true ∧ textI (readC text) = text then some (readC text) else none
theorem readC_text {c : List Ins} (h : codeOk c = true) : readC (textI c) = c := by
 obtain ⟨h1, h2, h3⟩ := codeOk_ins h
 unfold readC
 rw [cut_text, List.dropLast_concat, List.take_of_length_le (by simp; omega), List.map_map]
 conv => rhs; rw [← List.map_id c]
 exact List.map_congr_left fun i hi => readS_line (h3 i hi) (by omega)
theorem codeRead_of {text : List UInt8} {c : List Ins} (h1 : codeOk c = true) (h2 : textI c = text) : codeRead text = some c := by
 subst h2
 unfold codeRead
 rw [readC_text h1, if_pos ⟨h1, rfl⟩]
theorem codeRead_some {text : List UInt8} {c : List Ins} (h : codeRead text = some c) : codeOk c = true ∧ textI c = text := by
 unfold codeRead at h
 split at h
 ·rename_i h1; cases h; exact h1
 ·cases h
end
section
attribute [local irreducible] X Pure Mod
theorem drop_piece {s : List UInt8} {f i : Nat} {c : UInt8} (hf : f ≤ i) (hi : s[i]? = some c) : s.drop f = (s.drop f).take (i - f) ++ c :: s.drop (i + 1) := by
 have hl := (List.getElem?_eq_some_iff.1 hi).1
 conv => lhs; rw [← List.take_append_drop (i - f) (s.drop f)]
 congr 1
 rw [List.drop_drop, show f + (i - f) = i by omega, List.drop_eq_getElem_cons hl]
 congr 1
 exact (List.getElem?_eq_some_iff.1 hi).2
theorem mem_piece {s : List UInt8} {f i : Nat} {c : UInt8} (h : ∀ j, f ≤ j → j < i → s[j]? ≠ some c) : c ∉ (s.drop f).take (i - f) := by
 intro hm
 obtain ⟨k, hk, e⟩ := List.getElem_of_mem hm
 simp only [List.length_take, List.length_drop] at hk
 rw [List.getElem_take, List.getElem_drop] at e
 exact h (f + k) (by omega) (by omega) (by rw [List.getElem?_eq_getElem (by omega), e])
theorem cut_step {s : List UInt8} {f i : Nat} {c : UInt8} (hf : f ≤ i) (h : ∀ j, f ≤ j → j < i → s[j]? ≠ some c) (hi : s[i]? = some c) : cutB c (s.drop f) = (s.drop f).take (i - f) :: cutB c (s.drop (i + 1)) := by
 rw [drop_piece hf hi, cutB_app _ (mem_piece h)]
 congr 1
 rw [← drop_piece hf hi]
theorem cut_end {s : List UInt8} {f : Nat} {c : UInt8} (hf : f ≤ s.length) (h : ∀ j, f ≤ j → j < s.length → s[j]? ≠ some c) : cutB c (s.drop f) = [(s.drop f).take (s.length - f)] := by
 have e : (s.drop f).take (s.length - f) = s.drop f := List.take_of_length_le (by simp)
 have := mem_piece h
 rw [e] at this ⊢
 exact cutB_none this
theorem idx_hit {c : UInt8} : ∀ {l : List UInt8} (m : List UInt8), c ∉ l → Lib.index (l ++ c :: m) [c] = l.length
 | [], m, _ => by simp [Lib.index]
 | x :: l, m, h => by
  simp only [List.mem_cons, not_or] at h
  have ih := idx_hit (l := l) m h.2
  have hx : (c == x) = false := by simpa using h.1
  rw [List.cons_append, Lib.index, if_neg (by simp [h.1]), ih]
  have : ((l.length : Int) == -1) = false := by rw [beq_eq_false_iff_ne]; omega
  simp [this]
theorem idx_miss {c : UInt8} : ∀ {l : List UInt8}, c ∉ l → Lib.index l [c] = -1
 | [], _ => by simp [Lib.index]
 | x :: l, h => by
  simp only [List.mem_cons, not_or] at h
  have ih := idx_miss (l := l) h.2
  have hx : (c == x) = false := by simpa using h.1
  rw [Lib.index, if_neg (by simp [h.1]), ih]
  simp
theorem first_of {c : UInt8} : ∀ {s : List UInt8}, c ∈ s → ∃ l m, s = l ++ c :: m ∧ c ∉ l
 | [], h => by cases h
 | x :: s, h => by
  by_cases e : c = x
  ·exact ⟨[], s, by rw [e]; rfl, by simp⟩
  ·obtain ⟨l, m, rfl, hl⟩ := first_of (s := s) (by simpa [e] using h)
   exact ⟨x :: l, m, J, by simp [e, hl]⟩
theorem split_cut (c : UInt8) : ∀ (n : Nat) (s : List UInt8), s.length ≤ n → Lib.split s [c] = cutB c s := by
 intro n
 induction n with
 | zero =>
  intro s hs
  obtain rfl : s = [] := List.eq_nil_of_length_eq_zero (by omega)
  have h0 := Lib.count_miss (s := []) (sub := [c]) (idx_miss (by simp))
  simp [Lib.split, h0, Lib.splitK, cutB]
 | succ n ih =>
  intro s hs
  by_cases h : c ∈ s
  ·obtain ⟨l, m, rfl, hl⟩ := first_of h
   have hi := idx_hit m hl
   have hc := Lib.count_hit (s := l ++ c :: m) (sub := [c]) (i := l.length) (by simp) hi
   have hd : (l ++ c :: m).drop (l.length + [c].length) = m := by
    rw [List.length_singleton, ← List.drop_drop, List.drop_left]; rfl
   rw [hd] at hc
   have hm := ih m (by simp at hs; omega)
   have hne : ((l.length : Int) == -1) = false := by rw [beq_eq_false_iff_ne]; omega
   unfold Lib.split at hm ⊢
   rw [hc, Nat.add_comm, Lib.splitK, hi, cutB_app m hl, ← hm]
   simp only [hne, Bool.false_eq_true, if_false, Int.toNat_natCast, Nat.add_zero]
   rw [hd, List.take_left]
  ·have h0 := Lib.count_miss (s := s) (sub := [c]) (idx_miss h)
   unfold Lib.split
   rw [h0, Lib.splitK, cutB_none h]
end
section
open Go.Lib (itoa decDigits)
attribute [local irreducible] X Pure Mod
def atoiO (s : List UInt8) : Option Int := match Lib.atoiAll s with
 | .ok v => some v
 | _ => none
def takeI (has : Bool) (rest : List (List UInt8)) : Option (Int × List (List UInt8)) :=
 if has then match rest with
  | [] => none
  | s :: r => match atoiO s with
   | some v => some (v, r)
   | none => none
 else some (0, rest)
def fillI (op : Int) (rest : List (List UInt8)) : Option Ins :=
 match takeI (hasA op) rest with
 | none => none
 | some (a, r1) => match takeI (hasB op) r1 with
  | none => none
  | some (b, r2) => match takeI (hasN op) r2 with
   | none => none
   | some (n, r3) => if r3.length = 0 then some ⟨op, a, b, n⟩ else none
def readI (ws : List (List UInt8)) : Option Ins := if opOf (ws.headD []) = 0 then none else fillI (opOf (ws.headD []) : Nat) ws.tail
theorem opOf_range (w : List UInt8) : opOf w ≤ 13 := by
 unfold opOf
 have key : ∀ (l : List Nat) (o : Nat), (∀ k ∈ l, k ≤ 13) → o ≤ 13 → l.foldl (fun o k => if 1 ≤ k ∧ wordN k = w then k else o) o ≤ 13 := by
  intro l
  induction l with
  | nil => intro o _ h; exact h
  | cons k l ih =>
   intro o hl ho
   simp only [List.foldl_cons]
   refine ih _ (fun x hx => hl x (List.mem_cons_of_mem _ hx)) ?_
   split
   ·exact hl k (List.mem_cons_self ..)
   ·exact ho
 exact key _ 0 (fun k hk => by have := List.mem_range.1 hk; omega) (by omega)
theorem opOf_iff (w : List UInt8) (k : Nat) (h1 : 1 ≤ k) (h2 : k ≤ 13) : opOf w = k ↔ wordN k = w := by
 constructor
 ·intro h
  have key : ∀ (l : List Nat) (o : Nat), (o = 0 ∨ wordN o = w) → (l.foldl (fun o k => if 1 ≤ k ∧ wordN k = w then k else o) o = 0 ∨ wordN (l.foldl (fun o k => if 1 ≤ k ∧ wordN k = w then k else o) o) = w) := by
   intro l
   induction l with
   | nil => intro o h; exact h
   | cons k l ih =>
    intro o ho
    simp only [List.foldl_cons]
    refine ih _ ?_
    split
    ·rename_i hk; exact .inr hk.2
    ·exact ho
  rcases key (List.range 14) 0 (.inl rfl) with h3 | h3
  ·unfold opOf at h; omega
  ·unfold opOf at h; rw [h] at h3; exact h3
 ·rintro rfl
  exact opOf_word k h1 h2
theorem atoiO_itoa {n : Int} (h : -999 ≤ n ∧ n ≤ 999) : atoiO (itoa n) = some n := by
 unfold atoiO
 rw [atoi_itoa (by omega) (by omega)]
theorem readI_line {i : Ins} {many : Int} (h : insOk i many = true) (hm : many ≤ 60) : readI (cutB 32 (lineI i)) = some i := by
 obtain ⟨h1, h2⟩ := insOk_op h
 obtain ⟨ha, hb, hn⟩ := insOk_nums h hm
 obtain ⟨za, zb, zn⟩ := insOk_zero h
 rw [cut_line]
 unfold readI
 have e : opOf ((wordN i.op.toNat :: (numsI i).map itoa).headD []) = i.op.toNat := opOf_word _ (by omega) (by omega)
 rw [if_neg (by rw [e]; omega), e, List.tail_cons, show ((i.op.toNat : Nat) : Int) = i.op by omega]
 clear e
 obtain ⟨op, a, b, n⟩ := i
 simp only at *
 have na := atoiO_itoa ha
 have nb := atoiO_itoa hb
 have nn := atoiO_itoa hn
 have hcase : op = 1 ∨ op = 2 ∨ op = 3 ∨ op = 4 ∨ op = 5 ∨ op = 6 ∨ op = 7 ∨ op = 8 ∨ op = 9 ∨ op = 10 ∨ op = 11 ∨ op = 12 ∨ op = 13 := by omega
 rcases hcase with rfl | rfl | rfl | rfl | rfl | rfl | rfl | rfl | rfl | rfl | rfl | rfl | rfl <;>
  simp [numsI, hasA, hasB, hasN, fillI, takeI, na, nb, nn] at za zb zn ⊢ <;> (try simp [za, zb, zn]) <;> (try exact ⟨zb, zn⟩)
def readLs : List (List UInt8) → Option (List Ins)
 | [] => some []
 | l :: r => match readI (cutB 32 l) with
  | none => none
  | some i => match readLs r with
   | none => none
   | some c => some (i :: c)
theorem readLs_lines {many : Int} (hm : many ≤ 60) : ∀ {c : List Ins}, (∀ i ∈ c, insOk i many = true) → readLs (c.map lineI) = some c
 | [], _ => rfl
 | i :: c, h => by
  simp only [List.map_cons, readLs, readI_line (h i (List.mem_cons_self ..)) hm, readLs_lines hm fun x hx => h x (List.mem_cons_of_mem _ hx)]
def codeReadI (text : List UInt8) : Option (List Ins) := match readLs (cutB 10 text).dropLast with
 | none => none
 | some c => if codeOk c = true ∧ textI c = text then some c else none
theorem codeReadI_eq (text : List UInt8) : codeReadI text = codeRead text := by
 unfold codeReadI
 cases h : readLs (cutB 10 text).dropLast with
 | none =>
  cases hc : codeRead text with
  | none => rfl
  | some c =>
   obtain ⟨h1, h2⟩ := codeRead_some hc
   obtain ⟨h3, h4, h5⟩ := codeOk_ins h1
   rw [← h2, cut_text, List.dropLast_concat, readLs_lines (many := c.length) (by omega) h5] at h
   cases h
 | some c =>
  simp only
  by_cases hc : codeOk c = true ∧ textI c = text
  ·rw [if_pos hc, codeRead_of hc.1 hc.2]
  ·rw [if_neg hc]
   cases hr : codeRead text with
   | none => rfl
   | some d =>
    obtain ⟨h1, h2⟩ := codeRead_some hr
    obtain ⟨h3, h4, h5⟩ := codeOk_ins h1
    rw [← h2, cut_text, List.dropLast_concat, readLs_lines (many := d.length) (by omega) h5] at h
    cases h
    exact absurd ⟨h1, h2⟩ hc
theorem atoiO_i64 {s : List UInt8} {v : Int} (h : atoiO s = some v) : -9223372036854775808 ≤ v ∧ v ≤ 9223372036854775807 := by
 unfold atoiO at h
 split at h
 ·rename_i u hu
  cases h
  unfold Lib.atoiAll at hu
  split at hu
  ·cases hu
  ·simp only at hu
   split at hu
   ·cases hu
   ·cases hu
   ·split at hu
    ·cases hu
    ·split at hu
     ·cases hu
     ·rename_i h1 h2
      cases hu
      split <;> omega
 ·cases h
theorem takeI_i64 {b : Bool} {r r' : List (List UInt8)} {v : Int} (h : takeI b r = some (v, r')) : -9223372036854775808 ≤ v ∧ v ≤ 9223372036854775807 := by
 unfold takeI at h
 split at h
 ·split at h
  ·cases h
  ·split at h
   ·rename_i hv; cases h; exact atoiO_i64 hv
   ·cases h
 ·cases h; omega
def I4 (i : Ins) : Prop := I64 i.op ∧ I64 i.a ∧ I64 i.b ∧ I64 i.n
theorem readI_i64 {ws : List (List UInt8)} {i : Ins} (h : readI ws = some i) : I4 i := by
 unfold readI at h
 split at h
 ·cases h
 ·have hr := opOf_range (ws.headD [])
  unfold fillI at h
  split at h
  ·cases h
  ·rename_i a r1 ha
   split at h
   ·cases h
   ·rename_i b r2 hb
    split at h
    ·cases h
    ·rename_i n r3 hn
     split at h
     ·cases h
      have h1 := takeI_i64 ha
      have h2 := takeI_i64 hb
      have h3 := takeI_i64 hn
      exact ⟨⟨by simp only; omega, by simp only; omega⟩, h1, h2, h3⟩
     ·cases h
end
section
attribute [local irreducible] X Pure Mod
theorem cnt_set : ∀ (l : List Int) (j : Nat) (v : Int), l[j]? = some (-1) → 0 ≤ v → (l.set j v).countP (fun x => decide (0 ≤ x)) = l.countP (fun x => decide (0 ≤ x)) + 1
 | [], j, v, h, _ => by simp at h
 | x :: l, 0, v, h, hv => by
  simp only [List.getElem?_cons_zero, Option.some.injEq] at h
  subst h
  simp [List.set_cons_zero, List.countP_cons, hv]
 | x :: l, j + 1, v, h, hv => by
  rw [List.set_cons_succ, List.countP_cons, List.countP_cons, cnt_set l j v (by simpa using h) hv]
  omega
structure RI (n : Nat) (rooms todo : List Int) : Prop where
 rl : rooms.length = n
 td : ∀ x ∈ todo, 0 ≤ x ∧ x < n
 ct : todo.length = rooms.countP (fun x => decide (0 ≤ x))
 rg : ∀ v ∈ rooms, -1 ≤ v ∧ v ≤ 2
theorem RI.len {n : Nat} {rooms todo : List Int} (h : RI n rooms todo) : todo.length ≤ n := by
 rw [h.ct, ← h.rl]
 exact List.countP_le_length
theorem RI.start {n : Nat} (h : 1 ≤ n) : RI n ((List.replicate n (-1)).set 0 0) [0] := by
 refine ⟨by simp, by simp; omega, ?_, fun v hv => ?_⟩
 ·rw [cnt_set _ 0 0 (by rw [List.getElem?_replicate]; simp; omega) (by omega)]
  have : ∀ n : Nat, (List.replicate n (-1 : Int)).countP (fun x => decide (0 ≤ x)) = 0 := by
   intro n
   rw [List.countP_eq_zero]
   intro x hx
   rw [(List.mem_replicate.1 hx).2]
   decide
  rw [this]
  rfl
 ·rcases List.mem_or_eq_of_mem_set hv with hv | rfl
  ·rw [(List.mem_replicate.1 hv).2]; omega
  ·omega
theorem getD_at {l : List Int} {x : Int} (h0 : 0 ≤ x) (h1 : x < l.length) : ∃ v, l[x.toNat]? = some v ∧ l.getD x.toNat 0 = v := by
 have : x.toNat < l.length := by omega
 refine ⟨l[x.toNat], List.getElem?_eq_getElem this, ?_⟩
 simp [List.getD_eq_getElem?_getD, List.getElem?_eq_getElem this]
theorem RI.new {n : Nat} {rooms todo : List Int} (h : RI n rooms todo) {x room : Int} (hx : 0 ≤ x ∧ x < n) (hr : 0 ≤ room ∧ room ≤ 2) (hv : rooms.getD x.toNat 0 < 0) : RI n (rooms.set x.toNat room) (todo ++ [x]) := by
 obtain ⟨v, h1, h2⟩ := getD_at (l := rooms) hx.1 (by rw [h.rl]; exact hx.2)
 have hm := h.rg v (List.mem_of_getElem? h1)
 obtain rfl : v = -1 := by omega
 refine ⟨by simpa using h.rl, fun y hy => ?_, ?_, fun u hu => ?_⟩
 ·rcases List.mem_append.1 hy with hy | hy
  ·exact h.td y hy
  ·rw [List.mem_singleton.1 hy]; exact hx
 ·rw [List.length_append, List.length_singleton, h.ct, cnt_set _ _ _ h1 hr.1]
 ·rcases List.mem_or_eq_of_mem_set hu with hu | rfl
  ·exact h.rg u hu
  ·omega
def walkOk (c : List Ins) : Prop := ∀ k i, c[k]? = some i → insOk i c.length = true ∧ (i.op = 13 ↔ k = c.length - 1)
theorem held_range {i : Ins} {many : Int} (h : insOk i many = true) {room : Int} (hr : -1 ≤ room ∧ room ≤ 2) (h2 : (heldI i room).2 = true) : i.op = 13 ∨ (heldI i room).1 ≤ 2 ∧ (0 ≤ room → 0 ≤ (heldI i room).1) := by
 unfold heldI at h2 ⊢
 split
 ·rename_i h8
  right
  unfold insOk at h
  rw [if_neg (by omega), if_neg (by omega), if_neg (by omega), if_pos (by omega)] at h
  simp at h
  simp only
  omega
 ·split
  ·right; simp only; omega
  ·split
   ·right; simp only; omega
   ·split
    ·left; assumption
    ·right; simp only; omega
theorem succ_range {c : List Ins} (hw : walkOk c) {k : Nat} {i : Ins} (hk : c[k]? = some i) : ∀ x ∈ succI i (k : Nat), 0 ≤ x ∧ x < c.length := by
 obtain ⟨h1, h2⟩ := hw k i hk
 have hlt := (List.getElem?_eq_some_iff.1 hk).1
 have hN : (i.op = 6 ∨ i.op = 7) → 0 ≤ i.n ∧ i.n < c.length := by
  rintro h
  unfold insOk at h1
  rw [if_neg (by omega)] at h1
  split at h1
  ·simp at h1; omega
  ·rw [if_pos (by omega)] at h1
   simp at h1; omega
 intro x hx
 unfold succI at hx
 split at hx
 ·cases hx
 ·rename_i h13
  have hkn : k ≠ c.length - 1 := fun e => h13 (h2.2 e)
  split at hx
  ·rename_i h7
   rw [List.mem_singleton.1 hx]
   exact hN (.inr h7)
  ·split at hx
   ·rename_i h6
    simp only [List.mem_cons, List.not_mem_nil, or_false] at hx
    rcases hx with rfl | rfl
    ·omega
    ·exact hN (.inl h6)
   ·rw [List.mem_singleton.1 hx]
    omega
theorem succ_len (i : Ins) (k : Int) : (succI i k).length ≤ 2 := by
 unfold succI
 split
 ·simp
 ·split
  ·simp
  ·split <;> simp
theorem codeOk_walk {c : List Ins} (h : allOk c = true) : walkOk c := by
 unfold allOk at h
 intro k i hk
 have hlt := (List.getElem?_eq_some_iff.1 hk).1
 have := List.all_eq_true.1 h k (List.mem_range.2 hlt)
 rw [hk] at this
 simp only [Bool.and_eq_true] at this
 refine ⟨this.1, ?_⟩
 have h2 := beq_iff_eq.1 this.2
 constructor
 ·intro e; rw [decide_eq_true e] at h2; exact of_decide_eq_true h2.symm
 ·intro e; rw [decide_eq_true e] at h2; exact of_decide_eq_true h2
theorem codeOk_of {c : List Ins} (h1 : 1 ≤ c.length) (h2 : c.length ≤ 60) (hw : walkOk c) : codeOk c = roomsP c := by
 have : allOk c = true := by
  unfold allOk
  rw [List.all_eq_true]
  intro k hk
  have hkl := List.mem_range.1 hk
  rw [List.getElem?_eq_getElem hkl]
  obtain ⟨a, b⟩ := hw k c[k] (List.getElem?_eq_getElem hkl)
  simp only [a, Bool.true_and, beq_iff_eq]
  by_cases e : k = c.length - 1
  ·rw [decide_eq_true e, decide_eq_true (b.2 e)]
  ·rw [decide_eq_false e, decide_eq_false (fun h => e (b.1 h))]
 unfold codeOk
 rw [this, decide_eq_true h1, decide_eq_true h2]
 rfl
theorem codeOk_not {c : List Ins} (h : codeOk c = true) : 1 ≤ c.length ∧ c.length ≤ 60 ∧ walkOk c := by
 obtain ⟨h1, h2, _⟩ := codeOk_ins h
 unfold codeOk at h
 simp only [Bool.and_eq_true] at h
 exact ⟨h1, h2, codeOk_walk h.1.2⟩
theorem line_len {i : Ins} (h : I4 i) : (lineI i).length ≤ 80 := by
 obtain ⟨h0, ha, hb, hn⟩ := h
 have la : ∀ {n : Int}, I64 n → (Lib.itoa n).length ≤ 21 := fun h => Lib.itoa_length_le _ h.1 h.2
 have l1 := la ha
 have l2 := la hb
 have l3 := la hn
 have hw : ∀ k : Nat, (wordN k).length ≤ 6 := by
  intro k
  by_cases h : k < 14
  ·have key : ∀ k < 14, (wordN k).length ≤ 6 := by decide
   exact key k h
  ·match k, h with
   | n + 14, _ => simp [wordN]
 have hw' := hw i.op.toNat
 unfold lineI numsI
 simp only [List.length_append, List.flatMap_append]
 split <;> split <;> split <;> simp <;> omega
theorem text_len : ∀ {c : List Ins}, (∀ i ∈ c, I4 i) → (textI c).length ≤ 81 * c.length
 | [], _ => by simp [textI]
 | i :: c, h => by
  have h1 := line_len (h i (List.mem_cons_self ..))
  have h2 := text_len (c := c) fun x hx => h x (List.mem_cons_of_mem _ hx)
  unfold textI at h2 ⊢
  simp only [List.flatMap_cons, List.length_append, List.length_cons, List.length_nil]
  omega
end
section
def YieldM (P : Program) (l : Nat) (vs : List Value) (G : PH) (A At Af : HP) : Prop :=
 ∀ W S, Emb G W → A.holds W S → (∀ b, S b → G b = none) → YieldAt (FW none) 0 P l vs.toArray W (YieldR W S At Af)
theorem YieldM.le {P : Program} {l : Nat} {vs : List Value} {G G' : PH} {A At Af : HP} (h : YieldM P l vs G A At Af) (hG : G.le G') : YieldM P l vs G' A At Af := fun W S hE hA hS =>
 h W S (fun b o hb => hE b o (hG b o hb)) hA fun b hb => by
  cases hq : G b with
  | none => rfl
  | some o => have := hG b o hq; rw [hS b hb] at this; cases this
section
variable {C : Ctx} {k : List It} {E : Env} {ι : Ids} {L : List Ent} {G : PH} {all : Array Oper} {l : List Oper}
end
end
section
section
variable {P : Program} {fn : Func} {n : Nat} {G0 G : PH} {Post : Value → Prop} {w0 : World} {k : List It} {E : Env} {ι : Ids} {L : List Ent}
end
end
section
section
variable {C : Ctx} {k : List It} {E : Env} {ι : Ids} {L : List Ent} {G : PH}
end
def cellsOf (B : Nat) (G : PH) : PH := fun b => if b < B then G b else match G b with
 | some (.cells c t f) => some (.cells c t f)
 | _ => none
section
variable {P : Program} {fn : Func} {n : Nat} {G0 G : PH} {Post : Value → PH → Prop} {w0 : World} {k : List It} {E : Env} {ι : Ids} {L : List Ent}
end
end
section
section
variable {P : Program} {fn : Func} {n : Nat} {G0 G : PH} {Post : Value → Prop} {w0 : World} {k : List It} {E : Env} {ι : Ids} {L : List Ent}
end
end
section
section
variable {C : Ctx} {k : List It} {E : Env} {ι : Ids} {L : List Ent} {G : PH}
end
section
variable {P : Program} {fn : Func} {n : Nat} {G0 G : PH} {Post : Value → Prop} {w0 : World} {k : List It} {E : Env} {ι : Ids} {L : List Ent}
end
section
variable {P : Program} {fn : Func} {n : Nat} {G0 G : PH} {Post : Value → PH → Prop} {w0 : World} {k : List It} {E : Env} {ι : Ids} {L : List Ent}
end
end
section
def wcell (H : PH) (a : Addr) : Option Value :=
 match H a.block with
 | some (.cells c _ f) => if f = (0, 0) ∧ a.spot = none then c[a.off]? else none
 | _ => none
theorem wcell_iff {H : PH} {a : Addr} {v : Value} : wcell H a = some v ↔ ∃ c t, H a.block = some (.cells c t (0, 0)) ∧ a.spot = none ∧ c[a.off]? = some v := by
 unfold wcell
 constructor
 ·intro h
  split at h
  ·rename_i c t f hb
   split at h
   ·rename_i hf
    obtain ⟨rfl, hs⟩ := hf
    exact ⟨c, t, hb, hs, h⟩
   ·cases h
  ·cases h
 ·rintro ⟨c, t, hb, hs, h⟩
  rw [hb]
  simp [hs, h]
theorem wcell_le {H H' : PH} (hl : H.le H') {a : Addr} {v : Value} (h : wcell H a = some v) : wcell H' a = some v := by
 obtain ⟨c, t, hb, hs, h⟩ := wcell_iff.1 h
 exact wcell_iff.2 ⟨c, t, hl _ _ hb, hs, h⟩
theorem wcell_some {H : PH} {a : Addr} {v : Value} (h : wcell H a = some v) : (H a.block).isSome = true := by
 obtain ⟨c, t, hb, hs, h⟩ := wcell_iff.1 h
 simp [hb]
inductive Shp where
 | int
 | sl (w : Nat) (cells : List Shp)
def ptrV : Value → Addr
 | .slice (some b) _ _ => b
 | _ => ⟨0, 0, none⟩
def ptrAt (H : PH) (a : Addr) : Addr := ((wcell H a).map ptrV).getD ⟨0, 0, none⟩
theorem ptrAt_eq {H : PH} {a : Addr} {v : Value} (h : wcell H a = some v) : ptrAt H a = ptrV v := by simp [ptrAt, h]
mutual
def Lies (H : PH) : Shp → Value → Prop
 | .int, v => ∃ n, v = .int .i64 n
 | .sl w cells, v => ∃ A n c, v = .slice A n c ∧ cells.length = n * w ∧ n ≤ 1000000000 ∧ n ≤ c ∧ c ≤ maxLen ∧ (n = 0 ∨ ∃ ad, A = some ad ∧ LiesR H cells ad)
def LiesR (H : PH) : List Shp → Addr → Prop
 | [], _ => True
 | s :: r, ad => (∃ v, wcell H ad = some v ∧ Lies H s v) ∧ LiesR H r (ad.add 1)
end
mutual
def adsC (H : PH) : Shp → Addr → List Addr
 | .int, ad => [ad]
 | .sl w cells, ad => adsR H cells (ptrAt H ad)
def adsR (H : PH) : List Shp → Addr → List Addr
 | [], _ => []
 | s :: r, ad => adsC H s ad ++ adsR H r (ad.add 1)
end
def adsV (H : PH) : Shp → Value → List Addr
 | .int, _ => []
 | .sl _ cells, v => adsR H cells (ptrV v)
mutual
def numC : Shp → Nat
 | .int => 1
 | .sl _ cells => numR cells
def numR : List Shp → Nat
 | [] => 0
 | s :: r => numC s + numR r
end
def numV : Shp → Nat
 | .int => 0
 | .sl _ cells => numR cells
mutual
theorem adsC_len (H : PH) : ∀ (s : Shp) (ad : Addr), (adsC H s ad).length = numC s
 | .int, ad => by simp [adsC, numC]
 | .sl w cells, ad => by simp only [adsC, numC]; exact adsR_len H cells _
theorem adsR_len (H : PH) : ∀ (r : List Shp) (ad : Addr), (adsR H r ad).length = numR r
 | [], ad => by simp [adsR, numR]
 | s :: r, ad => by simp only [adsR, numR, List.length_append, adsC_len H s, adsR_len H r]
end
theorem adsR_append (H : PH) : ∀ (r s : List Shp) (ad : Addr), adsR H (r ++ s) ad = adsR H r ad ++ adsR H s (ad.add r.length)
 | [], s, ad => by simp [adsR, add_zero']
 | x :: r, s, ad => by
  simp only [List.cons_append, adsR, adsR_append H r s, List.append_assoc, List.length_cons, add_add']
  rw [Nat.add_comm 1]
theorem numR_append : ∀ (r s : List Shp), numR (r ++ s) = numR r + numR s
 | [], s => by simp [numR]
 | x :: r, s => by simp only [List.cons_append, numR, numR_append r s]; omega
theorem LiesR_append {H : PH} : ∀ {r s : List Shp} {ad : Addr}, LiesR H (r ++ s) ad ↔ LiesR H r ad ∧ LiesR H s (ad.add r.length)
 | [], s, ad => by simp [LiesR, add_zero']
 | x :: r, s, ad => by
  simp only [List.cons_append, LiesR, LiesR_append (r := r), List.length_cons, add_add', and_assoc]
  rw [Nat.add_comm 1]
def Tn (H H' : PH) : Prop := ∀ a v, wcell H a = some v → wcell H' a = some v ∨ ∃ n m, v = .int .i64 n ∧ wcell H' a = some (.int .i64 m)
theorem Tn.refl (H : PH) : Tn H H := fun a v h => .inl h
theorem Tn.of_le {H H' : PH} (h : H.le H') : Tn H H' := fun a v hv => .inl (wcell_le h hv)
theorem Tn.trans {H H1 H2 : PH} (h : Tn H H1) (h' : Tn H1 H2) : Tn H H2 := by
 intro a v hv
 rcases h a v hv with h1 | ⟨n, m, rfl, h1⟩
 ·exact h' a v h1
 ·rcases h' a _ h1 with h2 | ⟨n', m', e, h2⟩
  ·exact .inr ⟨n, m, J, h2⟩
  ·exact .inr ⟨n, m', J, h2⟩
theorem Tn.slice {H H' : PH} (h : Tn H H') {a : Addr} {A : Option Addr} {n c : Nat} (hv : wcell H a = some (.slice A n c)) : wcell H' a = some (.slice A n c) := by
 rcases h a _ hv with h1 | ⟨_, _, e, _⟩
 ·exact h1
 ·cases e
mutual
theorem Lies_tn {H H' : PH} (h : Tn H H') : ∀ (s : Shp) (v : Value), Lies H s v → Lies H' s v
 | .int, v, hv => by simpa [Lies] using hv
 | .sl w cells, v, hv => by
  simp only [Lies] at hv ⊢
  obtain ⟨A, n, c, e, h1, h2, h3, h4, h5⟩ := hv
  refine ⟨A, n, c, e, h1, h2, h3, h4, ?_⟩
  rcases h5 with h5 | ⟨ad, h5, h6⟩
  ·exact .inl h5
  ·exact .inr ⟨ad, h5, LiesR_tn h cells ad h6⟩
theorem LiesR_tn {H H' : PH} (h : Tn H H') : ∀ (r : List Shp) (ad : Addr), LiesR H r ad → LiesR H' r ad
 | [], ad, _ => by simp [LiesR]
 | .int :: r, ad, hr => by
  simp only [LiesR] at hr ⊢
  obtain ⟨⟨v, h1, h2⟩, h3⟩ := hr
  refine ⟨?_, LiesR_tn h r _ h3⟩
  rcases h ad v h1 with h4 | ⟨n, m, rfl, h4⟩
  ·exact ⟨v, h4, by simpa [Lies] using h2⟩
  ·exact ⟨_, h4, by simp only [Lies]; exact ⟨m, J⟩⟩
 | .sl w cells :: r, ad, hr => by
  simp only [LiesR] at hr ⊢
  obtain ⟨⟨v, h1, h2⟩, h3⟩ := hr
  have h2' := Lies_tn h (.sl w cells) v h2
  refine ⟨?_, LiesR_tn h r _ h3⟩
  obtain ⟨A, n, c, rfl, _⟩ := (show ∃ A n c, v = .slice A n c ∧ _ by simpa only [Lies] using h2)
  exact ⟨_, h.slice h1, h2'⟩
end
theorem ptrAt_tn {H H' : PH} (h : Tn H H') {a : Addr} {w : Nat} {cells : List Shp} {v : Value} (hv : wcell H a = some v) (hl : Lies H (.sl w cells) v) : ptrAt H' a = ptrAt H a := by
 obtain ⟨A, n, c, rfl, _⟩ := (show ∃ A n c, v = .slice A n c ∧ _ by simpa only [Lies] using hl)
 rw [ptrAt_eq hv, ptrAt_eq (h.slice hv)]
theorem Lies_sl {H : PH} {w : Nat} {cells : List Shp} {v : Value} (h : Lies H (.sl w cells) v) : ∃ A n c, v = .slice A n c ∧ cells.length = n * w ∧ n ≤ 1000000000 ∧ n ≤ c ∧ c ≤ maxLen ∧ LiesR H cells (ptrV v) := by
 simp only [Lies] at h
 obtain ⟨A, n, c, rfl, h1, h2, h3, h4, h5⟩ := h
 refine ⟨A, n, c, J, h1, h2, h3, h4, ?_⟩
 rcases h5 with rfl | ⟨ad, rfl, h6⟩
 ·have : cells = [] := List.eq_nil_of_length_eq_zero (by rw [h1]; simp)
  subst this
  simp [LiesR]
 ·exact h6
mutual
theorem adsC_tn {H H' : PH} (h : Tn H H') : ∀ (s : Shp) (ad : Addr) (v : Value), wcell H ad = some v → Lies H s v → adsC H' s ad = adsC H s ad
 | .int, ad, v, _, _ => by simp [adsC]
 | .sl w cells, ad, v, hv, hl => by
  simp only [adsC]
  rw [ptrAt_tn h hv hl]
  obtain ⟨A, n, c, rfl, _, _, _, _, h6⟩ := Lies_sl hl
  rw [ptrAt_eq hv]
  exact adsR_tn h cells _ h6
theorem adsR_tn {H H' : PH} (h : Tn H H') : ∀ (r : List Shp) (ad : Addr), LiesR H r ad → adsR H' r ad = adsR H r ad
 | [], ad, _ => by simp [adsR]
 | s :: r, ad, hr => by
  simp only [LiesR] at hr
  obtain ⟨⟨v, h1, h2⟩, h3⟩ := hr
  simp only [adsR]
  rw [adsC_tn h s ad v h1 h2, adsR_tn h r _ h3]
end
theorem adsV_tn {H H' : PH} (h : Tn H H') {s : Shp} {v : Value} (hl : Lies H s v) : adsV H' s v = adsV H s v := by
 cases s with
 | int => rfl
 | sl w cells =>
  obtain ⟨A, n, c, rfl, _, _, _, _, h6⟩ := Lies_sl hl
  exact adsR_tn h cells _ h6
def isInt (H : PH) (a : Addr) : Prop := ∃ n, wcell H a = some (.int .i64 n)
mutual
theorem adsC_int {H : PH} : ∀ (s : Shp) (ad : Addr) (v : Value), wcell H ad = some v → Lies H s v → ∀ a ∈ adsC H s ad, isInt H a
 | .int, ad, v, hv, hl, a, ha => by
  simp only [adsC, List.mem_singleton] at ha
  subst ha
  simp only [Lies] at hl
  obtain ⟨n, rfl⟩ := hl
  exact ⟨n, hv⟩
 | .sl w cells, ad, v, hv, hl, a, ha => by
  simp only [adsC] at ha
  rw [ptrAt_eq hv] at ha
  obtain ⟨A, n, c, rfl, _, _, _, _, h6⟩ := Lies_sl hl
  exact adsR_int cells _ h6 a ha
theorem adsR_int {H : PH} : ∀ (r : List Shp) (ad : Addr), LiesR H r ad → ∀ a ∈ adsR H r ad, isInt H a
 | [], ad, _, a, ha => by simp [adsR] at ha
 | s :: r, ad, hr, a, ha => by
  simp only [LiesR] at hr
  obtain ⟨⟨v, h1, h2⟩, h3⟩ := hr
  simp only [adsR, List.mem_append] at ha
  rcases ha with ha | ha
  ·exact adsC_int s ad v h1 h2 a ha
  ·exact adsR_int r _ h3 a ha
end
theorem adsV_int {H : PH} {s : Shp} {v : Value} (hl : Lies H s v) : ∀ a ∈ adsV H s v, isInt H a := by
 cases s with
 | int => intro a ha; cases ha
 | sl w cells =>
  obtain ⟨A, n, c, rfl, _, _, _, _, h6⟩ := Lies_sl hl
  exact adsR_int cells _ h6
def PH.setC (H : PH) (a : Addr) (v : Value) : PH := fun b => if b = a.block then (match H b with
 | some (.cells c t f) => some (.cells (c.setIfInBounds a.off v) t f)
 | o => o) else H b
theorem setC_at {H : PH} {a : Addr} {u v : Value} (h : wcell H a = some u) : wcell (H.setC a v) a = some v := by
 obtain ⟨c, t, hb, hs, h⟩ := wcell_iff.1 h
 have hlt := (Array.getElem?_eq_some_iff.1 h).1
 refine wcell_iff.2 ⟨c.setIfInBounds a.off v, t, ?_, hs, ?_⟩
 ·simp only [PH.setC, if_true, hb]
 ·simp [hlt]
theorem setC_ne {H : PH} {a b : Addr} {u x v : Value} (ha : wcell H a = some u) (h : wcell H b = some x) (hne : b ≠ a) : wcell (H.setC a v) b = some x := by
 obtain ⟨c, t, hb, hs, h⟩ := wcell_iff.1 h
 obtain ⟨c', t', hb', hs', h'⟩ := wcell_iff.1 ha
 by_cases e : b.block = a.block
 ·have ho : a.off ≠ b.off := fun e' => hne (by cases a; cases b; simp_all)
  refine wcell_iff.2 ⟨c.setIfInBounds a.off v, t, ?_, hs, ?_⟩
  ·unfold PH.setC; rw [if_pos e, hb]
  ·rw [Array.getElem?_setIfInBounds_ne ho]; exact h
 ·refine wcell_iff.2 ⟨c, t, ?_, hs, h⟩
  unfold PH.setC; rw [if_neg e]; exact hb
theorem setC_tn {H : PH} {a : Addr} {k : Int} (ha : isInt H a) : Tn H (H.setC a (.int .i64 k)) := by
 obtain ⟨n, h⟩ := ha
 intro b v hv
 by_cases e : b = a
 ·subst e
  rw [h] at hv; cases hv
  exact .inr ⟨n, k, J, setC_at h⟩
 ·exact .inl (setC_ne h hv e)
def wr : PH → List Addr → Int → PH
 | H, [], _ => H
 | H, a :: qs, k => wr (H.setC a (.int .i64 k)) qs (k + 1)
theorem wr_append : ∀ (H : PH) (qs rs : List Addr) (k : Int), wr H (qs ++ rs) k = wr (wr H qs k) rs (k + qs.length)
 | H, [], rs, k => by simp [wr]
 | H, a :: qs, rs, k => by
  simp only [List.cons_append, wr, wr_append _ qs rs, List.length_cons]
  congr 1
  omega
theorem isInt_tn {H H' : PH} (h : Tn H H') {a : Addr} (ha : isInt H a) : isInt H' a := by
 obtain ⟨n, hn⟩ := ha
 rcases h a _ hn with h1 | ⟨_, m, _, h1⟩
 ·exact ⟨n, h1⟩
 ·exact ⟨m, h1⟩
theorem wr_tn : ∀ (qs : List Addr) (H : PH) (k : Int), (∀ a ∈ qs, isInt H a) → 0 ≤ k → k + qs.length ≤ 4611686018427387904 → Tn H (wr H qs k)
 | [], H, k, _, _, _ => Tn.refl H
 | a :: qs, H, k, h, h0, h1 => by
  simp only [List.length_cons] at h1
  have t1 := setC_tn (h a (List.mem_cons_self ..)) (k := k)
  exact t1.trans (wr_tn qs _ (k + 1) (fun b hb => isInt_tn t1 (h b (List.mem_cons_of_mem _ hb))) (by omega) (by omega))
end
section
section
variable {C : Ctx} {k : List It} {E : Env} {ι : Ids} {L : List Ent} {G : PH} {all : Array Oper} {l : List Oper}
end
def tcI (n : Nat) : List Shp := List.replicate n .int
end
section
def WR (H : PH) (cells : List Shp) (ad : Addr) (k : Int) (m : Nat) : PH := wr H (adsR H (cells.take m) ad) k
def KR (k : Int) (cells : List Shp) (m : Nat) : Int := k + numR (cells.take m)
theorem take_cell {cells : List Shp} {m : Nat} {c : Shp} (h : cells[m]? = some c) : cells.take (m + 1) = cells.take m ++ [c] ∧ cells = cells.take m ++ c :: cells.drop (m + 1) ∧ (cells.take m).length = m := by
 obtain ⟨hm, rfl⟩ := List.getElem?_eq_some_iff.1 h
 refine ⟨List.take_succ_eq_append_getElem hm, ?_, by simp; omega⟩
 conv => lhs; rw [← List.take_append_drop m cells, List.drop_eq_getElem_cons hm]
theorem WR_succ {H : PH} {cells : List Shp} {ad : Addr} {k : Int} {m : Nat} {c : Shp} (h : cells[m]? = some c) : WR H cells ad k (m + 1) = wr (WR H cells ad k m) (adsC H c (ad.add m)) (KR k cells m) := by
 obtain ⟨h1, _, h3⟩ := take_cell h
 unfold WR KR
 rw [h1, adsR_append, wr_append, h3, adsR_len]
 simp [adsR]
theorem KR_succ {k : Int} {cells : List Shp} {m : Nat} {c : Shp} (h : cells[m]? = some c) : KR k cells (m + 1) = KR k cells m + numC c := by
 obtain ⟨h1, _, h3⟩ := take_cell h
 unfold KR
 rw [h1, numR_append]
 simp [numR]
 omega
theorem numR_take (cells : List Shp) (m : Nat) : numR (cells.take m) ≤ numR cells := by
 conv => rhs; rw [← List.take_append_drop m cells, numR_append]
 omega
structure MkC (H : PH) (cells : List Shp) (ad : Addr) (k : Int) : Prop where
 lies : LiesR H cells ad
 k0 : 0 ≤ k
 kb : k + numR cells ≤ 1152921504606846976
theorem MkC.tn {H : PH} {cells : List Shp} {ad : Addr} {k : Int} (h : MkC H cells ad k) (m : Nat) : Tn H (WR H cells ad k m) := by
 have hb := h.kb
 have h0 := h.k0
 have ht := numR_take cells m
 refine wr_tn _ _ _ (fun a ha => ?_) h0 (by rw [adsR_len]; omega)
 have hl : LiesR H (cells.take m ++ cells.drop m) ad := by rw [List.take_append_drop]; exact h.lies
 exact adsR_int _ _ (LiesR_append.1 hl).1 a ha
theorem MkC.bnd {H : PH} {cells : List Shp} {ad : Addr} {k : Int} (h : MkC H cells ad k) (m : Nat) : 0 ≤ KR k cells m ∧ KR k cells m ≤ 1152921504606846976 := by
 have hb := h.kb
 have h0 := h.k0
 have ht := numR_take cells m
 unfold KR
 omega
theorem MkC.at {H : PH} {cells : List Shp} {ad : Addr} {k : Int} (h : MkC H cells ad k) {m : Nat} {c : Shp} (hm : cells[m]? = some c) : ∃ v, wcell H (ad.add m) = some v ∧ Lies H c v := by
 obtain ⟨_, h2, h3⟩ := take_cell hm
 have hl := h.lies
 rw [h2] at hl
 have := (LiesR_append.1 hl).2
 rw [h3] at this
 simp only [LiesR] at this
 exact this.1
theorem MkC.int {H : PH} {cells : List Shp} {ad : Addr} {k : Int} (h : MkC H cells ad k) (m : Nat) (a : Addr) (ha : a = ad.add m) (hm : cells[m]? = some .int) :
  (∃ u, wcell (WR H cells ad k m) a = some u) ∧ (WR H cells ad k m).setC a (.int .i64 (KR k cells m)) = WR H cells ad k (m + 1) ∧ KR k cells m + 1 = KR k cells (m + 1) ∧ 0 ≤ KR k cells m ∧ KR k cells m ≤ 1152921504606846976 := by
 subst ha
 obtain ⟨v, h1, h2⟩ := h.at hm
 refine ⟨?_, ?_, ?_, (h.bnd m).1, (h.bnd m).2⟩
 ·rcases h.tn m _ _ h1 with h3 | ⟨_, u, _, h3⟩
  ·exact ⟨_, h3⟩
  ·exact ⟨_, h3⟩
 ·rw [WR_succ hm]; simp [adsC, wr]
 ·rw [KR_succ hm]; simp [numC]
theorem MkC.sl {H : PH} {cells : List Shp} {ad : Addr} {k : Int} (h : MkC H cells ad k) (m : Nat) (a : Addr) (ha : a = ad.add m) {w : Nat} {cs : List Shp} (hm : cells[m]? = some (.sl w cs)) :
  ∃ v, wcell (WR H cells ad k m) a = some v ∧ Lies (WR H cells ad k m) (.sl w cs) v ∧ wr (WR H cells ad k m) (adsV (WR H cells ad k m) (.sl w cs) v) (KR k cells m) = WR H cells ad k (m + 1) ∧ KR k cells m + numV (.sl w cs) = KR k cells (m + 1) ∧ 0 ≤ KR k cells m ∧ KR k cells m + numV (.sl w cs) ≤ 1152921504606846976 := by
 subst ha
 obtain ⟨v, h1, h2⟩ := h.at hm
 have hs := KR_succ (k := k) hm
 have hb := h.bnd (m + 1)
 obtain ⟨A, n, c, rfl, _⟩ := Lies_sl h2
 refine ⟨_, (h.tn m).slice h1, Lies_tn (h.tn m) _ _ h2, ?_, by rw [hs]; rfl, (h.bnd m).1, by rw [hs] at hb; exact hb.2⟩
 rw [WR_succ hm, adsV_tn (h.tn m) h2]
 congr 1
 simp only [adsC, adsV]
 rw [ptrAt_eq h1]
theorem MkC.slc {H : PH} {cells : List Shp} {ad : Addr} {k : Int} (h : MkC H cells ad k) (m : Nat) (a : Addr) (ha : a = ad.add m) (c : Shp) (hc : ∃ w cs, c = .sl w cs) (hm : cells[m]? = some c) :
  ∃ v, wcell (WR H cells ad k m) a = some v ∧ Lies (WR H cells ad k m) c v ∧ wr (WR H cells ad k m) (adsV (WR H cells ad k m) c v) (KR k cells m) = WR H cells ad k (m + 1) ∧ KR k cells m + numV c = KR k cells (m + 1) ∧ 0 ≤ KR k cells m ∧ KR k cells m + numV c ≤ 1152921504606846976 := by
 obtain ⟨w, cs, rfl⟩ := hc
 exact h.sl m a ha hm
end
section
def Hd (G : PH) (qs : List Addr) (k : Int) : Prop := ∀ i (hi : i < qs.length), wcell G qs[i] = some (.int .i64 (k + i))
theorem Hd_append {G : PH} {qs rs : List Addr} {k : Int} : Hd G (qs ++ rs) k ↔ Hd G qs k ∧ Hd G rs (k + qs.length) := by
 constructor
 ·intro h
  refine ⟨fun i hi => ?_, fun i hi => ?_⟩
  ·have := h i (by rw [List.length_append]; omega)
   rwa [List.getElem_append_left hi] at this
  ·have := h (qs.length + i) (by rw [List.length_append]; omega)
   rw [List.getElem_append_right (by omega)] at this
   simp only [Nat.add_sub_cancel_left] at this
   rw [this]
   congr 2
   omega
 ·rintro ⟨h1, h2⟩ i hi
  rw [List.length_append] at hi
  rcases Nat.lt_or_ge i qs.length with h | h
  ·rw [List.getElem_append_left h]; exact h1 i h
  ·rw [List.getElem_append_right h, h2 (i - qs.length) (by omega)]
   congr 2
   omega
structure HdC (G : PH) (cells : List Shp) (ad : Addr) (k : Int) : Prop where
 lies : LiesR G cells ad
 k0 : 0 ≤ k
 kb : k + numR cells ≤ 1152921504606846976
 hd : Hd G (adsR G cells ad) k
theorem HdC.bnd {G : PH} {cells : List Shp} {ad : Addr} {k : Int} (h : HdC G cells ad k) (m : Nat) : 0 ≤ KR k cells m ∧ KR k cells m ≤ 1152921504606846976 := by
 have hb := h.kb
 have h0 := h.k0
 have ht := numR_take cells m
 unfold KR
 omega
theorem HdC.at {G : PH} {cells : List Shp} {ad : Addr} {k : Int} (h : HdC G cells ad k) {m : Nat} {c : Shp} (hm : cells[m]? = some c) : (∃ v, wcell G (ad.add m) = some v ∧ Lies G c v) ∧ Hd G (adsC G c (ad.add m)) (KR k cells m) := by
 obtain ⟨_, h2, h3⟩ := take_cell hm
 have hl := h.lies
 have hh := h.hd
 rw [h2] at hl
 rw [h2, adsR_append, Hd_append, h3] at hh
 have := (LiesR_append.1 hl).2
 rw [h3] at this
 simp only [LiesR] at this
 refine ⟨this.1, ?_⟩
 have h5 := hh.2
 simp only [adsR] at h5
 have h6 := (Hd_append.1 h5).1
 rw [adsR_len] at h6
 exact h6
theorem HdC.int {G : PH} {cells : List Shp} {ad : Addr} {k : Int} (h : HdC G cells ad k) (m : Nat) (a : Addr) (ha : a = ad.add m) (hm : cells[m]? = some .int) :
  wcell G a = some (.int .i64 (KR k cells m)) ∧ KR k cells m + 1 = KR k cells (m + 1) ∧ 0 ≤ KR k cells m ∧ KR k cells m ≤ 1152921504606846976 := by
 subst ha
 obtain ⟨_, h2⟩ := h.at hm
 refine ⟨?_, by rw [KR_succ hm]; simp [numC], (h.bnd m).1, (h.bnd m).2⟩
 have := h2 0 (by simp [adsC])
 simpa [adsC] using this
theorem HdC.slc {G : PH} {cells : List Shp} {ad : Addr} {k : Int} (h : HdC G cells ad k) (m : Nat) (a : Addr) (ha : a = ad.add m) (c : Shp) (hc : ∃ w cs, c = .sl w cs) (hm : cells[m]? = some c) :
  ∃ v, wcell G a = some v ∧ Lies G c v ∧ Hd G (adsV G c v) (KR k cells m) ∧ KR k cells m + numV c = KR k cells (m + 1) ∧ 0 ≤ KR k cells m ∧ KR k cells m + numV c ≤ 1152921504606846976 := by
 subst ha
 obtain ⟨w, cs, rfl⟩ := hc
 obtain ⟨⟨v, h1, h2⟩, h3⟩ := h.at hm
 have hs := KR_succ (k := k) hm
 have hb := h.bnd (m + 1)
 refine ⟨v, h1, h2, ?_, by rw [hs]; rfl, (h.bnd m).1, by rw [hs] at hb; exact hb.2⟩
 simp only [adsC] at h3
 rw [ptrAt_eq h1] at h3
 exact h3
end
section
def wcells (H : PH) (a : Addr) (xs : List Value) : Prop := ∀ j v, xs[j]? = some v → wcell H (a.add j) = some v
theorem wcells_le {H H' : PH} (hl : H.le H') {a : Addr} {xs : List Value} (h : wcells H a xs) : wcells H' a xs := fun j v hj => wcell_le hl (h j v hj)
theorem wcells_row {H : PH} {g off : Nat} {cur : Array Value} {e : Nat} {xs : List Value} (hH : H g = some (.cells cur e (0, 0))) (ht : (cur.toList.drop off).take xs.length = xs) : wcells H ⟨g, off, none⟩ xs := by
 intro j v hj
 rw [add_lit']
 refine wcell_iff.2 ⟨cur, e, hH, J, ?_⟩
 rw [← ht] at hj
 rw [List.getElem?_take] at hj
 split at hj
 ·rw [List.getElem?_drop] at hj
  simpa using hj
 ·cases hj
def LiesL (H : PH) : List Shp → List Value → Prop
 | [], [] => True
 | s :: r, v :: vs => Lies H s v ∧ LiesL H r vs
 | _, _ => False
def adsL (H : PH) : List Shp → List Value → List Addr
 | s :: r, v :: vs => adsV H s v ++ adsL H r vs
 | _, _ => []
theorem LiesL_tn {H H' : PH} (ht : Tn H H') : ∀ {r : List Shp} {vs : List Value}, LiesL H r vs → LiesL H' r vs
 | [], [], _ => by simp [LiesL]
 | s :: r, v :: vs, h => by
  simp only [LiesL] at h ⊢
  exact ⟨Lies_tn ht s v h.1, LiesL_tn ht h.2⟩
 | [], _ :: _, h => by simp [LiesL] at h
 | _ :: _, [], h => by simp [LiesL] at h
theorem adsL_tn {H H' : PH} (ht : Tn H H') : ∀ {r : List Shp} {vs : List Value}, LiesL H r vs → adsL H' r vs = adsL H r vs
 | [], [], _ => rfl
 | s :: r, v :: vs, h => by
  simp only [LiesL] at h
  simp only [adsL]
  rw [adsV_tn ht h.1, adsL_tn ht h.2]
 | [], _ :: _, h => by simp [LiesL] at h
 | _ :: _, [], h => by simp [LiesL] at h
theorem adsL_int {H : PH} : ∀ {r : List Shp} {vs : List Value}, LiesL H r vs → ∀ a ∈ adsL H r vs, isInt H a
 | [], [], _, a, ha => by simp [adsL] at ha
 | s :: r, v :: vs, h, a, ha => by
  simp only [LiesL] at h
  simp only [adsL, List.mem_append] at ha
  rcases ha with ha | ha
  ·exact adsV_int h.1 a ha
  ·exact adsL_int h.2 a ha
 | [], _ :: _, h, _, _ => by simp [LiesL] at h
 | _ :: _, [], h, _, _ => by simp [LiesL] at h
theorem isInt_some {H : PH} {a : Addr} (h : isInt H a) : (H a.block).isSome = true := by
 obtain ⟨n, hn⟩ := h
 exact wcell_some hn
def FL (G G' : PH) (r : List Shp) (vs : List Value) : Prop := LiesL (newp G G') r vs ∧ (adsL (newp G G') r vs).Nodup
def FT (G G' : PH) (s : Shp) (v : Value) : Prop := Lies (newp G G') s v ∧ (adsV (newp G G') s v).Nodup
theorem newp_rt {G G1 G2 : PH} (h : G1.le G2) : (newp G G1).le (newp G G2) := by
 intro b o hb
 unfold newp at hb ⊢
 split at hb
 ·cases hb
 ·exact h b o hb
theorem FL.mono {G G1 G2 : PH} (h12 : G1.le G2) {r : List Shp} {vs : List Value} (h : FL G G1 r vs) : FL G G2 r vs := by
 have ht := Tn.of_le (newp_rt (G := G) h12)
 exact ⟨LiesL_tn ht h.1, by rw [adsL_tn ht h.1]; exact h.2⟩
theorem FT.mono {G G1 G2 : PH} (h12 : G1.le G2) {s : Shp} {v : Value} (h : FT G G1 s v) : FT G G2 s v := by
 have ht := Tn.of_le (newp_rt (G := G) h12)
 exact ⟨Lies_tn ht _ _ h.1, by rw [adsV_tn ht h.1]; exact h.2⟩
theorem FT.low {G G1 G2 : PH} (h01 : G.le G1) (h12 : G1.le G2) {s : Shp} {v : Value} (h : FT G1 G2 s v) : FT G G2 s v := by
 have ht := Tn.of_le (newp_mono h01 h12)
 exact ⟨Lies_tn ht _ _ h.1, by rw [adsV_tn ht h.1]; exact h.2⟩
theorem row_ads {H0 H : PH} (hle : H0.le H) : ∀ (r : List Shp) (vs : List Value) (ad : Addr), LiesL H0 r vs → (adsL H0 r vs).Nodup → H0 ad.block = none → ad.spot = none → wcells H ad vs →
  LiesR H r ad ∧ (adsR H r ad).Nodup ∧ ∀ a ∈ adsR H r ad, (a.block = ad.block ∧ ad.off ≤ a.off ∧ a.spot = none) ∨ a ∈ adsL H0 r vs
 | [], [], ad, _, _, _, _, _ => by simp [LiesR, adsR]
 | s :: r, v :: vs, ad, hl, hd, hb, hs, hw => by
  simp only [LiesL] at hl
  simp only [adsL] at hd
  obtain ⟨d1, d2, d3⟩ := List.nodup_append.1 hd
  have ht := Tn.of_le hle
  have h0 : wcell H ad = some v := by have := hw 0 v rfl; rwa [add_zero'] at this
  have had1 : (ad.add 1).block = ad.block ∧ (ad.add 1).off = ad.off + 1 ∧ (ad.add 1).spot = none := by
   obtain ⟨b, o, sp⟩ := ad
   simp only at hs
   subst hs
   simp [Addr.add]
  obtain ⟨i1, i2, i3⟩ := row_ads hle r vs (ad.add 1) hl.2 d2 (by rw [had1.1]; exact hb) had1.2.2 (fun j u hj => by rw [add_add', Nat.add_comm]; exact hw (j + 1) u (by simpa using hj))
  have hC : adsC H s ad = match s with | .int => [ad] | .sl _ _ => adsV H0 s v := by
   cases s with
   | int => simp [adsC]
   | sl w cs =>
    simp only [adsC]
    rw [ptrAt_eq h0, ← adsV_tn ht hl.1]
    rfl
  have hnb : ∀ x ∈ adsL H0 (s :: r) (v :: vs), x.block ≠ ad.block := fun x hx e => by
   have h1 := isInt_some (adsL_int (H := H0) (r := s :: r) (vs := v :: vs) ⟨hl.1, hl.2⟩ x hx)
   rw [e, hb] at h1
   cases h1
  have hCm : ∀ a ∈ adsC H s ad, (a = ad) ∨ a ∈ adsV H0 s v := by
   intro a ha
   rw [hC] at ha
   cases s with
   | int => left; simpa using ha
   | sl w cs => right; exact ha
  refine ⟨⟨⟨v, h0, Lies_tn ht s v hl.1⟩, i1⟩, ?_, ?_⟩
  ·simp only [adsR]
   refine List.nodup_append.2 ⟨?_, i2, fun a ha b hb' e => ?_⟩
   ·rw [hC]
    cases s with
    | int => simp
    | sl w cs => exact d1
   ·subst e
    rcases i3 a hb' with ⟨j1, j2, j3⟩ | hm
    ·rcases hCm a ha with rfl | hv
     ·rw [had1.2.1] at j2; omega
     ·exact hnb a (by simp only [adsL, List.mem_append]; exact .inl hv) (by rw [j1, had1.1])
    ·rcases hCm a ha with rfl | hv
     ·exact hnb a (by simp only [adsL, List.mem_append]; exact .inr hm) J
     ·exact d3 a hv a hm J
  ·intro a ha
   simp only [adsR, List.mem_append] at ha
   rcases ha with ha | ha
   ·rcases hCm a ha with rfl | hv
    ·exact .inl ⟨J, Nat.le_refl _, hs⟩
    ·exact .inr (by simp only [adsL, List.mem_append]; exact .inl hv)
   ·rcases i3 a ha with ⟨j1, j2, j3⟩ | hm
    ·exact .inl ⟨by rw [j1, had1.1], by rw [had1.2.1] at j2; omega, j3⟩
    ·exact .inr (by simp only [adsL, List.mem_append]; exact .inr hm)
 | [], _ :: _, _, h, _, _, _, _ => by simp [LiesL] at h
 | _ :: _, [], _, h, _, _, _, _ => by simp [LiesL] at h
theorem FT_row {G G1 G2 : PH} (h01 : G.le G1) (h12 : G1.le G2) {w n c : Nat} {r : List Shp} {vs : List Value} {A : Option Addr} (h : FL G G1 r vs) (hr : r.length = n * w) (hn : n ≤ 1000000000) (hnc : n ≤ c) (hcm : c ≤ maxLen)
  (hA : n = 0 ∨ ∃ a, A = some a ∧ G1 a.block = none ∧ a.spot = none ∧ wcells (newp G1 G2) a vs) : FT G G2 (.sl w r) (.slice A n c) := by
 rcases hA with rfl | ⟨a, rfl, hb, hs, hw⟩
 ·have : r = [] := List.eq_nil_of_length_eq_zero (by rw [hr]; simp)
  subst this
  exact ⟨by simp only [Lies]; exact ⟨A, 0, c, J, by simp, hn, hnc, hcm, .inl J⟩, by simp [adsV, adsR]⟩
 ·have hH0 : newp G G1 a.block = none := by
   unfold newp
   split
   ·rfl
   ·exact hb
  obtain ⟨i1, i2, _⟩ := row_ads (newp_rt (G := G) h12) r vs a h.1 h.2 hH0 hs (wcells_le (newp_mono h01 h12) hw)
  exact ⟨by simp only [Lies]; exact ⟨_, n, c, J, hr, hn, hnc, hcm, .inr ⟨a, J, i1⟩⟩, i2⟩
section
variable {C : Ctx} {k : List It} {E : Env} {ι : Ids} {L : List Ent} {G : PH}
theorem S_freezeW (κ : Nat) {base e sz : Nat} {A : Option Addr} {n c : Nat} {xs : List Value} {L' : List Ent} (hL : getH κ L = some (rowO base e sz A n c xs)) (hL' : delH κ L = some L') (hb0 : C.w0.heap.size ≤ base)
  (hk : ∀ G', PH.ext C.w0.heap.size G G' → n ≤ c → c ≤ maxLen → (n = 0 ∨ ∃ a, A = some a ∧ gcells (newp G G') a xs) → (n = 0 ∨ ∃ a, A = some a ∧ G a.block = none ∧ a.spot = none ∧ wcells (newp G G') a xs) → X C k E ι L' G') : X C k E ι L G := by
 refine S_lendO κ hL hL' (fun hA hn hc hx => ?_) (fun g off cur hA hbg hnc hcm hl hfit ht hG hb hcells => ?_)
 ·exact hk G XR (by omega) (by rw [hc]; simp [maxLen]) (.inl hn) (.inl hn)
 ·refine hk _ ⟨le_add hG, fun b o hbo hn => ?_⟩ hnc hcm (.inr ⟨_, hA, ?_⟩) (.inr ⟨_, hA, hG, J, ?_⟩)
  ·unfold PH.add at hbo
   split at hbo
   ·rename_i e'; subst e'; omega
   ·rw [hn] at hbo; cases hbo
  ·refine gcells_row (cur := cur) (e := e) (fr := (0, 0)) ?_ xs off ht
   simp [newp, hG, PH.add]
  ·exact wcells_row (cur := cur) (e := e) (by simp [newp, hG, PH.add]) ht
end
end
section
attribute [local irreducible] X Pure Mod
def insC (i : Ins) : List Value := [.int .i64 i.op, .int .i64 i.a, .int .i64 i.b, .int .i64 i.n]
def insRep (i : Ins) (cs : List Value) : Prop := cs = insC i ∧ I4 i
abbrev InsG (G : PH) (c : List Ins) (v : Value) : Prop := Sr G 4 insRep c v
theorem InsG_le {G G' : PH} (hl : G.le G') {c : List Ins} {v : Value} (h : InsG G c v) : InsG G' c v := Sr_mono hl (fun _ _ _ h => h) h
def codeC (c : List Ins) : List Value := c.flatMap insC
theorem codeC_len (c : List Ins) : (codeC c).length = c.length * 4 := by
 induction c with
 | nil => rfl
 | cons i c ih =>
  rw [show codeC (i :: c) = insC i ++ codeC c from rfl, List.length_append, ih, List.length_cons, Nat.succ_mul]
  simp [insC]; omega
theorem codeC_app (c d : List Ins) : codeC (c ++ d) = codeC c ++ codeC d := by simp [codeC]
theorem Cs_codeC : ∀ {c : List Ins}, (∀ i ∈ c, I4 i) → Cs 4 insRep c (codeC c)
 | [], _ => rfl
 | i :: c, h => ⟨insC i, codeC c, rfl, rfl, ⟨rfl, h i (List.mem_cons_self ..)⟩, Cs_codeC fun x hx => h x (List.mem_cons_of_mem _ hx)⟩
theorem Cs_codeC_eq : ∀ {c : List Ins} {xs : List Value}, Cs 4 insRep c xs → xs = codeC c ∧ ∀ i ∈ c, I4 i
 | [], xs, h => ⟨h, fun i hi => by cases hi⟩
 | i :: c, xs, h => by
  obtain ⟨cs, ys, rfl, _, ⟨rfl, h4⟩, h5⟩ := h
  obtain ⟨rfl, h6⟩ := Cs_codeC_eq h5
  refine ⟨rfl, fun x hx => ?_⟩
  rcases List.mem_cons.1 hx with rfl | hx
  ·exact h4
  ·exact h6 x hx
theorem InsG_all {G : PH} {c : List Ins} {v : Value} (h : InsG G c v) : ∀ i ∈ c, I4 i := by
 intro i hi
 obtain ⟨k, hk, rfl⟩ := List.getElem_of_mem hi
 obtain ⟨A, n, rfl, _⟩ := id h
 obtain ⟨ad, cs, _, _, _, h4⟩ := Sr_at h hk
 exact h4
theorem FL_code (G G' : PH) : ∀ c : List Ins, FL G G' (tcI (c.length * 4)) (codeC c) := by
 have key : ∀ c : List Ins, LiesL (newp G G') (tcI (c.length * 4)) (codeC c) ∧ adsL (newp G G') (tcI (c.length * 4)) (codeC c) = [] := by
  intro c
  induction c with
  | nil => simp [tcI, codeC, LiesL, adsL]
  | cons i c ih =>
   obtain ⟨h1, h2⟩ := ih
   rw [show tcI ((i :: c).length * 4) = .int :: .int :: .int :: .int :: tcI (c.length * 4) by
    simp only [List.length_cons, Nat.succ_mul]; rfl, show codeC (i :: c) = .int .i64 i.op :: .int .i64 i.a :: .int .i64 i.b :: .int .i64 i.n :: codeC c from rfl]
   exact ⟨⟨by simp only [Lies]; exact ⟨_, J⟩, by simp only [Lies]; exact ⟨_, J⟩, by simp only [Lies]; exact ⟨_, J⟩, by simp only [Lies]; exact ⟨_, J⟩, h1⟩, by simp only [adsL, adsV, h2]; rfl⟩
 exact fun c => ⟨(key c).1, by rw [(key c).2]; exact List.nodup_nil⟩
end
section
attribute [local irreducible] X Pure Mod
theorem c_l4Held (i : Ins) (room : Int) (G : PH) (ha : -9223372036854775808 ≤ i.a + 1 ∧ i.a + 1 ≤ 9223372036854775807) : Pure Tryz.prog 45 [.agg (insC i).toArray, .int .i64 room] G fun v G' => v = .tuple #[.int .i64 (heldI i room).1, .bool (heldI i room).2] ∧ G' = G := by
 obtain ⟨op, a, b, n⟩ := i
 simp only at ha
 rw [show (insC ⟨op, a, b, n⟩).toArray = #[.int .i64 op, .int .i64 a, .int .i64 b, .int .i64 n] from rfl]
 refine Pure.intro Tryz.func45 Tryz.ntmps45 J J fun w => ?_; refine Va J J ?_;refine S_box J J J J J fun b1 => ?_;refine Va J J ?_
 refine S_condp J (fun h8 => ?_) (fun h8 => ?_) <;> refine Va J J ?_
 ·refine S_add J J J J ha ?_
  refine Va J J ?_;exact S_retp (Res.t2 Tryz.results45 J J J J) XR ⟨by simp [heldI, h8], J⟩
 refine S_condp J (fun h9 => ?_) (fun h9 => ?_) <;> refine Va J J ?_
 ·refine Ds J J J ?_
  refine Da J J ?_;refine D_val 3 J J J J J J J J J (V_add J J ha) ?_;refine Da J J ?_;refine DD ?_;refine Va J J ?_;exact S_retp (Res.t2 Tryz.results45 J J J J) XR ⟨by simp [heldI, h8, h9], J⟩
 refine S_condp J (fun h10 => ?_) (fun h10 => ?_) <;> refine Va J J ?_
 ·exact S_retp (Res.t2 Tryz.results45 J J J J) XR ⟨by simp [heldI, h8, h9, h10], J⟩
 refine S_condp J (fun h13 => ?_) (fun h13 => ?_) <;> refine Va J J ?_
 ·exact S_retp (Res.t2 Tryz.results45 J J J J) XR ⟨by simp [heldI, h8, h9, h10, h13], J⟩
 ·exact S_retp (Res.t2 Tryz.results45 J J J J) XR ⟨by simp [heldI, h8, h9, h10, h13], J⟩
theorem c_l4Next (c : List Ins) (v : Value) (x : Nat) (G : PH) (hv : InsG G c v) (hx : x < c.length) (hc : c.length ≤ 1000000) : Pure Tryz.prog 46 [v, .int .i64 (x : Nat)] G fun v' G' => Ints G' (succI c[x] (x : Nat)) v' := by
 obtain ⟨A, cc, rfl, _⟩ := id hv
 obtain ⟨ad, cs, rfl, hcell, hrep⟩ := Sr_at hv hx
 generalize hi : c[x] = i at hrep
 obtain ⟨rfl, hi4⟩ := hrep
 obtain ⟨op, a, b, n⟩ := i
 obtain ⟨i0, i1, i2, i3⟩ := hi4
 simp only at i0 i1 i2 i3
 rw [show insC ⟨op, a, b, n⟩ = [.int .i64 op, .int .i64 a, .int .i64 b, .int .i64 n] from rfl] at hcell
 have hix : I64 ((x : Int) + 1) := ⟨by omega, by omega⟩
 refine Pure.intro Tryz.func46 Tryz.ntmps46 J J fun w => ?_; refine Va J J ?_;refine S_index Tk J J J J J J (by omega) (by omega) ?_;refine Va J J ?_;refine S_load Tk J J J J J (by simpa using gcells_at hcell 0 _ J) ?_;refine Va J J ?_
 refine S_condp J (fun h13 => ?_) (fun h13 => ?_) <;> refine Va J J ?_
 ·refine S_emptyO Tk 5 J J J J fun A0 => ?_
  refine Va J J ?_;refine S_freezeR 5 J J (Nat.le_refl _) fun Gf hextf hncf hcmf hclf => ?_;refine S_retp (Res.t1 Tryz.results46 J J) hextf ?_
  rw [show succI ⟨op, a, b, n⟩ (x : Nat) = [] by simp [succI, h13]]
  exact frz (L := []) (xs := []) J J (by decide) hncf hcmf hclf
 refine S_condp J (fun h7 => ?_) (fun h7 => ?_) <;> refine Va J J ?_
 ·refine S_index Tk J J J J J J (by omega) (by omega) ?_
  refine Va J J ?_;refine S_load Tk J J J J J (by simpa using gcells_at hcell 3 _ J) ?_;refine Va J J ?_;refine S_sliceG Tk ZT_ok J J J J (by decide) (by decide) J J J J (fun _ => J) fun bq Gq hxq hcq => ?_;refine Va J J ?_;refine S_retp (Res.t1 Tryz.results46 J J) hxq ?_
  rw [show succI ⟨op, a, b, n⟩ (x : Nat) = [n] by simp [succI, h13, h7]]
  exact ints_of hcq J (Nat.le_refl _) (by decide) (by decide) (by intro y hy; rw [List.mem_singleton.1 hy]; exact i3)
 refine S_condp J (fun h6 => ?_) (fun h6 => ?_) <;> refine Va J J ?_
 ·refine S_add J J J J (by omega) ?_
  refine Va J J ?_;refine S_index Tk J J J J J J (by omega) (by omega) ?_;refine Va J J ?_;refine S_load Tk J J J J J (by simpa using gcells_at hcell 3 _ J) ?_;refine Va J J ?_;refine S_sliceG Tk ZT_ok J J J J (by decide) (by decide) J J J J (fun _ => J) fun bq Gq hxq hcq => ?_;refine Va J J ?_;refine S_retp (Res.t1 Tryz.results46 J J) hxq ?_
  rw [show succI ⟨op, a, b, n⟩ (x : Nat) = [(x : Int) + 1, n] by simp [succI, h13, h7, h6]]
  exact ints_of hcq J (Nat.le_refl _) (by decide) (by decide) (by intro y hy; simp only [List.mem_cons, List.not_mem_nil, or_false] at hy; rcases hy with rfl | rfl; exact hix; exact i3)
 ·refine S_add J J J J (by omega) ?_
  refine Va J J ?_;refine S_sliceG Tk ZT_ok J J J J (by decide) (by decide) J J J J (fun _ => J) fun bq Gq hxq hcq => ?_;refine Va J J ?_;refine S_retp (Res.t1 Tryz.results46 J J) hxq ?_
  rw [show succI ⟨op, a, b, n⟩ (x : Nat) = [(x : Int) + 1] by simp [succI, h13, h7, h6]]
  exact ints_of hcq J (Nat.le_refl _) (by decide) (by decide) (by intro y hy; rw [List.mem_singleton.1 hy]; exact hix)
end
section
attribute [local irreducible] X Pure Mod
theorem intC_map : ∀ l : List Int, intC l = l.map (fun n => .int .i64 n)
 | [] => rfl
 | n :: l => by rw [intC, intC_map l]; rfl
theorem intC_sets (l : List Int) (k : Nat) (a : Int) : (intC l).set k (.int .i64 a) = intC (l.set k a) := by
 rw [intC_map, intC_map, List.map_set]
theorem intC_at {l : List Int} {k : Nat} {a : Int} (h : l[k]? = some a) : (intC l)[k]? = some (.int .i64 a) := by
 rw [intC_map, List.getElem?_map, h]
 rfl
def TD (rooms todo : List Int) : Prop := ∀ x ∈ todo, 0 ≤ rooms.getD x.toNat 0
theorem getD_set (l : List Int) (i j : Nat) (v d : Int) : (l.set i v).getD j d = if i = j ∧ j < l.length then v else l.getD j d := by
 simp only [List.getD_eq_getElem?_getD, List.getElem?_set]
 by_cases h : i = j
 ·subst h
  by_cases h2 : i < l.length
  ·simp [h2]
  ·simp [h2]
 ·simp [h]
theorem TD.new {rooms todo : List Int} {x room : Int} (h : TD rooms todo) (hr : 0 ≤ room) (hx : 0 ≤ x ∧ x < rooms.length) : TD (rooms.set x.toNat room) (todo ++ [x]) := by
 intro y hy
 rw [getD_set]
 split
 ·exact hr
 ·rename_i hn
  rcases List.mem_append.1 hy with hy | hy
  ·exact h y hy
  ·rw [List.mem_singleton.1 hy] at hn ⊢
   exact absurd ⟨J, by omega⟩ hn
theorem TD.start {n : Nat} (h : 1 ≤ n) : TD ((List.replicate n (-1)).set 0 0) [0] := by
 intro y hy
 rw [List.mem_singleton.1 hy, getD_set, if_pos ⟨rfl, by simp; omega⟩]
 omega
theorem roomsF_none {c : List Ins} {f k : Nat} {rooms todo : List Int} (h : todo.length ≤ k) : roomsF c (f + 1) k rooms todo = true := by
 rw [roomsF, List.getElem?_eq_none h]
theorem roomsF_at {c : List Ins} {f k x : Nat} {i : Ins} {rooms todo : List Int} (h : todo[k]? = some (x : Int)) (hi : c[x]? = some i) : roomsF c (f + 1) k rooms todo =
  if (heldI i (rooms.getD x 0)).2 then match visitI (heldI i (rooms.getD x 0)).1 (succI i x) (rooms, todo) with
   | none => false
   | some (rooms', todo') => roomsF c f (k + 1) rooms' todo'
  else false := by
 rw [roomsF, h]
 simp only [Int.toNat_natCast, hi]
 all_goals rfl
theorem held_room {i : Ins} {many : Int} (h : insOk i many = true) {room : Int} (hr : 0 ≤ room ∧ room ≤ 2) (h2 : (heldI i room).2 = true) : 0 ≤ (heldI i room).1 ∧ (heldI i room).1 ≤ 2 := by
 rcases held_range h (by omega) h2 with h13 | ⟨a, b⟩
 ·have : (heldI i room).1 = 0 := by simp [heldI, h13]
  omega
 ·exact ⟨b hr.1, a⟩
structure RM where
 k : Nat
 rooms : List Int
 todo : List Int
 A : Option Addr
 cc : Nat
 G : PH
structure RV where
 j : Nat
 rooms : List Int
 todo : List Int
 A : Option Addr
 cc : Nat
theorem c_l4Rooms (c : List Ins) (v : Value) (G : PH) (hv : InsG G c v) (hw : walkOk c) (h1 : 1 ≤ c.length) (h60 : c.length ≤ 60) : Pure Tryz.prog 23 [v] G fun v' G' => ∃ rv, v' = .tuple #[rv, .bool (roomsP c)] := by
 obtain ⟨Ac, cc, rfl, _⟩ := id hv
 refine Pure.intro Tryz.func23 Tryz.ntmps23 J J fun w => ?_; refine Va J J ?_;refine S_emptyO Tk 4 J J J J fun A0 => ?_;refine Va J J ?_;refine S_loop (α := Nat × Option Addr × Nat) (fun y => y.1 ≤ c.length) (fun y => c.length - y.1) []
  (fun y => [(5, .val (.int .i64 (y.1 : Nat))), (4, .val (.slice y.2.1 y.1 y.2.2)), (0, .val (.slice Ac c.length cc))])
  (fun y => [.hp 4 (rowO w.heap.size 3 1 y.2.1 y.1 y.2.2 (intC (List.replicate y.1 (-1))))]) (fun _ => G) (0, A0, 0) (Nat.zero_le _) rfl ⟨⟨_, rfl, rfl⟩, ⟨_, rfl, rfl⟩, ⟨_, rfl, rfl⟩, trivial⟩ (.hp .nil) ?_
 rintro ⟨i, A, c4⟩ hi
 simp only at hi ⊢
 refine Va J J ?_
 refine S_condp J (fun h5 => ?_) (fun h5 => ?_) <;> refine Va J J ?_
 ·refine S_slice Tk ZT_ok J J J J (by decide) (by decide) J J J J fun b21 => ?_
  refine Va J J ?_;refine S_app1 Tk 4 21 J J J J J J J J J J J J J J (by intro u hu; simp at hu; rcases hu with rfl; rfl) rfl (fun _ _ => rfl) (by omega) (Nat.le_refl _) fun A6 c6 => ?_;refine Va J J ?_;refine S_add J J J J (by omega) ?_;refine Va J J ?_;refine S_again (i + 1, A6, c6) (by simp only; omega) (by simp only; omega) rfl ⟨⟨_, rfl, by simp [denO]⟩, ⟨_, rfl, by simp [denO]⟩, ⟨_, rfl, rfl⟩, trivial⟩ ?_
  rw [show intC (List.replicate (i + 1) (-1)) = intC (List.replicate i (-1)) ++ [.int .i64 (-1)] by rw [List.replicate_succ', intC_append]; rfl]
  first | exact .drop (.hp .nil) | exact .hp .nil
 obtain rfl : i = c.length := by omega
 refine S_capO 4 J fun hc4 _ _ => ?_;refine S_someO 4 J (by omega) fun gp op eA => ?_
 subst eA
 refine S_index Tk J J J J J J (by omega) (by omega) ?_;refine Va J J ?_;refine S_storeO Tk 4 (o := 0) J J J (by simp [add_lit']) J J J J J (by simp [intC_length]; omega) rfl ?_;refine Va J J ?_;refine S_sliceB Tk ZT_ok J J J J (by decide) (by decide) J J J J fun b25 hb25 => ?_;refine Va J J ?_;refine S_blkO 25 6 (base := w.heap.size) (n := 1) (c := 1) (o := 0) (sz := 1) J J J J (.inl hb25) J J (Nat.le_refl _) (by simp [maxLen]) (Nat.le_refl _) ?_
 refine S_reE 6 (.val (.slice (some ⟨b25, 0, none⟩) 1 1)) J J ?_;refine Va J J ?_;refine S_loop (α := RM) (fun y => RI c.length y.rooms y.todo ∧ TD y.rooms y.todo ∧ y.k ≤ y.todo.length ∧ roomsP c = roomsF c (c.length + 1 - y.k) y.k y.rooms y.todo ∧ PH.ext w.heap.size G y.G) (fun y => c.length + 1 - y.k) []
  (fun y => [(7, .val (.int .i64 (y.k : Nat))), (6, .val (.slice y.A y.todo.length y.cc)), (4, .val (.slice (some ⟨gp, op, none⟩) c.length c4)), (0, .val (.slice Ac c.length cc))])
  (fun y => [.hp 6 (rowO w.heap.size 3 1 y.A y.todo.length y.cc (intC y.todo)), .hp 4 (rowO w.heap.size 3 1 (some ⟨gp, op, none⟩) c.length c4 (intC y.rooms))]) (fun y => y.G) ⟨0, (List.replicate c.length (-1)).set 0 0, [0], some ⟨b25, 0, none⟩, 1, G⟩
  ⟨RI.start h1, TD.start h1, Nat.zero_le _, rfl, PH.ext.refl _ _⟩ rfl ⟨⟨_, rfl, rfl⟩, ⟨_, rfl, rfl⟩, ⟨_, rfl, rfl⟩, ⟨_, rfl, rfl⟩, trivial⟩ (by rw [← intC_sets]; exact .hp (.hp .nil)) ?_
 rintro ⟨k, rooms, todo, A, cq, G1⟩ ⟨hri, htd, hk, hfuel, hext⟩
 simp only at hri htd hk hfuel hext ⊢
 have htl := hri.len
 obtain ⟨f, hf⟩ : ∃ f, c.length + 1 - k = f + 1 := ⟨c.length - k, by omega⟩
 rw [hf] at hfuel
 refine Va J J ?_
 refine S_condp J (fun h5 => ?_) (fun h5 => ?_) <;> refine Va J J ?_
 ·have hkl : k < todo.length := by omega
  have hxr := hri.td _ (List.getElem_mem hkl)
  have hxt := htd _ (List.getElem_mem hkl)
  have hxk : todo[k]? = some todo[k] := List.getElem?_eq_getElem hkl
  generalize hxe : todo[k] = x at hxr hxt hxk
  obtain ⟨x, rfl⟩ := Int.eq_ofNat_of_zero_le hxr.1
  have hxl : x < c.length := by omega
  obtain ⟨rm, hrm, hrd⟩ := getD_at (l := rooms) hxr.1 (by rw [hri.rl]; exact hxr.2)
  rw [Int.toNat_natCast] at hrm hrd hxt
  rw [hrd] at hxt
  have hrg := hri.rg rm (List.mem_of_getElem? hrm)
  have hci : c[x]? = some c[x] := List.getElem?_eq_getElem hxl
  obtain ⟨hiok, _⟩ := hw x _ hci
  obtain ⟨hna, _, _⟩ := insOk_nums hiok (by omega)
  have hvx := InsG_le hext.le hv
  obtain ⟨adc, csc, rfl, hcell, rfl, hi4⟩ := Sr_at hvx hxl
  have hsr := succ_range hw hci
  have hsl := succ_len c[x] x
  rw [roomsF_at hxk hci, hrd] at hfuel
  have hq := c_l4Held c[x] rm G1 (by omega)
  have hqn := c_l4Next c _ x G1 hvx hxl (by omega)
  generalize c[x] = i at *
  refine S_capO 6 J fun hcap6 _ _ => ?_;refine S_someO 6 J (by omega) fun g6 o6 eA => ?_
  subst eA
  refine S_index Tk J J J J J J (by omega) (by omega) ?_;refine Va J J ?_;refine S_valV J J J (V_loadR' Tk 6 J J (by simp [add_lit']) J J (intC_at hxk)) ?_;refine Va J J ?_;refine Ds J J J ?_;refine Da J J ?_;refine D_val 2 J J J J J J J J J (V_index Tk J J J J (by omega) (by omega)) ?_;refine D_val 6 J J J J J J J J J (V_index Tk J J J J (by omega) (by omega)) ?_;refine Da J J ?_;refine D_val 3 J J J J J J J J J (V_loadA Tk J J J (by simpa using hcell)) ?_
  refine D_val 7 J J J J J J J J J (V_loadR' Tk 4 J J (add_lit' ..) J J (by simpa using intC_at hrm)) ?_;refine Da J J ?_;refine D_sole 8 J J (N_call 8 Tryz.call45 (hq) J J J J J J J J J J ?_)
  rintro v1 G2 ⟨rfl, rfl⟩ _
  refine Da J J ?_;refine DD ?_;refine Va J J ?_
  by_cases hok : (heldI i rm).2 = true
  ·refine RF J (by simp [hok]) ?_
   refine Va J J ?_
   rw [if_pos hok] at hfuel
   have hrr := held_room hiok ⟨hxt, hrg.2⟩ hok
   generalize (heldI i rm).1 = room at hrr hfuel
   refine S_call Tryz.call46 hqn J J J ?_;rintro v3 G3 hv3 hext3
   generalize succI i (x : Int) = next at hv3 hsr hsl hfuel
   obtain ⟨A3, c3, rfl, _⟩ := id hv3
   refine Va J J ?_;refine S_loop (α := RV) (fun y => y.j ≤ next.length ∧ RI c.length y.rooms y.todo ∧ TD y.rooms y.todo ∧ todo.length ≤ y.todo.length ∧ visitI room next (rooms, todo) = visitI room (next.drop y.j) (y.rooms, y.todo)) (fun y => next.length - y.j) []
    (fun y => [(12, .val (.int .i64 (y.j : Nat))), (11, .val (.slice A3 next.length c3)), (9, .val (.int .i64 room)), (7, .val (.int .i64 (k : Nat))), (6, .val (.slice y.A y.todo.length y.cc)), (4, .val (.slice (some ⟨gp, op, none⟩) c.length c4)), (0, .val (.slice (some adc) c.length cc))])
    (fun y => [.hp 6 (rowO w.heap.size 3 1 y.A y.todo.length y.cc (intC y.todo)), .hp 4 (rowO w.heap.size 3 1 (some ⟨gp, op, none⟩) c.length c4 (intC y.rooms))]) (fun _ => G3) ⟨0, rooms, todo, some ⟨g6, o6, none⟩, cq⟩
    ⟨Nat.zero_le _, hri, htd, Nat.le_refl _, rfl⟩ rfl ⟨⟨_, rfl, rfl⟩, ⟨_, rfl, rfl⟩, ⟨_, rfl, rfl⟩, ⟨_, rfl, rfl⟩, ⟨_, rfl, rfl⟩, ⟨_, rfl, rfl⟩, ⟨_, rfl, rfl⟩, trivial⟩ (.hp (.hp .nil)) ?_
   rintro ⟨j, rooms', todo', A', c'⟩ ⟨hj, hri', htd', htt, hvis⟩
   simp only at hj hri' htd' htt hvis ⊢
   have htl' := hri'.len
   refine Va J J ?_
   refine S_condp J (fun h7 => ?_) (fun h7 => ?_) <;> refine Va J J ?_
   ·have hjl : j < next.length := by omega
    obtain ⟨ad3, cs3, e3, hcs3, rfl, hy64⟩ := Sr_at hv3 hjl
    subst e3
    have hyr := hsr _ (List.getElem_mem hjl)
    rw [List.drop_eq_getElem_cons hjl] at hvis
    generalize next[j] = y at hcs3 hy64 hyr hvis
    obtain ⟨ry, hry, hryd⟩ := getD_at (l := rooms') hyr.1 (by rw [hri'.rl]; exact hyr.2)
    have hryg := hri'.rg ry (List.mem_of_getElem? hry)
    rw [visitI, hryd] at hvis
    refine S_index Tk J J J J J J (by omega) (by omega) ?_;refine Va J J ?_;refine S_load Tk J J J J J (by simpa using hcs3.1) ?_;refine Va J J ?_;refine S_index Tk J J J J J J (by omega) (by omega) ?_;refine Va J J ?_;refine S_valV J J J (V_loadR' Tk 4 J J (add_lit' ..) J J (by simpa using intC_at hry)) ?_;refine Va J J ?_
    refine S_condp J (fun hneg => ?_) (fun hneg => ?_) <;> refine Va J J ?_
    ·rw [if_pos hneg] at hvis
     refine S_index Tk J J J J J J (by omega) (by omega) ?_;refine Va J J ?_;refine S_load Tk J J J J J (by simpa using hcs3.1) ?_;refine Va J J ?_;refine S_index Tk J J J J J J (by omega) (by omega) ?_;refine Va J J ?_;refine S_storeO Tk 4 (o := y.toNat) J J J (by simp [add_lit']) J J J J J (by rw [intC_length, hri'.rl]; omega) rfl ?_
     rw [intC_sets]
     refine Va J J ?_;refine S_index Tk J J J J J J (by omega) (by omega) ?_;refine Va J J ?_;refine S_load Tk J J J J J (by simpa using hcs3.1) ?_;refine Va J J ?_;refine S_slice Tk ZT_ok J J J J (by decide) (by decide) J J J J fun b80 => ?_;refine Va J J ?_;refine S_app1 Tk 6 80 J J J J J J J J J J J J J J (by intro u hu; simp at hu; rcases hu with rfl; rfl) rfl (fun _ _ => rfl) (by omega) (Nat.le_refl _) fun A6 c6 => ?_
     rw [intC_snoc]
     refine Va J J ?_;refine S_index Tk J J J J J J (by omega) (by omega) ?_;refine Va J J ?_;refine S_load Tk J J J J J (by simpa using hcs3.1) ?_;refine Va J J ?_;refine S_index Tk J J J J J J (by omega) (by omega) ?_;refine Va J J ?_;refine S_valV J J J (V_loadR' Tk 4 J J (add_lit' ..) J J (by simpa using intC_at (l := rooms'.set y.toNat room) (k := y.toNat) (a := room) (by rw [List.getElem?_set_self (by rw [hri'.rl]; omega)]))) ?_
     refine Va J J ?_;refine RF J (by simp) ?_;refine Va J J ?_;refine S_add J J J J (by omega) ?_;refine Va J J ?_;refine S_again ⟨j + 1, rooms'.set y.toNat room, todo' ++ [y], A6, c6⟩ ⟨hjl, hri'.new hyr hrr (by rw [hryd]; exact hneg), htd'.new hrr.1 (by rw [hri'.rl]; exact hyr), by simp only [List.length_append]; omega, hvis⟩ (by simp only; omega) rfl ⟨⟨_, rfl, by simp [denO]⟩, ⟨_, rfl, rfl⟩, ⟨_, rfl, rfl⟩, ⟨_, rfl, rfl⟩, ⟨_, rfl, by simp [denO]⟩, ⟨_, rfl, rfl⟩, ⟨_, rfl, rfl⟩, trivial⟩ ?_
     simp only [List.length_append, List.length_singleton]
     first | exact .drop (.hp (.hp .nil)) | exact .hp (.hp .nil)
    ·rw [if_neg hneg] at hvis
     refine S_index Tk J J J J J J (by omega) (by omega) ?_;refine Va J J ?_;refine S_load Tk J J J J J (by simpa using hcs3.1) ?_;refine Va J J ?_;refine S_index Tk J J J J J J (by omega) (by omega) ?_;refine Va J J ?_;refine S_valV J J J (V_loadR' Tk 4 J J (add_lit' ..) J J (by simpa using intC_at hry)) ?_;refine Va J J ?_
     refine S_condp J (fun hne => ?_) (fun hne => ?_) <;> refine Va J J ?_
     ·rw [if_neg (by simpa using hne)] at hvis
      rw [hvis] at hfuel
      exact S_retp (Res.t2 Tryz.results23 J J J J) (hext.trans hext3) ⟨_, by rw [hfuel]⟩
     ·rw [if_pos (by simpa using hne)] at hvis
      refine S_add J J J J (by omega) ?_;refine Va J J ?_;exact S_again ⟨j + 1, rooms', todo', A', c'⟩ ⟨hjl, hri', htd', htt, hvis⟩ (by simp only; omega) rfl ⟨⟨_, rfl, by simp [denO]⟩, ⟨_, rfl, rfl⟩, ⟨_, rfl, rfl⟩, ⟨_, rfl, rfl⟩, ⟨_, rfl, rfl⟩, ⟨_, rfl, rfl⟩, ⟨_, rfl, rfl⟩, trivial⟩ (.hp (.hp .nil))
   ·obtain rfl : j = next.length := by omega
    rw [List.drop_length, visitI] at hvis
    rw [hvis] at hfuel
    have hf2 : c.length + 1 - (k + 1) = f := by omega
    rw [← hf2] at hfuel
    refine S_add J J J J (by omega) ?_;refine Va J J ?_;exact S_again ⟨k + 1, rooms', todo', A', c', G3⟩ ⟨hri', htd', by simp only; omega, hfuel, hext.trans hext3⟩ (by simp only; omega) rfl ⟨⟨_, rfl, by simp [denO]⟩, ⟨_, rfl, rfl⟩, ⟨_, rfl, rfl⟩, ⟨_, rfl, rfl⟩, trivial⟩ (.hp (.hp .nil))
  ·refine RT J (by simp [hok]) ?_
   refine Va J J ?_
   rw [if_neg hok] at hfuel
   exact S_retp (Res.t2 Tryz.results23 J J J J) hext ⟨_, by rw [hfuel]⟩
 ·rw [roomsF_none (by omega)] at hfuel
  exact S_retp (Res.t2 Tryz.results23 J J J J) hext ⟨_, by rw [hfuel]⟩
end
section
theorem Mod.introE {P : Program} {f : FuncId} {fn : Func} {c : Code} {vs : List Value} {G : PH} {Post : Value → PH → HP → Prop} {n : Nat} (hf : P.funcs[f]? = some fn) (hn : fn.ntmps = n) (hb : fn.body = some c) (hle : Nat.ble vs.length n = true)
  (hx : ∀ w, X (MC P n fn G Post w (fun _ => False)) [.code c] (envOf 0 vs) [] [.hp 1 emptyHP] G) : Mod P f vs G emptyHP Post := by
 have h1 : ∀ w, X (MC P n fn G Post w (fun _ => False)) [.code c] (envOf 0 vs) [] [.hp 1 emptyHP] G := hx
 intro w S hw hA hS
 have : S = fun _ => False := funext fun b => propext ⟨fun h => emptyHP_none hA b h, False.elim⟩
 subst this
 refine Enter (ι := []) (L := [.hp 1 emptyHP]) (G := G) (S0 := fun _ => False) hf hb hn hle ?_ (h1 w)
 refine ⟨rfl, rfl, rfl, Nat.le_refl _, fun _ _ _ => rfl, hw, [fun _ => False], ⟨hA, ⟨fun T hT => (by cases hT), trivial⟩⟩, ?_⟩
 intro T hT b hb
 rw [List.mem_singleton.1 hT] at hb
 exact hb.elim
end
section
attribute [local irreducible] X Pure Mod
theorem insRep_len (i : Ins) (cs : List Value) (h : insRep i cs) : cs.length = 4 := by rw [h.1]; rfl
theorem ins_cells {G : PH} {c : List Ins} {v : Value} (h : InsG G c v) : ∃ A n, v = .slice A c.length n ∧ (codeC c).length = c.length * 4 ∧ (c.length = 0 ∨ ∃ a, A = some a ∧ gcells G a (codeC c)) ∧ ∀ i ∈ c, I4 i := by
  obtain ⟨xs, hx, hc⟩ := Sr_Sx insRep_len h
  obtain ⟨rfl, h4⟩ := Cs_codeC_eq hc
  obtain ⟨A, n, rfl, _, _, _, hl, hr⟩ := hx
  exact ⟨A, n, J, hl, hr, h4⟩
theorem codeC_one : ∀ (c : List Ins), ∀ u ∈ codeC c, u.oneCell' = true := by
  intro c u hu
  unfold codeC at hu
  obtain ⟨i, _, hi⟩ := List.mem_flatMap.1 hu
  simp only [insC, List.mem_cons, List.not_mem_nil, or_false] at hi
  rcases hi with rfl | rfl | rfl | rfl <;> rfl
theorem ins_one {G : PH} {a : Addr} {i : Ins} (h : gcells G a (insC i)) (h4 : I4 i) : InsG G [i] (.slice (some a) 1 1) :=
  Sx_Sr ⟨some a, 1, rfl, by decide, Nat.le_refl _, by simp [maxLen], rfl, .inr ⟨a, rfl, h⟩⟩ rfl ⟨insC i, [], by simp, rfl, ⟨rfl, h4⟩, rfl⟩
def CodeM (m : Nat) (v : Value) (G : PH) : Prop := ∃ c, InsG G c v ∧ c.length ≤ m
def OneC (s : Stm) : Prop := ∀ (cs : List Value) (G : PH) (at_ : Nat), at_ + czS s ≤ 1000000 → Stm.rep G s cs → Pure Tryz.prog 65 [.agg cs.toArray, .int .i64 (at_ : Nat)] G fun v G' => CodeM (czS s) v G'
def OfC (L : List Stm) : Prop := ∀ (v : Value) (G : PH) (at_ : Nat), at_ + cz L ≤ 1000000 → Sts G L v → Mod Tryz.prog 48 [v, .int .i64 (at_ : Nat)] G emptyHP fun v G' A' => ∃ c A n base, v = .slice A c.length n ∧ A' = rowO base 33 4 A c.length n (codeC c) ∧ (∀ i ∈ c, I4 i) ∧ c.length ≤ cz L
structure OC where
  i : Nat
  A : Option Addr
  c : Nat
  d : List Ins
  G : PH
theorem c_l4Of_of (L : List Stm) (hs : ∀ k (hk : k < L.length), OneC L[k]) : OfC L := by
  intro v G at_ hat hv
  obtain ⟨A, c, rfl, hln, _⟩ := id hv
  refine Mod.introE Tryz.func48 Tryz.ntmps48 J J fun w => ?_;refine Va J J ?_;refine S_emptyO Tk 5 J J J J fun A0 => ?_;refine Va J J ?_;refine S_loop (α := OC) (fun y => y.i ≤ L.length ∧ y.d.length ≤ cz (L.take y.i) ∧ (∀ i ∈ y.d, I4 i) ∧ PH.ext w.heap.size G y.G) (fun y => L.length - y.i) []
    (fun y => [(6, .val (.int .i64 (y.i : Nat))), (5, .val (.slice y.A y.d.length y.c)), (0, .val (.slice A L.length c)), (1, .val (.int .i64 (at_ : Nat)))])
    (fun y => [.hp 5 (rowO w.heap.size 33 4 y.A y.d.length y.c (codeC y.d))]) (fun y => y.G) ⟨0, A0, 0, [], G⟩ ⟨Nat.zero_le _, by simp, by simp, PH.ext.refl _ _⟩ rfl ⟨⟨_, rfl, rfl⟩, ⟨_, rfl, rfl⟩, ⟨_, rfl, rfl⟩, ⟨_, rfl, rfl⟩, trivial⟩ (.hp (.drop .nil)) ?_
  rintro ⟨i, A1, c1, d, G1⟩ ⟨hi, hd, hd4, hext⟩
  simp only at hi hd hd4 hext ⊢
  have hle := cz_take_le L i
  refine Va J J ?_
  refine S_condp J (fun h5 => ?_) (fun h5 => ?_) <;> refine Va J J ?_
  · have hil : i < L.length := by omega
    obtain ⟨ad, cs, rfl, hcs, hrep⟩ := Sr_at (Sts_le hext.le hv) hil
    have hcz := cz_take_succ hil
    have hle2 := cz_take_le L (i + 1)
    have hq := hs i hil
    generalize L[i] = s at *
    have hcl := Stm.rep_len hrep
    refine S_index Tk J J J J J J (by omega) (by omega) ?_;refine Va J J ?_;refine S_loadA Tk J J J J hcl (by simpa using hcs) ?_;refine Va J J ?_;refine S_add J J J J (by omega) ?_;refine Va J J ?_
    rw [show ((at_ : Int) + (d.length : Nat)) = ((at_ + d.length : Nat) : Int) by omega]
    refine S_call Tryz.call65 (hq cs G1 (at_ + d.length) (by omega) hrep) J J J ?_;rintro v3 G3 ⟨c', hc', hcl'⟩ hext3
    obtain ⟨A3, n3, rfl, hl3, hg3, h43⟩ := ins_cells hc'
    refine Va J J ?_;refine S_appO Tk 5 J J J J J J J J J J J (fun _ _ => J) (src_G hl3 hg3) (codeC_one _) (by simp only; omega) (by simp only [maxLen]; omega) (Nat.le_refl _) fun A4 c4 => ?_
    rw [← codeC_app]
    refine Va J J ?_;refine S_add J J J J (by omega) ?_;refine Va J J ?_;refine S_again ⟨i + 1, A4, c4, d ++ c', G3⟩ ⟨hil, by simp only [List.length_append]; omega, ?_, hext.trans hext3⟩ (by simp only; omega) rfl ⟨⟨_, rfl, by simp [denO]⟩, ⟨_, rfl, by simp [denO]⟩, ⟨_, rfl, rfl⟩, ⟨_, rfl, rfl⟩, trivial⟩ ?_
    · intro x hx
      rcases List.mem_append.1 hx with hx | hx
      · exact hd4 x hx
      · exact h43 x hx
    · simp only [List.length_append]
      exact .hp .nil
  · obtain rfl : i = L.length := by omega
    rw [List.take_length] at hd
    exact S_retm 5 (Res.t1 Tryz.results48 J J) J hext ⟨d, A1, c1, _, J, J, hd4, hd⟩
theorem c_l4One_of (s : Stm) (hx : OfC s.body) (hy : OfC s.els) : OneC s := by
  intro cs G at_ hcz hrep
  obtain ⟨k, a, b, n, x, y⟩ := s
  obtain ⟨vx, vy, rfl, hk, ha, hb, hn, hvx, hvy⟩ := Stm.rep_iff.1 hrep
  simp only [Stm.body, Stm.els] at hx hy
  simp only [czS] at hcz
  have hz : I64 0 := ⟨by omega, by omega⟩
  obtain ⟨Ax, cx, rfl, _⟩ := id hvx
  obtain ⟨Ay, cy, rfl, _⟩ := id hvy
  refine Pure.intro Tryz.func65 Tryz.ntmps65 J J fun w => ?_; refine Va J J ?_;refine S_box J J J J J fun b2 => ?_;refine Va J J ?_
  refine S_condp J (fun h6 => ?_) (fun h6 => ?_) <;> refine Va J J ?_
  · refine S_add J J J J (by omega) ?_
    refine Va J J ?_
    rw [show ((at_ : Int) + 1) = ((at_ + 1 : Nat) : Int) by omega]
    refine S_callN 60 Tryz.call48 (hx _ G (at_ + 1) (by omega) hvx) J J J ?_;rintro v1 G0 A0 ⟨c1, A1, n1, base0, rfl, rfl, h41, hl1⟩ hext0
    refine S_newRow 60 J J ?_;refine S_freezeR 60 J J (Nat.le_refl _) fun G1 hextg hncg hcmg hclg => ?_
    have hc1 : InsG G1 c1 _ := frz (Cs_codeC h41) rfl (by omega) hncg hcmg hclg
    have hext1 := hext0.trans hextg
    obtain ⟨_, _, e, hn1, hg1, _⟩ := ins_cells hc1
    cases e
    refine Va J J ?_;refine S_add J J J J (by omega) ?_;refine Va J J ?_;refine S_add J J J J (by omega) ?_;refine Va J J ?_
    rw [show ((at_ : Int) + 2 + (c1.length : Nat)) = ((at_ + 2 + c1.length : Nat) : Int) by omega]
    refine S_callN 60 Tryz.call48 (hy _ G1 (at_ + 2 + c1.length) (by omega) (Sts_le hext1.le hvy)) J J J ?_;rintro v2 G0 A0 ⟨c2, A2, n2, base0, rfl, rfl, h42, hl2⟩ hext0
    refine S_newRow 60 J J ?_;refine S_freezeR 60 J J (Nat.le_refl _) fun G2 hextg hncg hcmg hclg => ?_
    have hc2 : InsG G2 c2 _ := frz (Cs_codeC h42) rfl (by omega) hncg hcmg hclg
    have hext2 := hext0.trans hextg
    obtain ⟨_, _, e, hn2, hg2, _⟩ := ins_cells hc2
    cases e
    refine Va J J ?_;refine S_add J J J J (by omega) ?_;refine Va J J ?_;refine S_add J J J J (by omega) ?_;refine Va J J ?_;refine S_sliceB Tk ZT_ok J J J J (by decide) (by decide) J J J J fun b36 hb36 => ?_;refine Va J J ?_;refine S_blkO 36 70 (base := w.heap.size) (n := 1) (c := 1) (o := 0) (sz := 4) J J J J (.inl hb36) J J (Nat.le_refl _) (by simp [maxLen]) (Nat.le_refl _) ?_;refine S_reE 36 (.val (.slice (some ⟨b36, 0, none⟩) 1 1)) J J ?_
    have hg1' : c1.length = 0 ∨ ∃ a, A1 = some a ∧ gcells G2 a (codeC c1) := hg1.imp id fun ⟨a, h, h'⟩ => ⟨a, h, gcells_le hext2.le h'⟩
    refine S_appO Tk 70 J J J J J J J J J J J (fun _ _ => J) (src_G hn1 hg1') (codeC_one _) (by simp only; omega) (by simp only [maxLen]; omega) (Nat.le_refl _) fun A4 c4 => ?_;refine Va J J ?_;refine S_add J J J J (by omega) ?_;refine Va J J ?_;refine S_add J J J J (by omega) ?_;refine Va J J ?_;refine S_add J J J J (by omega) ?_;refine Va J J ?_;refine S_slice Tk ZT_ok J J J J (by decide) (by decide) J J J J fun b49 => ?_
    refine Va J J ?_
    refine S_app1 Tk 70 49 J J J J J J J J J J J J J J (by intro u hu; simp at hu; rcases hu with rfl | rfl | rfl | rfl <;> rfl) rfl (fun _ _ => rfl) (by omega) (Nat.le_refl _) fun A5 c5 => ?_
    refine Va J J ?_;refine S_appO Tk 70 J J J J J J J J J J J (fun _ _ => J) (src_G hn2 hg2) (codeC_one _) (by simp only; omega) (by simp only [maxLen]; omega) (Nat.le_refl _) fun A6 c6 => ?_;refine Va J J ?_
    have hextA := hext1.trans hext2
    refine S_freezeR 70 J J (Nat.le_refl _) fun Gf hextf hncf hcmf hclf => ?_
    have hall : ∀ i ∈ [⟨6, a, 0, ((at_ : Int) + 2 + (c1.length : Nat))⟩] ++ c1 ++ [⟨7, 0, 0, ((at_ : Int) + 2 + (c1.length : Nat) + (c2.length : Nat))⟩] ++ c2, I4 i := by
      intro i hi
      simp only [List.mem_append, List.mem_cons, List.not_mem_nil, or_false] at hi
      rcases hi with ((rfl | hi) | rfl) | hi
      · exact ⟨⟨by simp only; omega, by simp only; omega⟩, ha, hz, by simp only; exact ⟨by omega, by omega⟩⟩
      · exact h41 i hi
      · exact ⟨⟨by simp only; omega, by simp only; omega⟩, hz, hz, by simp only; exact ⟨by omega, by omega⟩⟩
      · exact h42 i hi
    refine S_retp (Res.t1 Tryz.results65 J J) (hextA.trans hextf) ⟨_, frz (xs := _) (by have := Cs_codeC hall; simp only [codeC_app] at this; exact this) (by simp only [List.length_append, List.length_cons, List.length_nil] <;> omega) (by omega) hncf hcmf hclf, ?_⟩
    all_goals (simp only [List.length_append, List.length_cons, List.length_nil, czS])
    all_goals omega
  refine S_condp J (fun h7 => ?_) (fun h7 => ?_) <;> refine Va J J ?_
  · refine S_add J J J J (by omega) ?_
    refine Va J J ?_
    rw [show ((at_ : Int) + 1) = ((at_ + 1 : Nat) : Int) by omega]
    refine S_callN 60 Tryz.call48 (hx _ G (at_ + 1) (by omega) hvx) J J J ?_;rintro v1 G0 A0 ⟨c1, A1, n1, base0, rfl, rfl, h41, hl1⟩ hext0
    refine S_newRow 60 J J ?_;refine S_freezeR 60 J J (Nat.le_refl _) fun G1 hextg hncg hcmg hclg => ?_
    have hc1 : InsG G1 c1 _ := frz (Cs_codeC h41) rfl (by omega) hncg hcmg hclg
    have hext1 := hext0.trans hextg
    obtain ⟨_, _, e, hn1, hg1, _⟩ := ins_cells hc1
    cases e
    refine Va J J ?_;refine S_add J J J J (by omega) ?_;refine Va J J ?_;refine S_add J J J J (by omega) ?_;refine Va J J ?_;refine S_sliceB Tk ZT_ok J J J J (by decide) (by decide) J J J J fun b36 hb36 => ?_;refine Va J J ?_;refine S_blkO 68 70 (base := w.heap.size) (n := 1) (c := 1) (o := 0) (sz := 4) J J J J (.inl hb36) J J (Nat.le_refl _) (by simp [maxLen]) (Nat.le_refl _) ?_;refine S_reE 68 (.val (.slice (some ⟨b36, 0, none⟩) 1 1)) J J ?_
    refine S_appO Tk 70 J J J J J J J J J J J (fun _ _ => J) (src_G hn1 hg1) (codeC_one _) (by simp only; omega) (by simp only [maxLen]; omega) (Nat.le_refl _) fun A4 c4 => ?_;refine Va J J ?_;refine S_slice Tk ZT_ok J J J J (by decide) (by decide) J J J J fun b49 => ?_;refine Va J J ?_
    refine S_app1 Tk 70 74 J J J J J J J J J J J J J J (by intro u hu; simp at hu; rcases hu with rfl | rfl | rfl | rfl <;> rfl) rfl (fun _ _ => rfl) (by omega) (Nat.le_refl _) fun A5 c5 => ?_
    refine Va J J ?_;refine S_freezeR 70 J J (Nat.le_refl _) fun Gf hextf hncf hcmf hclf => ?_
    have hall : ∀ i ∈ [⟨6, a, 0, ((at_ : Int) + 2 + (c1.length : Nat))⟩] ++ c1 ++ [⟨7, 0, 0, (at_ : Int)⟩], I4 i := by
      intro i hi
      simp only [List.mem_append, List.mem_cons, List.not_mem_nil, or_false] at hi
      rcases hi with (rfl | hi) | rfl
      · exact ⟨⟨by simp only; omega, by simp only; omega⟩, ha, hz, by simp only; exact ⟨by omega, by omega⟩⟩
      · exact h41 i hi
      · exact ⟨⟨by simp only; omega, by simp only; omega⟩, hz, hz, by simp only; exact ⟨by omega, by omega⟩⟩
    refine S_retp (Res.t1 Tryz.results65 J J) (hext1.trans hextf) ⟨_, frz (xs := _) (by have := Cs_codeC hall; simp only [codeC_app] at this; exact this) (by simp only [List.length_append, List.length_cons, List.length_nil] <;> omega) (by omega) hncf hcmf hclf, ?_⟩
    all_goals (simp only [List.length_append, List.length_cons, List.length_nil, czS])
    all_goals omega
  refine S_condp J (fun h8 => ?_) (fun h8 => ?_) <;> refine Va J J ?_
  · refine S_add J J J J (by omega) ?_
    refine Va J J ?_
    rw [show ((at_ : Int) + 1) = ((at_ + 1 : Nat) : Int) by omega]
    refine S_callN 60 Tryz.call48 (hx _ G (at_ + 1) (by omega) hvx) J J J ?_;rintro v1 G0 A0 ⟨c1, A1, n1, base0, rfl, rfl, h41, hl1⟩ hext0
    refine S_newRow 60 J J ?_;refine S_freezeR 60 J J (Nat.le_refl _) fun G1 hextg hncg hcmg hclg => ?_
    have hc1 : InsG G1 c1 _ := frz (Cs_codeC h41) rfl (by omega) hncg hcmg hclg
    have hext1 := hext0.trans hextg
    obtain ⟨_, _, e, hn1, hg1, _⟩ := ins_cells hc1
    cases e
    refine Va J J ?_;refine Ds J J J ?_;refine Da J J ?_
    repeat' (first
      | exact trivial
      | refine D_list J ?_
      | refine And.intro ?_ ?_
      | (refine N_turn Tk 3 J J J J fun back => ?_
         refine S_sliceB Tk ZT_ok J J J J (by decide) (by decide) J J J J fun b86 hb86 => ?_;refine back _ _ _ _ (by kernel_rfl) ?_
         clear back
         refine Da J J ?_)
      | (refine N_turn Tk 9 J J J J fun back => ?_
         refine S_slice Tk ZT_ok J J J J (by decide) (by decide) J J J J fun b92 => ?_;refine back _ _ _ _ (by kernel_rfl) ?_
         clear back
         refine Da J J ?_)
      | (refine N_turn Tk 5 J J J J fun back => ?_
         refine S_blkO 86 70 (base := w.heap.size) (n := 1) (c := 1) (o := 0) (sz := 4) J J J J (.inl hb86) J J (Nat.le_refl _) (by simp [maxLen]) (Nat.le_refl _) ?_;refine S_reE 86 (.val (.slice (some ⟨b86, 0, none⟩) 1 1)) J J ?_;refine S_appO Tk 70 J J J J J J J J J J J (fun _ _ => J) (src_G hn1 hg1) (codeC_one _) (by simp only; omega) (by simp only [maxLen]; omega) (Nat.le_refl _) fun A4 c4 => ?_
         refine back _ _ _ _ (by kernel_rfl) ?_
         clear back
         refine Da J J ?_)
      | (refine N_turn Tk 10 J J J J fun back => ?_
         refine S_app1 Tk 70 92 J J J J J J J J J J J J J J (by intro u hu; simp at hu; rcases hu with rfl | rfl | rfl | rfl <;> rfl) rfl (fun _ _ => rfl) (by omega) (Nat.le_refl _) fun A5 c5 => ?_
         refine back _ _ _ _ (by kernel_rfl) ?_
         clear back
         refine Da J J ?_)
      | fail)
    all_goals (refine DD ?_)
    all_goals refine S_adv Tk rfl 1000 rfl ?_
    all_goals (
      refine S_freezeR 70 J J (Nat.le_refl _) fun Gf hextf hncf hcmf hclf => ?_
      have hall : ∀ i ∈ [⟨8, a, 0, 0⟩] ++ c1 ++ [⟨9, a, 0, 0⟩], I4 i := by
        intro i hi
        simp only [List.mem_append, List.mem_cons, List.not_mem_nil, or_false] at hi
        rcases hi with (rfl | hi) | rfl
        · exact ⟨⟨by simp only; omega, by simp only; omega⟩, ha, hz, hz⟩
        · exact h41 i hi
        · exact ⟨⟨by simp only; omega, by simp only; omega⟩, ha, hz, hz⟩
      refine S_retp (Res.t1 Tryz.results65 J J) (hext1.trans hextf) ⟨_, frz (xs := _) (by have := Cs_codeC hall; simp only [codeC_app] at this; exact this) (by simp only [List.length_append, List.length_cons, List.length_nil] <;> omega) (by omega) hncf hcmf hclf, ?_⟩)
    all_goals (simp only [List.length_append, List.length_cons, List.length_nil, czS])
    all_goals omega
  refine S_condp J (fun h1 => ?_) (fun h1 => ?_) <;> refine Va J J ?_
  · refine RT J (decide_eq_true h1) ?_
    refine Va J J ?_;refine S_sliceG Tk ZT_ok J J J J (by decide) (by decide) J J J J (fun _ => J) fun bq Gq hxq hcq => ?_;refine Va J J ?_;exact S_retp (Res.t1 Tryz.results65 J J) hxq ⟨[⟨k, a, b, n⟩], ins_one hcq ⟨by first | exact hk | exact ⟨by simp only; omega, by simp only; omega⟩, by first | exact ha | exact hz, by first | exact hb | exact hz, by first | exact hn | exact hz⟩, by simp [czS]; omega⟩
  refine S_condp J (fun h2 => ?_) (fun h2 => ?_) <;> refine Va J J ?_
  · refine RT J (decide_eq_true h2) ?_
    refine Va J J ?_;refine S_sliceG Tk ZT_ok J J J J (by decide) (by decide) J J J J (fun _ => J) fun bq Gq hxq hcq => ?_;refine Va J J ?_;exact S_retp (Res.t1 Tryz.results65 J J) hxq ⟨[⟨k, a, b, n⟩], ins_one hcq ⟨by first | exact hk | exact ⟨by simp only; omega, by simp only; omega⟩, by first | exact ha | exact hz, by first | exact hb | exact hz, by first | exact hn | exact hz⟩, by simp [czS]; omega⟩
  refine S_condp J (fun h3 => ?_) (fun h3 => ?_) <;> refine Va J J ?_
  · refine RT J (decide_eq_true h3) ?_
    refine Va J J ?_;refine S_sliceG Tk ZT_ok J J J J (by decide) (by decide) J J J J (fun _ => J) fun bq Gq hxq hcq => ?_;refine Va J J ?_;exact S_retp (Res.t1 Tryz.results65 J J) hxq ⟨[⟨k, a, b, n⟩], ins_one hcq ⟨by first | exact hk | exact ⟨by simp only; omega, by simp only; omega⟩, by first | exact ha | exact hz, by first | exact hb | exact hz, by first | exact hn | exact hz⟩, by simp [czS]; omega⟩
  refine S_condp J (fun h4 => ?_) (fun h4 => ?_) <;> refine Va J J ?_
  · refine RT J (decide_eq_true h4) ?_
    refine Va J J ?_;refine S_sliceG Tk ZT_ok J J J J (by decide) (by decide) J J J J (fun _ => J) fun bq Gq hxq hcq => ?_;refine Va J J ?_;exact S_retp (Res.t1 Tryz.results65 J J) hxq ⟨[⟨k, a, b, n⟩], ins_one hcq ⟨by first | exact hk | exact ⟨by simp only; omega, by simp only; omega⟩, by first | exact ha | exact hz, by first | exact hb | exact hz, by first | exact hn | exact hz⟩, by simp [czS]; omega⟩
  refine S_condp J (fun h5 => ?_) (fun h5 => ?_) <;> refine Va J J ?_
  · refine S_sliceG Tk ZT_ok J J J J (by decide) (by decide) J J J J (fun _ => J) fun bq Gq hxq hcq => ?_
    refine Va J J ?_;exact S_retp (Res.t1 Tryz.results65 J J) hxq ⟨[⟨k, a, b, n⟩], ins_one hcq ⟨by first | exact hk | exact ⟨by simp only; omega, by simp only; omega⟩, by first | exact ha | exact hz, by first | exact hb | exact hz, by first | exact hn | exact hz⟩, by simp [czS]; omega⟩
  refine S_condp J (fun h9 => ?_) (fun h9 => ?_) <;> refine Va J J ?_
  · refine S_sliceG Tk ZT_ok J J J J (by decide) (by decide) J J J J (fun _ => J) fun bq Gq hxq hcq => ?_
    refine Va J J ?_;exact S_retp (Res.t1 Tryz.results65 J J) hxq ⟨[⟨10, a, 0, 0⟩], ins_one hcq ⟨by first | exact hk | exact ⟨by simp only; omega, by simp only; omega⟩, by first | exact ha | exact hz, by first | exact hb | exact hz, by first | exact hn | exact hz⟩, by simp [czS]; omega⟩
  refine S_condp J (fun h10 => ?_) (fun h10 => ?_) <;> refine Va J J ?_
  · refine S_sliceG Tk ZT_ok J J J J (by decide) (by decide) J J J J (fun _ => J) fun bq Gq hxq hcq => ?_
    refine Va J J ?_;exact S_retp (Res.t1 Tryz.results65 J J) hxq ⟨[⟨11, a, 0, 0⟩], ins_one hcq ⟨by first | exact hk | exact ⟨by simp only; omega, by simp only; omega⟩, by first | exact ha | exact hz, by first | exact hb | exact hz, by first | exact hn | exact hz⟩, by simp [czS]; omega⟩
  · refine S_sliceG Tk ZT_ok J J J J (by decide) (by decide) J J J J (fun _ => J) fun bq Gq hxq hcq => ?_
    refine Va J J ?_;exact S_retp (Res.t1 Tryz.results65 J J) hxq ⟨[⟨12, 0, 0, 0⟩], ins_one hcq ⟨by first | exact hk | exact ⟨by simp only; omega, by simp only; omega⟩, by first | exact ha | exact hz, by first | exact hb | exact hz, by first | exact hn | exact hz⟩, by simp [czS]; omega⟩
mutual
theorem c_l4One : ∀ s : Stm, OneC s
  | .mk k a b n x y => c_l4One_of (.mk k a b n x y) (c_l4Of x) (c_l4Of y)
theorem c_l4Of : ∀ L : List Stm, OfC L
  | L => c_l4Of_of L fun k hk => c_l4One_at L k hk
theorem c_l4One_at : ∀ (L : List Stm) (k : Nat) (hk : k < L.length), OneC L[k]
  | [], k, hk => absurd hk (Nat.not_lt_zero k)
  | s :: L, 0, hk => c_l4One s
  | s :: L, k + 1, hk => c_l4One_at L k (Nat.lt_of_succ_lt_succ hk)
end
end
section
attribute [local irreducible] X Pure Mod
theorem c_CodeOf (L : List Stm) (v : Value) (G : PH) (hv : Sts G L v) (hs : Sh L) : Pure Tryz.prog 26 [v] G fun v' G' => CodeM 30 v' G' := by
 obtain ⟨A, c, rfl, hln, _⟩ := id hv
 have hz : I64 0 := ⟨by omega, by omega⟩
 refine Pure.intro Tryz.func26 Tryz.ntmps26 J J fun w => ?_; refine Va J J ?_;refine S_call Tryz.call47 (c_StmtsOk L _ G hv) J J J ?_;rintro v1 G1 ⟨rfl, rfl⟩ _
 refine Va J J ?_
 refine S_cond J (fun h => ?_) (fun h => ?_) <;> refine Va J J ?_
 ·refine S_emptyO Tk 5 J J J J fun A0 => ?_
  refine Va J J ?_;refine S_freezeR 5 J J (Nat.le_refl _) fun Gf hextf hncf hcmf hclf => ?_;exact S_retp (Res.t1 Tryz.results26 J J) hextf ⟨[], frz (Cs_codeC (c := []) (fun i hi => by cases hi)) J (by omega) hncf hcmf hclf, by simp⟩
 ·have hok : stmtsOk L = true := by simpa using h
  have hcz := cz_ok hok hs
  refine S_callN 60 Tryz.call48 (c_l4Of L _ G1 0 (by omega) hv) J J J ?_;rintro v2 G2 A2 ⟨c2, Ac, n2, base, rfl, rfl, h4, hl⟩ hext
  refine S_newRow 60 J J ?_;refine Va J J ?_;refine S_slice Tk ZT_ok J J J J (by decide) (by decide) J J J J fun b49 => ?_;refine Va J J ?_
  refine S_app1 Tk 60 10 J J J J J J J J J J J J J J (by intro u hu; simp at hu; rcases hu with rfl | rfl | rfl | rfl <;> rfl) rfl (fun _ _ => rfl) (by omega) (Nat.le_refl _) fun A5 c5 => ?_
  refine Va J J ?_;refine S_freezeR 60 J J (Nat.le_refl _) fun Gf hextf hncf hcmf hclf => ?_
  have hall : ∀ i ∈ c2 ++ [⟨13, 0, 0, 0⟩], I4 i := by
   intro i hi
   rcases List.mem_append.1 hi with hi | hi
   ·exact h4 i hi
   ·rw [List.mem_singleton.1 hi]
    exact ⟨⟨by simp only; omega, by simp only; omega⟩, hz, hz, hz⟩
  refine S_retp (Res.t1 Tryz.results26 J J) (hext.trans hextf) ⟨_, frz (xs := _) (by have := Cs_codeC hall; simp only [codeC_app] at this; exact this) (by simp only [List.length_append, List.length_cons, List.length_nil] <;> omega) (by omega) hncf hcmf hclf, ?_⟩
  all_goals (simp only [List.length_append, List.length_cons, List.length_nil])
  all_goals omega
end
section
attribute [local irreducible] X Pure Mod
def byteRep (n : Int) (cs : List Value) : Prop := cs = [.int .u8 n] ∧ 0 ≤ n ∧ n ≤ 255
abbrev Byts (G : PH) (l : List Int) (v : Value) : Prop := Sr G 1 byteRep l v
theorem Byts_le {G G' : PH} (hl : G.le G') {l : List Int} {v : Value} (h : Byts G l v) : Byts G' l v := Sr_mono hl (fun _ _ _ h => h) h
def rdHP (b : Nat) (sv : Value) (N : Nat) : HP := packHP fun ι L => ∃ p : Nat, p ≤ N ∧ ι = [(900, b)] ∧ L = [.blk 900 83 [.v sv, .v (.int .i64 (p : Nat))]]
def Drw (f : Nat) (b : Nat) (sv : Value) (args : List Value) (N K : Nat) (G : PH) (Post : Value → PH → Prop) : Prop :=
 Mod Tryz.prog f (.pointer (some ⟨b, 0, none⟩) :: args) G (rdHP b sv N) fun v G' A' => A' = rdHP b sv (N + K) ∧ Post v G'
theorem u_u8 : Tryz.prog.underlying 5 = some (.int .u8) := by kernel_rfl
theorem rem_bnd {a n : Int} (h : 0 < n) : 0 ≤ a % n ∧ a % n < n := ⟨Int.emod_nonneg _ (by omega), Int.emod_lt_of_pos _ h⟩
section
variable {C : Ctx} {k : List It} {E : Env} {ι : Ids} {L : List Ent} {G : PH}
theorem S_openR (κ d : Nat) {b N : Nat} {sv : Value} {L' : List Ent} (hL : getH κ L = some (rdHP b sv N)) (hL' : delH κ L = some L') (hf : freshB [900] ι = true) (hE : look d E = some (.val (.pointer (some ⟨b, 0, none⟩))))
  (hk : ∀ p : Nat, p ≤ N → X C k ((d, .ptr 900 0) :: E) ((900, b) :: ι) (.blk 900 83 [.v sv, .v (.int .i64 (p : Nat))] :: L') G) : X C k E ι L G := by
 refine S_unpack κ [900] hL hL' ?_ hf ?_
 ·rintro ι0 L0 ⟨p, _, rfl, rfl⟩; rfl
 ·rintro ι0 L0 ⟨p, hp, rfl, rfl⟩
  refine S_reE d (.ptr 900 0) hE ?_ (hk p hp)
  rfl
end
theorem byte_at {G : PH} {l : List Int} {A : Option Addr} {n c : Nat} (h : Byts G l (.slice A n c)) {i : Int} (h0 : 0 ≤ i) (h1 : i < l.length) : ∃ ad x, A = some ad ∧ gcell G (ad.add (i.toNat * 1)) = some (.int .u8 x) ∧ 0 ≤ x ∧ x ≤ 255 := by
 obtain ⟨ad, cs, rfl, hcs, rfl, hx0, hx1⟩ := Sr_at h (k := i.toNat) (by omega)
 exact ⟨ad, _, J, hcs.1, hx0, hx1⟩
theorem c_pick (b : Nat) (l : List Int) (sv : Value) (n : Int) (N : Nat) (G : PH) (hl : Byts G l sv) (hn : I64 n) (hN : N + 1 ≤ 1000000000) : Drw 28 b sv [.int .i64 n] N 1 G fun v G' => G' = G ∧ ∃ m : Int, v = .int .i64 m ∧ 0 ≤ m ∧ (m < n ∨ m = 0) := by
 obtain ⟨A, c, rfl, _⟩ := id hl
 refine Mod.intro Tryz.func28 Tryz.ntmps28 J J fun w S => ?_;refine S_openR 1 0 J J J J fun p hp => ?_;refine Va J J ?_;refine S_add J J J J (by omega) ?_;refine Va J J ?_
 have hb : ∀ b0 : Bool, b0 = (decide (n < 1) || decide ((l.length : Int) = 0)) → b0 = false → 1 ≤ n ∧ 0 < l.length := by
  intro b0 h1 h2
  rw [h1] at h2
  simp only [Bool.or_eq_false_iff, decide_eq_false_iff_not] at h2
  omega
 refine S_cond J (fun h => ?_) (fun h => ?_) <;> refine Va J J ?_
 ·exact RK [900] (Res.t1 Tryz.results28 J J) ⟨J, J, 0, J, by omega, .inr J⟩ ⟨p + 1, by omega, J, J⟩ J (.blk J J .nil) XR
 obtain ⟨hn1, hl0⟩ := hb _ rfl h
 refine S_subI J J J J (by omega) ?_;refine Va J J ?_
 have ep : ((p : Int) + 1 - 1) = p := by omega
 rw [ep]
 refine S_condp J (fun h2 => ?_) (fun h2 => ?_) <;> refine Va J J ?_
 ·have hpl : p < l.length := by omega
  obtain ⟨ad, x, rfl, hcs, hx0, hx1⟩ := byte_at hl (i := p) (by omega) (by omega)
  refine S_index Tk J J J J J J (by omega) (by omega) ?_;refine Va J J ?_;refine S_load Tk J J J J J (by simpa using hcs) ?_;refine Va J J ?_;refine S_valV J J J (V_conv J u_u8 u_int (by rw [IntKind.wrap_i64]; omega)) ?_;refine Va J J ?_;refine S_valV J J J (V_rem J J hx0 (by omega)) ?_;refine Va J J ?_
  have hr := rem_bnd (a := x) (n := n) (by omega)
  exact RK [900] (Res.t1 Tryz.results28 J J) ⟨J, J, _, J, hr.1, .inl hr.2⟩ ⟨p + 1, by omega, J, J⟩ J (.blk J J .nil) XR
 ·have r1 := rem_bnd (a := (p : Int)) (n := (l.length : Int)) (by omega)
  have r2 := rem_bnd (a := (p : Int) * 7 + 3) (n := (l.length : Int)) (by omega)
  obtain ⟨ad, x, rfl, hcs, hx0, hx1⟩ := byte_at hl r1.1 r1.2
  obtain ⟨ad2, y, e2, hcs2, hy0, hy1⟩ := byte_at hl r2.1 r2.2
  cases e2
  have hq : 0 ≤ (p : Int) / l.length ∧ (p : Int) / l.length ≤ p := ⟨Int.ediv_nonneg (by omega) (by omega), Int.ediv_le_self _ (by omega)⟩
  refine Ds J J J ?_;refine Da J J ?_;refine D_val 10 J J J J J J J J J (V_rem J J (by omega) (by omega)) ?_;refine Da J J ?_;refine D_val 11 J J J J J J J J J (V_index Tk J J J J (by omega) (by omega)) ?_;refine Da J J ?_;refine D_val 12 J J J J J J J J J (V_load Tk J J J hcs) ?_;refine Da J J ?_;refine D_val 13 J J J J J J J J J (V_conv J u_u8 u_int (by rw [IntKind.wrap_i64]; omega)) ?_;refine Da J J ?_
  refine D_val 14 J J J J J J J J J (V_mul J J (by omega)) ?_;refine Da J J ?_;refine D_val 20 J J J J J J J J J (V_mul J J (by omega)) ?_;refine Da J J ?_;refine D_val 21 J J J J J J J J J (V_add J J (by omega)) ?_;refine Da J J ?_;refine D_val 27 J J J J J J J J J (V_rem J J (by omega) (by omega)) ?_;refine Da J J ?_;refine D_val 28 J J J J J J J J J (V_index Tk J J J J (by omega) (by omega)) ?_
  refine Da J J ?_;refine D_val 29 J J J J J J J J J (V_load Tk J J J hcs2) ?_;refine Da J J ?_;refine D_val 30 J J J J J J J J J (V_conv J u_u8 u_int (by rw [IntKind.wrap_i64]; omega)) ?_;refine Da J J ?_;refine D_val 31 J J J J J J J J J (V_mul J J (by omega)) ?_;refine Da J J ?_;refine D_val 32 J J J J J J J J J (V_add J J (by omega)) ?_;refine Da J J ?_;refine D_val 34 J J J J J J J J J (V_mul J J (by omega)) ?_
  refine Da J J ?_;refine D_val 35 J J J J J J J J J (V_add J J (by omega)) ?_;refine Da J J ?_;refine D_val 42 J J J J J J J J J (V_quo J J (by omega) (by omega) (by omega)) ?_;refine Da J J ?_;refine D_val 43 J J J J J J J J J (V_mul J J (by omega)) ?_;refine Da J J ?_;refine D_val 44 J J J J J J J J J (V_add J J (by omega)) ?_;refine Da J J ?_;refine DD ?_;refine Va J J ?_
  generalize hz : x * 131 + y * 1117 + (p : Int) * 29 + (p : Int) / l.length * 53 = z
  have hz0 : 0 ≤ z ∧ z ≤ 9223372036854775807 := by omega
  have hz1 : 0 ≤ z / 64 ∧ z / 64 ≤ z := by omega
  refine S_valV J J J (V_quo J J hz0.1 hz0.2 (by omega)) ?_;refine Va J J ?_;refine S_valV J J J (V_xor J J hz0 (by omega)) ?_;refine Va J J ?_;refine S_valV J J J (V_rem J J (by omega) (by omega)) ?_;refine Va J J ?_
  have hr := rem_bnd (a := ((z.toNat ^^^ (z / 64).toNat : Nat) : Int)) (n := n) (by omega)
  exact RK [900] (Res.t1 Tryz.results28 J J) ⟨J, J, _, J, hr.1, .inl hr.2⟩ ⟨p + 1, by omega, J, J⟩ J (.blk J J .nil) XR
theorem c_num (b : Nat) (l : List Int) (sv : Value) (q : List Int) (qv : Value) (N : Nat) (G : PH) (hl : Byts G l sv) (hq : Ints G q qv) (hn : 0 < q.length) (hN : N + 1 ≤ 1000000000) : Drw 49 b sv [qv] N 1 G fun v G' => G' = G ∧ ∃ m ∈ q, v = .int .i64 m := by
 obtain ⟨A, c, rfl, hq1, _⟩ := id hq
 refine Mod.intro Tryz.func49 Tryz.ntmps49 J J fun w S => ?_;refine Va J J ?_;refine S_callM 1 Tryz.call28 (c_pick b l sv q.length N G hl ⟨by omega, by omega⟩ hN) J J J J (fun _ => J) ?_;rintro v G2 A' ⟨rfl, rfl, m, rfl, h0, h1⟩ _
 refine Va J J ?_;obtain ⟨ad, cs, rfl, hcs, rfl, hi⟩ := Sr_at hq (k := m.toNat) (by omega)
 refine S_index Tk J J J J J J (by omega) (by omega) ?_;refine Va J J ?_;refine S_load Tk J J J J J hcs.1 ?_;refine Va J J ?_;exact S_retm 1 (Res.t1 Tryz.results49 J J) J XR ⟨J, J, _, List.getElem_mem _, J⟩
end
end Go.Proofs.YtblildkhbkmmdaaGreatDoor
