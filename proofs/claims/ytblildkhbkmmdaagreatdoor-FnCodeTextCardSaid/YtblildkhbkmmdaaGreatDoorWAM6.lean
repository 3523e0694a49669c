/- Walks of the program's functions, one after the other (part 6); without conditions of their own. -/
import Derived.Test.YtblildkhbkmmdaaGreatDoorWAM3
import Derived.Test.YtblildkhbkmmdaaGreatDoorWAM4
import Derived.Test.YtblildkhbkmmdaaGreatDoorWAM5
import Derived.Test.YtblildkhbkmmdaaGreatDoorWAM2
import Derived.Below
import Derived.ChangeOld
import Derived.ChangeShapes
import Derived.HandedShaped
import Derived.LaidMore
import Derived.Lay
import Derived.MakeChecks
import Derived.OpenShut
import Derived.ProofKit
import Derived.Shelf.Vars
import Derived.ShutString
import Derived.Stop.LaidErr
import Derived.Test.YtblildkhbkmmdaaGreatDoorRows
import Derived.WalkKit
set_option linter.unusedVariables false
set_option linter.unusedSimpArgs false
set_option maxRecDepth 100000
set_option maxHeartbeats 4000000
open Go.RowKit
namespace Go.Proofs.YtblildkhbkmmdaaGreatDoor
section
attribute [local irreducible] X Pure Mod
theorem rdN_64 (s : List UInt8) : -100000000000000000 < (rdN s).1 ∧ (rdN s).1 < 100000000000000000 := by
 unfold rdN
 simp only
 generalize (if decide (s.head? = some 45) = true then s.tail else s) = t
 split
 ·simp
 ·rename_i h
  have hl : t.length ≤ 17 := by omega
  split
  ·rename_i hd
   have h1 := valD_lt t (by simpa using hd)
   have h2 : valD 0 t < 10 ^ 17 := Nat.lt_of_lt_of_le h1 (Nat.pow_le_pow_right (by omega) hl)
   have h3 : valD 0 t < 100000000000000000 := by simpa using h2
   split <;> (simp only; omega)
  ·simp
def opUp (w : List UInt8) (m : Nat) : Nat := (List.range m).foldl (fun o k => if 1 ≤ k ∧ wordN k = w then k else o) 0
theorem opUp_succ (w : List UInt8) {m : Nat} (h : 1 ≤ m) : opUp w (m + 1) = if wordN m = w then m else opUp w m := by
 unfold opUp
 rw [List.range_succ, List.foldl_append]
 simp only [List.foldl_cons, List.foldl_nil]
 by_cases hw : wordN m = w
 ·rw [if_pos ⟨h, hw⟩, if_pos hw]
 ·rw [if_neg fun e => hw e.2, if_neg hw]
theorem opUp_all (w : List UInt8) : opUp w 14 = opOf w := rfl
def num3 (w : List (List UInt8)) (k : Nat) : List Int := [if 1 < k then numAt w 1 else 0, if 2 < k then numAt w 2 else 0, if 3 < k then numAt w 3 else 0]
theorem num3_set (w : List (List UInt8)) {k : Nat} (h1 : 1 ≤ k) (h2 : k < 4) : (num3 w k).set (k - 1) (numAt w k) = num3 w (k + 1) := by
 have : k = 1 ∨ k = 2 ∨ k = 3 := by omega
 rcases this with rfl | rfl | rfl <;> simp [num3]
theorem num3_stop (w : List (List UInt8)) {k : Nat} (h1 : 1 ≤ k) (h : ¬ (k < w.length ∧ k < 4)) : num3 w k = [numAt w 1, numAt w 2, numAt w 3] := by
 have hz : ∀ j, w.length ≤ j → numAt w j = 0 := fun j hj => by unfold numAt; rw [List.getElem?_eq_none hj]
 unfold num3
 by_cases h4 : 4 ≤ k
 ·rw [if_pos (by omega), if_pos (by omega), if_pos (by omega)]
 ·have hw : w.length ≤ k := by omega
  congr 1
  ·split
   ·rfl
   ·rw [hz 1 (by omega)]
  congr 1
  ·split
   ·rfl
   ·rw [hz 2 (by omega)]
  congr 1
  split
  ·rfl
  ·rw [hz 3 (by omega)]
theorem numAt_at {w : List (List UInt8)} {k : Nat} (h : k < w.length) : numAt w k = (rdN w[k]).1 := by
 unfold numAt
 rw [List.getElem?_eq_getElem h]
theorem cutB_each (b : UInt8) : ∀ (s : List UInt8), ∀ l ∈ cutB b s, l.length ≤ s.length
 | [], l, h => by simp [cutB] at h; subst h; simp
 | x :: r, l, h => by
  simp only [cutB] at h
  split at h
  ·rcases List.mem_cons.1 h with rfl | h
   ·simp
   ·have := cutB_each b r l h
    simp only [List.length_cons]; omega
  ·have ih := cutB_each b r
   split at h
   ·simp only [List.mem_cons, List.not_mem_nil, or_false] at h; subst h; simp
   ·rename_i p ps e
    rcases List.mem_cons.1 h with rfl | h
    ·have := ih p (by rw [e]; exact List.mem_cons_self ..)
     simp only [List.length_cons]; omega
    ·have := ih l (by rw [e]; exact List.mem_cons_of_mem _ h)
     simp only [List.length_cons]; omega
theorem c_l4Read (s : List UInt8) (G : PH) (hs : s.length ≤ 1048576) : Pure Tryz.prog 31 [tx s] G fun v G' => v = .agg (insC (readS s)).toArray ∧ I4 (readS s) := by
 refine Pure.intro Tryz.func31 Tryz.ntmps31 J J fun w => ?_; refine Va J J ?_;refine AZ ZT_ok J J J J fun b2 => ?_;refine Va J J ?_;refine S_call Tryz.call30 (c_l11Cut s 32 G hs) J J J ?_;rintro v1 G1 hv1 hext1
 have hwl := cutB_len 32 s
 have hwe := cutB_each 32 s
 have hwne := cutB_ne 32 s
 have hrd : readS s = mkIns (opOf ((cutB 32 s).headD [])) (numAt (cutB 32 s) 1) (numAt (cutB 32 s) 2) (numAt (cutB 32 s) 3) := rfl
 generalize cutB 32 s = ws at hv1 hwl hwe hwne hrd
 obtain ⟨A1, c1, rfl, _⟩ := id hv1
 refine Va J J ?_;refine S_sliceB Tk ZT_ok J J J J (by decide) (by decide) J J J J fun b12 hb12 => ?_;refine Va J J ?_;refine S_blkO 12 4 (base := w.heap.size) (n := 3) (c := 3) (o := 0) (sz := 1) J J J J (.inl hb12) J J (Nat.le_refl _) (by simp [maxLen]) (Nat.le_refl _) ?_;refine S_reE 4 (.val (.slice (some ⟨b12, 0, none⟩) 3 3)) J J ?_;refine Va J J ?_;refine S_loop (α := Nat × PH) (fun y => 1 ≤ y.1 ∧ y.1 ≤ 4 ∧ PH.ext w.heap.size G1 y.2) (fun y => 4 - y.1) [(2, b2)]
  (fun y => [(5, .val (.int .i64 (y.1 : Nat))), (4, .val (.slice (some ⟨b12, 0, none⟩) 3 3)), (3, .val (.slice A1 ws.length c1)), (2, .ptr 2 0)])
  (fun y => [.hp 4 (rowO w.heap.size 3 1 (some ⟨b12, 0, none⟩) 3 3 (intC (num3 ws y.1))), .blk 2 33 (vL [.int .i64 0, .int .i64 0, .int .i64 0, .int .i64 0])]) (fun y => y.2) (1, G1) ⟨Nat.le_refl _, by omega, PH.ext.refl _ _⟩ rfl ⟨⟨_, rfl, rfl⟩, ⟨_, rfl, rfl⟩, ⟨_, rfl, rfl⟩, ⟨_, rfl, rfl⟩, trivial⟩ (.hp (.blk rfl rfl .nil)) ?_
 rintro ⟨k, G2⟩ ⟨hk1, hk4, hext2⟩
 simp only at hk1 hk4 hext2 ⊢
 refine Va J J ?_
 have hwpos : 0 < ws.length := List.length_pos_iff.2 hwne
 by_cases h5 : k < ws.length ∧ k < 4
 ·refine RT J (by simp; omega) ?_
  refine Va J J ?_
  have hns := num3_set ws hk1 h5.2
  rw [numAt_at h5.1] at hns
  have hwk := hwe _ (List.getElem_mem h5.1)
  obtain ⟨ad, rfl, hcell⟩ := Txs_at (Txs_le hext2.le hv1) h5.1
  have hq := c_l11Num ws[k] G2 (by omega)
  generalize ws[k] = t at hns hwk hcell hq
  refine S_subI J J J J (by omega) ?_;refine Va J J ?_;refine S_index Tk J J J J J J (by omega) (by omega) ?_;refine Va J J ?_;refine S_load Tk J J J J J (by simpa using hcell) ?_;refine Va J J ?_;refine S_call Tryz.call51 hq J J J ?_;rintro v3 G3 ⟨rfl, rfl⟩ _
  refine Va J J ?_;refine S_index Tk J J J J J J (by omega) (by omega) ?_;refine Va J J ?_;refine S_storeO Tk 4 (o := k - 1) J J J (by rw [add_lit']; congr 1; omega) rfl rfl rfl rfl rfl (by simp [num3, intC]; omega) rfl ?_
  rw [intC_sets, hns]
  refine Va J J ?_;refine S_add J J J J (by omega) ?_;refine Va J J ?_;exact S_again (k + 1, G3) ⟨by omega, by simp only; omega, hext2⟩ (by simp only; omega) rfl ⟨⟨_, rfl, by simp [denO]⟩, ⟨_, rfl, rfl⟩, ⟨_, rfl, rfl⟩, ⟨_, rfl, rfl⟩, trivial⟩ (.hp (.blk rfl rfl .nil))
 refine RF J (by simp; omega) ?_;refine Va J J ?_
 rw [num3_stop ws hk1 h5]
 refine AZ ZT_ok J J J J fun b6 => ?_;refine Va J J ?_
 have hv2 := Txs_le hext2.le hv1
 obtain ⟨ad, hA1, hcell⟩ := Txs_at hv2 hwpos
 subst hA1
 have hhd : ws.headD [] = ws[0] := by
  cases ws with
  | nil => exact absurd rfl hwne
  | cons a r => rfl
 rw [hhd] at hrd
 have h64 : ∀ j, I64 (numAt ws j) := by
  intro j
  unfold numAt
  split
  ·rename_i t _
   have := rdN_64 t
   exact ⟨by omega, by omega⟩
  ·exact ⟨by omega, by omega⟩
 generalize ws[0] = w0 at hrd hcell
 have hx := h64 1
 have hy := h64 2
 have hz := h64 3
 generalize numAt ws 1 = x at hrd hx
 generalize numAt ws 2 = y at hrd hy
 generalize numAt ws 3 = z at hrd hz
 refine S_loop (α := Nat × PH) (fun q => 1 ≤ q.1 ∧ q.1 ≤ 14 ∧ PH.ext w.heap.size G2 q.2) (fun q => 14 - q.1) [(6, b6), (2, b2)]
  (fun q => [(7, .val (.int .i64 (q.1 : Nat))), (6, .ptr 6 0), (4, .val (.slice (some ⟨b12, 0, none⟩) 3 3)), (3, .val (.slice (some ad) ws.length c1)), (2, .ptr 2 0)])
  (fun q => [.blk 6 33 (vL [.int .i64 (opUp w0 q.1 : Nat), .int .i64 0, .int .i64 0, .int .i64 0]), .hp 4 (rowO w.heap.size 3 1 (some ⟨b12, 0, none⟩) 3 3 (intC [x, y, z])), .blk 2 33 (vL [.int .i64 0, .int .i64 0, .int .i64 0, .int .i64 0])]) (fun q => q.2) (1, G2) ⟨Nat.le_refl _, by omega, PH.ext.refl _ _⟩ rfl ⟨⟨_, rfl, rfl⟩, ⟨_, rfl, rfl⟩, ⟨_, rfl, rfl⟩, ⟨_, rfl, rfl⟩, ⟨_, rfl, rfl⟩, trivial⟩ (.blk rfl rfl (.hp (.blk rfl rfl .nil))) ?_
 rintro ⟨m, G3⟩ ⟨hm1, hm14, hext3⟩
 simp only at hm1 hm14 hext3 ⊢
 refine Va J J ?_
 refine S_condp J (fun h7 => ?_) (fun h7 => ?_) <;> refine Va J J ?_
 ·refine S_call Tryz.call17 (c_l4Word m (by omega) G3) J J J ?_
  rintro v4 G4 ⟨mm, rfl⟩ hext4
  refine Va J J ?_;refine S_index Tk J J J J J J (by omega) (by omega) ?_;refine Va J J ?_;refine S_load Tk J J J J J (by simpa using gcell_le (hext3.trans hext4).le hcell) ?_;refine Va J J ?_;refine S_valV J J J (V_eqT (by kernel_rfl) J J) ?_;refine Va J J ?_
  have hup := opUp_succ w0 hm1
  refine S_condp J (fun h8 => ?_) (fun h8 => ?_) <;> refine Va J J ?_
  ·rw [if_pos h8] at hup
   refine S_add J J J J (by omega) ?_;refine Va J J ?_;exact S_again (m + 1, G4) ⟨by omega, by simp only; omega, hext3.trans hext4⟩ (by simp only; omega) rfl ⟨⟨_, rfl, by simp [denO]⟩, ⟨_, rfl, rfl⟩, ⟨_, rfl, rfl⟩, ⟨_, rfl, rfl⟩, ⟨_, rfl, rfl⟩, trivial⟩ (by simp only [hup]; exact .blk J J (.hp (.blk J J .nil)))
  ·rw [if_neg h8] at hup
   refine S_add J J J J (by omega) ?_;refine Va J J ?_;exact S_again (m + 1, G4) ⟨by omega, by simp only; omega, hext3.trans hext4⟩ (by simp only; omega) rfl ⟨⟨_, rfl, by simp [denO]⟩, ⟨_, rfl, rfl⟩, ⟨_, rfl, rfl⟩, ⟨_, rfl, rfl⟩, ⟨_, rfl, rfl⟩, trivial⟩ (by simp only [hup]; exact .blk J J (.hp (.blk J J .nil)))
 obtain rfl : m = 14 := by omega
 rw [opUp_all]
 have hop := opOf_range w0
 have hopi : I64 ((opOf w0 : Nat) : Int) := ⟨by omega, by omega⟩
 have hz64 : I64 0 := ⟨by omega, by omega⟩
 generalize ((opOf w0 : Nat) : Int) = op at hrd hopi
 have hext := (hext1.trans hext2).trans hext3
 refine S_condp J (fun h7 => ?_) (fun h7 => ?_) <;> refine Va J J ?_
 ·refine S_index Tk J J J J J J (by decide) (by decide) ?_
  refine Va J J ?_;refine S_valV J J J (V_loadR' Tk 4 (v := .int .i64 x) J J (add_lit' ..) J J J) ?_;refine Va J J ?_;refine S_retp (Res.c1 Tk Tryz.results31 J J) hext ?_
  rw [hrd, mkIns, if_pos h7]
  exact ⟨J, hopi, hz64, hz64, hx⟩
 refine S_condp J (fun h1 => ?_) (fun h1 => ?_) <;> refine Va J J ?_
 ·refine RT J (by simp [h1]) ?_
  refine Va J J ?_;refine S_index Tk J J J J J J (by decide) (by decide) ?_;refine Va J J ?_;refine S_valV J J J (V_loadR' Tk 4 (v := .int .i64 y) J J (add_lit' ..) J J J) ?_;refine Va J J ?_;refine S_index Tk J J J J J J (by decide) (by decide) ?_;refine Va J J ?_;refine S_valV J J J (V_loadR' Tk 4 (v := .int .i64 x) J J (add_lit' ..) J J J) ?_;refine Va J J ?_;refine S_retp (Res.c1 Tk Tryz.results31 J J) hext ?_
  rw [hrd, mkIns, if_neg h7, if_pos (.inl h1)]
  exact ⟨J, hopi, hx, hz64, hy⟩
 refine S_condp J (fun h6 => ?_) (fun h6 => ?_) <;> refine Va J J ?_
 ·refine S_index Tk J J J J J J (by decide) (by decide) ?_
  refine Va J J ?_;refine S_valV J J J (V_loadR' Tk 4 (v := .int .i64 y) J J (add_lit' ..) J J J) ?_;refine Va J J ?_;refine S_index Tk J J J J J J (by decide) (by decide) ?_;refine Va J J ?_;refine S_valV J J J (V_loadR' Tk 4 (v := .int .i64 x) J J (add_lit' ..) J J J) ?_;refine Va J J ?_;refine S_retp (Res.c1 Tk Tryz.results31 J J) hext ?_
  rw [hrd, mkIns, if_neg h7, if_pos (.inr h6)]
  exact ⟨J, hopi, hx, hz64, hy⟩
 refine S_condp J (fun h2 => ?_) (fun h2 => ?_) <;> refine Va J J ?_
 ·refine S_index Tk J J J J J J (by decide) (by decide) ?_
  refine Va J J ?_;refine S_valV J J J (V_loadR' Tk 4 (v := .int .i64 y) J J (add_lit' ..) J J J) ?_;refine Va J J ?_;refine S_index Tk J J J J J J (by decide) (by decide) ?_;refine Va J J ?_;refine S_valV J J J (V_loadR' Tk 4 (v := .int .i64 z) J J (add_lit' ..) J J J) ?_;refine Va J J ?_;refine S_index Tk J J J J J J (by decide) (by decide) ?_;refine Va J J ?_;refine S_valV J J J (V_loadR' Tk 4 (v := .int .i64 x) J J (add_lit' ..) J J J) ?_
  refine Va J J ?_;refine S_retp (Res.c1 Tk Tryz.results31 J J) hext ?_
  rw [hrd, mkIns, if_neg h7, if_neg (by omega), if_pos h2]
  exact ⟨J, hopi, hx, hy, hz⟩
 refine S_condp J (fun h3 => ?_) (fun h3 => ?_) <;> refine Va J J ?_
 ·refine RT J (by simp [h3]) ?_
  refine Va J J ?_;refine S_index Tk J J J J J J (by decide) (by decide) ?_;refine Va J J ?_;refine S_valV J J J (V_loadR' Tk 4 (v := .int .i64 y) J J (add_lit' ..) J J J) ?_;refine Va J J ?_;refine S_index Tk J J J J J J (by decide) (by decide) ?_;refine Va J J ?_;refine S_valV J J J (V_loadR' Tk 4 (v := .int .i64 x) J J (add_lit' ..) J J J) ?_;refine Va J J ?_;refine S_retp (Res.c1 Tk Tryz.results31 J J) hext ?_
  rw [hrd, mkIns, if_neg h7, if_neg (by omega), if_neg h2, if_pos (.inl h3)]
  exact ⟨J, hopi, hx, hy, hz64⟩
 refine S_condp J (fun h4 => ?_) (fun h4 => ?_) <;> refine Va J J ?_
 ·refine S_index Tk J J J J J J (by decide) (by decide) ?_
  refine Va J J ?_;refine S_valV J J J (V_loadR' Tk 4 (v := .int .i64 y) J J (add_lit' ..) J J J) ?_;refine Va J J ?_;refine S_index Tk J J J J J J (by decide) (by decide) ?_;refine Va J J ?_;refine S_valV J J J (V_loadR' Tk 4 (v := .int .i64 x) J J (add_lit' ..) J J J) ?_;refine Va J J ?_;refine S_retp (Res.c1 Tk Tryz.results31 J J) hext ?_
  rw [hrd, mkIns, if_neg h7, if_neg (by omega), if_neg h2, if_pos (.inr h4)]
  exact ⟨J, hopi, hx, hy, hz64⟩
 ·refine S_index Tk J J J J J J (by decide) (by decide) ?_
  refine Va J J ?_;refine S_valV J J J (V_loadR' Tk 4 (v := .int .i64 x) J J (add_lit' ..) J J J) ?_;refine Va J J ?_;refine S_retp (Res.c1 Tk Tryz.results31 J J) hext ?_
  rw [hrd, mkIns, if_neg h7, if_neg (by omega), if_neg h2, if_neg (by omega)]
  exact ⟨J, hopi, hx, hz64, hz64⟩
end
section
attribute [local irreducible] X Pure Mod
theorem lst2 {l : List Int} (h : l.length = 2) : ∃ a b, l = [a, b] := by
 match l, h with
 | [a, b], _ => exact ⟨a, b, rfl⟩
theorem lst3 {l : List Int} (h : l.length = 3) : ∃ a b c, l = [a, b, c] := by
 match l, h with
 | [a, b, c], _ => exact ⟨a, b, c, rfl⟩
def goFill : List Bool → List Int → List (List UInt8) → Option (List Int × List (List UInt8))
 | [], acc, r => some (acc, r)
 | h :: l, acc, r => match takeI h r with
  | none => none
  | some (v, r') => goFill l (acc ++ [v]) r'
def endFill (op : Int) : Option (List Int × List (List UInt8)) → Option Ins
 | some (acc, r) => if r.length = 0 then some ⟨op, acc.getD 0 0, acc.getD 1 0, acc.getD 2 0⟩ else none
 | none => none
theorem fill_go (op : Int) (rest : List (List UInt8)) : fillI op rest = endFill op (goFill [hasA op, hasB op, hasN op] [] rest) := by
 unfold fillI
 simp only [goFill]
 cases takeI (hasA op) rest with
 | none => rfl
 | some p =>
  obtain ⟨a, r1⟩ := p
  simp only
  cases takeI (hasB op) r1 with
  | none => rfl
  | some p =>
   obtain ⟨b, r2⟩ := p
   simp only
   cases takeI (hasN op) r2 with
   | none => rfl
   | some p => obtain ⟨n, r3⟩ := p; rfl
theorem readI_of {w0 : List UInt8} {r : List (List UInt8)} {k : Nat} (h1 : 1 ≤ k) (h2 : k ≤ 13) (hw : wordN k = w0) : readI (w0 :: r) = fillI (k : Nat) r := by
 have : opOf w0 = k := (opOf_iff w0 k h1 h2).2 hw
 unfold readI
 rw [List.headD_cons, this, if_neg (by omega)]
 rfl
theorem readI_none {w0 : List UInt8} {r : List (List UInt8)} (h : ∀ k, k < 13 → wordN (k + 1) ≠ w0) : readI (w0 :: r) = none := by
 unfold readI
 rw [List.headD_cons, if_pos]
 have hr := opOf_range w0
 cases ho : opOf w0 with
 | zero => rfl
 | succ k => exact absurd ((opOf_iff w0 (k + 1) (by omega) (by omega)).1 ho) (h k (by omega))
theorem cnt_lt {p q : Nat → Bool} {a : Nat} : ∀ {l : List Nat}, (∀ x ∈ l, q x = true → p x = true) → a ∈ l → p a = true → q a = false → l.countP q < l.countP p
 | [], _, ha, _, _ => by cases ha
 | x :: l, h, ha, hp, hq => by
  have hm := List.countP_mono_left (l := l) (p := q) (q := p) fun y hy => h y (List.mem_cons_of_mem _ hy)
  rw [List.countP_cons, List.countP_cons]
  by_cases e : x = a
  ·subst e
   rw [if_pos hp, hq]
   simp only [Bool.false_eq_true, if_false]
   omega
  ·have ih := cnt_lt (fun y hy => h y (List.mem_cons_of_mem _ hy)) ((List.mem_cons.1 ha).resolve_left (fun h => e h.symm)) hp hq
   have hx := h x (List.mem_cons_self ..)
   cases hqx : q x with
   | true => rw [if_pos (hx hqx)]; simp only [if_true]; omega
   | false => simp only [Bool.false_eq_true, if_false]; split <;> omega
def leftN (seen : Array Nat) : Nat := (List.range 13).countP fun k => !seen.contains k
theorem leftN_push {seen : Array Nat} {k : Nat} (hk : k < 13) (h : seen.contains k = false) : leftN (seen.push k) < leftN seen := by
 refine cnt_lt (a := k) (fun x _ hx => ?_) (List.mem_range.2 hk) (by simp only [h]; rfl) (by simp)
 simp only [Bool.not_eq_true', Array.contains_push, Bool.or_eq_false_iff] at hx ⊢
 exact hx.1
theorem left_mem {es : Array MapEntry} {seen : Array Nat} {e : MapEntry} (hes : es.toList = formE) (h : e ∈ (leftOf es seen).toList) : ∃ k, k < 13 ∧ e = ⟨.int .i64 ((k + 1 : Nat) : Int), fmI (k + 1), k⟩ ∧ seen.contains k = false := by
 unfold leftOf at h
 rw [Array.toList_filter, List.mem_filter, hes] at h
 obtain ⟨h1, h2⟩ := h
 obtain ⟨k, hk, rfl⟩ := List.mem_map.1 h1
 exact ⟨k, List.mem_range.1 hk, J, by simpa using h2⟩
theorem left_none {es : Array MapEntry} {seen : Array Nat} (hes : es.toList = formE) (h : (leftOf es seen).size = 0) : ∀ k, k < 13 → seen.contains k = true := by
 intro k hk
 cases hc : seen.contains k with
 | true => rfl
 | false =>
  have hm : (⟨.int .i64 ((k + 1 : Nat) : Int), fmI (k + 1), k⟩ : MapEntry) ∈ (leftOf es seen).toList := by
   unfold leftOf
   rw [Array.toList_filter, List.mem_filter, hes]
   exact ⟨List.mem_map.2 ⟨k, List.mem_range.2 hk, J⟩, by simpa using hc⟩
  have := List.length_pos_of_mem hm
  rw [Array.length_toList] at this
  omega
theorem formE_born : (formE.map (·.born)).Nodup ∧ ∀ e ∈ formE, e.born < 13 := by
 refine ⟨by decide, fun e he => ?_⟩
 obtain ⟨k, hk, rfl⟩ := List.mem_map.1 he
 exact List.mem_range.1 hk
theorem u_err : ∃ ms, Tryz.prog.underlying 65 = some (.interface ms) := by
 have h : (match Tryz.prog.underlying 65 with | some (.interface _) => true | _ => false) = true := by kernel_rfl
 split at h
 ·exact ⟨_, by assumption⟩
 ·cases h
theorem Txs_tail {G : PH} {s : List UInt8} {r : List (List UInt8)} {A : Option Addr} {n c : Nat} (h : Txs G (s :: r) (.slice A n c)) {m : Nat} (hm : m = r.length) : Txs G r (.slice (if c = 1 then A else A.map (·.add (1 * 1))) m (c - 1)) := Sr_tail h hm
def LineG (o : Option Ins) (v : Value) : Prop := match o with
 | some i => v = .tuple #[.agg (insC i).toArray, .bool true]
 | none => ∃ u, v = .tuple #[.agg (insC u).toArray, .bool false]
structure FI where
 j : Nat
 acc : List Int
 A : Option Addr
 c : Nat
 rest : List (List UInt8)
 G : PH
theorem c_readIns (s : List UInt8) (G : PH) (hs : s.length ≤ 1048576) (hL : LibG G) : Pure Tryz.prog 16 [tx s] G fun v G' => LineG (readI (cutB 32 s)) v := by
 refine Pure.intro Tryz.func16 Tryz.ntmps16 J J fun w => ?_; refine Va J J ?_;refine AZ ZT_ok J J J J fun b2 => ?_;refine Va J J ?_;refine S_call Tryz.call15 (c_Split s 32 G hs hL.mx) J J J ?_;rintro v1 G1 hv1 hext1
 have hwl := cutB_len 32 s
 have hwe := cutB_each 32 s
 have hwne := cutB_ne 32 s
 generalize cutB 32 s = ws at hv1 hwl hwe hwne ⊢
 obtain ⟨w0, r0, rfl⟩ : ∃ w0 r0, ws = w0 :: r0 := by
  cases ws with
  | nil => exact absurd rfl hwne
  | cons a r => exact ⟨a, r, rfl⟩
 obtain ⟨A1, c1, rfl, _⟩ := id hv1
 obtain ⟨ad1, hA1, hc1⟩ := Txs_at hv1 (k := 0) (by simp)
 subst hA1
 rw [List.getElem_cons_zero] at hc1
 rw [List.length_cons] at hv1 ⊢
 refine Va J J ?_;refine S_call Tryz.call33 (c_insForms G1) J J J ?_;rintro v2 G2 ⟨bm, es, rfl, hbm, hes⟩ hext2
 refine Va J J ?_;refine S_rangeM 16 u_insForms J J J hbm fun ri => ?_;refine Va J J ?_;obtain ⟨ms, u_err⟩ := u_err
 refine S_loop (α := Array Nat × PH) (fun y => (∀ k, k < 13 → y.1.contains k = true → wordN (k + 1) ≠ w0) ∧ PH.ext w.heap.size G2 y.2) (fun y => leftN y.1) [(2, b2)]
  (fun y => [(16, .val (.pointer (some ⟨ri, 0, none⟩))), (4, .val (.slice (some ad1) (r0.length + 1) c1)), (2, .ptr 2 0)])
  (fun y => [.hp 16 (objHP ri (.mapIter (some bm) 13 y.1 13)), .blk 2 33 (vL [.int .i64 0, .int .i64 0, .int .i64 0, .int .i64 0])]) (fun y => y.2) (#[], G2) ⟨fun k _ h => by simp at h, PH.ext.refl _ _⟩ rfl ⟨⟨_, rfl, rfl⟩, ⟨_, rfl, rfl⟩, ⟨_, rfl, rfl⟩, trivial⟩ (.hp (.blk rfl rfl .nil)) ?_
 rintro ⟨seen, G3⟩ ⟨hseen, hext3⟩
 simp only at hseen hext3 ⊢
 have hbm3 := hext3.le _ _ hbm
 have hextA := (hext1.trans hext2).trans hext3
 refine Va J J ?_;refine S_nextM 16 J J J J hbm3 (by rw [hes]; exact formE_born.2) (Nat.le_refl _) (fun h0 => ?_) (fun e he => ?_)
 ·refine Va J J ?_
  refine RF J J ?_;refine Va J J ?_
  rw [readI_none fun k hk => hseen k hk (left_none hes h0 k hk)]
  exact S_retp (Res.c2 Tk Tryz.results16 J J J J) hextA ⟨⟨0, 0, 0, 0⟩, J⟩
 obtain ⟨k, hk, rfl, hks⟩ := left_mem hes he
 refine ⟨[.hp 16 (objHP ri (.mapIter (some bm) 13 (seen.push k) 13)), .blk 2 33 (vL [.int .i64 0, .int .i64 0, .int .i64 0, .int .i64 0])], J, ?_⟩
 refine Va J J ?_;refine RT J J ?_;refine Va J J ?_;refine S_valV J J J (V_entryM 16 (e := ⟨.int .i64 ((k + 1 : Nat) : Int), .agg #[tx (wordN (k + 1)), .int .i64 (limA (k + 1)), .int .i64 (limB (k + 1)), .bool (hasN (k + 1 : Nat)), .bool (decide (k + 1 = 6) || decide (k + 1 = 7))], k⟩) J J hbm3 (by rw [hes]; exact List.mem_map.2 ⟨k, List.mem_range.2 hk, J⟩) (by rw [hes]; exact formE_born.1)) ?_;refine Va J J ?_
 refine AZ ZT_ok J J J J fun b6 => ?_;refine Va J J ?_;refine Ds J J J ?_;refine Da J J ?_;refine D_val 3 J J J J J J J J J (V_index Tk J J J J (by omega) (by omega)) ?_;refine Da J J ?_;refine D_val 4 J J J J J J J J J (V_load Tk J J J (by simpa using gcell_le (hext2.trans hext3).le hc1)) ?_;refine Da J J ?_;refine D_val 5 J J J J J J J J J (V_neT (by kernel_rfl) J J) ?_;refine Da J J ?_;refine DD ?_
 refine Va J J ?_
 by_cases hwk : wordN (k + 1) = w0
 rotate_left
 ·refine RT J (by simp [hwk]) ?_
  refine Va J J ?_;refine S_again (seen.push k, G3) ⟨fun j hj hc => ?_, hext3⟩ (leftN_push hk hks) J ⟨⟨_, J, J⟩, ⟨_, J, J⟩, ⟨_, J, J⟩, trivial⟩ (.drop (.hp (.blk J J .nil)))
  simp only [Array.contains_push, Bool.or_eq_true] at hc
  rcases hc with hc | hc
  ·exact hseen j hj hc
  ·rw [beq_iff_eq] at hc
   subst hc
   exact hwk
 refine RF J (by simp [hwk]) ?_;refine Va J J ?_
 rw [readI_of (by omega) (by omega) hwk, fill_go]
 have hlim := lim_has (k + 1) (by omega) (by omega)
 refine AZ ZT_ok J J J J fun b7 => ?_;refine Va J J ?_;refine S_valV J J J (V_slice1 Tk J J J) ?_;refine Va J J ?_
 have hv8 := Txs_tail (Txs_le (hext2.trans hext3).le hv1) rfl
 generalize (if c1 = 1 then some ad1 else (some ad1).map (·.add (1 * 1))) = A8 at hv8 ⊢
 generalize c1 - 1 = c8 at hv8 ⊢
 refine S_sliceG Tk ZT_ok J J J J (by decide) (by decide) J J J J (fun _ => J) fun bq Gq hxq hcq => ?_
 rw [hlim.1, hlim.2] at hcq
 generalize hasA ((k + 1 : Nat) : Int) = fa at *
 generalize hasB ((k + 1 : Nat) : Int) = fb at *
 generalize hasN ((k + 1 : Nat) : Int) = fn at *
 refine Va J J ?_;refine S_loop (α := FI) (fun y => y.j ≤ 3 ∧ y.acc.length = y.j ∧ (∀ l ∈ y.rest, l.length ≤ s.length) ∧ Txs y.G y.rest (.slice y.A y.rest.length y.c) ∧ goFill [fa, fb, fn] [] r0 = goFill ([fa, fb, fn].drop y.j) y.acc y.rest ∧ PH.ext w.heap.size Gq y.G) (fun y => 3 - y.j) [(7, b7), (2, b2)]
  (fun y => [(42, .val (.int .i64 (y.j : Nat))), (41, .val (.int .i64 3)), (40, .val (.slice (some ⟨bq, 0, none⟩) 3 3)), (8, .val (.slice y.A y.rest.length y.c)), (7, .ptr 7 0), (2, .ptr 2 0)])
  (fun y => [.blk 7 33 (vL [.int .i64 (k + 1 : Nat), .int .i64 (y.acc.getD 0 0), .int .i64 (y.acc.getD 1 0), .int .i64 (y.acc.getD 2 0)]), .blk 2 33 (vL [.int .i64 0, .int .i64 0, .int .i64 0, .int .i64 0])]) (fun y => y.G) ⟨0, [], A8, c8, r0, Gq⟩ ⟨by simp only; omega, rfl, fun l hl => hwe l (List.mem_cons_of_mem _ hl), Txs_le hxq.le hv8, rfl, PH.ext.refl _ _⟩ rfl ⟨⟨_, rfl, rfl⟩, ⟨_, rfl, rfl⟩, ⟨_, rfl, rfl⟩, ⟨_, rfl, rfl⟩, ⟨_, rfl, rfl⟩, ⟨_, rfl, rfl⟩, trivial⟩ (.blk rfl rfl (.drop (.drop (.blk rfl rfl .nil)))) ?_
 rintro ⟨j, acc, A, cc, rest, G4⟩ ⟨hj, hacc, hrl, hv, hgo, hext4⟩
 simp only at hj hacc hrl hv hgo hext4 ⊢
 have hextB := (hextA.trans hxq).trans hext4
 refine Va J J ?_
 refine S_condp J (fun h5 => ?_) (fun h5 => ?_) <;> refine Va J J ?_
 ·have hjc : j = 0 ∨ j = 1 ∨ j = 2 := by omega
  rcases hjc with rfl | rfl | rfl
  ·obtain rfl := List.eq_nil_of_length_eq_zero hacc
   have hb : gcell G4 ((⟨bq, 0, none⟩ : Addr).add 0) = some (.bool fa) := gcells_at (gcells_le hext4.le hcq) 0 _ rfl
   refine S_index Tk J J J J J J (by decide) (by decide) ?_;refine Va J J ?_;refine S_load Tk J J J J J (by simpa using hb) ?_;refine Va J J ?_
   cases hff : fa with
   | false =>
    rw [hff] at hgo
    refine RT J (by simp [hff]) ?_;refine Va J J ?_;refine S_add J J J J (by decide) ?_;refine Va J J ?_;refine S_again ⟨0 + 1, [] ++ [0], A, cc, rest, G4⟩ ⟨by simp only; omega, rfl, hrl, hv, ?_, hext4⟩ (by simp only; decide) rfl ⟨⟨_, rfl, rfl⟩, ⟨_, rfl, rfl⟩, ⟨_, rfl, rfl⟩, ⟨_, rfl, rfl⟩, ⟨_, rfl, rfl⟩, ⟨_, rfl, rfl⟩, trivial⟩ (.blk rfl rfl (.blk rfl rfl .nil))
    rw [hgo]; rfl
   | true =>
    refine RF J (by simp [hff]) ?_;refine Va J J ?_
    rw [hff] at hgo
    cases rest with
    | nil =>
     refine RT J (by simp) ?_;refine Va J J ?_;refine S_retp (Res.c2 Tk Tryz.results16 J J J J) hextB ?_
     rw [hgo]
     exact ⟨⟨0, 0, 0, 0⟩, J⟩
    | cons t r =>
     refine RF J (by simp; omega) ?_;refine Va J J ?_
     rw [List.length_cons] at hv ⊢
     obtain ⟨ad, rfl, hc0⟩ := Txs_at hv (k := 0) (by simp)
     rw [List.getElem_cons_zero] at hc0
     refine S_index Tk J J J J J J (by omega) (by omega) ?_;refine Va J J ?_;refine S_load Tk J J J J J (by simpa using hc0) ?_;refine Va J J ?_
     have hq := c_Atoi t G4 (Nat.le_trans (hrl t (List.mem_cons_self ..)) hs) (LibG_le hextB.le hL)
     have htk : takeI true (t :: r) = match atoiO t with
      | some v => some (v, r)
      | none => none := rfl
     cases hat : atoiO t with
     | none =>
      rw [hat] at hq htk
      refine S_call Tryz.call37 hq J J J ?_;rintro v5 G5 ⟨⟨x, tt, pp, rfl⟩, rfl⟩ _
      refine Va J J ?_;refine S_valV J J J (V_neqNilI u_err J) ?_;refine Va J J ?_;refine RT J J ?_;refine Va J J ?_;refine S_retp (Res.c2 Tk Tryz.results16 J J J J) hextB ?_
      rw [hgo]
      show LineG (endFill _ (match takeI true (t :: r) with
       | none => none
       | some (v, r') => goFill _ _ r')) _
      rw [htk]
      exact ⟨⟨0, 0, 0, 0⟩, J⟩
     | some n =>
      rw [hat] at hq htk
      refine S_call Tryz.call37 hq J J J ?_;rintro v5 G5 ⟨rfl, rfl⟩ _
      refine Va J J ?_;refine S_valV J J J (V_neqNilN u_err J) ?_;refine Va J J ?_;refine RF J J ?_;refine Va J J ?_;refine S_slice Tk ZT_ok J J J J (by decide) (by decide) J J J J fun b66 => ?_;refine Va J J ?_;refine S_valV J J J (V_slice1 Tk J J J) ?_;refine Va J J ?_;refine S_add J J J J (by decide) ?_;refine Va J J ?_;refine S_again ⟨0 + 1, [] ++ [n], _, _, r, G5⟩ ⟨by simp only; omega, rfl, fun l hl => hrl l (List.mem_cons_of_mem _ hl), Txs_tail hv rfl, ?_, hext4⟩ (by simp only; decide) rfl ⟨⟨_, rfl, rfl⟩, ⟨_, rfl, rfl⟩, ⟨_, rfl, rfl⟩, ⟨_, rfl, rfl⟩, ⟨_, rfl, rfl⟩, ⟨_, rfl, rfl⟩, trivial⟩ (.drop (.blk rfl rfl (.blk rfl rfl .nil)))
      rw [hgo]
      show (match takeI true (t :: r) with
       | none => none
       | some (v, r') => goFill _ _ r') = _
      rw [htk]
      rfl
  ·obtain ⟨x0, rfl⟩ := List.length_eq_one_iff.1 hacc
   have hb : gcell G4 ((⟨bq, 0, none⟩ : Addr).add 1) = some (.bool fb) := gcells_at (gcells_le hext4.le hcq) 1 _ rfl
   refine S_index Tk J J J J J J (by decide) (by decide) ?_;refine Va J J ?_;refine S_load Tk J J J J J (by simpa using hb) ?_;refine Va J J ?_
   cases hff : fb with
   | false =>
    rw [hff] at hgo
    refine RT J (by simp [hff]) ?_;refine Va J J ?_;refine S_add J J J J (by decide) ?_;refine Va J J ?_;refine S_again ⟨1 + 1, [x0] ++ [0], A, cc, rest, G4⟩ ⟨by simp only; omega, rfl, hrl, hv, ?_, hext4⟩ (by simp only; decide) rfl ⟨⟨_, rfl, rfl⟩, ⟨_, rfl, rfl⟩, ⟨_, rfl, rfl⟩, ⟨_, rfl, rfl⟩, ⟨_, rfl, rfl⟩, ⟨_, rfl, rfl⟩, trivial⟩ (.blk rfl rfl (.blk rfl rfl .nil))
    rw [hgo]; rfl
   | true =>
    refine RF J (by simp [hff]) ?_;refine Va J J ?_
    rw [hff] at hgo
    cases rest with
    | nil =>
     refine RT J (by simp) ?_;refine Va J J ?_;refine S_retp (Res.c2 Tk Tryz.results16 J J J J) hextB ?_
     rw [hgo]
     exact ⟨⟨0, 0, 0, 0⟩, J⟩
    | cons t r =>
     refine RF J (by simp; omega) ?_;refine Va J J ?_
     rw [List.length_cons] at hv ⊢
     obtain ⟨ad, rfl, hc0⟩ := Txs_at hv (k := 0) (by simp)
     rw [List.getElem_cons_zero] at hc0
     refine S_index Tk J J J J J J (by omega) (by omega) ?_;refine Va J J ?_;refine S_load Tk J J J J J (by simpa using hc0) ?_;refine Va J J ?_
     have hq := c_Atoi t G4 (Nat.le_trans (hrl t (List.mem_cons_self ..)) hs) (LibG_le hextB.le hL)
     have htk : takeI true (t :: r) = match atoiO t with
      | some v => some (v, r)
      | none => none := rfl
     cases hat : atoiO t with
     | none =>
      rw [hat] at hq htk
      refine S_call Tryz.call37 hq J J J ?_;rintro v5 G5 ⟨⟨x, tt, pp, rfl⟩, rfl⟩ _
      refine Va J J ?_;refine S_valV J J J (V_neqNilI u_err J) ?_;refine Va J J ?_;refine RT J J ?_;refine Va J J ?_;refine S_retp (Res.c2 Tk Tryz.results16 J J J J) hextB ?_
      rw [hgo]
      show LineG (endFill _ (match takeI true (t :: r) with
       | none => none
       | some (v, r') => goFill _ _ r')) _
      rw [htk]
      exact ⟨⟨0, 0, 0, 0⟩, J⟩
     | some n =>
      rw [hat] at hq htk
      refine S_call Tryz.call37 hq J J J ?_;rintro v5 G5 ⟨rfl, rfl⟩ _
      refine Va J J ?_;refine S_valV J J J (V_neqNilN u_err J) ?_;refine Va J J ?_;refine RF J J ?_;refine Va J J ?_;refine S_slice Tk ZT_ok J J J J (by decide) (by decide) J J J J fun b66 => ?_;refine Va J J ?_;refine S_valV J J J (V_slice1 Tk J J J) ?_;refine Va J J ?_;refine S_add J J J J (by decide) ?_;refine Va J J ?_;refine S_again ⟨1 + 1, [x0] ++ [n], _, _, r, G5⟩ ⟨by simp only; omega, rfl, fun l hl => hrl l (List.mem_cons_of_mem _ hl), Txs_tail hv rfl, ?_, hext4⟩ (by simp only; decide) rfl ⟨⟨_, rfl, rfl⟩, ⟨_, rfl, rfl⟩, ⟨_, rfl, rfl⟩, ⟨_, rfl, rfl⟩, ⟨_, rfl, rfl⟩, ⟨_, rfl, rfl⟩, trivial⟩ (.drop (.blk rfl rfl (.blk rfl rfl .nil)))
      rw [hgo]
      show (match takeI true (t :: r) with
       | none => none
       | some (v, r') => goFill _ _ r') = _
      rw [htk]
      rfl
  ·obtain ⟨x0, x1, rfl⟩ := lst2 hacc
   have hb : gcell G4 ((⟨bq, 0, none⟩ : Addr).add 2) = some (.bool fn) := gcells_at (gcells_le hext4.le hcq) 2 _ rfl
   refine S_index Tk J J J J J J (by decide) (by decide) ?_;refine Va J J ?_;refine S_load Tk J J J J J (by simpa using hb) ?_;refine Va J J ?_
   cases hff : fn with
   | false =>
    rw [hff] at hgo
    refine RT J (by simp [hff]) ?_;refine Va J J ?_;refine S_add J J J J (by decide) ?_;refine Va J J ?_;refine S_again ⟨2 + 1, [x0, x1] ++ [0], A, cc, rest, G4⟩ ⟨by simp only; omega, rfl, hrl, hv, ?_, hext4⟩ (by simp only; decide) rfl ⟨⟨_, rfl, rfl⟩, ⟨_, rfl, rfl⟩, ⟨_, rfl, rfl⟩, ⟨_, rfl, rfl⟩, ⟨_, rfl, rfl⟩, ⟨_, rfl, rfl⟩, trivial⟩ (.blk rfl rfl (.blk rfl rfl .nil))
    rw [hgo]; rfl
   | true =>
    refine RF J (by simp [hff]) ?_;refine Va J J ?_
    rw [hff] at hgo
    cases rest with
    | nil =>
     refine RT J (by simp) ?_;refine Va J J ?_;refine S_retp (Res.c2 Tk Tryz.results16 J J J J) hextB ?_
     rw [hgo]
     exact ⟨⟨0, 0, 0, 0⟩, J⟩
    | cons t r =>
     refine RF J (by simp; omega) ?_;refine Va J J ?_
     rw [List.length_cons] at hv ⊢
     obtain ⟨ad, rfl, hc0⟩ := Txs_at hv (k := 0) (by simp)
     rw [List.getElem_cons_zero] at hc0
     refine S_index Tk J J J J J J (by omega) (by omega) ?_;refine Va J J ?_;refine S_load Tk J J J J J (by simpa using hc0) ?_;refine Va J J ?_
     have hq := c_Atoi t G4 (Nat.le_trans (hrl t (List.mem_cons_self ..)) hs) (LibG_le hextB.le hL)
     have htk : takeI true (t :: r) = match atoiO t with
      | some v => some (v, r)
      | none => none := rfl
     cases hat : atoiO t with
     | none =>
      rw [hat] at hq htk
      refine S_call Tryz.call37 hq J J J ?_;rintro v5 G5 ⟨⟨x, tt, pp, rfl⟩, rfl⟩ _
      refine Va J J ?_;refine S_valV J J J (V_neqNilI u_err J) ?_;refine Va J J ?_;refine RT J J ?_;refine Va J J ?_;refine S_retp (Res.c2 Tk Tryz.results16 J J J J) hextB ?_
      rw [hgo]
      show LineG (endFill _ (match takeI true (t :: r) with
       | none => none
       | some (v, r') => goFill _ _ r')) _
      rw [htk]
      exact ⟨⟨0, 0, 0, 0⟩, J⟩
     | some n =>
      rw [hat] at hq htk
      refine S_call Tryz.call37 hq J J J ?_;rintro v5 G5 ⟨rfl, rfl⟩ _
      refine Va J J ?_;refine S_valV J J J (V_neqNilN u_err J) ?_;refine Va J J ?_;refine RF J J ?_;refine Va J J ?_;refine S_slice Tk ZT_ok J J J J (by decide) (by decide) J J J J fun b66 => ?_;refine Va J J ?_;refine S_valV J J J (V_slice1 Tk J J J) ?_;refine Va J J ?_;refine S_add J J J J (by decide) ?_;refine Va J J ?_;refine S_again ⟨2 + 1, [x0, x1] ++ [n], _, _, r, G5⟩ ⟨by simp only; omega, rfl, fun l hl => hrl l (List.mem_cons_of_mem _ hl), Txs_tail hv rfl, ?_, hext4⟩ (by simp only; decide) rfl ⟨⟨_, rfl, rfl⟩, ⟨_, rfl, rfl⟩, ⟨_, rfl, rfl⟩, ⟨_, rfl, rfl⟩, ⟨_, rfl, rfl⟩, ⟨_, rfl, rfl⟩, trivial⟩ (.drop (.blk rfl rfl (.blk rfl rfl .nil)))
      rw [hgo]
      show (match takeI true (t :: r) with
       | none => none
       | some (v, r') => goFill _ _ r') = _
      rw [htk]
      rfl
 ·obtain rfl : j = 3 := by omega
  obtain ⟨x0, x1, x2, rfl⟩ := lst3 hacc
  refine S_retp (Res.c2 Tk Tryz.results16 J J J J) hextB ?_
  rw [hgo]
  show LineG (if rest.length = 0 then some ⟨((k + 1 : Nat) : Int), x0, x1, x2⟩ else none) _
  by_cases hr : rest.length = 0
  ·rw [if_pos hr]
   show _ = _
   rw [hr]
   rfl
  ·rw [if_neg hr]
   refine ⟨⟨((k + 1 : Nat) : Int), x0, x1, x2⟩, ?_⟩
   rw [decide_eq_false (show ¬ ((rest.length : Nat) : Int) = 0 by omega)]
   rfl
end
section
attribute [local irreducible] X Pure Mod
def ReadG (G : PH) (o : Option (List Ins)) (v : Value) : Prop := match o with
 | some c => ∃ u, v = .tuple #[u, .bool true] ∧ InsG G c u
 | none => ∃ u, v = .tuple #[u, .bool false] ∧ InsG G [] u
theorem c_sCodeRead (s : List UInt8) (G : PH) (hs : s.length ≤ 1048576) : Pure Tryz.prog 12 [tx s] G fun v G' => ReadG G' (codeRead s) v := by
 refine Pure.intro Tryz.func12 Tryz.ntmps12 J J fun w => ?_; refine Va J J ?_;refine S_call Tryz.call30 (c_l11Cut s 10 G hs) J J J ?_;rintro v1 G1 hv1 hext1
 have hwl := cutB_len 10 s
 have hwe := cutB_each 10 s
 have hwne := cutB_ne 10 s
 have hrd : readC s = (((cutB 10 s).dropLast).take 61).map readS := rfl
 generalize cutB 10 s = ls at hv1 hwl hwe hwne hrd
 have hpos : 0 < ls.length := List.length_pos_iff.2 hwne
 obtain ⟨A1, c1, rfl, _⟩ := id hv1
 refine Va J J ?_;refine S_emptyO Tk 5 J J J J fun A0 => ?_;refine Va J J ?_;refine S_loop (α := Nat × Option Addr × Nat × PH) (fun y => y.1 + 1 ≤ ls.length ∧ y.1 ≤ 61 ∧ (∀ i ∈ (ls.take y.1).map readS, I4 i) ∧ PH.ext w.heap.size G y.2.2.2 ∧ G1.le y.2.2.2) (fun y => 61 - y.1) []
  (fun y => [(6, .val (.int .i64 (y.1 : Nat))), (5, .val (.slice y.2.1 y.1 y.2.2.1)), (4, .val (.slice A1 ls.length c1)), (0, .val (tx s))])
  (fun y => [.hp 5 (rowO w.heap.size 33 4 y.2.1 y.1 y.2.2.1 (codeC ((ls.take y.1).map readS)))]) (fun y => y.2.2.2) (0, A0, 0, G1) ⟨hpos, by omega, by simp, hext1, fun _ _ h => h⟩ rfl ⟨⟨_, rfl, rfl⟩, ⟨_, rfl, rfl⟩, ⟨_, rfl, rfl⟩, ⟨_, rfl, rfl⟩, trivial⟩ (.hp .nil) ?_
 rintro ⟨i, A, cc, G2⟩ ⟨hi, hi61, hi4, hext2, hle2⟩
 simp only at hi hi61 hi4 hext2 hle2 ⊢
 refine Va J J ?_;refine S_add J J J J (by omega) ?_;refine Va J J ?_
 by_cases h5 : i + 1 < ls.length ∧ i ≤ 60
 ·refine RT J (by simp; omega) ?_
  refine Va J J ?_
  have hil : i < ls.length := by omega
  obtain ⟨ad, rfl, hcell⟩ := Txs_at (Txs_le hle2 hv1) hil
  have hwk := hwe _ (List.getElem_mem hil)
  have htk : (ls.take (i + 1)).map readS = (ls.take i).map readS ++ [readS ls[i]] := by rw [List.take_succ_eq_append_getElem hil, List.map_append]; rfl
  have hq := c_l4Read ls[i] G2 (by omega)
  generalize ls[i] = t at hcell hwk htk hq
  refine S_index Tk J J J J J J (by omega) (by omega) ?_;refine Va J J ?_;refine S_load Tk J J J J J (by simpa using hcell) ?_;refine Va J J ?_;refine S_call Tryz.call31 hq J J J ?_;rintro v3 G3 ⟨rfl, hr4⟩ hext3
  generalize readS t = ri at htk hr4
  rw [insV_eq]
  refine Va J J ?_;refine S_slice Tk ZT_ok J J J J (by decide) (by decide) J J J J fun b27 => ?_;refine Va J J ?_
  refine S_app1 Tk 5 27 J J J J J J J J J J J J J J (by intro u hu; simp at hu; rcases hu with rfl | rfl | rfl | rfl <;> rfl) rfl (fun _ _ => rfl) (by omega) (Nat.le_refl _) fun A6 c6 => ?_
  refine Va J J ?_;refine S_add J J J J (by omega) ?_;refine Va J J ?_;refine S_again (i + 1, A6, c6, G3) ⟨by omega, by simp only; omega, ?_, hext2.trans hext3, fun b o h => hext3.le b o (hle2 b o h)⟩ (by simp only; omega) rfl ⟨⟨_, rfl, by simp [denO]⟩, ⟨_, rfl, by simp [denO]⟩, ⟨_, rfl, rfl⟩, ⟨_, rfl, rfl⟩, trivial⟩ ?_
  ·intro x hx
   simp only at hx
   rw [htk] at hx
   rcases List.mem_append.1 hx with hx | hx
   ·exact hi4 x hx
   ·rw [List.mem_singleton.1 hx]; exact hr4
  ·simp only [htk, codeC_app]
   first | exact .drop (.hp .nil) | exact .hp .nil
 refine RF J (by simp; omega) ?_;refine Va J J ?_
 have hre : (ls.take i).map readS = readC s := by
  rw [hrd, List.dropLast_eq_take, List.take_take]
  congr 2
  omega
 have hli : ((ls.take i).map readS).length = i := by simp; omega
 rw [hre] at hi4 hli ⊢
 generalize hrc : readC s = c at *
 refine S_freezeR 5 J J (Nat.le_refl _) fun Gf hextf hncf hcmf hclf => ?_
 have hvc : InsG Gf c (.slice A i cc) := frz (Cs_codeC hi4) hli.symm (by omega) hncf hcmf hclf
 refine S_call Tryz.call9 (c_sCodeOk c _ Gf hvc (by omega)) J J J ?_;rintro v4 G4 rfl hext4
 refine Va J J ?_
 by_cases hok : codeOk c = true
 ·refine GF J J (by simp [hok]) ?_
  refine Va J J ?_;refine S_call Tryz.call7 (c_sCodeText c _ G4 (InsG_le hext4.le hvc) (by omega)) J J J ?_;rintro v5 G5 rfl hext5
  rw [if_pos hok]
  refine Va J J ?_;refine S_valV J J J (V_neT (by kernel_rfl) J J) ?_;refine Va J J ?_
  by_cases ht : textI c = s
  ·refine RF J (by simp [ht]) ?_
   refine Va J J ?_;refine S_retp (Res.t2 Tryz.results12 J J J J) (((hext2.trans hextf).trans hext4).trans hext5) ?_
   rw [codeRead_of hok ht]
   exact ⟨_, J, InsG_le (hext4.trans hext5).le hvc⟩
  ·refine RT J (by simp [ht]) ?_
   refine Va J J ?_
   have hn : codeRead s = none := by unfold codeRead; rw [hrc, if_neg fun h => ht h.2]
   refine S_emptyO Tk 9 J J J J fun A9 => ?_;refine Va J J ?_;refine S_freezeR 9 J J (Nat.le_refl _) fun Gg hextg hncg hcmg hclg => ?_;refine S_retp (Res.t2 Tryz.results12 J J J J) ((((hext2.trans hextf).trans hext4).trans hext5).trans hextg) ?_
   rw [hn]
   exact ⟨_, J, frz (L := []) (xs := []) J J (by decide) hncg hcmg hclg⟩
 ·refine GT J J (by simp [hok]) ?_
  refine Va J J ?_
  have hn : codeRead s = none := by unfold codeRead; rw [hrc, if_neg fun h => hok h.1]
  refine S_emptyO Tk 9 J J J J fun A9 => ?_;refine Va J J ?_;refine S_freezeR 9 J J (Nat.le_refl _) fun Gg hextg hncg hcmg hclg => ?_;refine S_retp (Res.t2 Tryz.results12 J J J J) (((hext2.trans hextf).trans hext4).trans hextg) ?_
  rw [hn]
  exact ⟨_, J, frz (L := []) (xs := []) J J (by decide) hncg hcmg hclg⟩
end
section
attribute [local irreducible] X Pure Mod
def ReadN (G0 G : PH) (o : Option (List Ins)) (v : Value) : Prop := match o with
 | some c => ∃ A n, v = .tuple #[.slice A c.length n, .bool true] ∧ codeOk c = true ∧ InsG G c (.slice A c.length n) ∧ FT G0 G (.sl 4 (tcI (c.length * 4))) (.slice A c.length n)
 | none => v = .tuple #[.slice none 0 0, .bool false]
structure CR where
 k : Nat
 A : Option Addr
 c : Nat
 d : List Ins
 G : PH
theorem c_iCodeRead (s : List UInt8) (G : PH) (hs : s.length ≤ 1048576) (hL : LibG G) : Pure Tryz.prog 6 [tx s] G fun v G' => ReadN G G' (codeReadI s) v := by
 refine Pure.intro Tryz.func6 Tryz.ntmps6 J J fun w => ?_; refine Va J J ?_;refine S_call Tryz.call15 (c_Split s 10 G hs hL.mx) J J J ?_;rintro v1 G1 hv1 hext1
 have hwl := cutB_len 10 s
 have hwe := cutB_each 10 s
 have hwne := cutB_ne 10 s
 have hrd : codeReadI s = match readLs (cutB 10 s).dropLast with
  | none => none
  | some c => if codeOk c = true ∧ textI c = s then some c else none := rfl
 generalize cutB 10 s = ls at hv1 hwl hwe hwne hrd
 have hpos : 0 < ls.length := List.length_pos_iff.2 hwne
 obtain ⟨A1, c1, rfl, _, hcc1, _⟩ := id hv1
 obtain ⟨ad1, hA1, _⟩ := Txs_at hv1 hpos
 subst hA1
 refine Va J J ?_;refine S_subI J J J J (by omega) ?_;refine Va J J ?_;obtain ⟨m, hm⟩ : ∃ m, ls.length = m + 1 := ⟨ls.length - 1, by omega⟩
 rw [show ((ls.length : Nat) : Int) - 1 = ((m : Nat) : Int) by omega]
 refine S_valV J J J (V_sliceHiO (ad' := ad1) Tk J J J J (by omega) hcc1 (by omega) (by simp [Addr.add])) ?_;refine Va J J ?_
 rw [List.dropLast_eq_take, show ls.length - 1 = m by omega] at hrd
 refine S_nilO (base := w.heap.size) (e := 33) (size := 4) 4 ?_;refine S_loop (α := CR) (fun y => y.k ≤ m ∧ y.d.length = y.k ∧ (∀ i ∈ y.d, I4 i) ∧ (readLs (ls.take m) = match readLs ((ls.take m).drop y.k) with
   | none => none
   | some c' => some (y.d ++ c')) ∧ PH.ext w.heap.size G y.G ∧ G1.le y.G) (fun y => m - y.k) []
  (fun y => [(18, .val (.int .i64 (y.k : Nat))), (17, .val (.int .i64 (m : Nat))), (16, .val (.slice (some ad1) m c1)), (4, .val (.slice y.A y.k y.c)), (0, .val (tx s))])
  (fun y => [.hp 4 (rowO w.heap.size 33 4 y.A y.k y.c (codeC y.d))]) (fun y => y.G) ⟨0, none, 0, [], G1⟩ ⟨Nat.zero_le _, rfl, by simp, ?_, hext1, fun _ _ h => h⟩ rfl ⟨⟨_, rfl, rfl⟩, ⟨_, rfl, rfl⟩, ⟨_, rfl, rfl⟩, ⟨_, rfl, rfl⟩, ⟨_, rfl, rfl⟩, trivial⟩ (.hp .nil) ?_
 ·simp only [List.drop_zero, List.nil_append]
  cases readLs (ls.take m) <;> rfl
 rintro ⟨k, A, cc, d, G2⟩ ⟨hk, hd, hd4, hread, hext2, hle2⟩
 simp only at hk hd hd4 hread hext2 hle2 ⊢
 refine Va J J ?_
 refine S_condp J (fun h5 => ?_) (fun h5 => ?_) <;> refine Va J J ?_
 ·have hkl : k < ls.length := by omega
  obtain ⟨_, e, hcell⟩ := Txs_at (Txs_le hle2 hv1) hkl
  cases e
  have hwk := hwe _ (List.getElem_mem hkl)
  have hdr : (ls.take m).drop k = ls[k] :: (ls.take m).drop (k + 1) := by
   rw [List.drop_eq_getElem_cons (by rw [List.length_take]; omega)]
   congr 1
   rw [List.getElem_take]
  rw [hdr, readLs] at hread
  have hq := c_readIns ls[k] G2 (by omega) (LibG_le hext2.le hL)
  generalize ls[k] = t at hcell hwk hread hq
  refine S_index Tk J J J J J J (by omega) (by omega) ?_;refine Va J J ?_;refine S_load Tk J J J J J (by simpa using hcell) ?_;refine Va J J ?_;refine S_call Tryz.call16 hq J J J ?_;rintro v3 G3 hv3 hext3
  cases hri : readI (cutB 32 t) with
  | none =>
   rw [hri] at hv3 hread
   obtain ⟨u, rfl⟩ := hv3
   rw [insV_eq]
   refine Va J J ?_;refine AZ ZT_ok J J J J fun b8 => ?_;refine Va J J ?_;refine RT J J ?_;refine Va J J ?_
   have hn : codeReadI s = none := by rw [hrd, hread]
   refine S_retp (Res.t2 Tryz.results6 J J J J) (hext2.trans hext3) ?_
   rw [hn]
   rfl
  | some i =>
   rw [hri] at hv3 hread
   have hv3' : v3 = .tuple #[.agg (insC i).toArray, .bool true] := hv3
   subst hv3'
   rw [insV_eq]
   refine Va J J ?_;refine AZ ZT_ok J J J J fun b8 => ?_;refine Va J J ?_;refine RF J J ?_;refine Va J J ?_;refine S_slice Tk ZT_ok J J J J (by decide) (by decide) J J J J fun b31 => ?_;refine Va J J ?_
   refine S_app1 Tk 4 31 J J J J J J J J J J J J J J (by intro u hu; simp at hu; rcases hu with rfl | rfl | rfl | rfl <;> rfl) rfl (fun _ _ => rfl) (by omega) (Nat.le_refl _) fun A6 c6 => ?_
   refine Va J J ?_;refine S_add J J J J (by omega) ?_;refine Va J J ?_;refine S_again ⟨k + 1, A6, c6, d ++ [i], G3⟩ ⟨by simp only; omega, by simp [hd], ?_, ?_, hext2.trans hext3, fun b o h => hext3.le b o (hle2 b o h)⟩ (by simp only; omega) rfl ⟨⟨_, rfl, by simp [denO]⟩, ⟨_, rfl, rfl⟩, ⟨_, rfl, rfl⟩, ⟨_, rfl, rfl⟩, ⟨_, rfl, rfl⟩, trivial⟩ ?_
   ·intro x hx
    rcases List.mem_append.1 hx with hx | hx
    ·exact hd4 x hx
    ·rw [List.mem_singleton.1 hx]; exact readI_i64 hri
   ·simp only at hread ⊢
    rw [hread]
    cases readLs ((ls.take m).drop (k + 1)) with
    | none => rfl
    | some c' => simp only [List.append_assoc, List.singleton_append]
   ·simp only [codeC_app]
    first | exact .drop (.drop (.hp .nil)) | exact .drop (.hp .nil)
 obtain rfl : k = m := by omega
 rw [List.drop_eq_nil_of_le (by rw [List.length_take]; omega), readLs] at hread
 simp only [List.append_nil] at hread
 rw [hread] at hrd
 simp only at hrd
 refine S_freezeW 4 J J (Nat.le_refl _) fun Gf hextf hncf hcmf hclf hnew => ?_
 have hvc : InsG Gf d (.slice A k cc) := frz (Cs_codeC hd4) hd.symm (by omega) hncf hcmf hclf
 have hft : FT G Gf (.sl 4 (tcI (k * 4))) (.slice A k cc) := FT_row hext2.le hextf.le (by rw [← hd]; exact FL_code G G2 d) (by simp [tcI]) (by omega) hncf hcmf hnew
 have hext4 := hext2.trans hextf
 refine S_call Tryz.call8 (c_iCodeOk d _ Gf hvc (by omega)) J J J ?_;rintro v5 G5 rfl hext5
 refine Va J J ?_
 by_cases hok : codeOk d = true
 ·refine GF J J (by simp [hok]) ?_
  refine Va J J ?_;refine S_call Tryz.call5 (c_iCodeText d _ G5 (InsG_le hext5.le hvc) (by omega) (TabG_le (hext4.trans hext5).le hL.tab)) J J J ?_;rintro v6 G6 rfl hext6
  rw [if_pos hok]
  refine Va J J ?_;refine S_valV J J J (V_neT (by kernel_rfl) J J) ?_;refine Va J J ?_
  by_cases ht : textI d = s
  ·refine RF J (by simp [ht]) ?_
   refine Va J J ?_;refine S_retp (Res.t2 Tryz.results6 J J J J) ((hext4.trans hext5).trans hext6) ?_
   rw [hrd, if_pos ⟨hok, ht⟩, ← hd] at *
   exact ⟨_, _, J, hok, InsG_le (hext5.trans hext6).le hvc, FT.mono (hext5.trans hext6).le hft⟩
  ·refine RT J (by simp [ht]) ?_
   refine Va J J ?_;refine S_retp (Res.t2 Tryz.results6 J J J J) ((hext4.trans hext5).trans hext6) ?_
   rw [hrd, if_neg fun h => ht h.2]
   rfl
 ·refine GT J J (by simp [hok]) ?_
  refine Va J J ?_;refine S_retp (Res.t2 Tryz.results6 J J J J) (hext4.trans hext5) ?_
  rw [hrd, if_neg fun h => hok h.1]
  rfl
end
section
attribute [local irreducible] X Pure Mod
theorem read_two {G1 G2 G0 : PH} {o : Option (List Ins)} {v1 v2 : Value} (h2 : ReadN G0 G1 o v1) (h1 : ReadG G2 o v2) : ∃ c b A n B m, v1 = .tuple #[.slice A c.length n, .bool b] ∧ v2 = .tuple #[.slice B c.length m, .bool b] ∧ InsG G1 c (.slice A c.length n) ∧ InsG G2 c (.slice B c.length m) ∧ c.length ≤ 60 ∧ (b = true → o = some c) := by
 cases o with
 | none =>
  obtain ⟨u, rfl, hu⟩ := h1
  have h2' : v1 = .tuple #[.slice none 0 0, .bool false] := h2
  subst h2'
  obtain ⟨B, m, rfl, _⟩ := id hu
  exact ⟨[], false, none, 0, B, m, J, J, Sr_nil J, hu, by simp, by simp⟩
 | some c =>
  obtain ⟨u, rfl, hu⟩ := h1
  obtain ⟨A, n, rfl, hok, hi, hf⟩ := h2
  obtain ⟨B, m, rfl, _⟩ := id hu
  exact ⟨c, true, A, n, B, m, rfl, rfl, hi, hu, (codeOk_ins hok).2.1, fun _ => rfl⟩
theorem read_text (c : List Ins) : codeRead (if codeOk c then textI c else []) = if codeOk c then some c else none := by
 by_cases h : codeOk c = true
 ·rw [if_pos h, if_pos h]
  exact codeRead_of h J
 ·rw [if_neg h, if_neg h]
  decide
theorem c_FnCodeText (a1 a2 : Option Addr) (n1 n2 k1 k2 : Nat) (G : PH) (hL : LibG G) (h1 : n1 ≤ 1048576 → ∃ l, Byts G l (.slice a1 n1 k1) ∧ l.length = n1) (h2 : n2 ≤ 1048576 → ∃ l, Byts G l (.slice a2 n2 k2) ∧ l.length = n2) :
  Pure Tryz.prog 3 [.slice a1 n1 k1, .slice a2 n2 k2] G fun v G' => v = .bool true := by
 refine Pure.intro Tryz.func3 Tryz.ntmps3 J J fun w => ?_; refine Va J J ?_
 refine S_cond J (fun h => ?_) (fun h => ?_) <;> refine Va J J ?_
 ·exact S_retp (Res.t1 Tryz.results3 J J) XR J
 simp only [Bool.or_eq_false_iff, decide_eq_false_iff_not] at h
 obtain ⟨l1, hb1, _⟩ := h1 (by omega)
 obtain ⟨l2, hb2, _⟩ := h2 (by omega)
 refine S_call Tryz.call4 (c_DrawCodeText l1 _ G hb1) J J J ?_;rintro v3 G3 ⟨c, hc, hcl⟩ hext3
 obtain ⟨A, n, rfl, _⟩ := id hc
 refine Va J J ?_;refine S_call Tryz.call5 (c_iCodeText c _ G3 hc (by omega) (LibG_le hext3.le hL).tab) J J J ?_;rintro v4 G4 rfl hext4
 refine Va J J ?_
 have hlen : (if codeOk c then textI c else []).length ≤ 1048576 := by
  split
  ·have := text_len (InsG_all hc)
   omega
  ·simp
 have hrt := read_text c
 have hx4 := hext3.trans hext4
 have hI := c_iCodeRead _ G4 hlen (LibG_le hx4.le hL)
 rw [codeReadI_eq, hrt] at hI
 have hOk := fun H h => c_iCodeOk c (.slice A c.length n) H h (by omega)
 have hSk := fun H h => c_sCodeOk c (.slice A c.length n) H h (by omega)
 have hST := fun H h => c_sCodeText c (.slice A c.length n) H h (by omega)
 cases hb : codeOk c with
 | false =>
  simp only [hb, Bool.false_eq_true, if_false] at hI hOk hSk hST hlen ⊢
  refine S_call Tryz.call6 hI J J J ?_;rintro v5 G5 hv5 hext5
  have hv5' : v5 = .tuple #[.slice none 0 0, .bool false] := hv5
  subst hv5'
  refine Va J J ?_;refine S_call Tryz.call7 (hST G5 (InsG_le (hext4.trans hext5).le hc)) J J J ?_;rintro v6 G6 rfl hext6
  refine Va J J ?_;refine S_valV J J J (V_neT (by kernel_rfl) J J) ?_;refine Va J J ?_;refine GF J J (by simp) ?_;refine Va J J ?_;refine S_call Tryz.call8 (hOk G6 (InsG_le ((hext4.trans hext5).trans hext6).le hc)) J J J ?_;rintro v7 G7 rfl hext7
  refine Va J J ?_;refine S_call Tryz.call9 (hSk G7 (InsG_le (((hext4.trans hext5).trans hext6).trans hext7).le hc)) J J J ?_;rintro v8 G8 rfl hext8
  refine Va J J ?_;refine S_valV J J J (V_neqB (by kernel_rfl) (by kernel_rfl) J J) ?_;refine Va J J ?_;refine GF J J J ?_;refine Va J J ?_
  have hx48 := (((hext4.trans hext5).trans hext6).trans hext7).trans hext8
  refine S_call Tryz.call9 (hSk G8 (InsG_le hx48.le hc)) J J J ?_;rintro v9a G9a rfl hext9a
  refine Va J J ?_;refine S_valV J J J (V_neqB (by kernel_rfl) (by kernel_rfl) J J) ?_;refine Va J J ?_;refine GF J J J ?_;refine Va J J ?_
  have hx49 := hx48.trans hext9a
  have hx59 := ((hext6.trans hext7).trans hext8).trans hext9a
  have hx9a := hext3.trans hx49
  refine GF J J J ?_;refine Va J J ?_;refine S_call Tryz.call11 (c_DrawCodeRead l2 _ G9a (Byts_le (hx9a).le hb2)) J J J ?_;rintro v9 G9 ⟨s2, rfl, hs2⟩ hext9
  refine Va J J ?_
  have hx9 := PH.ext.trans hx9a hext9
  have hI := c_iCodeRead s2 G9 (by omega) (LibG_le hx9.le hL)
  rw [codeReadI_eq] at hI
  have hS := fun H => c_sCodeRead s2 H (by omega)
  refine S_call Tryz.call6 hI J J J ?_;rintro v10 G10 hv10 hext10
  obtain ⟨u10, b10, e10⟩ : ∃ u b, v10 = .tuple #[u, .bool b] := by
   generalize codeRead s2 = o at hv10
   cases o with
   | none => exact ⟨_, _, hv10⟩
   | some d => obtain ⟨A, n, h, _⟩ := hv10; exact ⟨_, _, h⟩
  subst e10
  refine Va J J ?_;refine S_call Tryz.call12 (hS G10) J J J ?_;rintro v11 G11 hv11 hext11
  obtain ⟨y, b, A10, n10, A11, n11, e1, rfl, hy, hz, hyl, hby⟩ := read_two hv10 hv11
  cases e1
  refine Va J J ?_
  have hy2 := InsG_le hext11.le hy
  have hx11 := (hx9.trans hext10).trans hext11
  refine S_valV J J J (V_eqB (by kernel_rfl) (by kernel_rfl) J J) ?_;refine Va J J ?_;refine GT J J (by simp) ?_;refine Va J J ?_;refine S_call Tryz.call10 (c_CodeSame y _ _ G11 hy2 hz) J J J ?_;rintro v12 G12 ⟨rfl, rfl⟩ _
  refine Va J J ?_;refine GT J J J ?_;refine Va J J ?_
  cases b10 with
  | false =>
   refine GT J J J ?_;refine Va J J ?_;exact S_retp (Res.t1 Tryz.results3 J J) hx11 J
  | true =>
   obtain ⟨hyok, hyt⟩ := codeRead_some (hby rfl)
   refine GF J J J ?_;refine Va J J ?_;refine S_call Tryz.call5 (c_iCodeText y _ _ hy2 (by omega) (LibG_le hx11.le hL).tab) J J J ?_
   rw [if_pos hyok, hyt]
   rintro v13 G13 rfl hext13
   refine Va J J ?_;refine S_valV J J J (V_eqT (by kernel_rfl) J J) ?_;refine Va J J ?_;refine GT J J (by simp) ?_;refine Va J J ?_;refine S_call Tryz.call8 (c_iCodeOk y _ _ (InsG_le hext13.le hy2) (by omega)) J J J ?_;rintro v14 G14 rfl hext14
   rw [hyok]
   refine Va J J ?_;exact S_retp (Res.t1 Tryz.results3 J J) ((hx11.trans hext13).trans hext14) J
 | true =>
  simp only [hb, if_true] at hI hOk hSk hST hlen ⊢
  refine S_call Tryz.call6 hI J J J ?_;rintro v5 G5 ⟨A5, n5, rfl, _, hi5, _⟩ hext5
  refine Va J J ?_;refine S_call Tryz.call7 (hST G5 (InsG_le (hext4.trans hext5).le hc)) J J J ?_;rintro v6 G6 rfl hext6
  refine Va J J ?_;refine S_valV J J J (V_neT (by kernel_rfl) J J) ?_;refine Va J J ?_;refine GF J J (by simp) ?_;refine Va J J ?_;refine S_call Tryz.call8 (hOk G6 (InsG_le ((hext4.trans hext5).trans hext6).le hc)) J J J ?_;rintro v7 G7 rfl hext7
  refine Va J J ?_;refine S_call Tryz.call9 (hSk G7 (InsG_le (((hext4.trans hext5).trans hext6).trans hext7).le hc)) J J J ?_;rintro v8 G8 rfl hext8
  refine Va J J ?_;refine S_valV J J J (V_neqB (by kernel_rfl) (by kernel_rfl) J J) ?_;refine Va J J ?_;refine GF J J J ?_;refine Va J J ?_
  have hx48 := (((hext4.trans hext5).trans hext6).trans hext7).trans hext8
  refine S_call Tryz.call9 (hSk G8 (InsG_le hx48.le hc)) J J J ?_;rintro v9a G9a rfl hext9a
  refine Va J J ?_;refine S_valV J J J (V_neqB (by kernel_rfl) (by kernel_rfl) J J) ?_;refine Va J J ?_;refine GF J J J ?_;refine Va J J ?_
  have hx49 := hx48.trans hext9a
  have hx59 := ((hext6.trans hext7).trans hext8).trans hext9a
  have hx9a := hext3.trans hx49
  refine GT J J J ?_;refine Va J J ?_;refine S_call Tryz.call10 (c_CodeSame c _ _ G9a (InsG_le hx59.le hi5) (InsG_le hx49.le hc)) J J J ?_;rintro v12 G12 ⟨rfl, rfl⟩ _
  refine Va J J ?_;refine RF J J ?_;refine Va J J ?_;refine S_call Tryz.call11 (c_DrawCodeRead l2 _ _ (Byts_le (hx9a).le hb2)) J J J ?_;rintro v9 G9 ⟨s2, rfl, hs2⟩ hext9
  refine Va J J ?_
  have hx9 := PH.ext.trans hx9a hext9
  have hI := c_iCodeRead s2 G9 (by omega) (LibG_le hx9.le hL)
  rw [codeReadI_eq] at hI
  have hS := fun H => c_sCodeRead s2 H (by omega)
  refine S_call Tryz.call6 hI J J J ?_;rintro v10 G10 hv10 hext10
  obtain ⟨u10, b10, e10⟩ : ∃ u b, v10 = .tuple #[u, .bool b] := by
   generalize codeRead s2 = o at hv10
   cases o with
   | none => exact ⟨_, _, hv10⟩
   | some d => obtain ⟨A, n, h, _⟩ := hv10; exact ⟨_, _, h⟩
  subst e10
  refine Va J J ?_;refine S_call Tryz.call12 (hS G10) J J J ?_;rintro v11 G11 hv11 hext11
  obtain ⟨y, b, A10, n10, A11, n11, e1, rfl, hy, hz, hyl, hby⟩ := read_two hv10 hv11
  cases e1
  refine Va J J ?_
  have hy2 := InsG_le hext11.le hy
  have hx11 := (hx9.trans hext10).trans hext11
  refine S_valV J J J (V_eqB (by kernel_rfl) (by kernel_rfl) J J) ?_;refine Va J J ?_;refine GT J J (by simp) ?_;refine Va J J ?_;refine S_call Tryz.call10 (c_CodeSame y _ _ G11 hy2 hz) J J J ?_;rintro v12 G12 ⟨rfl, rfl⟩ _
  refine Va J J ?_;refine GT J J J ?_;refine Va J J ?_
  cases b10 with
  | false =>
   refine GT J J J ?_;refine Va J J ?_;exact S_retp (Res.t1 Tryz.results3 J J) hx11 J
  | true =>
   obtain ⟨hyok, hyt⟩ := codeRead_some (hby rfl)
   refine GF J J J ?_;refine Va J J ?_;refine S_call Tryz.call5 (c_iCodeText y _ _ hy2 (by omega) (LibG_le hx11.le hL).tab) J J J ?_
   rw [if_pos hyok, hyt]
   rintro v13 G13 rfl hext13
   refine Va J J ?_;refine S_valV J J J (V_eqT (by kernel_rfl) J J) ?_;refine Va J J ?_;refine GT J J (by simp) ?_;refine Va J J ?_;refine S_call Tryz.call8 (c_iCodeOk y _ _ (InsG_le hext13.le hy2) (by omega)) J J J ?_;rintro v14 G14 rfl hext14
   rw [hyok]
   refine Va J J ?_;exact S_retp (Res.t1 Tryz.results3 J J) ((hx11.trans hext13).trans hext14) J
end
section
def GB (w : World) (a0 : Option Addr) : PH := fun b => match a0 with
 | some x => if b = x.block then w.heap[b]? else none
 | none => none
theorem GB_emb (w : World) (a0 : Option Addr) : Emb (GB w a0) w := by
 intro b o h
 unfold GB at h
 split at h
 ·split at h
  ·exact h
  ·cases h
 ·cases h
theorem gcell_GB {w : World} {x a : Addr} {v : Value} (hb : a.block = x.block) (h : w.cell? a = some v) : gcell (GB w (some x)) a = some v := by
 unfold gcell
 simp only [GB, hb, if_true]
 unfold World.cell? at h
 rw [hb] at h
 cases ho : w.heap[x.block]? with
 | none => simp [ho] at h
 | some o => cases o <;> simp_all
theorem Cs_byte : ∀ (l : List Int), (∀ n ∈ l, 0 ≤ n ∧ n ≤ 255) → Cs 1 byteRep l (l.map fun n => .int .u8 n)
 | [], _ => rfl
 | n :: l, h => ⟨[.int .u8 n], _, rfl, rfl, ⟨rfl, h n (List.mem_cons_self ..)⟩, Cs_byte l fun m hm => h m (List.mem_cons_of_mem _ hm)⟩
theorem byts_of {w : World} {a : Option Addr} {len cap : Nat} {zs : List Int} (h : (a = none ∧ len = 0 ∧ cap = 0 ∧ zs = []) ∨ ∃ x, a = some x ∧ len ≤ cap ∧ cap ≤ maxLen ∧ zs.length = cap ∧ (∀ i, i < zs.length → w.cell? (x.add i) = some (.int .u8 (zs.getD i 0))) ∧ ∀ n ∈ zs, (Lit.int .u8 n).wf = true)
  (hlen : len ≤ 1048576) : ∃ l, Byts (GB w a) l (.slice a len cap) ∧ l.length = len := by
 rcases h with ⟨rfl, rfl, rfl, rfl⟩ | ⟨x, rfl, h1, h2, h3, h4, h5⟩
 ·exact ⟨[], Sr_nil J, J⟩
 ·have hl : (zs.take len).length = len := by simp; omega
  refine ⟨zs.take len, Sx_Sr ⟨some x, cap, J, by omega, h1, h2, ?_, ?_⟩ hl.symm (Cs_byte _ ?_), hl⟩
  ·simp; omega
  ·refine .inr ⟨x, rfl, gcells_of fun j v hj => ?_⟩
   simp only [List.getElem?_map, Option.map_eq_some_iff] at hj
   obtain ⟨n, hn, rfl⟩ := hj
   have hj2 : zs[j]? = some n := by
    rw [List.getElem?_take] at hn
    split at hn
    ·exact hn
    ·cases hn
   have hjl : j < zs.length := (List.getElem?_eq_some_iff.1 hj2).1
   refine gcell_GB (block_add' x j) ?_
   rw [h4 j hjl]
   simp [List.getD_eq_getElem?_getD, hj2]
  ·intro n hn
   have := h5 n (List.mem_of_mem_take hn)
   have e1 : IntKind.u8.min = 0 := rfl
   have e2 : IntKind.u8.max = 255 := rfl
   simp only [Lit.wf, Bool.and_eq_true, decide_eq_true_eq, e1, e2] at this
   omega
end
section
open Go.ChangeShapes Go.WideShapes Go.ChangeAt Go.RowKit
def GS (w : World) : PH := fun b => w.heap[b]?
theorem GS_emb (w : World) : Emb (GS w) w := fun b o h => h
theorem GS_var {w w' : World} {n : String} {cs : Array Value} (h : w.var? Tryz.prog n = some cs) (hw : Emb (GS w) w') : w'.var? Tryz.prog n = some cs := by
 unfold World.var? at h ⊢
 cases hg : Tryz.prog.globalNamed n with
 | none => rw [hg] at h; cases h
 | some g =>
  rw [hg] at h
  simp only [Option.bind_some] at h ⊢
  cases ho : w.heap[g]? with
  | none => rw [ho] at h; cases h
  | some o => rw [ho] at h; rw [hw g o ho]; exact h
theorem GS_tab {w : World} (h : Lib.TabIs Tryz.prog w "internal/strconv.uint64pow10" .u64 Lib.pow10Tab) : TabG (GS w) := by
 intro w' hw'
 unfold Lib.TabIs at h ⊢
 exact GS_var h hw'
theorem GS_cell {w w' : World} {a : Addr} {v : Value} (h : w.cell? a = some v) (hw : Emb (GS w) w') : w'.cell? a = some v := by
 unfold World.cell? at h ⊢
 cases ho : w.heap[a.block]? with
 | none => simp [ho] at h
 | some o => rw [ho] at h; rw [hw a.block o ho]; exact h
theorem LibG_GS {w : World} (hT : Lib.TabIs Tryz.prog w "internal/strconv.uint64pow10" .u64 Lib.pow10Tab) (hm : ∃ m, w.cell? ⟨0, 0, none⟩ = some (.int .i64 m))
  (hs : ∃ tp p, w.var? Tryz.prog "strconv.ErrSyntax" = some #[.iface tp p]) (hr : ∃ tp p, w.var? Tryz.prog "strconv.ErrRange" = some #[.iface tp p]) : LibG (GS w) := by
 obtain ⟨m, hm⟩ := hm
 obtain ⟨t1, p1, hs⟩ := hs
 obtain ⟨t2, p2, hr⟩ := hr
 exact ⟨GS_tab hT, ⟨m, fun w' hw' => GS_cell hm hw'⟩, ⟨t1, p1, fun w' hw' => GS_var hs hw'⟩, ⟨t2, p2, fun w' hw' => GS_var hr hw'⟩⟩
theorem own : ownKnob Tryz.prog.godebug = none := by kernel_rfl
theorem laidOut : laidOutB Tryz.prog = true := by kernel_rfl
def laidT : List (String × DataW Unit) := Rows.fnCodeTextRow.laid
theorem gPow : Tryz.prog.globalNamed "internal/strconv.uint64pow10" = some 3 := by kernel_rfl
theorem tPow : (Tryz.prog.globals[3]?).map (·.type) = some 137 := by kernel_rfl
theorem uPow : Tryz.prog.underlying 137 = some (.array 20 118) := by kernel_rfl
theorem uElem : Tryz.prog.underlying 118 = some (.int .u64) := by kernel_rfl
theorem cElem : Tryz.prog.cellsOf 118 = 1 := by kernel_rfl
theorem cPow : Tryz.prog.cellsOf 137 = 20 := by kernel_rfl
theorem pow_eq : (Rows.laid_internal_strconv_uint64pow10 : DataW Unit) = Lib.tabData .u64 Lib.pow10Tab := by
 simp [Rows.laid_internal_strconv_uint64pow10, Lib.tabData, Lib.pow10Tab, List.range, List.range.loop]
theorem gES : Tryz.prog.globalNamed "strconv.ErrSyntax" = some 1 := by kernel_rfl
theorem tES : (Tryz.prog.globals[1]?).map (·.type) = some 65 := by kernel_rfl
theorem gER : Tryz.prog.globalNamed "strconv.ErrRange" = some 2 := by kernel_rfl
theorem tER : (Tryz.prog.globals[2]?).map (·.type) = some 65 := by kernel_rfl
theorem u_ep : Tryz.prog.underlying 147 = some (.pointer 149) := by kernel_rfl
theorem u_es : ∃ f, Tryz.prog.underlying 149 = some (.struct #[f]) ∧ f.type = 9 ∧ f.offset = 0 := by
 have h : (match Tryz.prog.underlying 149 with | some (.struct fs) => (match fs.toList with | [f] => f.type == 9 && f.offset == 0 | _ => false) | _ => false) = true := by kernel_rfl
 split at h
 ·rename_i fs hfs
  split at h
  ·rename_i f hf
   simp only [Bool.and_eq_true, beq_iff_eq] at h
   refine ⟨f, ?_, h.1, h.2⟩
   rw [hfs]
   congr 2
   exact Array.toList_inj.1 hf
  ·cases h
 ·cases h
theorem c_es : Tryz.prog.cellsOf 149 = 1 := by kernel_rfl
theorem c_str : Tryz.prog.cellsOf 9 = 1 := by kernel_rfl
theorem star : "*" ++ "errors.errorString" = "*errors.errorString" := by decide
theorem of_laid {W : World} (h : laidMetH Tryz.prog laidT W) : Lib.TabIs Tryz.prog W "internal/strconv.uint64pow10" .u64 Lib.pow10Tab ∧ (∃ tp p, W.var? Tryz.prog "strconv.ErrSyntax" = some #[.iface tp p]) ∧ ∃ tp p, W.var? Tryz.prog "strconv.ErrRange" = some #[.iface tp p] := by
 rw [MakeChecks.laidMetH_plain _ _ _ (by kernel_rfl)] at h
 obtain ⟨ms, u_err⟩ := u_err
 obtain ⟨f, hf, hft, hfo⟩ := u_es
 have hrow : ∀ u, Tryz.prog.typeName? 3 u = some "*errors.errorString" → u = 147 := by
  intro u h
  exact typeName_ptr_named (nm := "errors.errorString") (by rw [star]; kernel_rfl) (by kernel_rfl) (by decide) u (by rw [star]; exact h)
 have h2 : laidMet Tryz.prog (("internal/strconv.uint64pow10", Rows.laid_internal_strconv_uint64pow10) :: _) W := h.tail.tail
 have h5 := h2.tail.tail
 have h6 := h5.tail
 rw [pow_eq] at h2
 obtain ⟨a1, s1, hv1, _⟩ := laid_sentinel h5 gER tER u_err hrow u_ep hf hft hfo (by kernel_rfl) c_es c_str
 obtain ⟨a2, s2, hv2, _⟩ := laid_sentinel h6 gES tES u_err hrow u_ep hf hft hfo (by kernel_rfl) c_es c_str
 exact ⟨Lib.tabIs_of_head gPow tPow uPow uElem cElem cPow h2, ⟨_, _, hv2⟩, ⟨_, _, hv1⟩⟩
theorem max_of {W : World} (h : W.ShapedOpen Tryz.prog) : ∃ m, W.cell? ⟨0, 0, none⟩ = some (.int .i64 m) := by
 exact Go.Proofs.cell_of_shapedOpen_int (zero := #[.int .i64 0]) (t := 3) h (of_decide_eq_true (by kernel_rfl)) (by kernel_rfl) J (by kernel_rfl) (by kernel_rfl) (by kernel_rfl)
theorem change_and_shaped {H : Type} {enc : TypeId × Value → H} {a : Assume} {C : Checked} {os : Os} {f : FuncId} {fn : Func} {s : ChangeSpec} {conds : List PathCond} {apart fresh handsOn again : Bool} {X : World → Array Value → Prop}
  (hX : ∀ (w w' : World) (args : Array Value), w.heap = w'.heap → X w args → X w' args)
  (own : ownKnob C.prog.godebug = none) (started : os.Started) (noInit : C.prog.inits.idxOf? f = none) (hfn : C.prog.funcs[f]? = some fn)
  (witness : ∃ (w : World) (tape : Tape) (i : Input), w.os = os ∧ (w.forCall tape i).Shaped C.prog ∧ i.vars = [] ∧ Input.okWide C.prog (w.forCall tape i) .any w.heap.size f i ∧
   ((s.pre enc C.prog fn conds apart (w.forCall tape i).memory i.args ∧ X (w.forCall tape i).memory i.args) ∧ sizedMet enc C.prog fn (OpenSpec.ofChange s) apart (w.forCall tape i).memory i.args) ∧ a.holds C.prog (lone (Frame.enter C.prog f i.args .normal) [] (w.forCall tape i)))
  (contract : ∀ (W : World) (base : Nat) (args : Array Value) (ds gs : List (DataW H)) (before : List MemPlace),
   (∀ (j : Nat) t v, fn.params[j]? = some t → args[j]? = some v → Value.okWide C.prog W .any base t v) →
   DataW.Whole enc C.prog fn.params.toList s.vars apart W args.toList ds gs before →
   conds.all (PathCond.test C.prog ⟨fn.params.toList, ds, s.plain.varTypes C.prog, gs⟩) = true →
   (DataW.weightsEach C.prog (fn.params.toList ++ s.plain.varTypes C.prog) (ds ++ gs)).all (· ≤ reachBytes) = true → X W args → W.ShapedOpen C.prog →
   a.holds C.prog (lone (Frame.enter C.prog f args .normal) [] W) →
   Calls C.prog f args W fun e W' => ∃ v, e = .returned v ∧ s.post enc C.prog fn apart fresh handsOn again W args v W') :
  ReturnsInHanded a C os f .any (fun w args => (s.pre enc C.prog fn conds apart w args ∧ X w args) ∧ sizedMet enc C.prog fn (OpenSpec.ofChange s) apart w args) (s.post enc C.prog fn apart fresh handsOn again) := by
 refine returnsInHanded_of_calls own started noInit witness ?_
 intro w tape i _ hsh _ hok hpre hholds
 obtain ⟨_, _, _, fn', hfn', _, _, _, _, hval⟩ := hok
 have e : fn' = fn := Option.some.inj (hfn'.symm.trans hfn)
 subst e
 obtain ⟨⟨⟨ds, gs, before, hw, hc⟩, hx⟩, hz⟩ := hpre
 have hw' := DataW.Whole.of_heap (w' := w.forCall tape i) (by rfl) hw
 refine (contract (w.forCall tape i) w.heap.size i.args ds gs before hval hw' hc (hz.weights hw) (hX _ _ _ (by rfl) hx) hsh hholds).mono fun e W' ⟨v, he, hp⟩ => ?_
 subst he
 exact ChangeSpec.post_blind hp
def IsRow (k : IntKind) (w : World) (a : Option Addr) (len cap : Nat) (zs : List Int) : Prop :=
 (a = none ∧ len = 0 ∧ cap = 0 ∧ zs = []) ∨
 ∃ x, a = some x ∧ len ≤ cap ∧ cap ≤ maxLen ∧ zs.length = cap ∧ (∀ i, i < zs.length → w.cell? (x.add i) = some (.int k (zs.getD i 0))) ∧ ∀ n ∈ zs, (Lit.int k n).wf = true
theorem GB_GS (w : World) (a : Option Addr) : (GB w a).le (GS w) := GB_emb w a
theorem lawBB {f : FuncId} {w : World} {a1 a2 : Option Addr} {n1 n2 k1 k2 : Nat} {z1 z2 : List Int} (hL : LibG (GS w)) (h1 : IsRow .u8 w a1 n1 k1 z1) (h2 : IsRow .u8 w a2 n2 k2 z2)
  (hc : ∀ G, LibG G → (n1 ≤ 1048576 → ∃ l, Byts G l (.slice a1 n1 k1) ∧ l.length = n1) → (n2 ≤ 1048576 → ∃ l, Byts G l (.slice a2 n2 k2) ∧ l.length = n2) → Pure Tryz.prog f [.slice a1 n1 k1, .slice a2 n2 k2] G fun v G' => v = .bool true) :
  Calls Tryz.prog f #[.slice a1 n1 k1, .slice a2 n2 k2] w fun e w' => e = .returned (.bool true) ∧ Below w.heap.size w w' := by
 have h := hc (GS w) hL (fun hn => let ⟨l, hl, hl2⟩ := byts_of h1 hn; ⟨l, Byts_le (GB_GS w a1) hl, hl2⟩) (fun hn => let ⟨l, hl, hl2⟩ := byts_of h2 hn; ⟨l, Byts_le (GB_GS w a2) hl, hl2⟩) w (GS_emb w)
 exact h.mono fun e w' ⟨v, G', h1, h2, h3, h4, h5⟩ => ⟨by rw [h1, h2], h5⟩
end
end Go.Proofs.YtblildkhbkmmdaaGreatDoor
