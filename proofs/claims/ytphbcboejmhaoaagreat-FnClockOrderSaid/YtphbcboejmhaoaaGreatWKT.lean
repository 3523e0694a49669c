/- Walks of the program's functions, one after the other (part 13); without conditions of their own. -/
import Derived.Test.YtphbcboejmhaoaaGreatWM3
import Derived.Test.YtphbcboejmhaoaaGreatWM10
import Derived.Test.YtphbcboejmhaoaaGreatWM11
import Derived.Test.YtphbcboejmhaoaaGreatWKM12
import Derived.Test.YtphbcboejmhaoaaGreatWM2
set_option linter.unusedVariables false
set_option linter.unusedSimpArgs false
set_option maxRecDepth 100000
set_option maxHeartbeats 4000000
open Go.RowKit
namespace Go.Proofs.YtphbcboejmhaoaaGreat
section
attribute [local irreducible] X Pure Mod
end
section

end
section
attribute [local irreducible] X Pure Mod
theorem own_at (C : Ck) (who k : Nat) : C.own who k = C.pr who k + if k = who then 1 else 0 := by
 unfold Ck.own
 split <;> omega
theorem clk_getD {n k : Nat} {x : Nat → Int} (h : k < n) : (clkL n x)[k]?.getD 0 = x k := by simp [clkL, h]
end
section
attribute [local irreducible] X Pure Mod
end
section
attribute [local irreducible] X Pure Mod
theorem c_IndexInt (L : List Int) (p : Int → Bool) (fid : Nat) (cap : Array Value) (v : Value) (G : PH) (hv : Ints G L v) (hcf : ∀ args w, (callFunc fid args).run Tryz.prog w = .ok (.enter fid args) w)
  (hp : ∀ k (hk : k < L.length), I64 L[k] → Pure Tryz.prog fid (.int .i64 L[k] :: cap.toList) G fun v G' => v = .bool (p L[k]) ∧ G' = G) :
  Pure Tryz.prog 71 [v, .func (.func fid) #[] cap] G fun v G' => (∃ r : Int, v = .int .i64 r ∧ (0 ≤ r ↔ L.any p = true)) ∧ G' = G := by
 obtain ⟨A, c, rfl, hn, hc1, hc2, hr⟩ := id hv
 refine Pure.intro Tryz.func71 Tryz.ntmps71 J J fun w => ?_; refine Va J J ?_;refine S_loop (α := Nat) (fun k => k ≤ L.length ∧ ∀ j (hj : j < L.length), j < k → p L[j] = false) (fun k => L.length - k) []
  (fun k => [(8, .val (.int .i64 k)), (7, .val (.int .i64 L.length)), (0, .val (.slice A L.length c)), (1, .val (.func (.func fid) #[] cap))]) (fun _ => []) (fun _ => G) 0 ⟨Nat.zero_le _, fun j _ h => by omega⟩ rfl
  ⟨⟨_, rfl, rfl⟩, ⟨_, rfl, rfl⟩, ⟨_, rfl, rfl⟩, ⟨_, rfl, rfl⟩, trivial⟩ .nil ?_
 rintro k ⟨hk, hall⟩
 refine Va J J ?_
 refine S_condp J (fun h => ?_) (fun h => ?_) <;> refine Va J J ?_
 ·have hkl : k < L.length := by omega
  obtain ⟨ad, cs, rfl, hcs, rfl, hu⟩ := Sr_at hv hkl
  refine S_index Tk J J J J J J (by omega) (by omega) ?_;refine Va J J ?_;refine S_load Tk J J J J J (by simpa using hcs.1) ?_;refine Va J J ?_;refine S_callV (vs := [.int .i64 L[k]]) J hcf (hp k hkl hu) J J J ?_;rintro v1 G1 ⟨rfl, rfl⟩ _
  refine Va J J ?_
  refine S_cond J (fun h => ?_) (fun h => ?_) <;> refine Va J J ?_
  ·refine S_retP Tryz.results71 J J XR ⟨⟨_, J, ?_⟩, J⟩
   rw [any_at hkl h]; simp
  ·refine S_add J J J J (by omega) ?_
   refine Va J J ?_;refine S_again (k + 1) ⟨by omega, fun j hj hjk => ?_⟩ (by omega) J ⟨⟨_, J, J⟩, ⟨_, J, J⟩, ⟨_, J, J⟩, ⟨_, J, J⟩, trivial⟩ .nil
   rcases Nat.lt_or_ge j k with h' | h'
   ·exact hall j hj h'
   ·obtain rfl : j = k := by omega
    exact h
 ·refine S_retP Tryz.results71 J J XR ⟨⟨_, J, ?_⟩, J⟩
  rw [any_not fun j hj => hall j hj (by omega)]; simp
theorem c_ContainsInt (L : List Int) (p : Int → Bool) (fid : Nat) (cap : Array Value) (v : Value) (G : PH) (hv : Ints G L v) (hcf : ∀ args w, (callFunc fid args).run Tryz.prog w = .ok (.enter fid args) w)
  (hp : ∀ k (hk : k < L.length), I64 L[k] → Pure Tryz.prog fid (.int .i64 L[k] :: cap.toList) G fun v G' => v = .bool (p L[k]) ∧ G' = G) :
  Pure Tryz.prog 39 [v, .func (.func fid) #[] cap] G fun v G' => v = .bool (L.any p) ∧ G' = G := by
 obtain ⟨A, c, rfl, hn, hc1, hc2, hr⟩ := id hv
 refine Pure.intro Tryz.func39 Tryz.ntmps39 J J fun w => ?_; refine Va J J ?_;refine S_call Tryz.call71 (c_IndexInt L p fid cap _ _ hv hcf hp) J J J ?_;rintro v1 G1 ⟨⟨r, rfl, hrr⟩, rfl⟩ _
 refine Va J J ?_;refine S_retP Tryz.results39 J J XR ⟨?_, J⟩
 congr 1
 exact (Bool.eq_iff_iff.2 (by rw [← hrr]; simp))
end
section
attribute [local irreducible] X Pure Mod
def thing (k a b : Int) : Option Nat := if k = 3 then some b.toNat else if k = 4 then some a.toNat else if k = 9 ∨ k = 10 then some (3 + a.toNat) else none
def okOne (o : List Int) (k a b room : Int) : Bool := match thing k a b with
 | some t => decide (o[t]?.getD 0 = room)
 | none => true
def okP (o : List Int) (x : Stm × Int) : Bool := okOne o x.1.kind x.1.a x.1.b x.2
mutual
def ownsS (o : List Int) : Stm → Int → Bool
 | .mk k a b n x y, room => okOne o k a b room && (ownsL o x (if k = 8 then a else room) && ownsL o y (if k = 8 then a else room))
def ownsL (o : List Int) : List Stm → Int → Bool
 | [], _ => true
 | s :: r, room => ownsS o s room && ownsL o r room
end
theorem ownsL_all (o : List Int) (L : List Stm) (room : Int) : ownsL o L room = L.all (ownsS o · room) := by
 induction L with
 | nil => rfl
 | cons s L ih => simp [ownsL, ih]
mutual
theorem owns_flatS (o : List Int) : ∀ (s : Stm) (room : Int), ownsS o s room = (okP o (s, room) && (flatS s room).all (okP o))
 | .mk k a b n x y, room => by
  simp only [ownsS, flatS, List.all_append]
  rw [owns_flatL o x, owns_flatL o y]
  rfl
theorem owns_flatL (o : List Int) : ∀ (L : List Stm) (room : Int), ownsL o L room = (flatL L room).all (okP o)
 | [], room => rfl
 | s :: r, room => by
  simp only [ownsL, flatL, List.all_cons, List.all_append]
  rw [owns_flatS o s, owns_flatL o r, Bool.and_assoc]
end
theorem ints_at {G : PH} {o : List Int} {A : Option Addr} {n c t : Nat} (h : Ints G o (.slice A n c)) (ht : t < o.length) : ∃ ad, A = some ad ∧ gcell G (ad.add (t * 1)) = some (.int .i64 (o[t]?.getD 0)) := by
 obtain ⟨ad, cs, rfl, hcs, rfl, hi⟩ := Sr_at h ht
 exact ⟨ad, J, by rw [List.getElem?_eq_getElem ht]; exact hcs.1⟩
theorem stmt_in {k a b n : Int} {x y : List Stm} {d r : Int} (h : stmtOk (.mk k a b n x y) d r = true) : listOk x (d - 1) (if k = 8 then a else r) = true ∧ listOk y (d - 1) (if k = 8 then a else r) = true ∧ 1 ≤ d := by
 simp only [stmtOk] at h
 split at h
 ·cases h
 rename_i h0
 simp only [Bool.or_eq_true, Bool.and_eq_true, decide_eq_true_eq, not_or, not_and] at h0
 have hy : k ≠ 6 → y = [] := fun hk => List.eq_nil_of_length_eq_zero (by have := h0.1 hk; omega)
 refine ⟨?_, ?_, by omega⟩
 ·split at h
  ·rename_i h67
   simp only [Bool.and_eq_true] at h
   rw [if_neg (by omega)]; exact h.1.2
  split at h
  ·rename_i h8
   simp only [Bool.and_eq_true] at h
   rw [if_pos h8]; exact h.2
  ·rename_i h8
   simp only [Bool.and_eq_true, decide_eq_true_eq] at h
   rw [List.eq_nil_of_length_eq_zero h.1]; rfl
 ·split at h
  ·rename_i h67
   simp only [Bool.and_eq_true] at h
   rw [if_neg (by omega)]; exact h.2
  split at h
  ·rw [hy (by omega)]; rfl
  ·rename_i h67 _
   rw [hy (by omega)]; rfl
theorem room_in {k a b n : Int} {x y : List Stm} {d r : Int} (h : stmtOk (.mk k a b n x y) d r = true) (hr : r = -1 ∨ is2 r) : (if k = 8 then a else r) = -1 ∨ is2 (if k = 8 then a else r) := by
 split
 ·rename_i h8
  subst h8
  right
  simp only [stmtOk] at h
  split at h
  ·cases h
  ·simp at h
   unfold is2; omega
 ·exact hr
def Ow (L : List Stm) : Prop := ∀ (d : Nat) (room : Int) (o : List Int) (v ov : Value) (G : PH), Sts G L v → Ints G o ov → o.length = 5 → listOk L (d : Nat) room = true → (room = -1 ∨ is2 room) → mx L ≤ 1000 → d ≤ 1000 →
 Pure Tryz.prog 43 [v, ov, .int .i64 room, .int .i64 (d : Nat)] G fun v' G' => v' = .bool (ownsL o L room) ∧ G' = G
theorem c_l6Owns (L : List Stm) (hb : ∀ k (hk : k < L.length), Ow L[k].body ∧ Ow L[k].els) : Ow L := by
 intro d room o v ov G hst ho hol hok hroom hmx hd
 obtain ⟨A, c, rfl, hl1, _⟩ := id hst
 obtain ⟨Ao, co, rfl, _⟩ := id ho
 refine Pure.intro Tryz.func43 Tryz.ntmps43 J J fun w => ?_; refine Va J J ?_;refine S_loop (α := Nat) (fun i => i ≤ L.length ∧ (L.take i).all (ownsS o · room) = true) (fun i => L.length - i) []
  (fun i => [(9, .val (.int .i64 (i : Nat))), (0, .val (.slice A L.length c)), (1, .val (.slice Ao o.length co)), (2, .val (.int .i64 room)), (3, .val (.int .i64 (d : Nat)))]) (fun _ => []) (fun _ => G) 0 ⟨Nat.zero_le _, by simp⟩ rfl ⟨⟨_, rfl, rfl⟩, ⟨_, rfl, rfl⟩, ⟨_, rfl, rfl⟩, ⟨_, rfl, rfl⟩, ⟨_, rfl, rfl⟩, trivial⟩ .nil ?_
 rintro i ⟨hi, hall⟩
 refine Va J J ?_
 by_cases hkl : i < L.length
 ·have hso : stmtOk L[i] (d : Nat) room = true := by rw [listOk_all, List.all_eq_true] at hok; exact hok _ (List.getElem_mem hkl)
  have hmi : mxS L[i] ≤ 1000 := by
   have : ∀ (M : List Stm) (s : Stm), s ∈ M → mxS s ≤ mx M := by
    intro M
    induction M with
    | nil => intro s hs; cases hs
    | cons t M ih =>
     intro s hs
     simp only [mx]
     rcases List.mem_cons.1 hs with rfl | hs
     ·omega
     ·have := ih s hs; omega
   exact Nat.le_trans (this L _ (List.getElem_mem hkl)) hmx
  have hsk := sok_of hso hmi hroom
  have hbad : ownsS o L[i] room = false → ownsL o L room = false := fun hy => by rw [ownsL_all, List.all_eq_false]; exact ⟨_, List.getElem_mem hkl, by simp [hy]⟩
  have hgo : ownsS o L[i] room = true → (L.take (i + 1)).all (ownsS o · room) = true := fun hy => by rw [List.take_succ_eq_append_getElem hkl, List.all_append]; simp [hall, hy]
  obtain ⟨ad, cs, e1, hcs, hrep⟩ := Sr_at hst hkl
  subst e1
  obtain ⟨hbx, hby⟩ := hb i hkl
  generalize L[i] = s at hrep hbx hby hbad hgo hso hmi hsk
  obtain ⟨q1, q2, q3, q4, q5, q6⟩ := s
  obtain ⟨hix, hiy, hd1⟩ := stmt_in hso
  have hri := room_in hso hroom
  obtain ⟨e, rfl⟩ : ∃ e, d = e + 1 := ⟨d - 1, by omega⟩
  rw [show (((e + 1 : Nat) : Int) - 1) = ((e : Nat) : Int) by omega] at hix hiy
  obtain ⟨vx, vy, rfl, i1, i2, i3, i4, hx, hy⟩ := Stm.rep_iff.1 hrep
  simp only [Stm.body, Stm.els] at hbx hby
  have hmm := mxS_eq (.mk q1 q2 q3 q4 q5 q6)
  simp only [Stm.body, Stm.els] at hmm
  have hcx := hbx e _ o _ _ _ hx ho hol hix hri (by omega) (by omega)
  have hcy := hby e _ o _ _ _ hy ho hol hiy hri (by omega) (by omega)
  obtain ⟨Ax, cx, rfl, hx1, _⟩ := id hx
  obtain ⟨Ay, cy, rfl, hy1, _⟩ := id hy
  have r2 := hsk.r2
  have r8 := hsk.r8
  have r9 := hsk.r9
  have r10 := hsk.r10
  simp only [Stm.kind, Stm.a, Stm.b, is2, is3] at r2 r8 r9 r10
  refine RT J (by simp; omega) ?_;refine Va J J ?_;refine S_index Tk J J J J J J (by omega) (by omega) ?_;refine Va J J ?_;refine S_loadA Tk J J J J J (by simpa using hcs) ?_;refine Va J J ?_;refine AZ ZT_ok J J J J fun b7 => ?_;refine Va J J ?_
  refine S_condp J (fun h8 => ?_) (fun h8 => ?_) <;> refine Va J J ?_
  ·rw [if_pos h8] at hcx hcy
   refine GF J J J ?_;refine Va J J ?_;refine S_subI J J J J (by omega) ?_;refine Va J J ?_
   rw [show (((e + 1 : Nat) : Int) - 1) = ((e : Nat) : Int) by omega]
   refine S_call Tryz.call43 hcx J J J ?_;rintro v3 G3 ⟨rfl, rfl⟩ _
   refine Va J J ?_
   refine S_guard J J (fun hA => ?_) (fun hA => ?_) <;> refine Va J J ?_
   ·exact S_retp (Res.t1 Tryz.results43 J J) XR ⟨by rw [hbad (by simp_all [ownsS, okOne, thing])], J⟩
   refine S_subI J J J J (by omega) ?_;refine Va J J ?_
   rw [show (((e + 1 : Nat) : Int) - 1) = ((e : Nat) : Int) by omega]
   refine S_call Tryz.call43 hcy J J J ?_;rintro v4 G4 ⟨rfl, rfl⟩ _
   refine Va J J ?_
   refine S_cond J (fun hB => ?_) (fun hB => ?_) <;> refine Va J J ?_
   ·exact S_retp (Res.t1 Tryz.results43 J J) XR ⟨by rw [hbad (by simp_all [ownsS, okOne, thing])], J⟩
   refine S_add J J J J (by omega) ?_;refine Va J J ?_;exact S_again (i + 1) ⟨by omega, hgo (by simp_all [ownsS, okOne, thing])⟩ (by omega) J ⟨⟨_, J, by simp [denO]⟩, ⟨_, J, J⟩, ⟨_, J, J⟩, ⟨_, J, J⟩, ⟨_, J, J⟩, trivial⟩ (by first | exact .nil | exact .drop .nil)
  rw [if_neg h8] at hcx hcy
  refine S_condp J (fun h3 => ?_) (fun h3 => ?_) <;> refine Va J J ?_
  ·have := r2 (by omega)
   obtain ⟨ado, eo, hco⟩ := ints_at ho (t := q3.toNat) (by omega)
   subst eo
   refine GT J J (by simp; omega) ?_;refine Va J J ?_;refine S_index Tk J J J J J J (by omega) (by omega) ?_;refine Va J J ?_;refine S_load Tk J J J J J (by first | simpa using hco | simpa [hT] using hco) ?_;refine Va J J ?_
   refine S_condp J (fun ht => ?_) (fun ht => ?_) <;> refine Va J J ?_
   ·exact S_retp (Res.t1 Tryz.results43 J J) XR ⟨by rw [hbad (by simp_all [ownsS, okOne, thing])], J⟩
   refine S_subI J J J J (by omega) ?_;refine Va J J ?_
   rw [show (((e + 1 : Nat) : Int) - 1) = ((e : Nat) : Int) by omega]
   refine S_call Tryz.call43 hcx J J J ?_;rintro v3 G3 ⟨rfl, rfl⟩ _
   refine Va J J ?_
   refine S_guard J J (fun hA => ?_) (fun hA => ?_) <;> refine Va J J ?_
   ·exact S_retp (Res.t1 Tryz.results43 J J) XR ⟨by rw [hbad (by simp_all [ownsS, okOne, thing])], J⟩
   refine S_subI J J J J (by omega) ?_;refine Va J J ?_
   rw [show (((e + 1 : Nat) : Int) - 1) = ((e : Nat) : Int) by omega]
   refine S_call Tryz.call43 hcy J J J ?_;rintro v4 G4 ⟨rfl, rfl⟩ _
   refine Va J J ?_
   refine S_cond J (fun hB => ?_) (fun hB => ?_) <;> refine Va J J ?_
   ·exact S_retp (Res.t1 Tryz.results43 J J) XR ⟨by rw [hbad (by simp_all [ownsS, okOne, thing])], J⟩
   refine S_add J J J J (by omega) ?_;refine Va J J ?_;exact S_again (i + 1) ⟨by omega, hgo (by simp_all [ownsS, okOne, thing])⟩ (by omega) J ⟨⟨_, J, by simp [denO]⟩, ⟨_, J, J⟩, ⟨_, J, J⟩, ⟨_, J, J⟩, ⟨_, J, J⟩, trivial⟩ (by first | exact .nil | exact .drop .nil)
  refine S_condp J (fun h4 => ?_) (fun h4 => ?_) <;> refine Va J J ?_
  ·have := r2 (by omega)
   obtain ⟨ado, eo, hco⟩ := ints_at ho (t := q2.toNat) (by omega)
   subst eo
   refine GT J J (by simp; omega) ?_;refine Va J J ?_;refine S_index Tk J J J J J J (by omega) (by omega) ?_;refine Va J J ?_;refine S_load Tk J J J J J (by first | simpa using hco | simpa [hT] using hco) ?_;refine Va J J ?_
   refine S_condp J (fun ht => ?_) (fun ht => ?_) <;> refine Va J J ?_
   ·exact S_retp (Res.t1 Tryz.results43 J J) XR ⟨by rw [hbad (by simp_all [ownsS, okOne, thing])], J⟩
   refine S_subI J J J J (by omega) ?_;refine Va J J ?_
   rw [show (((e + 1 : Nat) : Int) - 1) = ((e : Nat) : Int) by omega]
   refine S_call Tryz.call43 hcx J J J ?_;rintro v3 G3 ⟨rfl, rfl⟩ _
   refine Va J J ?_
   refine S_guard J J (fun hA => ?_) (fun hA => ?_) <;> refine Va J J ?_
   ·exact S_retp (Res.t1 Tryz.results43 J J) XR ⟨by rw [hbad (by simp_all [ownsS, okOne, thing])], J⟩
   refine S_subI J J J J (by omega) ?_;refine Va J J ?_
   rw [show (((e + 1 : Nat) : Int) - 1) = ((e : Nat) : Int) by omega]
   refine S_call Tryz.call43 hcy J J J ?_;rintro v4 G4 ⟨rfl, rfl⟩ _
   refine Va J J ?_
   refine S_cond J (fun hB => ?_) (fun hB => ?_) <;> refine Va J J ?_
   ·exact S_retp (Res.t1 Tryz.results43 J J) XR ⟨by rw [hbad (by simp_all [ownsS, okOne, thing])], J⟩
   refine S_add J J J J (by omega) ?_;refine Va J J ?_;exact S_again (i + 1) ⟨by omega, hgo (by simp_all [ownsS, okOne, thing])⟩ (by omega) J ⟨⟨_, J, by simp [denO]⟩, ⟨_, J, J⟩, ⟨_, J, J⟩, ⟨_, J, J⟩, ⟨_, J, J⟩, trivial⟩ (by first | exact .nil | exact .drop .nil)
  refine S_condp J (fun h9 => ?_) (fun h9 => ?_) <;> refine Va J J ?_
  ·have := r9 (by omega)
   refine RT J (by simp; omega) ?_;refine Va J J ?_;refine S_add J J J J (by omega) ?_;refine Va J J ?_
   have hT : (3 + q2).toNat = 3 + q2.toNat := by omega
   obtain ⟨ado, eo, hco⟩ := ints_at ho (t := (3 + q2.toNat)) (by omega)
   subst eo
   refine GT J J (by simp; omega) ?_;refine Va J J ?_;refine S_index Tk J J J J J J (by omega) (by omega) ?_;refine Va J J ?_;refine S_load Tk J J J J J (by first | simpa using hco | simpa [hT] using hco) ?_;refine Va J J ?_
   refine S_condp J (fun ht => ?_) (fun ht => ?_) <;> refine Va J J ?_
   ·exact S_retp (Res.t1 Tryz.results43 J J) XR ⟨by rw [hbad (by simp_all [ownsS, okOne, thing])], J⟩
   refine S_subI J J J J (by omega) ?_;refine Va J J ?_
   rw [show (((e + 1 : Nat) : Int) - 1) = ((e : Nat) : Int) by omega]
   refine S_call Tryz.call43 hcx J J J ?_;rintro v3 G3 ⟨rfl, rfl⟩ _
   refine Va J J ?_
   refine S_guard J J (fun hA => ?_) (fun hA => ?_) <;> refine Va J J ?_
   ·exact S_retp (Res.t1 Tryz.results43 J J) XR ⟨by rw [hbad (by simp_all [ownsS, okOne, thing])], J⟩
   refine S_subI J J J J (by omega) ?_;refine Va J J ?_
   rw [show (((e + 1 : Nat) : Int) - 1) = ((e : Nat) : Int) by omega]
   refine S_call Tryz.call43 hcy J J J ?_;rintro v4 G4 ⟨rfl, rfl⟩ _
   refine Va J J ?_
   refine S_cond J (fun hB => ?_) (fun hB => ?_) <;> refine Va J J ?_
   ·exact S_retp (Res.t1 Tryz.results43 J J) XR ⟨by rw [hbad (by simp_all [ownsS, okOne, thing])], J⟩
   refine S_add J J J J (by omega) ?_;refine Va J J ?_;exact S_again (i + 1) ⟨by omega, hgo (by simp_all [ownsS, okOne, thing])⟩ (by omega) J ⟨⟨_, J, by simp [denO]⟩, ⟨_, J, J⟩, ⟨_, J, J⟩, ⟨_, J, J⟩, ⟨_, J, J⟩, trivial⟩ (by first | exact .nil | exact .drop .nil)
  refine S_condp J (fun h10 => ?_) (fun h10 => ?_) <;> refine Va J J ?_
  ·have := r10 (by omega)
   refine S_add J J J J (by omega) ?_;refine Va J J ?_
   have hT : (3 + q2).toNat = 3 + q2.toNat := by omega
   obtain ⟨ado, eo, hco⟩ := ints_at ho (t := (3 + q2.toNat)) (by omega)
   subst eo
   refine GT J J (by simp; omega) ?_;refine Va J J ?_;refine S_index Tk J J J J J J (by omega) (by omega) ?_;refine Va J J ?_;refine S_load Tk J J J J J (by first | simpa using hco | simpa [hT] using hco) ?_;refine Va J J ?_
   refine S_condp J (fun ht => ?_) (fun ht => ?_) <;> refine Va J J ?_
   ·exact S_retp (Res.t1 Tryz.results43 J J) XR ⟨by rw [hbad (by simp_all [ownsS, okOne, thing])], J⟩
   refine S_subI J J J J (by omega) ?_;refine Va J J ?_
   rw [show (((e + 1 : Nat) : Int) - 1) = ((e : Nat) : Int) by omega]
   refine S_call Tryz.call43 hcx J J J ?_;rintro v3 G3 ⟨rfl, rfl⟩ _
   refine Va J J ?_
   refine S_guard J J (fun hA => ?_) (fun hA => ?_) <;> refine Va J J ?_
   ·exact S_retp (Res.t1 Tryz.results43 J J) XR ⟨by rw [hbad (by simp_all [ownsS, okOne, thing])], J⟩
   refine S_subI J J J J (by omega) ?_;refine Va J J ?_
   rw [show (((e + 1 : Nat) : Int) - 1) = ((e : Nat) : Int) by omega]
   refine S_call Tryz.call43 hcy J J J ?_;rintro v4 G4 ⟨rfl, rfl⟩ _
   refine Va J J ?_
   refine S_cond J (fun hB => ?_) (fun hB => ?_) <;> refine Va J J ?_
   ·exact S_retp (Res.t1 Tryz.results43 J J) XR ⟨by rw [hbad (by simp_all [ownsS, okOne, thing])], J⟩
   refine S_add J J J J (by omega) ?_;refine Va J J ?_;exact S_again (i + 1) ⟨by omega, hgo (by simp_all [ownsS, okOne, thing])⟩ (by omega) J ⟨⟨_, J, by simp [denO]⟩, ⟨_, J, J⟩, ⟨_, J, J⟩, ⟨_, J, J⟩, ⟨_, J, J⟩, trivial⟩ (by first | exact .nil | exact .drop .nil)
  refine GF J J J ?_;refine Va J J ?_;refine S_subI J J J J (by omega) ?_;refine Va J J ?_
  rw [show (((e + 1 : Nat) : Int) - 1) = ((e : Nat) : Int) by omega]
  refine S_call Tryz.call43 hcx J J J ?_;rintro v3 G3 ⟨rfl, rfl⟩ _
  refine Va J J ?_
  refine S_guard J J (fun hA => ?_) (fun hA => ?_) <;> refine Va J J ?_
  ·exact S_retp (Res.t1 Tryz.results43 J J) XR ⟨by rw [hbad (by simp_all [ownsS, okOne, thing])], J⟩
  refine S_subI J J J J (by omega) ?_;refine Va J J ?_
  rw [show (((e + 1 : Nat) : Int) - 1) = ((e : Nat) : Int) by omega]
  refine S_call Tryz.call43 hcy J J J ?_;rintro v4 G4 ⟨rfl, rfl⟩ _
  refine Va J J ?_
  refine S_cond J (fun hB => ?_) (fun hB => ?_) <;> refine Va J J ?_
  ·exact S_retp (Res.t1 Tryz.results43 J J) XR ⟨by rw [hbad (by simp_all [ownsS, okOne, thing])], J⟩
  refine S_add J J J J (by omega) ?_;refine Va J J ?_;exact S_again (i + 1) ⟨by omega, hgo (by simp_all [ownsS, okOne, thing])⟩ (by omega) J ⟨⟨_, J, by simp [denO]⟩, ⟨_, J, J⟩, ⟨_, J, J⟩, ⟨_, J, J⟩, ⟨_, J, J⟩, trivial⟩ (by first | exact .nil | exact .drop .nil)
 ·refine RF J (by simp; omega) ?_
  refine Va J J ?_
  have e : i = L.length := by omega
  subst e
  rw [List.take_length] at hall
  exact S_retp (Res.t1 Tryz.results43 J J) XR ⟨by rw [ownsL_all, hall], J⟩
mutual
theorem Ow_stm : ∀ s : Stm, Ow s.body ∧ Ow s.els
 | .mk k a b n x y => ⟨c_l6Owns x (Ow_at x), c_l6Owns y (Ow_at y)⟩
theorem Ow_at : ∀ (L : List Stm) (k : Nat) (hk : k < L.length), Ow L[k].body ∧ Ow L[k].els
 | [], _, hk => absurd hk (Nat.not_lt_zero _)
 | s :: r, 0, _ => Ow_stm s
 | s :: r, k + 1, hk => Ow_at r k (Nat.lt_of_succ_lt_succ hk)
end
theorem Ow_all (L : List Stm) : Ow L := c_l6Owns L (Ow_at L)
end
section
theorem leaveC {P : Program} {fn : Func} {tmps : Array Value} {R : Ending → World → Prop} {w0 : World} {v : Value} {H : PH} (hres : ∀ w, Emb H w → (results fn tmps).run P w = .ok v w) (hR : ∀ w, Below w0.heap.size w0 w → Emb H w → R (.returned v) w) :
  ∀ (Ds : List Nat) (w : World), Ds.Nodup → (∀ D ∈ Ds, w0.heap.size ≤ D ∧ H D = none ∧ w.heap[D]? = some (.deferred (some []))) → Below w0.heap.size w0 w → Emb H w → LeavesInM (FW none) 0 P fn tmps R (Ds.map fun D => { target := .collected D, args := #[] }) .returning w := by
 intro Ds
 induction Ds with
 | nil => intro w _ _ hb hE; exact ⟨v, hres w hE, hR w hb hE⟩
 | cons D Ds ih =>
  intro w hn hD hb hE
  obtain ⟨h1, h0, h2⟩ := hD D (List.mem_cons_self ..)
  refine ⟨by simp, .inl ⟨_, _, J, run_takeDeferred h2, ih _ (List.nodup_cons.1 hn).2 ?_ ?_ ?_⟩⟩
  ·intro D' hD'
   obtain ⟨h3, h3', h4⟩ := hD D' (List.mem_cons_of_mem _ hD')
   refine ⟨h3, h3', ?_⟩
   rw [World.putObj_heap_other (by rintro rfl; exact (List.nodup_cons.1 hn).1 hD')]
   exact h4
  ·refine ⟨hb.os, hb.tape, hb.output, ?_, fun b hb' => ?_⟩
   ·have := hb.size; simp; omega
   ·rw [World.putObj_heap_other (by omega)]
    exact hb.block b hb'
  ·intro b o hbo
   rw [World.putObj_heap_other (by rintro rfl; rw [h0] at hbo; cases hbo)]
   exact hE b o hbo
section
variable {P : Program} {fn : Func} {n : Nat} {G0 G : PH} {Post : Value → Prop} {w0 : World} {k : List It} {E : Env} {ι : Ids} {L : List Ent}
theorem S_retC {T : Tab} (hT : tabOk P T) {t ty : Nat} {i : TyI} {s : Sym} {v : Value} {ad : Addr} (hw0 : Emb G0 w0) (hr : fn.results = #[.cell t ty]) (hl : look t E = some s) (hv : denO ι s = some (.pointer (some ad))) (ht : lookT ty T = some i) (hk0 : i.k.isAgg = false) (hc : gcell G ad = some v) (hp : Post v) : X (KC P n fn G0 Post w0) (.code .ret :: k) E ι L G := by
 intro a w h1 h2 h3 h4
 refine wpE_ret (wpE_out k ?_)
 obtain ⟨Ds, d1, d2, d3⟩ := h1
 show LeavesInM _ _ _ _ _ _ a.defers .returning w
 rw [d2]
 have hsub : ∀ b o, cellsOf w0.heap.size G b = some o → G b = some o := by
  intro b o hbo
  unfold cellsOf at hbo
  split at hbo
  ·exact hbo
  ·split at hbo
   ·rename_i h; rw [h]; exact hbo
   ·cases hbo
 have hcut : ∀ D, w0.heap.size ≤ D → G D = some (.deferred (some [])) → cellsOf w0.heap.size G D = none := by
  intro D h5 h6
  unfold cellsOf
  rw [if_neg (by omega), h6]
 refine leaveC (w0 := w0) (v := v) (H := cellsOf w0.heap.size G) (fun w' hE' => ?_) (fun w' hb hE => ?_) Ds w d1 (fun D hD => ⟨(d3 D hD).1, hcut D (d3 D hD).1 (d3 D hD).2, h4.emb _ _ (d3 D hD).2⟩) (h4.below fun _ h => h) (fun b o hbo => h4.emb b o (hsub b o hbo))
 ·obtain ⟨u, hu, htt⟩ := h3 t s hl
  rw [hv] at hu; cases hu
  have e0 : a.tmps[t]?.getD undef = .pointer (some ad) := by rw [htt]; rfl
  have e1 : (loadVar ty ad).run P w' = .ok v w' := by
   simp [loadVar, tyOk_agg (hT _ _ ht), hk0, gcell_emb hE' ((cellsOf_gcell _ _ _).trans hc)]
  simp [results, hr, asAddr, e0, e1]
 ·refine ⟨v, G0, rfl, ⟨hp, rfl⟩, PH.ext.refl _ _, fun b o hbo => ?_, hb⟩
  have hlt : b < w0.heap.size := (Array.getElem?_eq_some_iff.1 (hw0 b o hbo)).1
  rw [hb.block b hlt]
  exact hw0 b o hbo
end
end
section
attribute [local irreducible] X Pure Mod
def badO (n : Int) : Bool := decide (n < 0) || decide (n ≥ 2)
def wholeOk (p : List (List Stm)) (o : List Int) : Bool := progOk p && decide (o.length = 5) && !o.any badO && p.all fun L => ownsL o L (-1)
mutual
theorem flat_sokS : ∀ (s : Stm) (d : Nat) (room : Int), stmtOk s (d : Nat) room = true → mxS s ≤ 1000 → (room = -1 ∨ is2 room) → ∀ x ∈ flatS s room, SOk x.1 x.2
 | .mk k a b n x y, d, room, h, hm, hr => by
  obtain ⟨h1, h2, h3⟩ := stmt_in h
  have hrr := room_in h hr
  rw [mxS_eq] at hm
  simp only [Stm.body, Stm.els] at hm
  obtain ⟨e, rfl⟩ : ∃ e, d = e + 1 := ⟨d - 1, by omega⟩
  rw [show (((e + 1 : Nat) : Int) - 1) = ((e : Nat) : Int) by omega] at h1 h2
  intro z hz
  simp only [flatS, List.mem_append] at hz
  rcases hz with hz | hz
  ·exact flat_sokL x e _ h1 (by omega) hrr z hz
  ·exact flat_sokL y e _ h2 (by omega) hrr z hz
theorem flat_sokL : ∀ (L : List Stm) (d : Nat) (room : Int), listOk L (d : Nat) room = true → mx L ≤ 1000 → (room = -1 ∨ is2 room) → ∀ x ∈ flatL L room, SOk x.1 x.2
 | [], _, _, _, _, _ => by intro x hx; simp [flatL] at hx
 | s :: r, d, room, h, hm, hr => by
  simp only [listOk, Bool.and_eq_true] at h
  simp only [mx] at hm
  intro z hz
  simp only [flatL, List.mem_cons, List.mem_append] at hz
  rcases hz with rfl | hz | hz
  ·exact sok_of h.1 (show mxS s ≤ 1000 by omega) hr
  ·exact flat_sokS s d room h.1 (by omega) hr z hz
  ·exact flat_sokL r d room h.2 (by omega) hr z hz
end
theorem c_owned (s : Stm) (room : Int) (cs : List Value) (o : List Int) (ov : Value) (G : PH) (hs : Stm.rep G s cs) (hok : SOk s room) (ho : Ints G o ov) (hol : o.length = 5) : Pure Tryz.prog 42 [.agg (cs ++ [Value.int .i64 room]).toArray, ov] G fun v G' => v = .bool (okP o (s, room)) ∧ G' = G := by
 obtain ⟨Ao, co, rfl, _⟩ := id ho
 obtain ⟨q1, q2, q3, q4, q5, q6⟩ := s
 obtain ⟨vx, vy, rfl, i1, i2, i3, i4, hx, hy⟩ := Stm.rep_iff.1 hs
 have r2 := hok.r2
 have r9 := hok.r9
 have r10 := hok.r10
 simp only [Stm.kind, Stm.a, Stm.b, is2, is3] at r2 r9 r10
 refine Pure.intro Tryz.func42 Tryz.ntmps42 J J fun w => ?_; refine Va J J ?_;refine S_box J J J J J fun b2 => ?_;refine Va J J ?_
 refine S_condp J (fun h3 => ?_) (fun h3 => ?_) <;> refine Va J J ?_
 ·have := r2 (by omega)
  obtain ⟨ado, eo, hco⟩ := ints_at ho (t := q3.toNat) (by omega)
  subst eo
  refine Ds J J J ?_;refine Da J J ?_;refine D_val 6 J J J J J J J J J (V_index Tk J J J J (by omega) (by omega)) ?_;refine Da J J ?_;refine D_val 7 J J J J J J J J J (V_load Tk J J J (by first | simpa using hco | simpa [hT] using hco)) ?_;refine Da J J ?_;refine DD ?_;refine Va J J ?_;exact S_retp (Res.t1 Tryz.results42 J J) XR ⟨by simp [okP, okOne, thing, Stm.kind, Stm.a, Stm.b, *, eq_comm], J⟩
 refine S_condp J (fun h4 => ?_) (fun h4 => ?_) <;> refine Va J J ?_
 ·have := r2 (by omega)
  obtain ⟨ado, eo, hco⟩ := ints_at ho (t := q2.toNat) (by omega)
  subst eo
  refine Ds J J J ?_;refine Da J J ?_;refine D_val 6 J J J J J J J J J (V_index Tk J J J J (by omega) (by omega)) ?_;refine Da J J ?_;refine D_val 7 J J J J J J J J J (V_load Tk J J J (by first | simpa using hco | simpa [hT] using hco)) ?_;refine Da J J ?_;refine DD ?_;refine Va J J ?_;exact S_retp (Res.t1 Tryz.results42 J J) XR ⟨by simp [okP, okOne, thing, Stm.kind, Stm.a, Stm.b, *, eq_comm], J⟩
 refine S_condp J (fun h9 => ?_) (fun h9 => ?_) <;> refine Va J J ?_
 ·have := r9 (by omega)
  have hT : (3 + q2).toNat = 3 + q2.toNat := by omega
  refine RT J (by simp; omega) ?_;refine Va J J ?_;refine Ds J J J ?_;refine Da J J ?_;refine D_val 6 J J J J J J J J J (V_add J J (by omega)) ?_;refine Da J J ?_;obtain ⟨ado, eo, hco⟩ := ints_at ho (t := 3 + q2.toNat) (by omega)
  subst eo
  refine D_val 7 J J J J J J J J J (V_index Tk J J J J (by omega) (by omega)) ?_;refine Da J J ?_;refine D_val 8 J J J J J J J J J (V_load Tk J J J (by simpa [hT] using hco)) ?_;refine Da J J ?_;refine DD ?_;refine Va J J ?_;exact S_retp (Res.t1 Tryz.results42 J J) XR ⟨by simp [okP, okOne, thing, Stm.kind, Stm.a, Stm.b, *, eq_comm], J⟩
 refine S_condp J (fun h10 => ?_) (fun h10 => ?_) <;> refine Va J J ?_
 ·have := r10 (by omega)
  have hT : (3 + q2).toNat = 3 + q2.toNat := by omega
  refine Ds J J J ?_;refine Da J J ?_;refine D_val 6 J J J J J J J J J (V_add J J (by omega)) ?_;refine Da J J ?_;obtain ⟨ado, eo, hco⟩ := ints_at ho (t := 3 + q2.toNat) (by omega)
  subst eo
  refine D_val 7 J J J J J J J J J (V_index Tk J J J J (by omega) (by omega)) ?_;refine Da J J ?_;refine D_val 8 J J J J J J J J J (V_load Tk J J J (by simpa [hT] using hco)) ?_;refine Da J J ?_;refine DD ?_;refine Va J J ?_;exact S_retp (Res.t1 Tryz.results42 J J) XR ⟨by simp [okP, okOne, thing, Stm.kind, Stm.a, Stm.b, *, eq_comm], J⟩
 exact S_retp (Res.t1 Tryz.results42 J J) XR ⟨by simp [okP, okOne, thing, Stm.kind, Stm.a, Stm.b, *], J⟩
theorem c_badO (n : Int) (G : PH) : Pure Tryz.prog 40 [.int .i64 n] G fun v G' => v = .bool (badO n) ∧ G' = G := by
 refine Pure.intro Tryz.func40 Tryz.ntmps40 J J fun w => ?_; refine Va J J ?_;exact S_retp (Res.t1 Tryz.results40 J J) XR ⟨J, J⟩
theorem c_iWholeOk (p : List (List Stm)) (o : List Int) (pv ov : Value) (G : PH) (hp : PrgS G p pv) (ho : Ints G o ov) : Pure Tryz.prog 19 [pv, ov] G fun v G' => v = .bool (wholeOk p o) ∧ G' = G := by
 obtain ⟨hpp, hsh, hpl⟩ := id hp
 obtain ⟨Ap, cp, rfl, hl1, _⟩ := id hpp
 obtain ⟨Ao, co, rfl, _⟩ := id ho
 refine Pure.introM Tryz.func19 Tryz.ntmps19 J J fun w hw => ?_;refine Va J J ?_;refine S_box J J J J J fun b3 => ?_;refine Va J J ?_;refine AZ ZT_ok J J J J fun b4 => ?_;refine Va J J ?_;refine S_call Tryz.call38 (c_iProgOk p _ _ hp) J J J ?_;rintro v1 G1 ⟨rfl, rfl⟩ _
 refine Va J J ?_
 by_cases h5 : progOk p = true ∧ o.length = 5
 rotate_left
 ·refine GT J J (by simp; by_cases hpo : progOk p = true <;> simp_all; omega) ?_
  refine Va J J ?_;refine S_freezeB 4 J J J J (fun _ h => h) fun hext => ?_;refine S_retC (v := .bool false) Tk hw Tryz.results19 J J J J (by simp [gcell, PH.add_self]) ?_
  unfold wholeOk
  by_cases hpo : progOk p = true <;> simp_all
 obtain ⟨hpo, hol⟩ := h5
 refine GF J J (by simp [hpo, hol]) ?_;refine Va J J ?_;refine S_call Tryz.call39 (c_ContainsInt o badO 40 #[] _ _ ho Tryz.call40 fun k hk _ => c_badO _ _) J J J ?_;rintro v2 G2 ⟨rfl, rfl⟩ _
 refine Va J J ?_
 cases hb : o.any badO
 rotate_left
 ·refine RT J (by simp [hpo, hol]) ?_
  refine Va J J ?_;refine S_freezeB 4 J J J J (fun _ h => h) fun hext => ?_;refine S_retC (v := .bool false) Tk hw Tryz.results19 J J J J (by simp [gcell, PH.add_self]) ?_
  simp [wholeOk, hb]
 refine RF J (by simp [hpo, hol]) ?_;refine Va J J ?_
 have hparts := prog_parts hpo
 refine S_loop (α := Nat × PH) (fun y => y.1 ≤ p.length ∧ PH.le G2 y.2 ∧ (p.take y.1).all (fun L => ownsL o L (-1)) = true) (fun y => p.length - y.1) [(4, b4), (3, b3)]
  (fun y => [(22, .val (.int .i64 (y.1 : Nat))), (21, .val (.int .i64 (p.length : Nat))), (20, .val (.slice Ap p.length cp)), (3, .ptr 3 0), (4, .ptr 4 0)])
  (fun y => [.blk 4 4 (vL [.bool false]), .blk 3 24 (vL [.slice Ao o.length co])]) (fun y => y.2) (0, G2) ⟨Nat.zero_le _, fun _ _ h => h, by simp⟩ rfl ⟨⟨_, rfl, rfl⟩, ⟨_, rfl, rfl⟩, ⟨_, rfl, rfl⟩, ⟨_, rfl, rfl⟩, ⟨_, rfl, rfl⟩, trivial⟩ (.blk rfl rfl (.blk rfl rfl .nil)) ?_
 rintro ⟨i, G3⟩ ⟨hi, hle3, hall⟩
 simp only at hi hle3 hall ⊢
 refine Va J J ?_
 by_cases hkl : i < p.length
 ·refine RT J (by simp; omega) ?_
  refine Va J J ?_;obtain ⟨ad, cs, e1, hcs, v, rfl, hv⟩ := Sr_at (Prg_le hle3 hpp) hkl
  subst e1
  have hsk : stmtsOk p[i] = true := hparts.1 _ (List.getElem_mem hkl)
  have hshk := hsh _ (List.getElem_mem hkl)
  have hwh : (ownsL o p[i] (-1) = false) → wholeOk p o = false := fun hf => by
   have : (p.all fun L => ownsL o L (-1)) = false := by rw [List.all_eq_false]; exact ⟨_, List.getElem_mem hkl, by simp [hf]⟩
   simp [wholeOk, this]
  have hgo : ownsL o p[i] (-1) = true → (p.take (i + 1)).all (fun L => ownsL o L (-1)) = true := fun hy => by rw [List.take_succ_eq_append_getElem hkl, List.all_append]; simp [hall, hy]
  generalize p[i] = L at hv hsk hshk hwh hgo hcs
  obtain ⟨Al, cl, rfl, _⟩ := id hv
  refine S_index Tk J J J J J J (by omega) (by omega) ?_;refine Va J J ?_;refine S_load Tk J J J J J (by simpa using hcs.1) ?_;refine Va J J ?_;refine S_call Tryz.call41 (c_all L (-1) _ _ hv) J J J ?_;rintro v2 G4 ⟨b5, b6, rfl, h5, h6⟩ hext4
  refine Va J J ?_
  have hle4 : PH.le G2 G4 := fun b o' h => hext4.le b o' (hle3 b o' h)
  have hl3 : listOk L 3 (-1) = true := by simp only [stmtsOk, Bool.and_eq_true] at hsk; exact hsk.1
  have hso := flat_sokL L 3 (-1) hl3 (Nat.le_trans (mx_ok hsk hshk) (by decide)) (.inl rfl)
  refine S_range (fun pre => bif pre.all (okP o) then [.blk 4 4 (vL [.bool false]), .blk 3 24 (vL [.slice Ao o.length co])] else [.hp 4 deadHP]) (fun pre => bif (flatL L (-1)).all (okP o) then [.hp 4 deadHP] else [.blk 4 4 (vL [.bool false]), .blk 3 24 (vL [.slice Ao o.length co])])
   rfl rfl rfl Tryz.call72 (c_all1 L (-1) _ b5 b6 G4 (Sts_le hext4.le hv) h5 h6) (fun x vs h => by obtain ⟨cs, _, rfl⟩ := h; rfl) rfl (.blk rfl rfl (.blk rfl rfl .nil)) ?_ ?_ ?_
  ·intro l pre x vs W S I hpre henc hW hI
   obtain ⟨cs, hrep, rfl⟩ := henc
   have hsx : SOk x.1 x.2 := hso x (hpre.subset (by simp))
   cases hpa : pre.all (okP o)
   ·exact S_dead 4 J
   obtain ⟨s, room⟩ := x
   obtain ⟨z1, z2, z3, z4, A1, n1, c1, A2, n2, c2, rfl⟩ : ∃ z1 z2 z3 z4 A1 n1 c1 A2 n2 c2, cs = [.int .i64 z1, .int .i64 z2, .int .i64 z3, .int .i64 z4, .slice A1 n1 c1, .slice A2 n2 c2] := by
    obtain ⟨q1, q2, q3, q4, q5, q6⟩ := s
    obtain ⟨vx, vy, rfl, _, _, _, _, ⟨_, _, rfl, _⟩, ⟨_, _, rfl, _⟩⟩ := Stm.rep_iff.1 hrep
    exact ⟨_, _, _, _, _, _, _, _, _, _, J⟩
   simp only [cond_true, List.cons_append, List.nil_append]
   refine Va J J ?_;refine AZ ZT_ok J J J J fun b7 => ?_;refine Va J J ?_;refine hI _ _ _ fun W2 S2 hW2 => ?_;refine Va J J ?_;refine S_call Tryz.call42 (c_owned s room _ o _ _ hrep hsx (Ints_le hle4 ho) hol) J J J ?_;rintro v3 G5 ⟨rfl, rfl⟩ _
   refine Va J J ?_
   cases hx : okP o (s, room)
   ·refine RT J (by simp [hx]) ?_
    refine Va J J ?_;refine S_roundRet ?_
    have hf : (flatL L (-1)).all (okP o) = false := by rw [List.all_eq_false]; exact ⟨(s, room), hpre.subset (by simp), by simp [hx]⟩
    rw [hf]
    exact .drop (.blk J J (.blk J J .nil))
   ·refine RF J (by simp [hx]) ?_
    refine Va J J ?_;refine S_roundEnd ?_
    rw [show (pre ++ [(s, room)]).all (okP o) = true by simp [hpa, hx]]
    exact .drop (.blk J J (.blk J J .nil))
  ·intro D hD hDs
   cases hf : (flatL L (-1)).all (okP o)
   ·exact S_dead 4 J
   simp only [cond_true]
   refine Va J J ?_;refine S_add J J J J (by omega) ?_;refine Va J J ?_;exact S_again (i + 1, _) ⟨hkl, fun b o' h => le_add hD b o' (hle4 b o' h), hgo (by rw [owns_flatL, hf])⟩ (by simp only; omega) rfl ⟨⟨_, rfl, by simp [denO]⟩, ⟨_, rfl, rfl⟩, ⟨_, rfl, rfl⟩, ⟨_, rfl, rfl⟩, ⟨_, rfl, rfl⟩, trivial⟩ (.blk rfl rfl (.blk rfl rfl .nil))
  ·intro D pre hD hDs
   cases hf : (flatL L (-1)).all (okP o)
   rotate_left
   ·exact S_dead 4 J
   refine S_freezeB 4 J J J J (fun _ h => h) fun hext => ?_;refine S_retC (v := .bool false) Tk hw Tryz.results19 J J J J (by simp [gcell, PH.add_self]) ?_
   rw [hwh (by rw [owns_flatL, hf])]
 ·refine RF J (by simp; omega) ?_
  refine Va J J ?_;refine S_freezeB 4 J J J J (fun _ h => h) fun hext => ?_;refine S_retC (v := .bool true) Tk hw Tryz.results19 J J J J (by simp [gcell, PH.add_self]) ?_
  have e : i = p.length := by omega
  subst e
  rw [List.take_length] at hall
  simp [wholeOk, hpo, hol, hb, hall]
end
section
attribute [local irreducible] X Pure Mod
theorem any_bad {o : List Int} {i : Nat} (hi : i < o.length) (h : badO o[i] = true) : o.any badO = true := List.any_eq_true.2 ⟨_, List.getElem_mem hi, h⟩
theorem c_sWholeOk (p : List (List Stm)) (o : List Int) (pv ov : Value) (G : PH) (hp : PrgS G p pv) (ho : Ints G o ov) : Pure Tryz.prog 20 [pv, ov] G fun v G' => v = .bool (wholeOk p o) ∧ G' = G := by
 obtain ⟨hpp, hsh, hpl⟩ := id hp
 obtain ⟨Ap, cp, rfl, hl1, _⟩ := id hpp
 obtain ⟨Ao, co, rfl, _⟩ := id ho
 refine Pure.intro Tryz.func20 Tryz.ntmps20 J J fun w => ?_; refine Va J J ?_;refine S_call Tryz.call13 (c_ProgOk p _ G hpp) J J J ?_;rintro v1 G1 ⟨rfl, rfl⟩ _
 refine Va J J ?_
 by_cases h5 : progOk p = true ∧ o.length = 5
 rotate_left
 ·refine RT J (by simp; by_cases hpo : progOk p = true <;> simp_all; omega) ?_
  refine Va J J ?_;refine S_retp (Res.t1 Tryz.results20 J J) XR ⟨?_, J⟩
  unfold wholeOk
  by_cases hpo : progOk p = true <;> simp_all
 obtain ⟨hpo, hol⟩ := h5
 refine RF J (by simp [hpo, hol]) ?_;refine Va J J ?_
 have hparts := prog_parts hpo
 refine S_loop (α := Nat) (fun i => i ≤ o.length ∧ (o.take i).any badO = false) (fun i => o.length - i) []
  (fun i => [(5, .val (.int .i64 (i : Nat))), (0, .val (.slice Ap p.length cp)), (1, .val (.slice Ao o.length co))]) (fun _ => []) (fun _ => G1) 0 ⟨Nat.zero_le _, by simp⟩ rfl ⟨⟨_, rfl, rfl⟩, ⟨_, rfl, rfl⟩, ⟨_, rfl, rfl⟩, trivial⟩ .nil ?_
 rintro i ⟨hi, hall⟩
 refine Va J J ?_
 by_cases hkl : i < o.length
 ·refine RT J (by simp; omega) ?_
  refine Va J J ?_;obtain ⟨ad, e1, hc⟩ := ints_at ho hkl
  subst e1
  have hbad := any_bad hkl
  have hgo : badO o[i] = false → (o.take (i + 1)).any badO = false := fun hy => by rw [List.take_succ_eq_append_getElem hkl, List.any_append]; simp [hall, hy]
  rw [List.getElem?_eq_getElem hkl, Option.getD_some] at hc
  generalize o[i] = n at hc hbad hgo
  refine S_index Tk J J J J J J (by omega) (by omega) ?_;refine Va J J ?_;refine S_load Tk J J J J J (by simpa using hc) ?_;refine Va J J ?_
  refine S_guardp J J (fun h2 => ?_) (fun h2 => ?_) <;> refine Va J J ?_
  ·exact S_retp (Res.t1 Tryz.results20 J J) XR ⟨by simp [wholeOk, hbad (by simp [badO, h2])], J⟩
  ·refine S_index Tk J J J J J J (by omega) (by omega) ?_
   refine Va J J ?_;refine S_load Tk J J J J J (by simpa using hc) ?_;refine Va J J ?_
   refine S_condp J (fun h3 => ?_) (fun h3 => ?_) <;> refine Va J J ?_
   ·exact S_retp (Res.t1 Tryz.results20 J J) XR ⟨by simp [wholeOk, hbad (by simp [badO, h3])], J⟩
   ·refine S_add J J J J (by omega) ?_
    refine Va J J ?_;exact S_again (i + 1) ⟨hkl, hgo (by simp [badO, h2, h3])⟩ (by omega) J ⟨⟨_, J, by simp [denO]⟩, ⟨_, J, J⟩, ⟨_, J, J⟩, trivial⟩ .nil
 ·refine RF J (by simp; omega) ?_
  refine Va J J ?_
  have e : i = o.length := by omega
  subst e
  rw [List.take_length] at hall
  refine S_loop (α := Nat) (fun i => i ≤ p.length ∧ (p.take i).all (fun L => ownsL o L (-1)) = true) (fun i => p.length - i) []
   (fun i => [(6, .val (.int .i64 (i : Nat))), (0, .val (.slice Ap p.length cp)), (1, .val (.slice Ao o.length co))]) (fun _ => []) (fun _ => G1) 0 ⟨Nat.zero_le _, by simp⟩ rfl ⟨⟨_, rfl, rfl⟩, ⟨_, rfl, rfl⟩, ⟨_, rfl, rfl⟩, trivial⟩ .nil ?_
  rintro i ⟨hi2, hall2⟩
  refine Va J J ?_
  by_cases hkl2 : i < p.length
  ·refine RT J (by simp; omega) ?_
   refine Va J J ?_;obtain ⟨ad, cs, e1, hcs, v, rfl, hv⟩ := Sr_at hpp hkl2
   subst e1
   have hsk : stmtsOk p[i] = true := hparts.1 _ (List.getElem_mem hkl2)
   have hshk := hsh _ (List.getElem_mem hkl2)
   have hwh : (ownsL o p[i] (-1) = false) → wholeOk p o = false := fun hf => by
    have : (p.all fun L => ownsL o L (-1)) = false := by rw [List.all_eq_false]; exact ⟨_, List.getElem_mem hkl2, by simp [hf]⟩
    simp [wholeOk, this]
   have hgo : ownsL o p[i] (-1) = true → (p.take (i + 1)).all (fun L => ownsL o L (-1)) = true := fun hy => by rw [List.take_succ_eq_append_getElem hkl2, List.all_append]; simp [hall2, hy]
   generalize p[i] = L at hv hsk hshk hwh hgo hcs
   obtain ⟨Al, cl, rfl, _⟩ := id hv
   refine S_index Tk J J J J J J (by omega) (by omega) ?_;refine Va J J ?_;refine S_load Tk J J J J J (by simpa using hcs.1) ?_;refine Va J J ?_
   have hl3 : listOk L ((3 : Nat) : Int) (-1) = true := by simp only [stmtsOk, Bool.and_eq_true] at hsk; exact hsk.1
   refine S_call Tryz.call43 (Ow_all L 3 (-1) o _ _ _ hv ho hol hl3 (.inl J) (Nat.le_trans (mx_ok hsk hshk) (by decide)) (by decide)) J J J ?_;rintro v3 G3 ⟨rfl, rfl⟩ _
   refine Va J J ?_
   refine S_cond J (fun hB => ?_) (fun hB => ?_) <;> refine Va J J ?_
   ·exact S_retp (Res.t1 Tryz.results20 J J) XR ⟨by rw [hwh (by simpa using hB)], J⟩
   ·refine S_add J J J J (by omega) ?_
    refine Va J J ?_;exact S_again (i + 1) ⟨hkl2, hgo (by simpa using hB)⟩ (by omega) J ⟨⟨_, J, by simp [denO]⟩, ⟨_, J, J⟩, ⟨_, J, J⟩, trivial⟩ .nil
  ·refine RF J (by simp; omega) ?_
   refine Va J J ?_
   have e : i = p.length := by omega
   subst e
   rw [List.take_length] at hall2
   exact S_retp (Res.t1 Tryz.results20 J J) XR ⟨by simp [wholeOk, hpo, hol, hall, hall2], J⟩
theorem c_DrawWholeOk (l : List Int) (cv : Value) (G : PH) (hl : Byts G l cv) : Pure Tryz.prog 17 [cv] G l6V := by
 refine Pure.intro Tryz.func17 Tryz.ntmps17 J J fun w => ?_; refine Va J J ?_;refine S_callN 1 Tryz.call21 (c_l11Open l cv G hl) J J J ?_;rintro v1 G1 A1 ⟨b, sv, l', rfl, rfl, hl', rfl⟩ hext1
 refine S_newHP 1 J J ?_;refine Va J J ?_;refine S_callM 1 Tryz.call23 (c_l6Some b l' sv 0 G1 hl' (by decide)) J J J J (fun _ => J) ?_;rintro v2 G2 A2 ⟨rfl, p, pv, ow, ov, rfl, hp, hp1, hp3, how, hol⟩ hext2
 obtain ⟨Ap, cp, rfl, _⟩ := id hp.1
 obtain ⟨Ao, co, rfl, _⟩ := id how
 refine Va J J ?_;exact S_retp (Res.t2 Tryz.results17 J J J J) hext2 ⟨p, _, ow, _, J, hp, hp1, hp3, how, hol⟩
theorem c_DrawWholeOrder (l : List Int) (cv : Value) (G : PH) (hl : Byts G l cv) : Pure Tryz.prog 18 [cv] G ppV := by
 refine Pure.intro Tryz.func18 Tryz.ntmps18 J J fun w => ?_; refine Va J J ?_;refine S_callN 1 Tryz.call21 (c_l11Open l cv G hl) J J J ?_;rintro v1 G1 A1 ⟨b, sv, l', rfl, rfl, hl', rfl⟩ hext1
 refine S_newHP 1 J J ?_;refine Va J J ?_;refine S_callM 1 Tryz.call23 (c_l6Some b l' sv 0 G1 hl' (by decide)) J J J J (fun _ => J) ?_;rintro v2 G2 A2 ⟨rfl, p, pv, ow, ov, rfl, hp, hp1, hp3, how, hol⟩ hext2
 obtain ⟨Ap, cp, rfl, _⟩ := id hp.1
 obtain ⟨Ao, co, rfl, _⟩ := id how
 refine Va J J ?_;refine S_callM 1 Tryz.call24 (c_l3Picks b l' sv p _ _ G2 (Byts_le hext2.le hl') hp (by decide)) J J J J (fun _ => J) ?_;rintro v3 G3 A3 ⟨rfl, q, hq, hq2⟩ hext3
 obtain ⟨Aq, cq, rfl, _⟩ := id hq
 refine Va J J ?_;exact S_retp (Res.t2 Tryz.results18 J J J J) (hext2.trans hext3) ⟨p, _, q, _, J, PrgS_le hext3.le hp, hq, by omega⟩
end
section
attribute [local irreducible] X Pure Mod
inductive OT (o : List Int) : Int → List Stm → Prop
 | nil {room : Int} : OT o room []
 | leave {a : Int} {r : List Stm} : OT o (-1) r → OT o a (leaveS a :: r)
 | stm {s : Stm} {room : Int} {r : List Stm} : ownsS o s room = true → s.kind ≠ 12 → OT o room r → OT o room (s :: r)
theorem ne12 {s : Stm} {d room : Int} (h : stmtOk s d room = true) : s.kind ≠ 12 := by
 obtain ⟨k, a, b, n, x, y⟩ := s
 rintro e
 simp only [Stm.kind] at e
 subst e
 simp [stmtOk, leafOk] at h
theorem OT.app {o : List Int} {L : List Stm} {d room : Int} {r : List Stm} (h : ownsL o L room = true) (hk : listOk L d room = true) (hr : OT o room r) : OT o room (L ++ r) := by
 induction L with
 | nil => exact hr
 | cons s L ih =>
  simp only [listOk, ownsL, Bool.and_eq_true] at h hk
  exact .stm h.1 (ne12 hk.1) (ih h.2 hk.2)
theorem setRm_rm {W : Wld} {a b v : Int} (ha : is2 a) (hb : is2 b) : (W.setRm a v).rm b = if b = a then v else W.rm b := by
 rcases ha with rfl | rfl <;> rcases hb with rfl | rfl <;> simp [Wld.setRm, Wld.rm]
theorem setCell_rm (W : Wld) (a v b : Int) : (W.setCell a v).rm b = W.rm b := by
 unfold Wld.setCell
 split
 ·rfl
 ·split <;> rfl
theorem setQue_rm (W : Wld) (a b : Int) (q : List Int) : (W.setQue a q).rm b = W.rm b := by unfold Wld.setQue; split <;> rfl
structure Ex (o : List Int) (W : Wld) : Prop where
 ot : ∀ (i : Nat) p, W.procs[i]? = some p → OT o p.room p.todo
 hd : ∀ (i : Nat) p, W.procs[i]? = some p → p.mode = 0 → is2 p.room → W.rm p.room = (i : Int) + 1
def know (W : Wld) (C : Ck) (a : Int) : Nat → Int := if W.rm a = 0 then C.rm a.toNat else C.pr (W.rm a - 1).toNat
theorem own_ge (C : Ck) (who k : Nat) : C.pr who k ≤ C.own who k := by unfold Ck.own; split <;> omega
theorem upF_ge {f : Nat → Nat → Int} {i : Nat} {x : Nat → Int} (h : ∀ k, f i k ≤ x k) (j k : Nat) : f j k ≤ upF f i x j k := by
 unfold upF
 split
 ·subst_vars; exact h k
 ·exact Int.le_refl _
theorem jn_ge1 {x y z : Nat → Int} (h : ∀ k, z k ≤ x k) (k : Nat) : z k ≤ jn x y k := by have := h k; unfold jn; omega
theorem ahead_pr (C : Ck) (W : Wld) (who i k : Nat) : C.pr i k ≤ (C.ahead W who).pr i k := by
 have ho := own_ge C who
 unfold Ck.ahead
 split
 ·exact Int.le_refl _
 split
 ·exact upF_ge (jn_ge1 ho) _ _
 split
 ·exact upF_ge (jn_ge1 ho) _ _
 split
 ·exact upF_ge ho _ _
 split
 ·exact upF_ge ho _ _
 split
 ·unfold Ck.sig
  split
  ·exact upF_ge ho _ _
  ·rename_i f r _
   show C.pr i k ≤ upF (upF C.pr f.toNat (jn (C.pr f.toNat) (C.own who))) who (C.own who) i k
   by_cases e1 : i = who
   ·subst e1; simpa [upF] using ho k
   ·by_cases e2 : i = f.toNat
    ·subst e2
     simp only [upF, if_neg e1, if_true]
     exact jn_ge1 (fun _ => Int.le_refl _) k
    ·simp [upF, e1, e2]
 ·exact upF_ge ho _ _
theorem upd_at {W : Wld} {who i : Nat} {f : Prc → Prc} {q : Prc} (h : (W.upd who f).procs[i]? = some q) : (i = who ∧ ∃ p, W.procs[who]? = some p ∧ q = f p) ∨ (i ≠ who ∧ W.procs[i]? = some q) := by
 by_cases e : i = who
 ·subst e
  rw [show (W.upd i f).procs[i]? = W.procs[i]?.map f from updL_get _ _] at h
  cases hp : W.procs[i]? with
  | none => rw [hp] at h; cases h
  | some p => rw [hp] at h; exact .inl ⟨J, p, J, by simpa using h.symm⟩
 ·refine .inr ⟨e, ?_⟩
  rwa [show (W.upd who f).procs[i]? = W.procs[i]? from updL_ne _ _ _ (fun h => e h.symm)] at h
theorem Ex.mk2 {o : List Int} {W V : Wld} {who : Nat} {p : Prc} {f : Prc → Prc} (hE : Ex o W) (hp : W.procs[who]? = some p) (hV : V.procs = (W.upd who f).procs) (hrm : ∀ i q, i ≠ who → W.procs[i]? = some q → q.mode = 0 → is2 q.room → V.rm q.room = W.rm q.room) (hOT : OT o (f p).room (f p).todo) (hself : (f p).mode = 0 → is2 (f p).room → V.rm (f p).room = (who : Int) + 1) : Ex o V := by
 constructor
 ·intro i q hq
  rw [hV] at hq
  rcases upd_at hq with ⟨rfl, p', hp', rfl⟩ | ⟨hi, hq⟩
  ·rw [hp] at hp'; cases hp'; exact hOT
  ·exact hE.ot i q hq
 ·intro i q hq hm h2
  rw [hV] at hq
  rcases upd_at hq with ⟨rfl, p', hp', rfl⟩ | ⟨hi, hq⟩
  ·rw [hp] at hp'; cases hp'; exact hself hm h2
  ·rw [hrm i q hi hq hm h2]; exact hE.hd i q hq hm h2
theorem set_p3 (p : Prc) (k v : Int) : (p.set k v).mode = p.mode ∧ (p.set k v).room = p.room ∧ (p.set k v).todo = p.todo := by
 unfold Prc.set
 split
 ·exact ⟨J, J, J⟩
 ·split <;> exact ⟨J, J, J⟩
theorem owned_parts {o : List Int} {k a b n room : Int} {x y : List Stm} (h : ownsS o (.mk k a b n x y) room = true) : okOne o k a b room = true ∧ ownsL o x (if k = 8 then a else room) = true ∧ ownsL o y (if k = 8 then a else room) = true := by
 simp only [ownsS, Bool.and_eq_true] at h
 exact ⟨h.1, h.2.1, h.2.2⟩
def Good (o : List Int) (W : Wld) (C C' : Ck) (V : Wld) : Prop := Ex o V ∧ ∀ a k, is2 a → know W C a k ≤ know V C' a k
theorem ite_good {o : List Int} {W : Wld} {C C' : Ck} {c : Prop} [Decidable c] {A B : Wld} (h1 : c → Good o W C C' A) (h2 : ¬ c → Good o W C C' B) : Good o W C C' (if c then A else B) := by
 by_cases h : c
 ·rw [if_pos h]; exact h1 h
 ·rw [if_neg h]; exact h2 h
theorem know_stay {W V : Wld} {C C' : Ck} (hp : ∀ i k, C.pr i k ≤ C'.pr i k) (hr : C'.rm = C.rm) (hV : ∀ a, is2 a → V.rm a = W.rm a) : ∀ a k, is2 a → know W C a k ≤ know V C' a k := by
 intro a k ha
 unfold know
 rw [hV a ha, hr]
 split
 ·exact Int.le_refl _
 ·exact hp _ _
theorem know_enter {W V : Wld} {C C' : Ck} {who : Nat} {r : Int} (hr2 : is2 r) (hp : ∀ i k, C.pr i k ≤ C'.pr i k) (hr : C'.rm = C.rm) (hz : W.rm r = 0) (hC : ∀ k, C.rm r.toNat k ≤ C'.pr who k) (hV : ∀ a, is2 a → V.rm a = if a = r then (who : Int) + 1 else W.rm a) : ∀ a k, is2 a → know W C a k ≤ know V C' a k := by
 intro a k ha
 unfold know
 rw [hV a ha, hr]
 by_cases e : a = r
 ·subst e
  rw [if_pos rfl, if_pos hz, if_neg (by omega), show ((who : Int) + 1 - 1).toNat = who by omega]
  exact hC k
 ·rw [if_neg e]
  split
  ·exact Int.le_refl _
  ·exact hp _ _
theorem know_leave {W V : Wld} {C C' : Ck} {who : Nat} {r : Int} (hr2 : is2 r) (hp : ∀ i k, C.pr i k ≤ C'.pr i k) (hr : C'.rm = upF C.rm r.toNat (C.own who)) (hz : W.rm r = (who : Int) + 1) (hV : ∀ a, is2 a → V.rm a = if a = r then 0 else W.rm a) : ∀ a k, is2 a → know W C a k ≤ know V C' a k := by
 intro a k ha
 unfold know
 rw [hV a ha, hr]
 by_cases e : a = r
 ·subst e
  rw [if_neg (by omega), if_pos rfl, if_pos rfl, hz, show ((who : Int) + 1 - 1).toNat = who by omega]
  simp only [upF, if_true]
  exact own_ge _ _ _
 ·have hne : a.toNat ≠ r.toNat := by rcases ha with rfl | rfl <;> rcases hr2 with rfl | rfl <;> simp_all
  rw [if_neg e]
  simp only [upF, if_neg hne]
  split
  ·exact Int.le_refl _
  ·exact hp _ _
theorem ahead_rm {C : Ck} {W : Wld} {who : Nat} {p : Prc} (hp : W.procs[who]? = some p) (h12 : fstP p ≠ 12) (h9 : fstP p ≠ 9) : (C.ahead W who).rm = C.rm := by
 rw [ahead_eq hp]
 split
 ·rfl
 split
 ·rfl
 split
 ·unfold Ck.sig
  split <;> rfl
 ·rfl
theorem Ex.stp {o : List Int} {W : Wld} {B who : Nat} (C : Ck) (h : Inv W B) (hE : Ex o W) (hw : who < W.procs.length) (hc : codeOf W (who : Nat) = 0) : Good o W C (C.ahead W who) (W.step who) := by
 have hp : W.procs[who]? = some W.procs[who] := List.getElem?_eq_getElem hw
 have hpm : W.procs[who] ∈ W.procs := List.getElem_mem hw
 generalize W.procs[who] = p at hp hpm
 have q := h.pr p hpm
 have hpr := ahead_pr C W who
 obtain ⟨hm1, hne⟩ := code0 hp hc
 have hcp : codeP W p = 0 := by
  unfold codeOf at hc
  rw [if_neg (by omega), Int.toNat_natCast, hp] at hc
  exact hc
 have hot := hE.ot who p hp
 by_cases hm : p.mode = 2
 ·have e : W.step who = (W.setRm p.room ((who : Int) + 1)).upd who (fun p => { p with mode := 0 }) := by simp [Wld.step, hp, hm]
  have hr2 : is2 p.room := q.rm (by omega)
  have hz : W.rm p.room = 0 := by
   simp only [codeP, hm] at hcp
   simpa using hcp
  have ha : C.ahead W who = { C with pr := upF C.pr who (jn (C.own who) (C.rm p.room.toNat)) } := by rw [ahead_eq hp, if_pos hm]
  rw [e]
  refine ⟨hE.mk2 (f := fun p => { p with mode := 0 }) hp (by show updL _ _ _ = updL _ _ _; rw [setRm_procs]) (fun i q hi hq hm h2 => ?_) hot (fun _ h2 => ?_), know_enter (who := who) hr2 hpr (by rw [ha]) hz (fun k => ?_) (fun a ha => setRm_rm hr2 ha)⟩
  ·show (W.setRm _ _).rm _ = _
   rw [setRm_rm hr2 h2, if_neg]
   rintro e
   have := hE.hd i q hq hm h2
   rw [e] at this; omega
  ·show (W.setRm _ _).rm _ = _
   rw [setRm_rm hr2 hr2, if_pos rfl]
  ·rw [ha]; simp only [upF, if_true, jn]; omega
 have hm0 : p.mode = 0 := by rcases q.md with h | h | h <;> simp_all
 rcases hT : p.todo with _ | ⟨s, r⟩
 ·exact absurd hT (hne hm)
 rw [step_eq hp hm hT]
 have hfst : fstP p = s.kind := by simp [fstP, hm, hT]
 have hfa : fstA p = s.a := by simp [fstA, hm, hT]
 have htd := q.td
 have hro := q.ro
 have hh := hE.hd who p hp hm0
 rw [hT] at hot htd
 have hpt : (pop p).todo = r := by simp [pop, hT]
 have hpo : (pop p).room = p.room := rfl
 have others : ∀ i q, i ≠ who → W.procs[i]? = some q → q.mode = 0 → is2 q.room → q.room ≠ p.room := by
  rintro i q hi hq hmq h2 e
  have h1 := hE.hd i q hq hmq h2
  rw [e] at h1 h2
  have h3 := hh h2
  omega
 -- nobody comes or goes
 have stay : ∀ (V : Wld) (f : Prc → Prc), V.procs = (W.upd who f).procs → (∀ a, is2 a → V.rm a = W.rm a) → (f p).room = p.room → OT o p.room (f p).todo → s.kind ≠ 12 → s.kind ≠ 9 → Good o W C (C.ahead W who) V := by
  intro V f hV hrm hfr hfo h12 h9
  refine ⟨hE.mk2 hp hV (fun i q _ _ _ h2 => hrm _ h2) (by rw [hfr]; exact hfo) (fun _ h2 => ?_), know_stay hpr (ahead_rm hp (by omega) (by omega)) hrm⟩
  rw [hfr] at h2 ⊢
  rw [hrm _ h2]; exact hh h2
 generalize hR : p.room = ro at htd hro hot
 cases htd with
 | leave ha2 hr =>
  have hor : OT o (-1) r := by
   cases hot with
   | leave h => exact h
   | stm _ h12 _ => exact absurd rfl h12
  have e : (W.upd who pop).stepS who (leaveS ro) = (W.setRm ro 0).upd who (fun p => { pop p with room := -1 }) := by
   rw [show (W.upd who pop).stepS who (leaveS ro) = ((W.upd who pop).setRm ro 0).upd who (fun p => { p with room := -1 }) by simp [Wld.stepS, leaveS, Stm.kind, Stm.a], setRm_upd, upd_upd]
  rw [e]
  refine ⟨hE.mk2 (f := fun p => { pop p with room := -1 }) hp (by show updL _ _ _ = updL _ _ _; rw [setRm_procs]) (fun i q hi hq hm h2 => ?_) (by show OT o (-1) (pop p).todo; rw [hpt]; exact hor) (fun _ h2 => ?_), know_leave (who := who) (r := ro) ha2 hpr ?_ (hR ▸ hh (hR ▸ ha2)) (fun a ha => setRm_rm ha2 ha)⟩
  ·show (W.setRm _ _).rm _ = _
   rw [setRm_rm ha2 h2, if_neg (fun e => others i q hi hq hm h2 (e.trans hR.symm))]
  ·rcases h2 with h | h <;> cases h
  ·rw [ahead_eq hp, if_neg hm, if_neg (by rw [hfst]; show ¬ (12 : Int) = 8; decide), if_pos (by rw [hfst]; rfl), hfa]; rfl
 | stm hs hr =>
  rename_i d
  have h12 := ne12 hs
  obtain ⟨hos, hor⟩ : ownsS o s ro = true ∧ OT o ro r := by
   cases hot with
   | leave h => exact absurd rfl h12
   | stm h1 _ h2 => exact ⟨h1, h2⟩
  obtain ⟨k, a, b, n, x, y⟩ := s
  have hs0 := hs
  have hos0 := hos
  simp only [stmtOk] at hs
  split at hs
  ·cases hs
  obtain ⟨ho1, hox, hoy⟩ := owned_parts hos
  have hkd : (Stm.mk k a b n x y).kind = k := rfl
  rw [hkd] at hfst h12
  have hself : OT o p.room (pop p).todo := by rw [hpt, hR]; exact hor
  unfold Wld.stepS
  simp only [hkd]
  have stU : ∀ g : Prc → Prc, (g (pop p)).room = p.room → OT o p.room (g (pop p)).todo → k ≠ 9 → Good o W C (C.ahead W who) ((W.upd who pop).upd who g) := fun g h1 h2 h9 =>
   stay _ (fun p => g (pop p)) (by rw [upd_upd]) (fun _ _ => rfl) h1 h2 h12 h9
  refine ite_good (fun e => stU _ (set_p3 _ _ _).2.1 (by rw [(set_p3 _ _ _).2.2]; exact hself) (by omega)) fun _ => ?_;refine ite_good (fun e => stU _ (set_p3 _ _ _).2.1 (by rw [(set_p3 _ _ _).2.2]; exact hself) (by omega)) fun _ => ?_;refine ite_good (fun e => stU _ (set_p3 _ _ _).2.1 (by rw [(set_p3 _ _ _).2.2]; exact hself) (by omega)) fun _ => ?_;refine ite_good (fun e => stay _ pop (setCell_procs ..) (fun _ _ => setCell_rm ..) J hself h12 (by rw [hkd]; omega)) fun _ => ?_
  refine ite_good (fun e => stay _ pop J (fun _ _ => J) J hself h12 (by rw [hkd]; omega)) fun _ => ?_;refine ite_good (fun e => stU _ J ?_ (by omega)) fun _ => ?_
  ·subst e
   simp at hs
   show OT o p.room ((if (W.upd who pop).reg who (Stm.mk 6 a b n x y).a = 0 then y else x) ++ (pop p).todo)
   rw [hpt, hR]
   rw [if_neg (by decide)] at hox hoy
   by_cases hz : (W.upd who pop).reg who (Stm.mk 6 a b n x y).a = 0
   ·rw [if_pos hz]; exact OT.app hoy hs.2 hor
   ·rw [if_neg hz]; exact OT.app hox hs.1.2 hor
  refine ite_good (fun e => stU _ J ?_ (by omega)) fun _ => ?_
  ·subst e
   simp at hs
   show OT o p.room ((if (W.upd who pop).reg who (Stm.mk 7 a b n x y).a = 0 then [] else x ++ [.mk 7 a b n x y]) ++ (pop p).todo)
   rw [hpt, hR]
   rw [if_neg (by decide)] at hox hoy
   by_cases hz : (W.upd who pop).reg who (Stm.mk 7 a b n x y).a = 0
   ·rw [if_pos hz]; exact hor
   ·rw [if_neg hz, List.append_assoc]
    exact OT.app hox hs.1.2 (.stm hos0 h12 hor)
  refine ite_good (fun e => ?_) fun _ => ?_
  ·subst e
   simp at hs
   rw [if_pos rfl] at hox hoy
   obtain ⟨⟨⟨⟨hro1, ha0⟩, hb⟩, hn⟩, hx⟩ := hs
   have hro2 : ro = -1 := by rcases hro with h | h | h <;> omega
   have ha2 : is2 a := by unfold is2; omega
   have hz : W.rm a = 0 := by
    simp only [codeP, hm0, hT, Stm.kind, Stm.a] at hcp
    by_cases hz : W.rm a = 0
    ·exact hz
    ·simp [hz] at hcp
   have hc2 : C.ahead W who = { C with pr := upF C.pr who (jn (C.own who) (C.rm a.toNat)) } := by rw [ahead_eq hp, if_neg hm, if_pos hfst, hfa]; rfl
   refine ⟨hE.mk2 (f := fun p => { pop p with room := a, todo := (x ++ [leaveS a]) ++ (pop p).todo }) hp (by show updL _ _ _ = _; rw [setRm_procs]; exact updL_updL _ _) (fun i q hi hq hm h2 => ?_) ?_ (fun _ h2 => ?_), know_enter (who := who) ha2 hpr (by rw [hc2]) hz (fun k => ?_) (fun b hb => setRm_rm ha2 hb)⟩
   ·show ((W.upd who pop).setRm a ((who : Int) + 1)).rm _ = _
    rw [setRm_rm ha2 h2, if_neg]
    ·rfl
    ·rintro e
     have := hE.hd i q hq hm h2
     rw [e] at this; omega
   ·show OT o a ((x ++ [leaveS a]) ++ (pop p).todo)
    rw [hpt, List.append_assoc]
    exact OT.app hox hx (.leave (hro2 ▸ hor))
   ·show ((W.upd who pop).setRm a ((who : Int) + 1)).rm a = _
    rw [setRm_rm ha2 ha2, if_pos rfl]
   ·rw [hc2]; simp only [upF, if_true, jn]; omega
  refine ite_good (fun e => ?_) fun n9 => ?_
  ·subst e
   simp [leafOk] at hs
   have hr2 : is2 ro := by
    rcases hro with h | h
    ·omega
    ·exact h
   have hrm0 : (W.upd who pop).room who = ro := by
    unfold Wld.room
    rw [show (W.upd who pop).procs[who]? = W.procs[who]?.map pop from updL_get _ _, hp]
    exact hR
   rw [hrm0]
   refine ⟨hE.mk2 (f := fun p => { pop p with mode := 1, on := a }) hp (by rw [setQue_procs]; show updL _ _ _ = _; rw [setRm_procs]; exact updL_updL _ _) (fun i q hi hq hm h2 => ?_) hself (fun h _ => by cases h), know_leave (who := who) (r := ro) hr2 hpr ?_ (hR ▸ hh (hR ▸ hr2)) (fun b hb => by rw [setQue_rm]; exact setRm_rm hr2 hb)⟩
   ·rw [setQue_rm]
    show ((W.upd who pop).setRm _ _).rm _ = _
    rw [setRm_rm hr2 h2, if_neg (fun e => others i q hi hq hm h2 (e.trans hR.symm))]
    rfl
   ·rw [ahead_eq hp, if_neg hm, if_neg (by omega), if_neg (by omega), if_pos hfst, hR]
  refine ite_good (fun e => ?_) fun _ => ?_
  ·have hG := stay (W.upd who pop) pop rfl (fun _ _ => rfl) rfl hself h12 n9
   unfold Wld.signal
   split
   ·exact hG
   ·rename_i f r hq
    have hf : f ∈ W.q0 ++ W.q1 := by
     have : f ∈ W.que (Stm.mk k a b n x y).a := by rw [show W.que (Stm.mk k a b n x y).a = f :: r from hq]; simp
     unfold Wld.que at this
     split at this <;> simp [this]
    obtain ⟨_, p', hp', hm'⟩ := h.qf f hf
    have hne : f.toNat ≠ who := by rintro e; rw [e, hp] at hp'; cases hp'; exact hm1 hm'
    have hp1 : (W.upd who pop).procs[f.toNat]? = some p' := by
     rw [show (W.upd who pop).procs[f.toNat]? = W.procs[f.toNat]? from updL_ne _ _ _ (fun h => hne h.symm)]; exact hp'
    exact ⟨hG.1.mk2 (f := fun p => { p with mode := 2, on := 0 }) hp1 (setQue_procs ..) (fun i q _ _ _ h2 => setQue_rm ..) (hG.1.ot _ p' hp1) (fun h => by cases h), know_stay hpr (ahead_rm hp (by omega) (by omega)) (fun a _ => setQue_rm ..)⟩
  refine ite_good (fun e => absurd e h12) fun _ => stay _ pop J (fun _ _ => J) J hself h12 n9
theorem own2 {o : List Int} (h : o.any badO = false) (t : Nat) : is2 (o[t]?.getD 0) := by
 cases ht : o[t]? with
 | none => exact .inl rfl
 | some x =>
  have := List.any_eq_false.1 h x (List.mem_of_getElem? ht)
  simp only [badO, Bool.or_eq_true, decide_eq_true_eq, not_or] at this
  show is2 x
  unfold is2; omega
theorem mark_room {o : List Int} {W : Wld} {B who : Nat} {C' : Ck} {p : Prc} {n i : Nat} {m : Mk} (hE : Ex o W) (hI : Inv W B) (hob : o.any badO = false) (hp : W.procs[who]? = some p) (hc : codeOf W (who : Nat) = 0) (hm : m ∈ markP n C' W who i) :
  is2 p.room ∧ p.mode = 0 ∧ o[m.cell.toNat]?.getD 0 = p.room ∧ m.who = who ∧ m.clock = clkL n (C'.pr who) ∧ (fstP p = 3 ∨ fstP p = 4) := by
 rw [markP_eq hp] at hm
 obtain ⟨hm1, hne⟩ := code0 hp hc
 have q := hI.pr p (List.mem_of_getElem? hp)
 have hot := hE.ot who p hp
 have hfst : fstP p = 3 ∨ fstP p = 4 := by
  by_cases h3 : fstP p = 3
  ·exact .inl h3
  ·rw [if_neg h3] at hm
   by_cases h4 : fstP p = 4
   ·exact .inr h4
   ·rw [if_neg h4] at hm; cases hm
 have h2 : p.mode ≠ 2 := by
  intro h2
  simp [fstP, h2] at hfst
 have hm0 : p.mode = 0 := by rcases q.md with h | h | h <;> simp_all
 rcases hT : p.todo with _ | ⟨s, r⟩
 ·exact absurd hT (hne h2)
 have hf : fstP p = s.kind := by simp [fstP, h2, hT]
 have ha : fstA p = s.a := by simp [fstA, h2, hT]
 have hb : fstB p = s.b := by simp [fstB, h2, hT]
 rw [hT] at hot
 have hos : ownsS o s p.room = true := by
  generalize p.room = ro at hot
  cases hot with
  | leave h => rw [hf] at hfst; simp [leaveS, Stm.kind] at hfst
  | stm h1 _ _ => exact h1
 obtain ⟨k, a, b, c, x, y⟩ := s
 have ho1 := (owned_parts hos).1
 rw [hf] at hm hfst
 rw [ha, hb] at hm
 replace hm : m ∈ (if k = 3 then ([⟨who, i, false, b, clkL n (C'.pr who)⟩] : List Mk) else if k = 4 then [⟨who, i, true, a, clkL n (C'.pr who)⟩] else []) := hm
 have key : o[m.cell.toNat]?.getD 0 = p.room ∧ m.who = who ∧ m.clock = clkL n (C'.pr who) := by
  split at hm
  ·rename_i h3
   rw [List.mem_singleton.1 hm]
   subst h3
   simp only [okOne, thing, if_true, decide_eq_true_eq] at ho1
   exact ⟨ho1, J, J⟩
  ·split at hm
   ·rename_i h3 h4
    rw [List.mem_singleton.1 hm]
    subst h4
    simp [okOne, thing] at ho1
    exact ⟨ho1, J, J⟩
   ·cases hm
 refine ⟨?_, hm0, key.1, key.2.1, key.2.2, by rw [hf]; exact hfst⟩
 rw [← key.1]; exact own2 hob _
theorem know_hold {o : List Int} {W : Wld} {who : Nat} {C : Ck} {p : Prc} (hE : Ex o W) (hp : W.procs[who]? = some p) (hm : p.mode = 0) (h2 : is2 p.room) : know W C p.room = C.pr who := by
 have := hE.hd who p hp hm h2
 unfold know
 rw [if_neg (by omega), this, show ((who : Int) + 1 - 1).toNat = who by omega]
theorem ahead_leaf {C : Ck} {W : Wld} {who : Nat} {p : Prc} (hp : W.procs[who]? = some p) (hm : p.mode = 0) (hf : fstP p = 3 ∨ fstP p = 4) : (C.ahead W who).pr who = C.own who := by
 rw [ahead_eq hp, if_neg (by omega), if_neg (by omega), if_neg (by omega), if_neg (by omega), if_neg (by omega)]
 simp [upF]
theorem step_rm34 {W : Wld} {who : Nat} {p : Prc} (hp : W.procs[who]? = some p) (hm : p.mode = 0) (hf : fstP p = 3 ∨ fstP p = 4) (a : Int) : (W.step who).rm a = W.rm a := by
 rcases hT : p.todo with _ | ⟨s, r⟩
 ·simp [fstP, hT] at hf
 have hk : fstP p = s.kind := by simp [fstP, hm, hT]
 rw [hk] at hf
 rw [step_eq hp (by omega) hT]
 unfold Wld.stepS
 rw [if_neg (by omega), if_neg (by omega)]
 split
 ·rfl
 ·rw [if_pos (by omega)]; exact setCell_rm ..
theorem marks_know {o : List Int} (hob : o.any badO = false) (n : Nat) : ∀ (q : List Int) (i B : Nat) (C : Ck) (W : Wld), Inv W B → Ex o W → W.procs.length = n → ∀ m ∈ marksF n q i C W, m.who < n ∧ m.clock.length = n ∧ ∀ k, k < n → know W C (o[m.cell.toNat]?.getD 0) k + (if k = m.who then 1 else 0) ≤ m.clock[k]?.getD 0 := by
 intro q
 induction q with
 | nil => intro i B C W _ _ _ m hm; simp [marksF] at hm
 | cons a r ih =>
  intro i B C W hI hE hn m hm
  rw [marksF] at hm
  split at hm
  ·rename_i hc
   obtain ⟨w, hw, hwl⟩ := code0_who hc
   subst hw
   rw [Int.toNat_natCast] at hm
   obtain ⟨hE2, hk⟩ := hE.stp C hI hwl hc
   rcases List.mem_append.1 hm with hm | hm
   ·obtain ⟨h2, hm0, ho, hwho, hclk, hf⟩ := mark_room hE hI hob (List.getElem?_eq_getElem hwl) hc hm
    rw [ho, know_hold hE (List.getElem?_eq_getElem hwl) hm0 h2, hwho, hclk, ahead_leaf (List.getElem?_eq_getElem hwl) hm0 hf]
    refine ⟨by omega, clkL_len _ _, fun k hk => ?_⟩
    rw [clk_getD hk, own_at]
    split <;> omega
   ·obtain ⟨h1, h2, h3⟩ := ih (i + 1) (B + 1) _ _ (hI.step hwl hc) hE2 (by rw [Wld.step_len]; exact hn) m hm
    refine ⟨h1, h2, fun k hkn => ?_⟩
    have := h3 k hkn
    have := hk _ k (own2 hob m.cell.toNat)
    omega
  ·exact ih (i + 1) B C W hI hE hn m hm
theorem marks_ord {o : List Int} (hob : o.any badO = false) (n : Nat) : ∀ (q : List Int) (i B : Nat) (C : Ck) (W : Wld), Inv W B → Ex o W → W.procs.length = n → (marksF n q i C W).Pairwise fun x y => x.cell = y.cell → x.ahead y = true := by
 intro q
 induction q with
 | nil => intro i B C W _ _ _; simp [marksF]
 | cons a r ih =>
  intro i B C W hI hE hn
  rw [marksF]
  split
  ·rename_i hc
   obtain ⟨w, hw, hwl⟩ := code0_who hc
   subst hw
   rw [Int.toNat_natCast]
   obtain ⟨hE2, hk⟩ := hE.stp C hI hwl hc
   have hn2 : (W.step w).procs.length = n := by rw [Wld.step_len]; exact hn
   refine List.pairwise_append.2 ⟨?_, ih (i + 1) (B + 1) _ _ (hI.step hwl hc) hE2 hn2, fun x hx y hy hxy => ?_⟩
   ·rw [markP_eq (List.getElem?_eq_getElem hwl)]
    split
    ·simp
    ·split <;> simp
   ·obtain ⟨h2, hm0, ho, hwho, hclk, hf⟩ := mark_room hE hI hob (List.getElem?_eq_getElem hwl) hc hx
    obtain ⟨y1, y2, y3⟩ := marks_know hob n r (i + 1) (B + 1) _ _ (hI.step hwl hc) hE2 hn2 y hy
    have hxl : x.clock.length = n := by rw [hclk]; exact clkL_len _ _
    have hxn : x.who < n := by rw [hwho]; omega
    have h4 := y3 x.who hxn
    rw [← hxy, ho] at h4
    -- who held the room holds it still
    have h5 : x.clock[x.who]?.getD 0 ≤ know (W.step w) (C.ahead W w) (W.procs[w]).room x.who := by
     have h6 := hE.hd w _ (List.getElem?_eq_getElem hwl) hm0 h2
     unfold know
     rw [step_rm34 (List.getElem?_eq_getElem hwl) hm0 hf, if_neg (by omega), h6, show ((w : Int) + 1 - 1).toNat = w by omega, hclk, clk_getD hxn]
     exact Int.le_refl _
    rw [ahead_if (by omega) (by omega)]
    split
    ·rename_i e
     rw [if_pos e] at h4
     exact decide_eq_true (by omega)
    ·rename_i e
     rw [if_neg e] at h4
     exact decide_eq_true (by omega)
  ·exact ih (i + 1) B C W hI hE hn
theorem Ex_open {p : List (List Stm)} {o : List Int} (h : wholeOk p o = true) (hp : progOk p = true) : Ex o (open0 p) := by
 obtain ⟨h1, _, _⟩ := prog_parts hp
 simp only [wholeOk, Bool.and_eq_true, List.all_eq_true] at h
 have at_ : ∀ (i : Nat) q, (open0 p).procs[i]? = some q → ∃ l ∈ p, q = proc0 l := by
  intro i q hq
  have := List.mem_of_getElem? hq
  obtain ⟨l, hl, rfl⟩ := List.mem_map.1 this
  exact ⟨l, hl, J⟩
 constructor
 ·intro i q hq
  obtain ⟨l, hl, rfl⟩ := at_ i q hq
  have hs := h1 l hl
  simp only [stmtsOk, Bool.and_eq_true] at hs
  have := OT.app (r := []) (h.2 l hl) hs.1 .nil
  simpa [proc0] using this
 ·intro i q hq _ h2
  obtain ⟨l, hl, rfl⟩ := at_ i q hq
  rcases h2 with h | h <;> cases h
theorem wholeOk_parts {p : List (List Stm)} {o : List Int} (h : wholeOk p o = true) : progOk p = true ∧ o.any badO = false := by
 simp only [wholeOk, Bool.and_eq_true, Bool.not_eq_true'] at h
 exact ⟨h.1.1.1, h.1.2⟩
theorem marksL_ord {p : List (List Stm)} {o : List Int} (q : List Int) (hs : ∀ l ∈ p, Sh l) (h : wholeOk p o = true) : (marksL p q).Pairwise fun x y => x.cell = y.cell → x.ahead y = true := by
 obtain ⟨hp, hob⟩ := wholeOk_parts h
 unfold marksL
 split
 ·exact marks_ord hob p.length q 0 0 _ _ (Inv_open hp hs) (Ex_open h hp) (by simp [open0])
 ·exact List.Pairwise.nil
end
section
theorem run_eqB {P : Program} (w : World) {t : TypeId} (ht : P.underlying t = some .bool) (p q : Bool) : (Op.equal t (.bool p) (.bool q)).run P w = .ok (decide (p = q)) w := by
 have h : ∀ d : Nat, (Op.equalIn (d + 1) t (.bool p) (.bool q)).run P w = .ok (decide (p = q)) w := fun d => by
  cases p <;> cases q <;> simp [Op.equalIn, run_underlying ht]
 simp [Op.equal, Op.maxDepth, h 9999]
section
variable {C : Ctx} {E : Env} {ι : Ids} {L : List Ent} {G : PH} {d : Option Nat} {ty : Nat} {pos : String} {af : Array Edge} {g : Option (Nat × Bool)}
theorem V_eqB {t t' : Nat} {x y : Operand} {p q : Bool} (hg : C.P.eqGuardType C.P.depth t = false) (ht : C.P.underlying t = some .bool) (hx : ev E x = some (.val (.bool p))) (hy : ev E y = some (.val (.bool q))) : Vl C ι E L G ⟨d, .binOp .eql t x y t', ty, pos, af, g⟩ (.bool (decide (p = q))) := by
 intro a w hE hw
 have ex := ev_sound hE hx
 have ey := ev_sound hE hy
 simp only [denO, Option.some.injEq] at ex ey
 simp only [execOp, ← ex, ← ey]
 simp [eqGuard, hg, binOp, run_eqB w ht]
theorem V_neqB {t t' : Nat} {x y : Operand} {p q : Bool} (hg : C.P.eqGuardType C.P.depth t = false) (ht : C.P.underlying t = some .bool) (hx : ev E x = some (.val (.bool p))) (hy : ev E y = some (.val (.bool q))) : Vl C ι E L G ⟨d, .binOp .neq t x y t', ty, pos, af, g⟩ (.bool (!decide (p = q))) := by
 intro a w hE hw
 have ex := ev_sound hE hx
 have ey := ev_sound hE hy
 simp only [denO, Option.some.injEq] at ex ey
 simp only [execOp, ← ex, ← ey]
 simp [eqGuard, hg, binOp, run_eqB w ht]
end
end
section
attribute [local irreducible] X Pure Mod
theorem g_bool : Tryz.prog.eqGuardType Tryz.prog.depth 4 = false := by kernel_rfl
theorem u_bool : Tryz.prog.underlying 4 = some .bool := by kernel_rfl
theorem c_FnClockOrder (A : Option Addr) (n c : Nat) (G : PH) (hl : n ≤ 1048576 → ∃ l, Byts G l (.slice A n c) ∧ l.length = n) : Pure Tryz.prog 8 [.slice A n c] G fun v G' => v = .bool true := by
 refine Pure.intro Tryz.func8 Tryz.ntmps8 J J fun w => ?_; refine Va J J ?_
 refine S_condp J (fun h => ?_) (fun h => ?_) <;> refine Va J J ?_
 ·exact S_retp (Res.t1 Tryz.results8 J J) XR J
 obtain ⟨l, hb, hll⟩ := hl (by omega)
 refine S_call Tryz.call17 (c_DrawWholeOk l _ _ hb) J J J ?_;rintro v1 G1 ⟨p, pv, o, ov, rfl, hp, _, _, ho, _⟩ hext1
 obtain ⟨Ap, cp, rfl, _⟩ := id hp.1
 obtain ⟨Ao, co, rfl, _⟩ := id ho
 refine Va J J ?_;refine S_call Tryz.call18 (c_DrawWholeOrder l _ _ (Byts_le hext1.le hb)) J J J ?_;rintro v2 G2 ⟨p2, pv2, q, qv, rfl, hp2, hq, _⟩ hext2
 obtain ⟨Ap2, cp2, rfl, _⟩ := id hp2.1
 obtain ⟨Aq, cq, rfl, _⟩ := id hq
 replace hp := PrgS_le hext2.le hp
 replace ho := Ints_le hext2.le ho
 refine Va J J ?_;refine S_call Tryz.call19 (c_iWholeOk p o _ _ _ hp ho) J J J ?_;rintro v3 G3 ⟨rfl, rfl⟩ _
 refine Va J J ?_;refine S_call Tryz.call12 (c_iMarksOf p q _ _ _ hp hq) J J J ?_;rintro v4 G4 hm4 hext4
 obtain ⟨Am, cm, rfl, _⟩ := id hm4
 replace hp := PrgS_le hext4.le hp
 replace ho := Ints_le hext4.le ho
 replace hq := Ints_le hext4.le hq
 refine Va J J ?_;refine S_call Tryz.call20 (c_sWholeOk p o _ _ _ hp ho) J J J ?_;rintro v5 G5 ⟨rfl, rfl⟩ _
 have hord := fun h => marksL_ord (p := p) (o := o) q hp.2.1 h
 generalize hok : wholeOk p o = ok at hord ⊢
 refine Va J J ?_;refine S_valV J J J (V_neqB g_bool u_bool J J) ?_;refine Va J J ?_;refine GF J J (by simp) ?_;refine Va J J ?_;refine S_call Tryz.call14 (c_sMarksOf p q _ _ _ hp hq) J J J ?_;rintro v6 G6 hm6 hext6
 obtain ⟨Am6, cm6, rfl, _⟩ := id hm6
 have hml := marksL_len p q
 replace hm4 := Mks_le hext6.le hm4
 generalize hms : marksL p q = ms at hm4 hm6 hml hord ⊢
 refine Va J J ?_
 cases ok
 ·refine RT J (by simp) ?_
  refine Va J J ?_
  replace hp := PrgS_le hext6.le hp
  replace ho := Ints_le hext6.le ho
  replace hq := Ints_le hext6.le hq
  refine S_call Tryz.call20 (c_sWholeOk p o _ _ _ hp ho) J J J ?_;rintro v7 G7 ⟨rfl, rfl⟩ _
  refine Va J J ?_;refine S_valV J J J (V_eqB g_bool u_bool J J) ?_;refine Va J J ?_;refine GT J J (by simp [hok]) ?_;refine Va J J ?_;refine S_call Tryz.call14 (c_sMarksOf p q _ _ _ hp hq) J J J ?_;rintro v8 G8 hm8 hext8
  obtain ⟨Am8, cm8, rfl, _⟩ := id hm8
  rw [hms] at hm8 ⊢
  refine Va J J ?_;exact S_retp (Res.t1 Tryz.results8 J J) ((((hext1.trans hext2).trans hext4).trans hext6).trans hext8) (by simp)
 replace hord := hord rfl
 refine RF J (by simp) ?_;refine Va J J ?_;refine S_loop (α := Nat) (fun i => i ≤ ms.length) (fun i => ms.length - i) []
  (fun i => [(9, .val (.int .i64 (i : Nat))), (8, .val (.slice Am ms.length cm))]) (fun _ => []) (fun _ => G6) 0 (Nat.zero_le _) rfl ⟨⟨_, rfl, rfl⟩, ⟨_, rfl, rfl⟩, trivial⟩ .nil ?_
 intro i hi
 refine Va J J ?_
 refine S_condp J (fun h5 => ?_) (fun h5 => ?_) <;> refine Va J J ?_
 rotate_left
 ·exact S_retp (Res.t1 Tryz.results8 J J) (((hext1.trans hext2).trans hext4).trans hext6) J
 refine S_add J J J J (by omega) ?_;refine Va J J ?_;refine S_loop (α := Nat) (fun j => i < j ∧ j ≤ ms.length) (fun j => ms.length - j) []
  (fun j => [(10, .val (.int .i64 (j : Nat))), (8, .val (.slice Am ms.length cm)), (9, .val (.int .i64 (i : Nat)))])
  (fun _ => []) (fun _ => G6) (i + 1) ⟨by omega, by omega⟩ rfl ⟨⟨_, rfl, by simp [denO]⟩, ⟨_, rfl, rfl⟩, ⟨_, rfl, rfl⟩, trivial⟩ .nil ?_
 rintro j ⟨hj1, hj2⟩
 refine Va J J ?_
 refine S_condp J (fun h6 => ?_) (fun h6 => ?_) <;> refine Va J J ?_
 ·have hil : i < ms.length := by omega
  have hjl : j < ms.length := by omega
  have hij := List.pairwise_iff_getElem.1 hord i j hil hjl hj1
  obtain ⟨ad, ca, rfl, hca, hma⟩ := mk_at hm4 hil
  obtain ⟨ad', cb, e, hcb, hmb⟩ := mk_at hm4 hjl
  cases e
  have hah := c_iMarkAhead _ _ _ _ G6 hma hmb
  generalize ms[i] = a at hma hah hij
  generalize ms[j] = b at hmb hah hij
  obtain ⟨Aa, ka, rfl, _⟩ := id hma
  obtain ⟨Ab, kb, rfl, _⟩ := id hmb
  refine Ds J J J ?_;refine Da J J ?_;refine D_val 2 J J J J J J J J J (V_index Tk J J J J (by omega) (by omega)) ?_;refine Da J J ?_;refine D_val 4 J J J J J J J J J (V_load Tk J J J (by simpa [add_add'] using gcells_at hca 3 _ J)) ?_;refine Da J J ?_;refine D_val 7 J J J J J J J J J (V_index Tk J J J J (by omega) (by omega)) ?_;refine Da J J ?_;refine D_val 9 J J J J J J J J J (V_load Tk J J J (by simpa [add_add'] using gcells_at hcb 3 _ J)) ?_
  refine Da J J ?_;refine D_split 87 J (fun _ => J) (fun hce => ?_) (fun hce => ?_)
  ·rw [hij (of_decide_eq_true hce)] at hah
   refine Da J J ?_;refine D_val 14 J J J J J J J J J (V_index Tk J J J J (by omega) (by omega)) ?_;refine Da J J ?_;refine D_val 15 J J J J J J J J J (V_loadA Tk J J J (by simpa using hca)) ?_;refine Da J J ?_;refine D_val 18 J J J J J J J J J (V_index Tk J J J J (by omega) (by omega)) ?_;refine Da J J ?_;refine D_val 19 J J J J J J J J J (V_loadA Tk J J J (by simpa using hcb)) ?_;refine Da J J ?_
   refine D_sole 20 J J (N_call 20 Tryz.call15 (hah) J J J J J J J J J J ?_)
   rintro v G' ⟨rfl, rfl⟩ _
   refine Da J J ?_;refine DD ?_;refine Va J J ?_;refine RF J (by simp) ?_;refine Va J J ?_;refine S_add J J J J (by omega) ?_;refine Va J J ?_;exact S_again (j + 1) ⟨by omega, by omega⟩ (by omega) J ⟨⟨_, J, by simp [denO]⟩, ⟨_, J, J⟩, ⟨_, J, J⟩, trivial⟩ .nil
  ·refine Da J J ?_
   refine DD ?_;refine Va J J ?_;refine S_add J J J J (by omega) ?_;refine Va J J ?_;exact S_again (j + 1) ⟨by omega, by omega⟩ (by omega) J ⟨⟨_, J, by simp [denO]⟩, ⟨_, J, J⟩, ⟨_, J, J⟩, trivial⟩ .nil
 ·refine S_add J J J J (by omega) ?_
  refine Va J J ?_;exact S_again (i + 1) (by omega) (by omega) J ⟨⟨_, J, by simp [denO]⟩, ⟨_, J, J⟩, trivial⟩ .nil
end
end Go.Proofs.YtphbcboejmhaoaaGreat
