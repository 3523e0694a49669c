/- Walks of the program's functions, one after the other (part 3); without conditions of their own. -/
import Derived.Test.YtblildkhbkmmdaaDoorWAM1
import Derived.Test.YtblildkhbkmmdaaDoorWAM2
import Derived.Laws.Concat
import Derived.Laws.CopyRow
import Derived.Laws.IdiomStrings
import Derived.Laws.Slices
import Derived.Laws.Strings
import Derived.Laws.Strings2
import Derived.Lib.ItoaLen
import Derived.Lib.Join
import Derived.Shelf.Bits.Mul64
import Derived.Shelf.LaysC
import Derived.Shelf.LaysM
import Derived.Shelf.Strconv.AtoiAll
import Derived.Shelf.Strconv.ErrVarAll
import Derived.Shelf.Strconv.Itoa3
import Derived.Shelf.Strings.OnBuilder
import Derived.Shelf.Strings.Split
import Derived.Test.YtblildkhbkmmdaaDoorProg
set_option linter.unusedVariables false
set_option linter.unusedSimpArgs false
set_option maxRecDepth 100000
set_option maxHeartbeats 4000000
open Go.RowKit
namespace Go.Proofs.YtblildkhbkmmdaaDoor
section
def wcell (H : PH) (a : Addr) : Option Value :=
 match H a.block with
 | some (.cells c _ f) => if f = (0, 0) ∧ a.spot = none then c[a.off]? else none
 | _ => none
theorem wcell_iff {H : PH} {a : Addr} {v : Value} : wcell H a = some v ↔ ∃ c t, H a.block = some (.cells c t (0, 0)) ∧ a.spot = none ∧ c[a.off]? = some v := by
 unfold wcell
 constructor
 ·intro h
  split at h
  ·rename_i c t f hb
   split at h
   ·rename_i hf
    obtain ⟨rfl, hs⟩ := hf
    exact ⟨c, t, hb, hs, h⟩
   ·cases h
  ·cases h
 ·rintro ⟨c, t, hb, hs, h⟩
  rw [hb]
  simp [hs, h]
theorem wcell_g {H : PH} {a : Addr} {v : Value} (h : wcell H a = some v) : gcell H a = some v := by
 obtain ⟨c, t, hb, hs, h⟩ := wcell_iff.1 h
 unfold gcell
 rw [hb]
 simp [hs, h]
theorem wcell_le {H H' : PH} (hl : H.le H') {a : Addr} {v : Value} (h : wcell H a = some v) : wcell H' a = some v := by
 obtain ⟨c, t, hb, hs, h⟩ := wcell_iff.1 h
 exact wcell_iff.2 ⟨c, t, hl _ _ hb, hs, h⟩
theorem wcell_some {H : PH} {a : Addr} {v : Value} (h : wcell H a = some v) : (H a.block).isSome = true := by
 obtain ⟨c, t, hb, hs, h⟩ := wcell_iff.1 h
 simp [hb]
inductive Shp where
 | int
 | sl (w : Nat) (cells : List Shp)
def ptrV : Value → Addr
 | .slice (some b) _ _ => b
 | _ => ⟨0, 0, none⟩
def ptrAt (H : PH) (a : Addr) : Addr := ((wcell H a).map ptrV).getD ⟨0, 0, none⟩
theorem ptrAt_eq {H : PH} {a : Addr} {v : Value} (h : wcell H a = some v) : ptrAt H a = ptrV v := by simp [ptrAt, h]
mutual
def Lies (H : PH) : Shp → Value → Prop
 | .int, v => ∃ n, v = .int .i64 n
 | .sl w cells, v => ∃ A n c, v = .slice A n c ∧ cells.length = n * w ∧ n ≤ 1000000000 ∧ n ≤ c ∧ c ≤ maxLen ∧ (n = 0 ∨ ∃ ad, A = some ad ∧ LiesR H cells ad)
def LiesR (H : PH) : List Shp → Addr → Prop
 | [], _ => True
 | s :: r, ad => (∃ v, wcell H ad = some v ∧ Lies H s v) ∧ LiesR H r (ad.add 1)
end
mutual
def adsC (H : PH) : Shp → Addr → List Addr
 | .int, ad => [ad]
 | .sl w cells, ad => adsR H cells (ptrAt H ad)
def adsR (H : PH) : List Shp → Addr → List Addr
 | [], _ => []
 | s :: r, ad => adsC H s ad ++ adsR H r (ad.add 1)
end
def adsV (H : PH) : Shp → Value → List Addr
 | .int, _ => []
 | .sl _ cells, v => adsR H cells (ptrV v)
mutual
def numC : Shp → Nat
 | .int => 1
 | .sl _ cells => numR cells
def numR : List Shp → Nat
 | [] => 0
 | s :: r => numC s + numR r
end
def numV : Shp → Nat
 | .int => 0
 | .sl _ cells => numR cells
mutual
theorem adsC_len (H : PH) : ∀ (s : Shp) (ad : Addr), (adsC H s ad).length = numC s
 | .int, ad => by simp [adsC, numC]
 | .sl w cells, ad => by simp only [adsC, numC]; exact adsR_len H cells _
theorem adsR_len (H : PH) : ∀ (r : List Shp) (ad : Addr), (adsR H r ad).length = numR r
 | [], ad => by simp [adsR, numR]
 | s :: r, ad => by simp only [adsR, numR, List.length_append, adsC_len H s, adsR_len H r]
end
theorem adsV_len (H : PH) (s : Shp) (v : Value) : (adsV H s v).length = numV s := by
 cases s
 ·rfl
 ·exact adsR_len H _ _
theorem adsR_append (H : PH) : ∀ (r s : List Shp) (ad : Addr), adsR H (r ++ s) ad = adsR H r ad ++ adsR H s (ad.add r.length)
 | [], s, ad => by simp [adsR, add_zero']
 | x :: r, s, ad => by
  simp only [List.cons_append, adsR, adsR_append H r s, List.append_assoc, List.length_cons, add_add']
  rw [Nat.add_comm 1]
theorem numR_append : ∀ (r s : List Shp), numR (r ++ s) = numR r + numR s
 | [], s => by simp [numR]
 | x :: r, s => by simp only [List.cons_append, numR, numR_append r s]; omega
theorem LiesR_append {H : PH} : ∀ {r s : List Shp} {ad : Addr}, LiesR H (r ++ s) ad ↔ LiesR H r ad ∧ LiesR H s (ad.add r.length)
 | [], s, ad => by simp [LiesR, add_zero']
 | x :: r, s, ad => by
  simp only [List.cons_append, LiesR, LiesR_append (r := r), List.length_cons, add_add', and_assoc]
  rw [Nat.add_comm 1]
def Tn (H H' : PH) : Prop := ∀ a v, wcell H a = some v → wcell H' a = some v ∨ ∃ n m, v = .int .i64 n ∧ wcell H' a = some (.int .i64 m)
theorem Tn.refl (H : PH) : Tn H H := fun a v h => .inl h
theorem Tn.of_le {H H' : PH} (h : H.le H') : Tn H H' := fun a v hv => .inl (wcell_le h hv)
theorem Tn.trans {H H1 H2 : PH} (h : Tn H H1) (h' : Tn H1 H2) : Tn H H2 := by
 intro a v hv
 rcases h a v hv with h1 | ⟨n, m, rfl, h1⟩
 ·exact h' a v h1
 ·rcases h' a _ h1 with h2 | ⟨n', m', e, h2⟩
  ·exact .inr ⟨n, m, J, h2⟩
  ·exact .inr ⟨n, m', J, h2⟩
theorem Tn.slice {H H' : PH} (h : Tn H H') {a : Addr} {A : Option Addr} {n c : Nat} (hv : wcell H a = some (.slice A n c)) : wcell H' a = some (.slice A n c) := by
 rcases h a _ hv with h1 | ⟨_, _, e, _⟩
 ·exact h1
 ·cases e
mutual
theorem Lies_tn {H H' : PH} (h : Tn H H') : ∀ (s : Shp) (v : Value), Lies H s v → Lies H' s v
 | .int, v, hv => by simpa [Lies] using hv
 | .sl w cells, v, hv => by
  simp only [Lies] at hv ⊢
  obtain ⟨A, n, c, e, h1, h2, h3, h4, h5⟩ := hv
  refine ⟨A, n, c, e, h1, h2, h3, h4, ?_⟩
  rcases h5 with h5 | ⟨ad, h5, h6⟩
  ·exact .inl h5
  ·exact .inr ⟨ad, h5, LiesR_tn h cells ad h6⟩
theorem LiesR_tn {H H' : PH} (h : Tn H H') : ∀ (r : List Shp) (ad : Addr), LiesR H r ad → LiesR H' r ad
 | [], ad, _ => by simp [LiesR]
 | .int :: r, ad, hr => by
  simp only [LiesR] at hr ⊢
  obtain ⟨⟨v, h1, h2⟩, h3⟩ := hr
  refine ⟨?_, LiesR_tn h r _ h3⟩
  rcases h ad v h1 with h4 | ⟨n, m, rfl, h4⟩
  ·exact ⟨v, h4, by simpa [Lies] using h2⟩
  ·exact ⟨_, h4, by simp only [Lies]; exact ⟨m, J⟩⟩
 | .sl w cells :: r, ad, hr => by
  simp only [LiesR] at hr ⊢
  obtain ⟨⟨v, h1, h2⟩, h3⟩ := hr
  have h2' := Lies_tn h (.sl w cells) v h2
  refine ⟨?_, LiesR_tn h r _ h3⟩
  obtain ⟨A, n, c, rfl, _⟩ := (show ∃ A n c, v = .slice A n c ∧ _ by simpa only [Lies] using h2)
  exact ⟨_, h.slice h1, h2'⟩
end
theorem ptrAt_tn {H H' : PH} (h : Tn H H') {a : Addr} {w : Nat} {cells : List Shp} {v : Value} (hv : wcell H a = some v) (hl : Lies H (.sl w cells) v) : ptrAt H' a = ptrAt H a := by
 obtain ⟨A, n, c, rfl, _⟩ := (show ∃ A n c, v = .slice A n c ∧ _ by simpa only [Lies] using hl)
 rw [ptrAt_eq hv, ptrAt_eq (h.slice hv)]
theorem Lies_sl {H : PH} {w : Nat} {cells : List Shp} {v : Value} (h : Lies H (.sl w cells) v) : ∃ A n c, v = .slice A n c ∧ cells.length = n * w ∧ n ≤ 1000000000 ∧ n ≤ c ∧ c ≤ maxLen ∧ LiesR H cells (ptrV v) := by
 simp only [Lies] at h
 obtain ⟨A, n, c, rfl, h1, h2, h3, h4, h5⟩ := h
 refine ⟨A, n, c, J, h1, h2, h3, h4, ?_⟩
 rcases h5 with rfl | ⟨ad, rfl, h6⟩
 ·have : cells = [] := List.eq_nil_of_length_eq_zero (by rw [h1]; simp)
  subst this
  simp [LiesR]
 ·exact h6
mutual
theorem adsC_tn {H H' : PH} (h : Tn H H') : ∀ (s : Shp) (ad : Addr) (v : Value), wcell H ad = some v → Lies H s v → adsC H' s ad = adsC H s ad
 | .int, ad, v, _, _ => by simp [adsC]
 | .sl w cells, ad, v, hv, hl => by
  simp only [adsC]
  rw [ptrAt_tn h hv hl]
  obtain ⟨A, n, c, rfl, _, _, _, _, h6⟩ := Lies_sl hl
  rw [ptrAt_eq hv]
  exact adsR_tn h cells _ h6
theorem adsR_tn {H H' : PH} (h : Tn H H') : ∀ (r : List Shp) (ad : Addr), LiesR H r ad → adsR H' r ad = adsR H r ad
 | [], ad, _ => by simp [adsR]
 | s :: r, ad, hr => by
  simp only [LiesR] at hr
  obtain ⟨⟨v, h1, h2⟩, h3⟩ := hr
  simp only [adsR]
  rw [adsC_tn h s ad v h1 h2, adsR_tn h r _ h3]
end
theorem adsV_tn {H H' : PH} (h : Tn H H') {s : Shp} {v : Value} (hl : Lies H s v) : adsV H' s v = adsV H s v := by
 cases s with
 | int => rfl
 | sl w cells =>
  obtain ⟨A, n, c, rfl, _, _, _, _, h6⟩ := Lies_sl hl
  exact adsR_tn h cells _ h6
def isInt (H : PH) (a : Addr) : Prop := ∃ n, wcell H a = some (.int .i64 n)
mutual
theorem adsC_int {H : PH} : ∀ (s : Shp) (ad : Addr) (v : Value), wcell H ad = some v → Lies H s v → ∀ a ∈ adsC H s ad, isInt H a
 | .int, ad, v, hv, hl, a, ha => by
  simp only [adsC, List.mem_singleton] at ha
  subst ha
  simp only [Lies] at hl
  obtain ⟨n, rfl⟩ := hl
  exact ⟨n, hv⟩
 | .sl w cells, ad, v, hv, hl, a, ha => by
  simp only [adsC] at ha
  rw [ptrAt_eq hv] at ha
  obtain ⟨A, n, c, rfl, _, _, _, _, h6⟩ := Lies_sl hl
  exact adsR_int cells _ h6 a ha
theorem adsR_int {H : PH} : ∀ (r : List Shp) (ad : Addr), LiesR H r ad → ∀ a ∈ adsR H r ad, isInt H a
 | [], ad, _, a, ha => by simp [adsR] at ha
 | s :: r, ad, hr, a, ha => by
  simp only [LiesR] at hr
  obtain ⟨⟨v, h1, h2⟩, h3⟩ := hr
  simp only [adsR, List.mem_append] at ha
  rcases ha with ha | ha
  ·exact adsC_int s ad v h1 h2 a ha
  ·exact adsR_int r _ h3 a ha
end
theorem adsV_int {H : PH} {s : Shp} {v : Value} (hl : Lies H s v) : ∀ a ∈ adsV H s v, isInt H a := by
 cases s with
 | int => intro a ha; cases ha
 | sl w cells =>
  obtain ⟨A, n, c, rfl, _, _, _, _, h6⟩ := Lies_sl hl
  exact adsR_int cells _ h6
def PH.setC (H : PH) (a : Addr) (v : Value) : PH := fun b => if b = a.block then (match H b with
 | some (.cells c t f) => some (.cells (c.setIfInBounds a.off v) t f)
 | o => o) else H b
theorem setC_at {H : PH} {a : Addr} {u v : Value} (h : wcell H a = some u) : wcell (H.setC a v) a = some v := by
 obtain ⟨c, t, hb, hs, h⟩ := wcell_iff.1 h
 have hlt := (Array.getElem?_eq_some_iff.1 h).1
 refine wcell_iff.2 ⟨c.setIfInBounds a.off v, t, ?_, hs, ?_⟩
 ·simp only [PH.setC, if_true, hb]
 ·simp [hlt]
theorem setC_ne {H : PH} {a b : Addr} {u x v : Value} (ha : wcell H a = some u) (h : wcell H b = some x) (hne : b ≠ a) : wcell (H.setC a v) b = some x := by
 obtain ⟨c, t, hb, hs, h⟩ := wcell_iff.1 h
 obtain ⟨c', t', hb', hs', h'⟩ := wcell_iff.1 ha
 by_cases e : b.block = a.block
 ·have ho : a.off ≠ b.off := fun e' => hne (by cases a; cases b; simp_all)
  refine wcell_iff.2 ⟨c.setIfInBounds a.off v, t, ?_, hs, ?_⟩
  ·unfold PH.setC; rw [if_pos e, hb]
  ·rw [Array.getElem?_setIfInBounds_ne ho]; exact h
 ·refine wcell_iff.2 ⟨c, t, ?_, hs, h⟩
  unfold PH.setC; rw [if_neg e]; exact hb
theorem setC_tn {H : PH} {a : Addr} {k : Int} (ha : isInt H a) : Tn H (H.setC a (.int .i64 k)) := by
 obtain ⟨n, h⟩ := ha
 intro b v hv
 by_cases e : b = a
 ·subst e
  rw [h] at hv; cases hv
  exact .inr ⟨n, k, J, setC_at h⟩
 ·exact .inl (setC_ne h hv e)
theorem setC_else {H : PH} {a : Addr} {v : Value} {b : Nat} (h : b ≠ a.block) : (H.setC a v) b = H b := by unfold PH.setC; rw [if_neg h]
theorem setC_some {H : PH} {a : Addr} {v : Value} {b : Nat} : ((H.setC a v) b).isSome = (H b).isSome := by
 unfold PH.setC
 split
 ·split
  ·rename_i h; rw [h]; rfl
  ·rfl
 ·rfl
def wr : PH → List Addr → Int → PH
 | H, [], _ => H
 | H, a :: qs, k => wr (H.setC a (.int .i64 k)) qs (k + 1)
theorem wr_append : ∀ (H : PH) (qs rs : List Addr) (k : Int), wr H (qs ++ rs) k = wr (wr H qs k) rs (k + qs.length)
 | H, [], rs, k => by simp [wr]
 | H, a :: qs, rs, k => by
  simp only [List.cons_append, wr, wr_append _ qs rs, List.length_cons]
  congr 1
  omega
theorem isInt_tn {H H' : PH} (h : Tn H H') {a : Addr} (ha : isInt H a) : isInt H' a := by
 obtain ⟨n, hn⟩ := ha
 rcases h a _ hn with h1 | ⟨_, m, _, h1⟩
 ·exact ⟨n, h1⟩
 ·exact ⟨m, h1⟩
theorem wr_tn : ∀ (qs : List Addr) (H : PH) (k : Int), (∀ a ∈ qs, isInt H a) → 0 ≤ k → k + qs.length ≤ 4611686018427387904 → Tn H (wr H qs k)
 | [], H, k, _, _, _ => Tn.refl H
 | a :: qs, H, k, h, h0, h1 => by
  simp only [List.length_cons] at h1
  have t1 := setC_tn (h a (List.mem_cons_self ..)) (k := k)
  exact t1.trans (wr_tn qs _ (k + 1) (fun b hb => isInt_tn t1 (h b (List.mem_cons_of_mem _ hb))) (by omega) (by omega))
theorem wr_out : ∀ (qs : List Addr) (H : PH) (k : Int) {b : Addr} {v : Value}, (∀ a ∈ qs, isInt H a) → 0 ≤ k → k + qs.length ≤ 4611686018427387904 → b ∉ qs → wcell H b = some v → wcell (wr H qs k) b = some v
 | [], H, k, b, v, _, _, _, _, hv => hv
 | a :: qs, H, k, b, v, h, h0, h1, hb, hv => by
  simp only [List.length_cons] at h1
  have t1 := setC_tn (h a (List.mem_cons_self ..)) (k := k)
  obtain ⟨n, ha⟩ := h a (List.mem_cons_self ..)
  exact wr_out qs _ (k + 1) (fun b hb => isInt_tn t1 (h b (List.mem_cons_of_mem _ hb))) (by omega) (by omega) (fun hm => hb (List.mem_cons_of_mem _ hm)) (setC_ne ha hv (fun e => hb (by rw [e]; exact List.mem_cons_self ..)))
theorem wr_at : ∀ (qs : List Addr) (H : PH) (k : Int), (∀ a ∈ qs, isInt H a) → 0 ≤ k → k + qs.length ≤ 4611686018427387904 → qs.Nodup → ∀ i (hi : i < qs.length), wcell (wr H qs k) qs[i] = some (.int .i64 (k + i))
 | a :: qs, H, k, h, h0, h1, hd, i, hi => by
  simp only [List.length_cons] at h1
  have t1 := setC_tn (h a (List.mem_cons_self ..)) (k := k)
  obtain ⟨n, ha⟩ := h a (List.mem_cons_self ..)
  have hn := (List.nodup_cons.1 hd)
  have hint : ∀ b ∈ qs, isInt (H.setC a (.int .i64 k)) b := fun b hb => isInt_tn t1 (h b (List.mem_cons_of_mem _ hb))
  cases i with
  | zero =>
   simp only [List.getElem_cons_zero, wr]
   rw [wr_out qs _ (k + 1) hint (by omega) (by omega) hn.1 (setC_at ha)]
   simp
  | succ i =>
   have hi' : i < qs.length := by simpa using hi
   have := wr_at qs _ (k + 1) hint (by omega) (by omega) hn.2 i hi'
   simp only [List.getElem_cons_succ, wr]
   rw [this]
   congr 2
   omega
theorem wr_some : ∀ (qs : List Addr) (H : PH) (k : Int) {b : Nat}, ((wr H qs k) b).isSome = (H b).isSome
 | [], H, k, b => rfl
 | a :: qs, H, k, b => by simp only [wr]; rw [wr_some qs, setC_some]
end
section
section
variable {C : Ctx} {k : List It} {E : Env} {ι : Ids} {L : List Ent} {G : PH} {all : Array Oper} {l : List Oper}
theorem set_mid {l : List Value} {o : Nat} {v : Value} (h : o < l.length) : l.take o ++ [v] ++ l.drop (o + 1) = l.set o v := by
 rw [List.set_eq_take_append_cons_drop, if_pos h]; simp
theorem S_storeO {T : Tab} (hT : tabOk C.P T) (κ : Nat) {base e sz t : Nat} {i : TyI} {x y : Operand} {s : Sym} {gb off o n c ty : Nat} {v : Value} {xs : List Value} {L' : List Ent} {pos : String} {af : Array Edge} {g : Option (Nat × Bool)} {ad : Addr}
  (hL : getH κ L = some (rowO base e sz (some ⟨gb, off, none⟩) n c xs)) (hL' : setH κ (rowO base e sz (some ⟨gb, off, none⟩) n c (xs.set o v)) L = some L')
  (hx : ev E x = some (.val (.pointer (some ad)))) (had : ad = ⟨gb, off + o, none⟩) (hy : ev E y = some s) (hys : denO ι s = some v) (hone : v.oneCell' = true) (ht : lookT t T = some i) (hsz : i.size = 1) (ho : o < xs.length) (hg : guardOf all E g = .on)
  (hk : X C (.ops all l :: k) E ι L' G) : X C (.ops all (⟨none, .store t x y, ty, pos, af, g⟩ :: l) :: k) E ι L G := by
 intro a w h1 h2 h3 h4
 obtain ⟨S, hA, hSG, hturn⟩ := h4.turn hL
 obtain ⟨q1, q2, q3, q4⟩ := hA
 rcases q4 with ⟨q, _⟩ | ⟨g', off', cur, q, q0, q5, q6, q7, q8⟩
 ·cases q
 cases q
 have ex := ev_sound h3 hx
 have ey := ev_sound h3 hy
 subst had
 rw [hys] at ey
 simp only [denO, Option.some.injEq] at ex ey
 have hfit : off + o + [v].length ≤ cur.toList.length := by
  have h6 : xs.length ≤ cur.toList.length - off := by
   have := congrArg List.length q7
   simp only [List.length_take, List.length_drop] at this
   omega
  simp only [List.length_singleton]
  omega
 obtain ⟨w', hr, hh', hoth, e1, e2, e3, e4⟩ := run_storeCells_blk (P := C.P) (w := w) (b := gb) (o := off + o) (ty := e) (cs := cur.toList) (vs := [v]) (by simpa using q5) hfit (by intro u hu; rw [List.mem_singleton.1 hu]; exact hone)
 have hrun : (execOp a.eval ⟨none, .store t x y, ty, pos, af, g⟩).run C.P w = .ok .skip w' := by
  have hcells : (a.eval y).cells = [v].toArray := by
   rw [← ey]; exact oneCell_of (P := C.P) hone
  simp only [execOp, ← ex]
  simp [Instr.storeAt, Instr.sureAddr, storeVar, tyOk_size (hT _ _ ht), hsz, hcells]
  rw [hr]
  try simp
 refine wpE_skipv (guardOf_on h3 hg) (by rintro c h; cases h) hrun ?_;refine hk _ _ h1 h2 h3 ?_;refine hturn _ _ G w' S hL' ?_ (fun b o' hb => ?_) XR (fun b hb => ⟨hSG b hb, .inl hb⟩) e1 e2 e3 (by rw [e4]; exact Nat.le_refl _) fun b _ hn => hoth b fun h => hn ((q8 b).2 h)
 ·refine ⟨by simpa using q1, q2, q3, .inr ⟨gb, off, _, J, q0, hh', ?_, ?_, q8⟩⟩
  ·simp at hfit ⊢; omega
  ·rw [List.length_singleton, set_mid (by simp at hfit ⊢; omega)]
   simp only [List.toList_toArray, List.length_set]
   rw [List.drop_set, if_neg (by omega), List.take_set, q7]
   congr 1
   omega
 ·rw [hoth b (by rintro rfl; have := hSG _ ((q8 _).2 rfl); rw [this] at hb; cases hb)]
  exact h4.emb b o' hb
end
theorem V_loadR' {C : Ctx} {ι : Ids} {E : Env} {L : List Ent} {G : PH} {d : Option Nat} {ty : Nat} {pos : String} {af : Array Edge} {g : Option (Nat × Bool)} {T : Tab} (hT : tabOk C.P T) (κ : Nat) {t : Nat} {i : TyI} {x : Operand} {gb off o : Nat} {v : Value} {base e sz : Nat} {n c : Nat} {xs : List Value} {ad : Addr}
  (hL : getH κ L = some (rowO base e sz (some ⟨gb, off, none⟩) n c xs)) (hx : ev E x = some (.val (.pointer (some ad)))) (had : ad = ⟨gb, off + o, none⟩) (ht : lookT t T = some i) (hk0 : i.k.isAgg = false) (hc : xs[o]? = some v) : Vl C ι E L G ⟨d, .load t x, ty, pos, af, g⟩ v := by
 subst had
 exact V_loadR hT κ hL hx ht hk0 hc
end
section
section
variable {C : Ctx} {k : List It} {E : Env} {ι : Ids} {L : List Ent} {G : PH} {all : Array Oper} {l : List Oper}
theorem S_storeH {T : Tab} (hT : tabOk C.P T) (κ : Nat) {H : PH} {t : Nat} {i : TyI} {x y : Operand} {s : Sym} {ty : Nat} {u v : Value} {L' : List Ent} {pos : String} {af : Array Edge} {g : Option (Nat × Bool)} {ad : Addr}
  (hL : getH κ L = some (frzHP H)) (hL' : setH κ (frzHP (H.setC ad v)) L = some L')
  (hx : ev E x = some (.val (.pointer (some ad)))) (hy : ev E y = some s) (hys : denO ι s = some v) (hone : v.oneCell' = true) (ht : lookT t T = some i) (hsz : i.size = 1) (hc : wcell H ad = some u) (hg : guardOf all E g = .on)
  (hk : X C (.ops all l :: k) E ι L' G) : X C (.ops all (⟨none, .store t x y, ty, pos, af, g⟩ :: l) :: k) E ι L G := by
 intro a w h1 h2 h3 h4
 obtain ⟨S, ⟨q1, q2⟩, hSG, hturn⟩ := h4.turn hL
 have ex := ev_sound h3 hx
 have ey := ev_sound h3 hy
 rw [hys] at ey
 simp only [denO, Option.some.injEq] at ex ey
 obtain ⟨cur, e, hb, hs, hcv⟩ := wcell_iff.1 hc
 obtain ⟨gb, o, sp⟩ := ad
 simp only at hs hb hcv
 subst hs
 have hlt := (Array.getElem?_eq_some_iff.1 hcv).1
 have q5 := q1 _ _ hb
 obtain ⟨w', hr, hh', hoth, e1, e2, e3, e4⟩ := run_storeCells_blk (P := C.P) (w := w) (b := gb) (o := o) (ty := e) (cs := cur.toList) (vs := [v]) (by simpa using q5) (by simp; omega) (by intro u hu; rw [List.mem_singleton.1 hu]; exact hone)
 have hrun : (execOp a.eval ⟨none, .store t x y, ty, pos, af, g⟩).run C.P w = .ok .skip w' := by
  have hcells : (a.eval y).cells = [v].toArray := by
   rw [← ey]; exact oneCell_of (P := C.P) hone
  simp only [execOp, ← ex]
  simp [Instr.storeAt, Instr.sureAddr, storeVar, tyOk_size (hT _ _ ht), hsz, hcells]
  rw [hr]
  try simp
 refine wpE_skipv (guardOf_on h3 hg) (by rintro c h; cases h) hrun ?_;refine hk _ _ h1 h2 h3 ?_
 have hSb : S gb := (q2 gb).2 (by rw [hb]; rfl)
 refine hturn _ _ G w' S hL' ?_ (fun b o' hbG => ?_) XR (fun b hb => ⟨hSG b hb, .inl hb⟩) e1 e2 e3 (by rw [e4]; exact Nat.le_refl _) fun b _ hn => hoth b fun h => hn (h ▸ hSb)
 ·refine ⟨fun b o' hbo => ?_, fun b => by rw [setC_some]; exact q2 b⟩
  by_cases eb : b = gb
  ·subst eb
   simp only [PH.setC, if_true, hb, Option.some.injEq] at hbo
   subst hbo
   rw [hh']
   congr 2
   rw [List.length_singleton, set_mid (by simpa using hlt)]
   apply Array.toList_inj.1
   simp
  ·rw [setC_else (by exact eb)] at hbo
   rw [hoth b eb]
   exact q1 b o' hbo
 ·rw [hoth b (by rintro rfl; have h9 := hSG _ hSb; rw [h9] at hbG; cases hbG)]
  exact h4.emb b o' hbG
end
def tcI (n : Nat) : List Shp := List.replicate n .int
theorem numR_I (n : Nat) : numR (tcI n) = n := by
 induction n with
 | zero => rfl
 | succ n ih =>
  rw [show tcI (n + 1) = .int :: tcI n from rfl]
  simp only [numR, ih, numC]; omega
end
section
def WR (H : PH) (cells : List Shp) (ad : Addr) (k : Int) (m : Nat) : PH := wr H (adsR H (cells.take m) ad) k
def KR (k : Int) (cells : List Shp) (m : Nat) : Int := k + numR (cells.take m)
theorem WR_zero (H : PH) (cells : List Shp) (ad : Addr) (k : Int) : WR H cells ad k 0 = H := by simp [WR, adsR, wr]
theorem KR_zero (k : Int) (cells : List Shp) : KR k cells 0 = k := by simp [KR, numR]
theorem WR_all {H : PH} {cells : List Shp} {ad : Addr} {k : Int} {m : Nat} (h : cells.length ≤ m) : WR H cells ad k m = wr H (adsR H cells ad) k := by rw [WR, List.take_of_length_le h]
theorem KR_all {k : Int} {cells : List Shp} {m : Nat} (h : cells.length ≤ m) : KR k cells m = k + numR cells := by rw [KR, List.take_of_length_le h]
theorem take_cell {cells : List Shp} {m : Nat} {c : Shp} (h : cells[m]? = some c) : cells.take (m + 1) = cells.take m ++ [c] ∧ cells = cells.take m ++ c :: cells.drop (m + 1) ∧ (cells.take m).length = m := by
 obtain ⟨hm, rfl⟩ := List.getElem?_eq_some_iff.1 h
 refine ⟨List.take_succ_eq_append_getElem hm, ?_, by simp; omega⟩
 conv => lhs; rw [← List.take_append_drop m cells, List.drop_eq_getElem_cons hm]
theorem WR_succ {H : PH} {cells : List Shp} {ad : Addr} {k : Int} {m : Nat} {c : Shp} (h : cells[m]? = some c) : WR H cells ad k (m + 1) = wr (WR H cells ad k m) (adsC H c (ad.add m)) (KR k cells m) := by
 obtain ⟨h1, _, h3⟩ := take_cell h
 unfold WR KR
 rw [h1, adsR_append, wr_append, h3, adsR_len]
 simp [adsR]
theorem KR_succ {k : Int} {cells : List Shp} {m : Nat} {c : Shp} (h : cells[m]? = some c) : KR k cells (m + 1) = KR k cells m + numC c := by
 obtain ⟨h1, _, h3⟩ := take_cell h
 unfold KR
 rw [h1, numR_append]
 simp [numR]
 omega
theorem numR_take (cells : List Shp) (m : Nat) : numR (cells.take m) ≤ numR cells := by
 conv => rhs; rw [← List.take_append_drop m cells, numR_append]
 omega
structure MkC (H : PH) (cells : List Shp) (ad : Addr) (k : Int) : Prop where
 lies : LiesR H cells ad
 k0 : 0 ≤ k
 kb : k + numR cells ≤ 1152921504606846976
theorem MkC.tn {H : PH} {cells : List Shp} {ad : Addr} {k : Int} (h : MkC H cells ad k) (m : Nat) : Tn H (WR H cells ad k m) := by
 have hb := h.kb
 have h0 := h.k0
 have ht := numR_take cells m
 refine wr_tn _ _ _ (fun a ha => ?_) h0 (by rw [adsR_len]; omega)
 have hl : LiesR H (cells.take m ++ cells.drop m) ad := by rw [List.take_append_drop]; exact h.lies
 exact adsR_int _ _ (LiesR_append.1 hl).1 a ha
theorem MkC.bnd {H : PH} {cells : List Shp} {ad : Addr} {k : Int} (h : MkC H cells ad k) (m : Nat) : 0 ≤ KR k cells m ∧ KR k cells m ≤ 1152921504606846976 := by
 have hb := h.kb
 have h0 := h.k0
 have ht := numR_take cells m
 unfold KR
 omega
theorem MkC.at {H : PH} {cells : List Shp} {ad : Addr} {k : Int} (h : MkC H cells ad k) {m : Nat} {c : Shp} (hm : cells[m]? = some c) : ∃ v, wcell H (ad.add m) = some v ∧ Lies H c v := by
 obtain ⟨_, h2, h3⟩ := take_cell hm
 have hl := h.lies
 rw [h2] at hl
 have := (LiesR_append.1 hl).2
 rw [h3] at this
 simp only [LiesR] at this
 exact this.1
theorem MkC.int {H : PH} {cells : List Shp} {ad : Addr} {k : Int} (h : MkC H cells ad k) (m : Nat) (a : Addr) (ha : a = ad.add m) (hm : cells[m]? = some .int) :
  (∃ u, wcell (WR H cells ad k m) a = some u) ∧ (WR H cells ad k m).setC a (.int .i64 (KR k cells m)) = WR H cells ad k (m + 1) ∧ KR k cells m + 1 = KR k cells (m + 1) ∧ 0 ≤ KR k cells m ∧ KR k cells m ≤ 1152921504606846976 := by
 subst ha
 obtain ⟨v, h1, h2⟩ := h.at hm
 refine ⟨?_, ?_, ?_, (h.bnd m).1, (h.bnd m).2⟩
 ·rcases h.tn m _ _ h1 with h3 | ⟨_, u, _, h3⟩
  ·exact ⟨_, h3⟩
  ·exact ⟨_, h3⟩
 ·rw [WR_succ hm]; simp [adsC, wr]
 ·rw [KR_succ hm]; simp [numC]
theorem MkC.sl {H : PH} {cells : List Shp} {ad : Addr} {k : Int} (h : MkC H cells ad k) (m : Nat) (a : Addr) (ha : a = ad.add m) {w : Nat} {cs : List Shp} (hm : cells[m]? = some (.sl w cs)) :
  ∃ v, wcell (WR H cells ad k m) a = some v ∧ Lies (WR H cells ad k m) (.sl w cs) v ∧ wr (WR H cells ad k m) (adsV (WR H cells ad k m) (.sl w cs) v) (KR k cells m) = WR H cells ad k (m + 1) ∧ KR k cells m + numV (.sl w cs) = KR k cells (m + 1) ∧ 0 ≤ KR k cells m ∧ KR k cells m + numV (.sl w cs) ≤ 1152921504606846976 := by
 subst ha
 obtain ⟨v, h1, h2⟩ := h.at hm
 have hs := KR_succ (k := k) hm
 have hb := h.bnd (m + 1)
 obtain ⟨A, n, c, rfl, _⟩ := Lies_sl h2
 refine ⟨_, (h.tn m).slice h1, Lies_tn (h.tn m) _ _ h2, ?_, by rw [hs]; rfl, (h.bnd m).1, by rw [hs] at hb; exact hb.2⟩
 rw [WR_succ hm, adsV_tn (h.tn m) h2]
 congr 1
 simp only [adsC, adsV]
 rw [ptrAt_eq h1]
theorem MkC.slc {H : PH} {cells : List Shp} {ad : Addr} {k : Int} (h : MkC H cells ad k) (m : Nat) (a : Addr) (ha : a = ad.add m) (c : Shp) (hc : ∃ w cs, c = .sl w cs) (hm : cells[m]? = some c) :
  ∃ v, wcell (WR H cells ad k m) a = some v ∧ Lies (WR H cells ad k m) c v ∧ wr (WR H cells ad k m) (adsV (WR H cells ad k m) c v) (KR k cells m) = WR H cells ad k (m + 1) ∧ KR k cells m + numV c = KR k cells (m + 1) ∧ 0 ≤ KR k cells m ∧ KR k cells m + numV c ≤ 1152921504606846976 := by
 obtain ⟨w, cs, rfl⟩ := hc
 exact h.sl m a ha hm
theorem Lies_slA {H : PH} {w : Nat} {cells : List Shp} {v : Value} (h : Lies H (.sl w cells) v) : ∃ A n c, v = .slice A n c ∧ cells.length = n * w ∧ n ≤ 1000000000 ∧ n ≤ c ∧ c ≤ maxLen ∧ (0 < n → ∃ ad, A = some ad) ∧ LiesR H cells (ptrV v) := by
 obtain ⟨A, n, c, rfl, h1, h2, h3, h4, h5⟩ := Lies_sl h
 refine ⟨A, n, c, rfl, h1, h2, h3, h4, fun hn => ?_, h5⟩
 simp only [Lies] at h
 obtain ⟨A', n', c', e, _, _, _, _, h6⟩ := h
 cases e
 rcases h6 with h6 | ⟨ad, h6, _⟩
 ·omega
 ·exact ⟨ad, h6⟩
theorem tcI_at {n i : Nat} (h : i < n) : (tcI n)[i]? = some .int := by unfold tcI; simp [h]
theorem tcI_len (n : Nat) : (tcI n).length = n := by simp [tcI]
def MkP (f : Nat) (s : Shp) : Prop := ∀ (H : PH) (v : Value) (k : Int) (G : PH), Lies H s v → 0 ≤ k → k + numV s ≤ 1152921504606846976 →
 Mod Tryd.prog f [v, .int .i64 k] G (frzHP H) fun v' G' A' => v' = .int .i64 (k + numV s) ∧ G' = G ∧ A' = frzHP (wr H (adsV H s v) k)
end
section
def Hd (G : PH) (qs : List Addr) (k : Int) : Prop := ∀ i (hi : i < qs.length), wcell G qs[i] = some (.int .i64 (k + i))
theorem Hd_append {G : PH} {qs rs : List Addr} {k : Int} : Hd G (qs ++ rs) k ↔ Hd G qs k ∧ Hd G rs (k + qs.length) := by
 constructor
 ·intro h
  refine ⟨fun i hi => ?_, fun i hi => ?_⟩
  ·have := h i (by rw [List.length_append]; omega)
   rwa [List.getElem_append_left hi] at this
  ·have := h (qs.length + i) (by rw [List.length_append]; omega)
   rw [List.getElem_append_right (by omega)] at this
   simp only [Nat.add_sub_cancel_left] at this
   rw [this]
   congr 2
   omega
 ·rintro ⟨h1, h2⟩ i hi
  rw [List.length_append] at hi
  rcases Nat.lt_or_ge i qs.length with h | h
  ·rw [List.getElem_append_left h]; exact h1 i h
  ·rw [List.getElem_append_right h, h2 (i - qs.length) (by omega)]
   congr 2
   omega
theorem Hd_wr {H : PH} {qs : List Addr} {k : Int} (h : ∀ a ∈ qs, isInt H a) (h0 : 0 ≤ k) (hb : k + qs.length ≤ 4611686018427387904) (hd : qs.Nodup) : Hd (wr H qs k) qs k :=
 fun i hi => wr_at qs H k h h0 hb hd i hi
theorem Hd_le {G G' : PH} (hl : G.le G') {qs : List Addr} {k : Int} (h : Hd G qs k) : Hd G' qs k := fun i hi => wcell_le hl (h i hi)
structure HdC (G : PH) (cells : List Shp) (ad : Addr) (k : Int) : Prop where
 lies : LiesR G cells ad
 k0 : 0 ≤ k
 kb : k + numR cells ≤ 1152921504606846976
 hd : Hd G (adsR G cells ad) k
theorem HdC.bnd {G : PH} {cells : List Shp} {ad : Addr} {k : Int} (h : HdC G cells ad k) (m : Nat) : 0 ≤ KR k cells m ∧ KR k cells m ≤ 1152921504606846976 := by
 have hb := h.kb
 have h0 := h.k0
 have ht := numR_take cells m
 unfold KR
 omega
theorem HdC.at {G : PH} {cells : List Shp} {ad : Addr} {k : Int} (h : HdC G cells ad k) {m : Nat} {c : Shp} (hm : cells[m]? = some c) : (∃ v, wcell G (ad.add m) = some v ∧ Lies G c v) ∧ Hd G (adsC G c (ad.add m)) (KR k cells m) := by
 obtain ⟨_, h2, h3⟩ := take_cell hm
 have hl := h.lies
 have hh := h.hd
 rw [h2] at hl
 rw [h2, adsR_append, Hd_append, h3] at hh
 have := (LiesR_append.1 hl).2
 rw [h3] at this
 simp only [LiesR] at this
 refine ⟨this.1, ?_⟩
 have h5 := hh.2
 simp only [adsR] at h5
 have h6 := (Hd_append.1 h5).1
 rw [adsR_len] at h6
 exact h6
theorem HdC.int {G : PH} {cells : List Shp} {ad : Addr} {k : Int} (h : HdC G cells ad k) (m : Nat) (a : Addr) (ha : a = ad.add m) (hm : cells[m]? = some .int) :
  wcell G a = some (.int .i64 (KR k cells m)) ∧ KR k cells m + 1 = KR k cells (m + 1) ∧ 0 ≤ KR k cells m ∧ KR k cells m ≤ 1152921504606846976 := by
 subst ha
 obtain ⟨_, h2⟩ := h.at hm
 refine ⟨?_, by rw [KR_succ hm]; simp [numC], (h.bnd m).1, (h.bnd m).2⟩
 have := h2 0 (by simp [adsC])
 simpa [adsC] using this
theorem HdC.slc {G : PH} {cells : List Shp} {ad : Addr} {k : Int} (h : HdC G cells ad k) (m : Nat) (a : Addr) (ha : a = ad.add m) (c : Shp) (hc : ∃ w cs, c = .sl w cs) (hm : cells[m]? = some c) :
  ∃ v, wcell G a = some v ∧ Lies G c v ∧ Hd G (adsV G c v) (KR k cells m) ∧ KR k cells m + numV c = KR k cells (m + 1) ∧ 0 ≤ KR k cells m ∧ KR k cells m + numV c ≤ 1152921504606846976 := by
 subst ha
 obtain ⟨w, cs, rfl⟩ := hc
 obtain ⟨⟨v, h1, h2⟩, h3⟩ := h.at hm
 have hs := KR_succ (k := k) hm
 have hb := h.bnd (m + 1)
 refine ⟨v, h1, h2, ?_, by rw [hs]; rfl, (h.bnd m).1, by rw [hs] at hb; exact hb.2⟩
 simp only [adsC] at h3
 rw [ptrAt_eq h1] at h3
 exact h3
def HdP (f : Nat) (s : Shp) : Prop := ∀ (G : PH) (v : Value) (k : Int), Lies G s v → 0 ≤ k → k + numV s ≤ 1152921504606846976 → Hd G (adsV G s v) k →
 Pure Tryd.prog f [v, .int .i64 k] G fun v' G' => v' = .int .i64 (k + numV s) ∧ G' = G
end
section
def intC : List Int → List Value
 | [] => []
 | n :: l => .int .i64 n :: intC l
theorem intC_length : ∀ l : List Int, (intC l).length = l.length
 | [] => rfl
 | _ :: l => by simp [intC, intC_length l]
theorem intC_append : ∀ l l' : List Int, intC (l ++ l') = intC l ++ intC l'
 | [], _ => rfl
 | n :: l, l' => by simp [intC, intC_append l l']
end
section
def Sx (G : PH) (sz : Nat) (v : Value) (n : Nat) (xs : List Value) : Prop :=
 ∃ A c, v = .slice A n c ∧ n ≤ 1000000000 ∧ n ≤ c ∧ c ≤ maxLen ∧ xs.length = n * sz ∧ (n = 0 ∨ ∃ a, A = some a ∧ gcells G a xs)
section
variable {α : Type} {G : PH} {sz : Nat} {rep : α → List Value → Prop}
theorem Sx_Sr {L : List α} {v : Value} {n : Nat} {xs : List Value} (h : Sx G sz v n xs) (hn : n = L.length) (hc : Cs sz rep L xs) : Sr G sz rep L v := by
 subst hn
 obtain ⟨A, c, h1, h2, h3, h4, h5, h6⟩ := h
 refine ⟨A, c, h1, h2, h3, h4, ?_⟩
 rcases h6 with h6 | ⟨a, h6, h7⟩
 ·exact .inl h6
 ·exact .inr ⟨a, h6, Rw_of hc h7⟩
end
theorem Sx_Ints {G : PH} {l : List Int} {v : Value} {n : Nat} (h : Sx G 1 v n (intC l)) (hn : n = l.length) (hi : ∀ n ∈ l, I64 n) : Ints G l v := by
 refine Sx_Sr h hn ?_
 clear h hn
 induction l with
 | nil => rfl
 | cons n l ih => exact ⟨[.int .i64 n], intC l, rfl, rfl, ⟨rfl, hi n (List.mem_cons_self ..)⟩, ih fun m hm => hi m (List.mem_cons_of_mem _ hm)⟩
theorem intC_snoc (l : List Int) (a : Int) : intC l ++ [.int .i64 a] = intC (l ++ [a]) := by simp [intC_append, intC]
section
variable {C : Ctx} {k : List It} {E : Env} {ι : Ids} {L : List Ent} {G : PH} {all : Array Oper} {l : List Oper}
end
end
section
attribute [local irreducible] X Pure Mod
section
variable {C : Ctx} {ι : Ids} {E : Env} {L : List Ent} {G : PH} {d : Option Nat} {ty : Nat} {pos : String} {af : Array Edge} {g : Option (Nat × Bool)}
theorem V_rem {x y : Operand} {t t' : Nat} {p q : Int} (hx : ev E x = some (.val (.int .i64 p))) (hy : ev E y = some (.val (.int .i64 q))) (hp : 0 ≤ p) (hq : 0 < q) : Vl C ι E L G ⟨d, .binOp .rem t x y t', ty, pos, af, g⟩ (.int .i64 (p % q)) := by
 intro a w hE _
 have ex := ev_sound hE hx
 have ey := ev_sound hE hy
 simp only [denO, Option.some.injEq] at ex ey
 simp only [execOp, ← ex, ← ey]
 have hne : ¬ q = 0 := by omega
 simp [eqGuard, binOp, Op.intDiv, hne, Int.tmod_eq_emod_of_nonneg hp]
theorem V_quo {x y : Operand} {t t' : Nat} {p q : Int} (hx : ev E x = some (.val (.int .i64 p))) (hy : ev E y = some (.val (.int .i64 q))) (hp : 0 ≤ p) (hp' : p ≤ 9223372036854775807) (hq : 0 < q) : Vl C ι E L G ⟨d, .binOp .quo t x y t', ty, pos, af, g⟩ (.int .i64 (p / q)) := by
 intro a w hE _
 have ex := ev_sound hE hx
 have ey := ev_sound hE hy
 simp only [denO, Option.some.injEq] at ex ey
 simp only [execOp, ← ex, ← ey]
 have hne : ¬ q = 0 := by omega
 have h1 : 0 ≤ p / q := Int.ediv_nonneg hp (by omega)
 have h2 : p / q ≤ p := Int.ediv_le_self _ hp
 have hwr : IntKind.i64.wrap (p / q) = p / q := by rw [IntKind.wrap_i64]; omega
 simp [eqGuard, binOp, Op.intDiv, hne, Int.tdiv_eq_ediv_of_nonneg hp, hwr]
theorem V_conv {x : Operand} {t t' : Nat} {k k' : IntKind} {p : Int} (hx : ev E x = some (.val (.int k p))) (hu : C.P.underlying t = some (.int k)) (hu' : C.P.underlying t' = some (.int k')) (hp : k'.wrap p = p) : Vl C ι E L G ⟨d, .convert t t' x, ty, pos, af, g⟩ (.int k' p) := by
 intro a w hE _
 have ex := ev_sound hE hx
 simp only [denO, Option.some.injEq] at ex
 simp only [execOp, ← ex]
 simp [convert, run_underlying hu, run_underlying hu', Conv.intToInt, hp]
end
end
section
section
variable {C : Ctx} {k : List It} {E : Env} {ι : Ids} {L : List Ent} {G : PH} {all : Array Oper} {l : List Oper}
end
end
section
section
variable {C : Ctx} {ks : List Nat} {all : Array Oper} {k : List It} {E : Env} {ι : Ids} {L : List Ent} {G : PH} {R : List Nat} {pend : List Pd}
end
section
variable {C : Ctx} {k : List It} {E : Env} {ι : Ids} {L : List Ent} {G : PH} {all : Array Oper} {l : List Oper}
end
section
variable {C : Ctx} {k : List It} {E : Env} {ι : Ids} {L : List Ent} {G : PH}
end
section
variable {C : Ctx} {ι : Ids} {E : Env} {L : List Ent} {G : PH} {d : Option Nat} {ty : Nat} {pos : String} {af : Array Edge} {g : Option (Nat × Bool)}
end
end
section
attribute [local irreducible] X Pure Mod
theorem ints_of {G : PH} {a : Addr} {l : List Int} {n c : Nat} (h : gcells G a (intC l)) (hn : n = l.length) (hc : n ≤ c) (hcm : c ≤ maxLen) (hb : n ≤ 1000000000) (hi : ∀ x ∈ l, I64 x) : Ints G l (.slice (some a) n c) :=
 Sx_Ints ⟨some a, c, rfl, hb, hc, hcm, by rw [intC_length, hn]; omega, .inr ⟨a, rfl, h⟩⟩ hn hi
theorem i64_small {l : List Int} (h : (l.all fun x => decide (-9223372036854775808 ≤ x ∧ x ≤ 9223372036854775807)) = true) : ∀ x ∈ l, I64 x := by
 intro x hx
 have := List.all_eq_true.1 h x hx
 simp only [decide_eq_true_eq] at this
 exact ⟨by omega, by omega⟩
theorem frz {α : Type} {G G' : PH} {sz : Nat} {rep : α → List Value → Prop} {L : List α} {A : Option Addr} {n c : Nat} {xs : List Value} (hcs : Cs sz rep L xs) (hn : n = L.length) (hb : n ≤ 1000000000) (hnc : n ≤ c) (hcm : c ≤ maxLen) (hcl : n = 0 ∨ ∃ a, A = some a ∧ gcells (newp G G') a xs) : Sr G' sz rep L (.slice A n c) := by
 subst hn
 refine Sx_Sr ⟨A, c, J, hb, hnc, hcm, Cs_length hcs, ?_⟩ J hcs
 rcases hcl with hcl | ⟨a, h1, h2⟩
 ·exact .inl hcl
 ·exact .inr ⟨a, h1, gcells_le (newp_le _ _) h2⟩
theorem six {cs : List Value} (h : cs.length = 6) : ∃ c0 c1 c2 c3 c4 c5, cs = [c0, c1, c2, c3, c4, c5] := by
 match cs, h with
 | [a0, a1, a2, a3, a4, a5], _ => exact ⟨a0, a1, a2, a3, a4, a5, rfl⟩
theorem Sr_tail {α : Type} {G : PH} {sz : Nat} {rep : α → List Value → Prop} {s : α} {r : List α} {A : Option Addr} {n c : Nat} (h : Sr G sz rep (s :: r) (.slice A n c)) {m : Nat} (hm : m = r.length) : Sr G sz rep r (.slice (if c = 1 then A else A.map (·.add (1 * sz))) m (c - 1)) := by
 subst hm
 obtain ⟨A', c', e, h1, h2, h3, h4⟩ := h
 cases e
 simp only [List.length_cons] at h1 h2 h4
 refine ⟨_, _, J, by omega, by omega, by omega, ?_⟩
 rcases h4 with h4 | ⟨ad, rfl, h5⟩
 ·omega
 ·by_cases hr : r.length = 0
  ·exact .inl hr
  ·right
   rw [if_neg (by omega)]
   exact ⟨_, J, by simpa using h5.2⟩
end
section
def wcells (H : PH) (a : Addr) (xs : List Value) : Prop := ∀ j v, xs[j]? = some v → wcell H (a.add j) = some v
theorem wcells_le {H H' : PH} (hl : H.le H') {a : Addr} {xs : List Value} (h : wcells H a xs) : wcells H' a xs := fun j v hj => wcell_le hl (h j v hj)
theorem wcells_row {H : PH} {g off : Nat} {cur : Array Value} {e : Nat} {xs : List Value} (hH : H g = some (.cells cur e (0, 0))) (ht : (cur.toList.drop off).take xs.length = xs) : wcells H ⟨g, off, none⟩ xs := by
 intro j v hj
 rw [add_lit']
 refine wcell_iff.2 ⟨cur, e, hH, J, ?_⟩
 rw [← ht] at hj
 rw [List.getElem?_take] at hj
 split at hj
 ·rw [List.getElem?_drop] at hj
  simpa using hj
 ·cases hj
def LiesL (H : PH) : List Shp → List Value → Prop
 | [], [] => True
 | s :: r, v :: vs => Lies H s v ∧ LiesL H r vs
 | _, _ => False
def adsL (H : PH) : List Shp → List Value → List Addr
 | s :: r, v :: vs => adsV H s v ++ adsL H r vs
 | _, _ => []
theorem LiesL_tn {H H' : PH} (ht : Tn H H') : ∀ {r : List Shp} {vs : List Value}, LiesL H r vs → LiesL H' r vs
 | [], [], _ => by simp [LiesL]
 | s :: r, v :: vs, h => by
  simp only [LiesL] at h ⊢
  exact ⟨Lies_tn ht s v h.1, LiesL_tn ht h.2⟩
 | [], _ :: _, h => by simp [LiesL] at h
 | _ :: _, [], h => by simp [LiesL] at h
theorem adsL_tn {H H' : PH} (ht : Tn H H') : ∀ {r : List Shp} {vs : List Value}, LiesL H r vs → adsL H' r vs = adsL H r vs
 | [], [], _ => rfl
 | s :: r, v :: vs, h => by
  simp only [LiesL] at h
  simp only [adsL]
  rw [adsV_tn ht h.1, adsL_tn ht h.2]
 | [], _ :: _, h => by simp [LiesL] at h
 | _ :: _, [], h => by simp [LiesL] at h
theorem adsL_int {H : PH} : ∀ {r : List Shp} {vs : List Value}, LiesL H r vs → ∀ a ∈ adsL H r vs, isInt H a
 | [], [], _, a, ha => by simp [adsL] at ha
 | s :: r, v :: vs, h, a, ha => by
  simp only [LiesL] at h
  simp only [adsL, List.mem_append] at ha
  rcases ha with ha | ha
  ·exact adsV_int h.1 a ha
  ·exact adsL_int h.2 a ha
 | [], _ :: _, h, _, _ => by simp [LiesL] at h
 | _ :: _, [], h, _, _ => by simp [LiesL] at h
theorem isInt_some {H : PH} {a : Addr} (h : isInt H a) : (H a.block).isSome = true := by
 obtain ⟨n, hn⟩ := h
 exact wcell_some hn
theorem newp_some {G G' : PH} {b : Nat} (h : (newp G G' b).isSome = true) : G b = none ∧ (G' b).isSome = true := by
 unfold newp at h
 split at h
 ·cases h
 ·rename_i hn; exact ⟨hn, h⟩
def FL (G G' : PH) (r : List Shp) (vs : List Value) : Prop := LiesL (newp G G') r vs ∧ (adsL (newp G G') r vs).Nodup
def FT (G G' : PH) (s : Shp) (v : Value) : Prop := Lies (newp G G') s v ∧ (adsV (newp G G') s v).Nodup
theorem newp_rt {G G1 G2 : PH} (h : G1.le G2) : (newp G G1).le (newp G G2) := by
 intro b o hb
 unfold newp at hb ⊢
 split at hb
 ·cases hb
 ·exact h b o hb
theorem FL.mono {G G1 G2 : PH} (h12 : G1.le G2) {r : List Shp} {vs : List Value} (h : FL G G1 r vs) : FL G G2 r vs := by
 have ht := Tn.of_le (newp_rt (G := G) h12)
 exact ⟨LiesL_tn ht h.1, by rw [adsL_tn ht h.1]; exact h.2⟩
theorem FT.mono {G G1 G2 : PH} (h12 : G1.le G2) {s : Shp} {v : Value} (h : FT G G1 s v) : FT G G2 s v := by
 have ht := Tn.of_le (newp_rt (G := G) h12)
 exact ⟨Lies_tn ht _ _ h.1, by rw [adsV_tn ht h.1]; exact h.2⟩
theorem FT.low {G G1 G2 : PH} (h01 : G.le G1) (h12 : G1.le G2) {s : Shp} {v : Value} (h : FT G1 G2 s v) : FT G G2 s v := by
 have ht := Tn.of_le (newp_mono h01 h12)
 exact ⟨Lies_tn ht _ _ h.1, by rw [adsV_tn ht h.1]; exact h.2⟩
theorem row_ads {H0 H : PH} (hle : H0.le H) : ∀ (r : List Shp) (vs : List Value) (ad : Addr), LiesL H0 r vs → (adsL H0 r vs).Nodup → H0 ad.block = none → ad.spot = none → wcells H ad vs →
  LiesR H r ad ∧ (adsR H r ad).Nodup ∧ ∀ a ∈ adsR H r ad, (a.block = ad.block ∧ ad.off ≤ a.off ∧ a.spot = none) ∨ a ∈ adsL H0 r vs
 | [], [], ad, _, _, _, _, _ => by simp [LiesR, adsR]
 | s :: r, v :: vs, ad, hl, hd, hb, hs, hw => by
  simp only [LiesL] at hl
  simp only [adsL] at hd
  obtain ⟨d1, d2, d3⟩ := List.nodup_append.1 hd
  have ht := Tn.of_le hle
  have h0 : wcell H ad = some v := by have := hw 0 v rfl; rwa [add_zero'] at this
  have had1 : (ad.add 1).block = ad.block ∧ (ad.add 1).off = ad.off + 1 ∧ (ad.add 1).spot = none := by
   obtain ⟨b, o, sp⟩ := ad
   simp only at hs
   subst hs
   simp [Addr.add]
  obtain ⟨i1, i2, i3⟩ := row_ads hle r vs (ad.add 1) hl.2 d2 (by rw [had1.1]; exact hb) had1.2.2 (fun j u hj => by rw [add_add', Nat.add_comm]; exact hw (j + 1) u (by simpa using hj))
  have hC : adsC H s ad = match s with | .int => [ad] | .sl _ _ => adsV H0 s v := by
   cases s with
   | int => simp [adsC]
   | sl w cs =>
    simp only [adsC]
    rw [ptrAt_eq h0, ← adsV_tn ht hl.1]
    rfl
  have hnb : ∀ x ∈ adsL H0 (s :: r) (v :: vs), x.block ≠ ad.block := fun x hx e => by
   have h1 := isInt_some (adsL_int (H := H0) (r := s :: r) (vs := v :: vs) ⟨hl.1, hl.2⟩ x hx)
   rw [e, hb] at h1
   cases h1
  have hCm : ∀ a ∈ adsC H s ad, (a = ad) ∨ a ∈ adsV H0 s v := by
   intro a ha
   rw [hC] at ha
   cases s with
   | int => left; simpa using ha
   | sl w cs => right; exact ha
  refine ⟨⟨⟨v, h0, Lies_tn ht s v hl.1⟩, i1⟩, ?_, ?_⟩
  ·simp only [adsR]
   refine List.nodup_append.2 ⟨?_, i2, fun a ha b hb' e => ?_⟩
   ·rw [hC]
    cases s with
    | int => simp
    | sl w cs => exact d1
   ·subst e
    rcases i3 a hb' with ⟨j1, j2, j3⟩ | hm
    ·rcases hCm a ha with rfl | hv
     ·rw [had1.2.1] at j2; omega
     ·exact hnb a (by simp only [adsL, List.mem_append]; exact .inl hv) (by rw [j1, had1.1])
    ·rcases hCm a ha with rfl | hv
     ·exact hnb a (by simp only [adsL, List.mem_append]; exact .inr hm) J
     ·exact d3 a hv a hm J
  ·intro a ha
   simp only [adsR, List.mem_append] at ha
   rcases ha with ha | ha
   ·rcases hCm a ha with rfl | hv
    ·exact .inl ⟨J, Nat.le_refl _, hs⟩
    ·exact .inr (by simp only [adsL, List.mem_append]; exact .inl hv)
   ·rcases i3 a ha with ⟨j1, j2, j3⟩ | hm
    ·exact .inl ⟨by rw [j1, had1.1], by rw [had1.2.1] at j2; omega, j3⟩
    ·exact .inr (by simp only [adsL, List.mem_append]; exact .inr hm)
 | [], _ :: _, _, h, _, _, _, _ => by simp [LiesL] at h
 | _ :: _, [], _, h, _, _, _, _ => by simp [LiesL] at h
theorem FT_row {G G1 G2 : PH} (h01 : G.le G1) (h12 : G1.le G2) {w n c : Nat} {r : List Shp} {vs : List Value} {A : Option Addr} (h : FL G G1 r vs) (hr : r.length = n * w) (hn : n ≤ 1000000000) (hnc : n ≤ c) (hcm : c ≤ maxLen)
  (hA : n = 0 ∨ ∃ a, A = some a ∧ G1 a.block = none ∧ a.spot = none ∧ wcells (newp G1 G2) a vs) : FT G G2 (.sl w r) (.slice A n c) := by
 rcases hA with rfl | ⟨a, rfl, hb, hs, hw⟩
 ·have : r = [] := List.eq_nil_of_length_eq_zero (by rw [hr]; simp)
  subst this
  exact ⟨by simp only [Lies]; exact ⟨A, 0, c, J, by simp, hn, hnc, hcm, .inl J⟩, by simp [adsV, adsR]⟩
 ·have hH0 : newp G G1 a.block = none := by
   unfold newp
   split
   ·rfl
   ·exact hb
  obtain ⟨i1, i2, _⟩ := row_ads (newp_rt (G := G) h12) r vs a h.1 h.2 hH0 hs (wcells_le (newp_mono h01 h12) hw)
  exact ⟨by simp only [Lies]; exact ⟨_, n, c, J, hr, hn, hnc, hcm, .inr ⟨a, J, i1⟩⟩, i2⟩
section
variable {C : Ctx} {k : List It} {E : Env} {ι : Ids} {L : List Ent} {G : PH}
theorem S_freezeW (κ : Nat) {base e sz : Nat} {A : Option Addr} {n c : Nat} {xs : List Value} {L' : List Ent} (hL : getH κ L = some (rowO base e sz A n c xs)) (hL' : delH κ L = some L') (hb0 : C.w0.heap.size ≤ base)
  (hk : ∀ G', PH.ext C.w0.heap.size G G' → n ≤ c → c ≤ maxLen → (n = 0 ∨ ∃ a, A = some a ∧ gcells (newp G G') a xs) → (n = 0 ∨ ∃ a, A = some a ∧ G a.block = none ∧ a.spot = none ∧ wcells (newp G G') a xs) → X C k E ι L' G') : X C k E ι L G := by
 refine S_lendO κ hL hL' (fun hA hn hc hx => ?_) (fun g off cur hA hbg hnc hcm hl hfit ht hG hb hcells => ?_)
 ·exact hk G XR (by omega) (by rw [hc]; simp [maxLen]) (.inl hn) (.inl hn)
 ·refine hk _ ⟨le_add hG, fun b o hbo hn => ?_⟩ hnc hcm (.inr ⟨_, hA, ?_⟩) (.inr ⟨_, hA, hG, J, ?_⟩)
  ·unfold PH.add at hbo
   split at hbo
   ·rename_i e'; subst e'; omega
   ·rw [hn] at hbo; cases hbo
  ·refine gcells_row (cur := cur) (e := e) (fr := (0, 0)) ?_ xs off ht
   simp [newp, hG, PH.add]
  ·exact wcells_row (cur := cur) (e := e) (by simp [newp, hG, PH.add]) ht
end
end
section
attribute [local irreducible] X Pure Mod
def insC (i : Ins) : List Value := [.int .i64 i.op, .int .i64 i.a, .int .i64 i.b, .int .i64 i.n]
def insRep (i : Ins) (cs : List Value) : Prop := cs = insC i ∧ I4 i
abbrev InsG (G : PH) (c : List Ins) (v : Value) : Prop := Sr G 4 insRep c v
theorem InsG_le {G G' : PH} (hl : G.le G') {c : List Ins} {v : Value} (h : InsG G c v) : InsG G' c v := Sr_mono hl (fun _ _ _ h => h) h
def codeC (c : List Ins) : List Value := c.flatMap insC
theorem codeC_app (c d : List Ins) : codeC (c ++ d) = codeC c ++ codeC d := by simp [codeC]
theorem Cs_codeC : ∀ {c : List Ins}, (∀ i ∈ c, I4 i) → Cs 4 insRep c (codeC c)
 | [], _ => rfl
 | i :: c, h => ⟨insC i, codeC c, rfl, rfl, ⟨rfl, h i (List.mem_cons_self ..)⟩, Cs_codeC fun x hx => h x (List.mem_cons_of_mem _ hx)⟩
theorem InsG_all {G : PH} {c : List Ins} {v : Value} (h : InsG G c v) : ∀ i ∈ c, I4 i := by
 intro i hi
 obtain ⟨k, hk, rfl⟩ := List.getElem_of_mem hi
 obtain ⟨A, n, rfl, _⟩ := id h
 obtain ⟨ad, cs, _, _, _, h4⟩ := Sr_at h hk
 exact h4
theorem FL_code (G G' : PH) : ∀ c : List Ins, FL G G' (tcI (c.length * 4)) (codeC c) := by
 have key : ∀ c : List Ins, LiesL (newp G G') (tcI (c.length * 4)) (codeC c) ∧ adsL (newp G G') (tcI (c.length * 4)) (codeC c) = [] := by
  intro c
  induction c with
  | nil => simp [tcI, codeC, LiesL, adsL]
  | cons i c ih =>
   obtain ⟨h1, h2⟩ := ih
   rw [show tcI ((i :: c).length * 4) = .int :: .int :: .int :: .int :: tcI (c.length * 4) by
    simp only [List.length_cons, Nat.succ_mul]; rfl, show codeC (i :: c) = .int .i64 i.op :: .int .i64 i.a :: .int .i64 i.b :: .int .i64 i.n :: codeC c from rfl]
   exact ⟨⟨by simp only [Lies]; exact ⟨_, J⟩, by simp only [Lies]; exact ⟨_, J⟩, by simp only [Lies]; exact ⟨_, J⟩, by simp only [Lies]; exact ⟨_, J⟩, h1⟩, by simp only [adsL, adsV, h2]; rfl⟩
 exact fun c => ⟨(key c).1, by rw [(key c).2]; exact List.nodup_nil⟩
theorem c_eqIns (i : Ins) (G : PH) : Pure Tryd.prog 17 [.agg (insC i).toArray, .agg (insC i).toArray] G fun v' G' => v' = .bool true ∧ G' = G := by
 refine Pure.intro Tryd.func17 Tryd.ntmps17 J J fun w => ?_; refine Va J J ?_;refine S_box J J J J J fun b1 => ?_;refine Va J J ?_;refine S_box J J J J J fun b2 => ?_;refine Va J J ?_
 iterate 4
  refine RF J (by simp) ?_;refine Va J J ?_
 exact S_retp (Res.t1 Tryd.results17 J J) XR ⟨J, J⟩
theorem c_eqInsS (L : List Ins) (v u : Value) (G : PH) (hv : InsG G L v) (hu : InsG G L u) : Pure Tryd.prog 6 [v, u] G fun v' G' => v' = .bool true ∧ G' = G := by
 obtain ⟨A, c, rfl, hnL, _⟩ := id hv
 obtain ⟨B, e, rfl, _⟩ := id hu
 refine Pure.intro Tryd.func6 Tryd.ntmps6 J J fun w => ?_; refine Va J J ?_;refine RF J (by simp) ?_;refine Va J J ?_;refine S_loop (α := Nat) (fun k => k ≤ L.length) (fun k => L.length - k) []
  (fun k => [(5, .val (.int .i64 (k : Nat))), (0, .val (.slice A L.length c)), (1, .val (.slice B L.length e))]) (fun _ => []) (fun _ => G) 0 (Nat.zero_le _) rfl ⟨⟨_, rfl, rfl⟩, ⟨_, rfl, rfl⟩, ⟨_, rfl, rfl⟩, trivial⟩ .nil ?_
 rintro k hk
 refine Va J J ?_
 refine S_condp J (fun h5 => ?_) (fun h5 => ?_) <;> refine Va J J ?_
 ·have hkl : k < L.length := by omega
  obtain ⟨ad, cs, rfl, hcell, rfl, _⟩ := Sr_at hv hkl
  obtain ⟨ae, ds, rfl, dcell, rfl, _⟩ := Sr_at hu hkl
  have hq := c_eqIns L[k] G
  generalize L[k] = q at hq hcell dcell
  refine Ds J J J ?_;refine Da J J ?_;refine D_val 2 J J J J J J J J J (V_index Tk J J J J (by omega) (by omega)) ?_;refine D_val 6 J J J J J J J J J (V_index Tk J J J J (by omega) (by omega)) ?_;refine Da J J ?_;refine D_val 3 J J J J J J J J J (V_loadA Tk J J J (by simpa using hcell)) ?_;refine D_val 7 J J J J J J J J J (V_loadA Tk J J J (by simpa using dcell)) ?_;refine Da J J ?_;refine D_sole 8 J J (N_call 8 Tryd.call17 (hq) J J J J J J J J J J ?_)
  rintro v1 G1 ⟨rfl, rfl⟩ _
  refine Da J J ?_;refine DD ?_;refine Va J J ?_;refine RF J J ?_;refine Va J J ?_;refine S_add J J J J (by omega) ?_;refine Va J J ?_;exact S_again (k + 1) (by omega) (by omega) J ⟨⟨_, J, by simp [denO]⟩, ⟨_, J, J⟩, ⟨_, J, J⟩, trivial⟩ .nil
 ·exact S_retp (Res.t1 Tryd.results6 J J) XR ⟨J, J⟩
end
section
attribute [local irreducible] X Pure Mod
theorem c_l4Held (i : Ins) (room : Int) (G : PH) (ha : -9223372036854775808 ≤ i.a + 1 ∧ i.a + 1 ≤ 9223372036854775807) : Pure Tryd.prog 31 [.agg (insC i).toArray, .int .i64 room] G fun v G' => v = .tuple #[.int .i64 (heldI i room).1, .bool (heldI i room).2] ∧ G' = G := by
 obtain ⟨op, a, b, n⟩ := i
 simp only at ha
 rw [show (insC ⟨op, a, b, n⟩).toArray = #[.int .i64 op, .int .i64 a, .int .i64 b, .int .i64 n] from rfl]
 refine Pure.intro Tryd.func31 Tryd.ntmps31 J J fun w => ?_; refine Va J J ?_;refine S_box J J J J J fun b1 => ?_;refine Va J J ?_
 refine S_condp J (fun h8 => ?_) (fun h8 => ?_) <;> refine Va J J ?_
 ·refine S_add J J J J ha ?_
  refine Va J J ?_;exact S_retp (Res.t2 Tryd.results31 J J J J) XR ⟨by simp [heldI, h8], J⟩
 refine S_condp J (fun h9 => ?_) (fun h9 => ?_) <;> refine Va J J ?_
 ·refine Ds J J J ?_
  refine Da J J ?_;refine D_val 3 J J J J J J J J J (V_add J J ha) ?_;refine Da J J ?_;refine DD ?_;refine Va J J ?_;exact S_retp (Res.t2 Tryd.results31 J J J J) XR ⟨by simp [heldI, h8, h9], J⟩
 refine S_condp J (fun h10 => ?_) (fun h10 => ?_) <;> refine Va J J ?_
 ·exact S_retp (Res.t2 Tryd.results31 J J J J) XR ⟨by simp [heldI, h8, h9, h10], J⟩
 refine S_condp J (fun h13 => ?_) (fun h13 => ?_) <;> refine Va J J ?_
 ·exact S_retp (Res.t2 Tryd.results31 J J J J) XR ⟨by simp [heldI, h8, h9, h10, h13], J⟩
 ·exact S_retp (Res.t2 Tryd.results31 J J J J) XR ⟨by simp [heldI, h8, h9, h10, h13], J⟩
theorem c_l4Next (c : List Ins) (v : Value) (x : Nat) (G : PH) (hv : InsG G c v) (hx : x < c.length) (hc : c.length ≤ 1000000) : Pure Tryd.prog 32 [v, .int .i64 (x : Nat)] G fun v' G' => Ints G' (succI c[x] (x : Nat)) v' := by
 obtain ⟨A, cc, rfl, _⟩ := id hv
 obtain ⟨ad, cs, rfl, hcell, hrep⟩ := Sr_at hv hx
 generalize hi : c[x] = i at hrep
 obtain ⟨rfl, hi4⟩ := hrep
 obtain ⟨op, a, b, n⟩ := i
 obtain ⟨i0, i1, i2, i3⟩ := hi4
 simp only at i0 i1 i2 i3
 rw [show insC ⟨op, a, b, n⟩ = [.int .i64 op, .int .i64 a, .int .i64 b, .int .i64 n] from rfl] at hcell
 have hix : I64 ((x : Int) + 1) := ⟨by omega, by omega⟩
 refine Pure.intro Tryd.func32 Tryd.ntmps32 J J fun w => ?_; refine Va J J ?_;refine S_index Tk J J J J J J (by omega) (by omega) ?_;refine Va J J ?_;refine S_load Tk J J J J J (by simpa using gcells_at hcell 0 _ J) ?_;refine Va J J ?_
 refine S_condp J (fun h13 => ?_) (fun h13 => ?_) <;> refine Va J J ?_
 ·refine S_emptyO Tk 5 J J J J fun A0 => ?_
  refine Va J J ?_;refine S_freezeR 5 J J (Nat.le_refl _) fun Gf hextf hncf hcmf hclf => ?_;refine S_retp (Res.t1 Tryd.results32 J J) hextf ?_
  rw [show succI ⟨op, a, b, n⟩ (x : Nat) = [] by simp [succI, h13]]
  exact frz (L := []) (xs := []) J J (by decide) hncf hcmf hclf
 refine S_condp J (fun h7 => ?_) (fun h7 => ?_) <;> refine Va J J ?_
 ·refine S_index Tk J J J J J J (by omega) (by omega) ?_
  refine Va J J ?_;refine S_load Tk J J J J J (by simpa using gcells_at hcell 3 _ J) ?_;refine Va J J ?_;refine S_sliceG Tk ZT_ok J J J J (by decide) (by decide) J J J J (fun _ => J) fun bq Gq hxq hcq => ?_;refine Va J J ?_;refine S_retp (Res.t1 Tryd.results32 J J) hxq ?_
  rw [show succI ⟨op, a, b, n⟩ (x : Nat) = [n] by simp [succI, h13, h7]]
  exact ints_of hcq J (Nat.le_refl _) (by decide) (by decide) (by intro y hy; rw [List.mem_singleton.1 hy]; exact i3)
 refine S_condp J (fun h6 => ?_) (fun h6 => ?_) <;> refine Va J J ?_
 ·refine S_add J J J J (by omega) ?_
  refine Va J J ?_;refine S_index Tk J J J J J J (by omega) (by omega) ?_;refine Va J J ?_;refine S_load Tk J J J J J (by simpa using gcells_at hcell 3 _ J) ?_;refine Va J J ?_;refine S_sliceG Tk ZT_ok J J J J (by decide) (by decide) J J J J (fun _ => J) fun bq Gq hxq hcq => ?_;refine Va J J ?_;refine S_retp (Res.t1 Tryd.results32 J J) hxq ?_
  rw [show succI ⟨op, a, b, n⟩ (x : Nat) = [(x : Int) + 1, n] by simp [succI, h13, h7, h6]]
  exact ints_of hcq J (Nat.le_refl _) (by decide) (by decide) (by intro y hy; simp only [List.mem_cons, List.not_mem_nil, or_false] at hy; rcases hy with rfl | rfl; exact hix; exact i3)
 ·refine S_add J J J J (by omega) ?_
  refine Va J J ?_;refine S_sliceG Tk ZT_ok J J J J (by decide) (by decide) J J J J (fun _ => J) fun bq Gq hxq hcq => ?_;refine Va J J ?_;refine S_retp (Res.t1 Tryd.results32 J J) hxq ?_
  rw [show succI ⟨op, a, b, n⟩ (x : Nat) = [(x : Int) + 1] by simp [succI, h13, h7, h6]]
  exact ints_of hcq J (Nat.le_refl _) (by decide) (by decide) (by intro y hy; rw [List.mem_singleton.1 hy]; exact hix)
end
section
attribute [local irreducible] X Pure Mod
theorem intC_map : ∀ l : List Int, intC l = l.map (fun n => .int .i64 n)
 | [] => rfl
 | n :: l => by rw [intC, intC_map l]; rfl
theorem intC_sets (l : List Int) (k : Nat) (a : Int) : (intC l).set k (.int .i64 a) = intC (l.set k a) := by
 rw [intC_map, intC_map, List.map_set]
theorem intC_at {l : List Int} {k : Nat} {a : Int} (h : l[k]? = some a) : (intC l)[k]? = some (.int .i64 a) := by
 rw [intC_map, List.getElem?_map, h]
 rfl
def TD (rooms todo : List Int) : Prop := ∀ x ∈ todo, 0 ≤ rooms.getD x.toNat 0
theorem getD_set (l : List Int) (i j : Nat) (v d : Int) : (l.set i v).getD j d = if i = j ∧ j < l.length then v else l.getD j d := by
 simp only [List.getD_eq_getElem?_getD, List.getElem?_set]
 by_cases h : i = j
 ·subst h
  by_cases h2 : i < l.length
  ·simp [h2]
  ·simp [h2]
 ·simp [h]
theorem TD.new {rooms todo : List Int} {x room : Int} (h : TD rooms todo) (hr : 0 ≤ room) (hx : 0 ≤ x ∧ x < rooms.length) : TD (rooms.set x.toNat room) (todo ++ [x]) := by
 intro y hy
 rw [getD_set]
 split
 ·exact hr
 ·rename_i hn
  rcases List.mem_append.1 hy with hy | hy
  ·exact h y hy
  ·rw [List.mem_singleton.1 hy] at hn ⊢
   exact absurd ⟨J, by omega⟩ hn
theorem TD.start {n : Nat} (h : 1 ≤ n) : TD ((List.replicate n (-1)).set 0 0) [0] := by
 intro y hy
 rw [List.mem_singleton.1 hy, getD_set, if_pos ⟨rfl, by simp; omega⟩]
 omega
theorem roomsF_none {c : List Ins} {f k : Nat} {rooms todo : List Int} (h : todo.length ≤ k) : roomsF c (f + 1) k rooms todo = true := by
 rw [roomsF, List.getElem?_eq_none h]
theorem roomsF_at {c : List Ins} {f k x : Nat} {i : Ins} {rooms todo : List Int} (h : todo[k]? = some (x : Int)) (hi : c[x]? = some i) : roomsF c (f + 1) k rooms todo =
  if (heldI i (rooms.getD x 0)).2 then match visitI (heldI i (rooms.getD x 0)).1 (succI i x) (rooms, todo) with
   | none => false
   | some (rooms', todo') => roomsF c f (k + 1) rooms' todo'
  else false := by
 rw [roomsF, h]
 simp only [Int.toNat_natCast, hi]
 rfl
theorem held_room {i : Ins} {many : Int} (h : insOk i many = true) {room : Int} (hr : 0 ≤ room ∧ room ≤ 2) (h2 : (heldI i room).2 = true) : 0 ≤ (heldI i room).1 ∧ (heldI i room).1 ≤ 2 := by
 rcases held_range h (by omega) h2 with h13 | ⟨a, b⟩
 ·have : (heldI i room).1 = 0 := by simp [heldI, h13]
  omega
 ·exact ⟨b hr.1, a⟩
structure RM where
 k : Nat
 rooms : List Int
 todo : List Int
 A : Option Addr
 cc : Nat
 G : PH
structure RV where
 j : Nat
 rooms : List Int
 todo : List Int
 A : Option Addr
 cc : Nat
theorem c_l4Rooms (c : List Ins) (v : Value) (G : PH) (hv : InsG G c v) (hw : walkOk c) (h1 : 1 ≤ c.length) (h60 : c.length ≤ 60) : Pure Tryd.prog 21 [v] G fun v' G' => ∃ rv, v' = .tuple #[rv, .bool (roomsP c)] := by
 obtain ⟨Ac, cc, rfl, _⟩ := id hv
 refine Pure.intro Tryd.func21 Tryd.ntmps21 J J fun w => ?_; refine Va J J ?_;refine S_emptyO Tk 4 J J J J fun A0 => ?_;refine Va J J ?_;refine S_loop (α := Nat × Option Addr × Nat) (fun y => y.1 ≤ c.length) (fun y => c.length - y.1) []
  (fun y => [(5, .val (.int .i64 (y.1 : Nat))), (4, .val (.slice y.2.1 y.1 y.2.2)), (0, .val (.slice Ac c.length cc))])
  (fun y => [.hp 4 (rowO w.heap.size 3 1 y.2.1 y.1 y.2.2 (intC (List.replicate y.1 (-1))))]) (fun _ => G) (0, A0, 0) (Nat.zero_le _) rfl ⟨⟨_, rfl, rfl⟩, ⟨_, rfl, rfl⟩, ⟨_, rfl, rfl⟩, trivial⟩ (.hp .nil) ?_
 rintro ⟨i, A, c4⟩ hi
 simp only at hi ⊢
 refine Va J J ?_
 refine S_condp J (fun h5 => ?_) (fun h5 => ?_) <;> refine Va J J ?_
 ·refine S_slice Tk ZT_ok J J J J (by decide) (by decide) J J J J fun b21 => ?_
  refine Va J J ?_;refine S_app1 Tk 4 21 J J J J J J J J J J J J J J (by intro u hu; simp at hu; rcases hu with rfl; rfl) rfl (fun _ _ => rfl) (by omega) (Nat.le_refl _) fun A6 c6 => ?_;refine Va J J ?_;refine S_add J J J J (by omega) ?_;refine Va J J ?_;refine S_again (i + 1, A6, c6) (by simp only; omega) (by simp only; omega) rfl ⟨⟨_, rfl, by simp [denO]⟩, ⟨_, rfl, by simp [denO]⟩, ⟨_, rfl, rfl⟩, trivial⟩ ?_
  rw [show intC (List.replicate (i + 1) (-1)) = intC (List.replicate i (-1)) ++ [.int .i64 (-1)] by rw [List.replicate_succ', intC_append]; rfl]
  first | exact .drop (.hp .nil) | exact .hp .nil
 obtain rfl : i = c.length := by omega
 refine S_capO 4 J fun hc4 _ _ => ?_;refine S_someO 4 J (by omega) fun gp op eA => ?_
 subst eA
 refine S_index Tk J J J J J J (by omega) (by omega) ?_;refine Va J J ?_;refine S_storeO Tk 4 (o := 0) J J J (by simp [add_lit']) J J J J J (by simp [intC_length]; omega) rfl ?_;refine Va J J ?_;refine S_sliceB Tk ZT_ok J J J J (by decide) (by decide) J J J J fun b25 hb25 => ?_;refine Va J J ?_;refine S_blkO 25 6 (base := w.heap.size) (n := 1) (c := 1) (o := 0) (sz := 1) J J J J (.inl hb25) J J (Nat.le_refl _) (by simp [maxLen]) (Nat.le_refl _) ?_
 refine S_reE 6 (.val (.slice (some ⟨b25, 0, none⟩) 1 1)) J J ?_;refine Va J J ?_;refine S_loop (α := RM) (fun y => RI c.length y.rooms y.todo ∧ TD y.rooms y.todo ∧ y.k ≤ y.todo.length ∧ roomsP c = roomsF c (c.length + 1 - y.k) y.k y.rooms y.todo ∧ PH.ext w.heap.size G y.G) (fun y => c.length + 1 - y.k) []
  (fun y => [(7, .val (.int .i64 (y.k : Nat))), (6, .val (.slice y.A y.todo.length y.cc)), (4, .val (.slice (some ⟨gp, op, none⟩) c.length c4)), (0, .val (.slice Ac c.length cc))])
  (fun y => [.hp 6 (rowO w.heap.size 3 1 y.A y.todo.length y.cc (intC y.todo)), .hp 4 (rowO w.heap.size 3 1 (some ⟨gp, op, none⟩) c.length c4 (intC y.rooms))]) (fun y => y.G) ⟨0, (List.replicate c.length (-1)).set 0 0, [0], some ⟨b25, 0, none⟩, 1, G⟩
  ⟨RI.start h1, TD.start h1, Nat.zero_le _, rfl, PH.ext.refl _ _⟩ rfl ⟨⟨_, rfl, rfl⟩, ⟨_, rfl, rfl⟩, ⟨_, rfl, rfl⟩, ⟨_, rfl, rfl⟩, trivial⟩ (by rw [← intC_sets]; exact .hp (.hp .nil)) ?_
 rintro ⟨k, rooms, todo, A, cq, G1⟩ ⟨hri, htd, hk, hfuel, hext⟩
 simp only at hri htd hk hfuel hext ⊢
 have htl := hri.len
 obtain ⟨f, hf⟩ : ∃ f, c.length + 1 - k = f + 1 := ⟨c.length - k, by omega⟩
 rw [hf] at hfuel
 refine Va J J ?_
 refine S_condp J (fun h5 => ?_) (fun h5 => ?_) <;> refine Va J J ?_
 ·have hkl : k < todo.length := by omega
  have hxr := hri.td _ (List.getElem_mem hkl)
  have hxt := htd _ (List.getElem_mem hkl)
  have hxk : todo[k]? = some todo[k] := List.getElem?_eq_getElem hkl
  generalize hxe : todo[k] = x at hxr hxt hxk
  obtain ⟨x, rfl⟩ := Int.eq_ofNat_of_zero_le hxr.1
  have hxl : x < c.length := by omega
  obtain ⟨rm, hrm, hrd⟩ := getD_at (l := rooms) hxr.1 (by rw [hri.rl]; exact hxr.2)
  rw [Int.toNat_natCast] at hrm hrd hxt
  rw [hrd] at hxt
  have hrg := hri.rg rm (List.mem_of_getElem? hrm)
  have hci : c[x]? = some c[x] := List.getElem?_eq_getElem hxl
  obtain ⟨hiok, _⟩ := hw x _ hci
  obtain ⟨hna, _, _⟩ := insOk_nums hiok (by omega)
  have hvx := InsG_le hext.le hv
  obtain ⟨adc, csc, rfl, hcell, rfl, hi4⟩ := Sr_at hvx hxl
  have hsr := succ_range hw hci
  have hsl := succ_len c[x] x
  rw [roomsF_at hxk hci, hrd] at hfuel
  have hq := c_l4Held c[x] rm G1 (by omega)
  have hqn := c_l4Next c _ x G1 hvx hxl (by omega)
  generalize c[x] = i at *
  refine S_capO 6 J fun hcap6 _ _ => ?_;refine S_someO 6 J (by omega) fun g6 o6 eA => ?_
  subst eA
  refine S_index Tk J J J J J J (by omega) (by omega) ?_;refine Va J J ?_;refine S_valV J J J (V_loadR' Tk 6 J J (by simp [add_lit']) J J (intC_at hxk)) ?_;refine Va J J ?_;refine Ds J J J ?_;refine Da J J ?_;refine D_val 2 J J J J J J J J J (V_index Tk J J J J (by omega) (by omega)) ?_;refine D_val 6 J J J J J J J J J (V_index Tk J J J J (by omega) (by omega)) ?_;refine Da J J ?_;refine D_val 3 J J J J J J J J J (V_loadA Tk J J J (by simpa using hcell)) ?_
  refine D_val 7 J J J J J J J J J (V_loadR' Tk 4 J J (add_lit' ..) J J (by simpa using intC_at hrm)) ?_;refine Da J J ?_;refine D_sole 8 J J (N_call 8 Tryd.call31 (hq) J J J J J J J J J J ?_)
  rintro v1 G2 ⟨rfl, rfl⟩ _
  refine Da J J ?_;refine DD ?_;refine Va J J ?_
  by_cases hok : (heldI i rm).2 = true
  ·refine RF J (by simp [hok]) ?_
   refine Va J J ?_
   rw [if_pos hok] at hfuel
   have hrr := held_room hiok ⟨hxt, hrg.2⟩ hok
   generalize (heldI i rm).1 = room at hrr hfuel
   refine S_call Tryd.call32 hqn J J J ?_;rintro v3 G3 hv3 hext3
   generalize succI i (x : Int) = next at hv3 hsr hsl hfuel
   obtain ⟨A3, c3, rfl, _⟩ := id hv3
   refine Va J J ?_;refine S_loop (α := RV) (fun y => y.j ≤ next.length ∧ RI c.length y.rooms y.todo ∧ TD y.rooms y.todo ∧ todo.length ≤ y.todo.length ∧ visitI room next (rooms, todo) = visitI room (next.drop y.j) (y.rooms, y.todo)) (fun y => next.length - y.j) []
    (fun y => [(12, .val (.int .i64 (y.j : Nat))), (11, .val (.slice A3 next.length c3)), (9, .val (.int .i64 room)), (7, .val (.int .i64 (k : Nat))), (6, .val (.slice y.A y.todo.length y.cc)), (4, .val (.slice (some ⟨gp, op, none⟩) c.length c4)), (0, .val (.slice (some adc) c.length cc))])
    (fun y => [.hp 6 (rowO w.heap.size 3 1 y.A y.todo.length y.cc (intC y.todo)), .hp 4 (rowO w.heap.size 3 1 (some ⟨gp, op, none⟩) c.length c4 (intC y.rooms))]) (fun _ => G3) ⟨0, rooms, todo, some ⟨g6, o6, none⟩, cq⟩
    ⟨Nat.zero_le _, hri, htd, Nat.le_refl _, rfl⟩ rfl ⟨⟨_, rfl, rfl⟩, ⟨_, rfl, rfl⟩, ⟨_, rfl, rfl⟩, ⟨_, rfl, rfl⟩, ⟨_, rfl, rfl⟩, ⟨_, rfl, rfl⟩, ⟨_, rfl, rfl⟩, trivial⟩ (.hp (.hp .nil)) ?_
   rintro ⟨j, rooms', todo', A', c'⟩ ⟨hj, hri', htd', htt, hvis⟩
   simp only at hj hri' htd' htt hvis ⊢
   have htl' := hri'.len
   refine Va J J ?_
   refine S_condp J (fun h7 => ?_) (fun h7 => ?_) <;> refine Va J J ?_
   ·have hjl : j < next.length := by omega
    obtain ⟨ad3, cs3, e3, hcs3, rfl, hy64⟩ := Sr_at hv3 hjl
    subst e3
    have hyr := hsr _ (List.getElem_mem hjl)
    rw [List.drop_eq_getElem_cons hjl] at hvis
    generalize next[j] = y at hcs3 hy64 hyr hvis
    obtain ⟨ry, hry, hryd⟩ := getD_at (l := rooms') hyr.1 (by rw [hri'.rl]; exact hyr.2)
    have hryg := hri'.rg ry (List.mem_of_getElem? hry)
    rw [visitI, hryd] at hvis
    refine S_index Tk J J J J J J (by omega) (by omega) ?_;refine Va J J ?_;refine S_load Tk J J J J J (by simpa using hcs3.1) ?_;refine Va J J ?_;refine S_index Tk J J J J J J (by omega) (by omega) ?_;refine Va J J ?_;refine S_valV J J J (V_loadR' Tk 4 J J (add_lit' ..) J J (by simpa using intC_at hry)) ?_;refine Va J J ?_
    refine S_condp J (fun hneg => ?_) (fun hneg => ?_) <;> refine Va J J ?_
    ·rw [if_pos hneg] at hvis
     refine S_index Tk J J J J J J (by omega) (by omega) ?_;refine Va J J ?_;refine S_load Tk J J J J J (by simpa using hcs3.1) ?_;refine Va J J ?_;refine S_index Tk J J J J J J (by omega) (by omega) ?_;refine Va J J ?_;refine S_storeO Tk 4 (o := y.toNat) J J J (by simp [add_lit']) J J J J J (by rw [intC_length, hri'.rl]; omega) rfl ?_
     rw [intC_sets]
     refine Va J J ?_;refine S_index Tk J J J J J J (by omega) (by omega) ?_;refine Va J J ?_;refine S_load Tk J J J J J (by simpa using hcs3.1) ?_;refine Va J J ?_;refine S_slice Tk ZT_ok J J J J (by decide) (by decide) J J J J fun b80 => ?_;refine Va J J ?_;refine S_app1 Tk 6 80 J J J J J J J J J J J J J J (by intro u hu; simp at hu; rcases hu with rfl; rfl) rfl (fun _ _ => rfl) (by omega) (Nat.le_refl _) fun A6 c6 => ?_
     rw [intC_snoc]
     refine Va J J ?_;refine S_index Tk J J J J J J (by omega) (by omega) ?_;refine Va J J ?_;refine S_load Tk J J J J J (by simpa using hcs3.1) ?_;refine Va J J ?_;refine S_index Tk J J J J J J (by omega) (by omega) ?_;refine Va J J ?_;refine S_valV J J J (V_loadR' Tk 4 J J (add_lit' ..) J J (by simpa using intC_at (l := rooms'.set y.toNat room) (k := y.toNat) (a := room) (by rw [List.getElem?_set_self (by rw [hri'.rl]; omega)]))) ?_
     refine Va J J ?_;refine RF J (by simp) ?_;refine Va J J ?_;refine S_add J J J J (by omega) ?_;refine Va J J ?_;refine S_again ⟨j + 1, rooms'.set y.toNat room, todo' ++ [y], A6, c6⟩ ⟨hjl, hri'.new hyr hrr (by rw [hryd]; exact hneg), htd'.new hrr.1 (by rw [hri'.rl]; exact hyr), by simp only [List.length_append]; omega, hvis⟩ (by simp only; omega) rfl ⟨⟨_, rfl, by simp [denO]⟩, ⟨_, rfl, rfl⟩, ⟨_, rfl, rfl⟩, ⟨_, rfl, rfl⟩, ⟨_, rfl, by simp [denO]⟩, ⟨_, rfl, rfl⟩, ⟨_, rfl, rfl⟩, trivial⟩ ?_
     simp only [List.length_append, List.length_singleton]
     first | exact .drop (.hp (.hp .nil)) | exact .hp (.hp .nil)
    ·rw [if_neg hneg] at hvis
     refine S_index Tk J J J J J J (by omega) (by omega) ?_;refine Va J J ?_;refine S_load Tk J J J J J (by simpa using hcs3.1) ?_;refine Va J J ?_;refine S_index Tk J J J J J J (by omega) (by omega) ?_;refine Va J J ?_;refine S_valV J J J (V_loadR' Tk 4 J J (add_lit' ..) J J (by simpa using intC_at hry)) ?_;refine Va J J ?_
     refine S_condp J (fun hne => ?_) (fun hne => ?_) <;> refine Va J J ?_
     ·rw [if_neg (by simpa using hne)] at hvis
      rw [hvis] at hfuel
      exact S_retp (Res.t2 Tryd.results21 J J J J) (hext.trans hext3) ⟨_, by rw [hfuel]⟩
     ·rw [if_pos (by simpa using hne)] at hvis
      refine S_add J J J J (by omega) ?_;refine Va J J ?_;exact S_again ⟨j + 1, rooms', todo', A', c'⟩ ⟨hjl, hri', htd', htt, hvis⟩ (by simp only; omega) rfl ⟨⟨_, rfl, by simp [denO]⟩, ⟨_, rfl, rfl⟩, ⟨_, rfl, rfl⟩, ⟨_, rfl, rfl⟩, ⟨_, rfl, rfl⟩, ⟨_, rfl, rfl⟩, ⟨_, rfl, rfl⟩, trivial⟩ (.hp (.hp .nil))
   ·obtain rfl : j = next.length := by omega
    rw [List.drop_length, visitI] at hvis
    rw [hvis] at hfuel
    have hf2 : c.length + 1 - (k + 1) = f := by omega
    rw [← hf2] at hfuel
    refine S_add J J J J (by omega) ?_;refine Va J J ?_;exact S_again ⟨k + 1, rooms', todo', A', c', G3⟩ ⟨hri', htd', by simp only; omega, hfuel, hext.trans hext3⟩ (by simp only; omega) rfl ⟨⟨_, rfl, by simp [denO]⟩, ⟨_, rfl, rfl⟩, ⟨_, rfl, rfl⟩, ⟨_, rfl, rfl⟩, trivial⟩ (.hp (.hp .nil))
  ·refine RT J (by simp [hok]) ?_
   refine Va J J ?_
   rw [if_neg hok] at hfuel
   exact S_retp (Res.t2 Tryd.results21 J J J J) hext ⟨_, by rw [hfuel]⟩
 ·rw [roomsF_none (by omega)] at hfuel
  exact S_retp (Res.t2 Tryd.results21 J J J J) hext ⟨_, by rw [hfuel]⟩
end
section
attribute [local irreducible] X Pure Mod
theorem c_moves (i : Ins) (room : Int) (G : PH) (hr : -1 ≤ room) : Pure Tryd.prog 42 [.agg (insC i).toArray, .int .i64 room] G fun v G' => (∃ r, v = .tuple #[.int .i64 r, .bool (heldI i (room + 1)).2] ∧ ((heldI i (room + 1)).2 = true → r = (heldI i (room + 1)).1 - 1)) ∧ G' = G := by
 obtain ⟨op, a, b, n⟩ := i
 rw [show (insC ⟨op, a, b, n⟩).toArray = #[.int .i64 op, .int .i64 a, .int .i64 b, .int .i64 n] from rfl]
 have d1 : decide (room + 1 = 0) = decide (room = -1) := by rw [decide_eq_decide]; omega
 have d2 : decide (room + 1 = a + 1) = decide (room = a) := by rw [decide_eq_decide]; omega
 have d3 : decide (0 < room + 1) = decide (¬ room = -1) := by rw [decide_eq_decide]; omega
 refine Pure.intro Tryd.func42 Tryd.ntmps42 J J fun w => ?_; refine Va J J ?_;refine S_box J J J J J fun b1 => ?_;refine Va J J ?_
 refine S_condp J (fun h8 => ?_) (fun h8 => ?_) <;> refine Va J J ?_
 ·exact S_retp (Res.t2 Tryd.results42 J J J J) XR ⟨⟨_, by simp only [heldI, h8, if_true, d1]; rfl, fun _ => by simp [heldI, h8]⟩, rfl⟩
 refine S_condp J (fun h9 => ?_) (fun h9 => ?_) <;> refine Va J J ?_
 ·refine Ds J J J ?_
  refine Da J J ?_;refine DD ?_;refine Va J J ?_;exact S_retp (Res.t2 Tryd.results42 J J J J) XR ⟨⟨_, by simp only [heldI, if_neg h8, h9, if_true, d2]; rfl, fun _ => by simp [heldI, h8, h9]⟩, rfl⟩
 refine S_condp J (fun h10 => ?_) (fun h10 => ?_) <;> refine Va J J ?_
 ·exact S_retp (Res.t2 Tryd.results42 J J J J) XR ⟨⟨room, by rw [show (heldI ⟨op, a, b, n⟩ (room + 1)).2 = decide (¬ room = -1) by simp only [heldI, if_neg h8, if_neg h9, if_pos h10, d3]], fun _ => by simp [heldI, h8, h9, h10]⟩, J⟩
 refine S_condp J (fun h13 => ?_) (fun h13 => ?_) <;> refine Va J J ?_
 ·exact S_retp (Res.t2 Tryd.results42 J J J J) XR ⟨⟨_, by simp only [heldI, if_neg h8, if_neg h9, if_neg h10, h13, if_true, d1]; rfl, fun h => by simp [heldI, h8, h9, h10, h13] at h ⊢; omega⟩, rfl⟩
 ·exact S_retp (Res.t2 Tryd.results42 J J J J) XR ⟨⟨room, by simp only [heldI, if_neg h8, if_neg h9, if_neg h10, if_neg h13], fun _ => by simp [heldI, h8, h9, h10, h13]⟩, J⟩
theorem c_successors (i : Ins) (x : Nat) (G : PH) (h4 : I4 i) (hx : x ≤ 1000000) : Pure Tryd.prog 43 [.agg (insC i).toArray, .int .i64 (x : Nat)] G fun v' G' => Ints G' (succI i (x : Nat)) v' := by
 obtain ⟨op, a, b, n⟩ := i
 obtain ⟨i0, i1, i2, i3⟩ := h4
 simp only at i0 i1 i2 i3
 rw [show (insC ⟨op, a, b, n⟩).toArray = #[.int .i64 op, .int .i64 a, .int .i64 b, .int .i64 n] from rfl]
 have hix : I64 ((x : Int) + 1) := ⟨by omega, by omega⟩
 refine Pure.intro Tryd.func43 Tryd.ntmps43 J J fun w => ?_; refine Va J J ?_;refine S_box J J J J J fun b1 => ?_;refine Va J J ?_
 refine S_condp J (fun h13 => ?_) (fun h13 => ?_) <;> refine Va J J ?_
 ·refine S_retp (Res.t1 Tryd.results43 J J) XR ?_
  rw [show succI ⟨op, a, b, n⟩ (x : Nat) = [] by simp [succI, h13]]
  exact Sr_nil J
 refine S_condp J (fun h7 => ?_) (fun h7 => ?_) <;> refine Va J J ?_
 ·refine S_sliceG Tk ZT_ok J J J J (by decide) (by decide) J J J J (fun _ => J) fun bq Gq hxq hcq => ?_
  refine Va J J ?_;refine S_retp (Res.t1 Tryd.results43 J J) hxq ?_
  rw [show succI ⟨op, a, b, n⟩ (x : Nat) = [n] by simp [succI, *]]
  exact ints_of hcq J (Nat.le_refl _) (by decide) (by decide) (by intro y hy; simp only [List.mem_cons, List.not_mem_nil, or_false] at hy; (first | (rcases hy with rfl | rfl <;> assumption) | (rcases hy with rfl; assumption)))
 refine S_condp J (fun h6 => ?_) (fun h6 => ?_) <;> refine Va J J ?_
 ·refine S_add J J J J (by omega) ?_
  refine Va J J ?_;refine S_sliceG Tk ZT_ok J J J J (by decide) (by decide) J J J J (fun _ => J) fun bq Gq hxq hcq => ?_;refine Va J J ?_;refine S_retp (Res.t1 Tryd.results43 J J) hxq ?_
  rw [show succI ⟨op, a, b, n⟩ (x : Nat) = [(x : Int) + 1, n] by simp [succI, *]]
  exact ints_of hcq J (Nat.le_refl _) (by decide) (by decide) (by intro y hy; simp only [List.mem_cons, List.not_mem_nil, or_false] at hy; (first | (rcases hy with rfl | rfl <;> assumption) | (rcases hy with rfl; assumption)))
 ·refine S_add J J J J (by omega) ?_
  refine Va J J ?_;refine S_sliceG Tk ZT_ok J J J J (by decide) (by decide) J J J J (fun _ => J) fun bq Gq hxq hcq => ?_;refine Va J J ?_;refine S_retp (Res.t1 Tryd.results43 J J) hxq ?_
  rw [show succI ⟨op, a, b, n⟩ (x : Nat) = [(x : Int) + 1] by simp [succI, *]]
  exact ints_of hcq J (Nat.le_refl _) (by decide) (by decide) (by intro y hy; simp only [List.mem_cons, List.not_mem_nil, or_false] at hy; (first | (rcases hy with rfl | rfl <;> assumption) | (rcases hy with rfl; assumption)))
end
section
section
variable {C : Ctx} {k : List It} {E : Env} {ι : Ids} {L : List Ent} {G : PH} {all : Array Oper} {l : List Oper}
theorem S_copyO (κ : Nat) {base e el t t' d : Nat} {x y : Operand} {gb off o n c ty dl dc sl sc m : Nat} {sa : Addr} {xs cs : List Value} {L' : List Ent} {pos : String} {af : Array Edge} {g : Option (Nat × Bool)}
  (hu : C.P.underlying t = some (.slice el)) (hs : (C.P.info? el).map (·.size) = some 1)
  (hL : getH κ L = some (rowO base e 1 (some ⟨gb, off, none⟩) n c xs)) (hL' : setH κ (rowO base e 1 (some ⟨gb, off, none⟩) n c (xs.take o ++ cs ++ xs.drop (o + m))) L = some L')
  (hx : ev E x = some (.val (.slice (some ⟨gb, off + o, none⟩) dl dc))) (hy : ev E y = some (.val (.slice (some sa) sl sc))) (hm : m = Nat.min sl dl) (ho : o + m ≤ n) (hcm : cs.length = m)
  (hsrc : (∃ so, sa = ⟨gb, off + so, none⟩ ∧ so + m ≤ n ∧ cs = (xs.drop so).take m) ∨ gcells G sa cs) (hone : ∀ v ∈ cs, v.oneCell' = true)
  (hg : guardOf all E g = .on) (hN : Nat.ble (d + 1) C.n = true)
  (hk : X C (.ops all l :: k) ((d, .val (.int .i64 (m : Nat))) :: E) ι L' G) : X C (.ops all (⟨some d, .call ⟨.builtin .copy, #[x, y], #[t, t']⟩, ty, pos, af, g⟩ :: l) :: k) E ι L G := by
 intro a w h1 h2 h3 h4
 obtain ⟨S, hA, hSG, hturn⟩ := h4.turn hL
 obtain ⟨q1, q2, q3, q4⟩ := hA
 rcases q4 with ⟨q, _⟩ | ⟨g', off', cur, q, q0, q5, q6, q7, q8⟩
 ·cases q
 cases q
 have ex := ev_sound h3 hx
 have ey := ev_sound h3 hy
 simp only [denO, Option.some.injEq] at ex ey
 have hxl : xs.length = n := by rw [q1, Nat.mul_one]
 have hcl : off + n ≤ cur.toList.length := by
  rw [Array.length_toList]
  omega
 have hcur : ∀ j, j < n → cur[off + j]? = xs[j]? := by
  intro j hj
  conv => rhs; rw [← q7]
  rw [List.getElem?_take_of_lt (by omega), List.getElem?_drop]
  simp
 have hcell : ∀ j v, cs[j]? = some v → w.cell? (sa.add j) = some v := by
  intro j v hj
  have hjl := (List.getElem?_eq_some_iff.1 hj).1
  rcases hsrc with ⟨so, rfl, hso, rfl⟩ | hgc
  ·rw [List.getElem?_take_of_lt (by omega), List.getElem?_drop] at hj
   rw [add_lit']
   have := hcur (so + j) (by omega)
   rw [hj] at this
   simp only [World.cell?, q5]
   rw [← this]
   congr 1
   simp [Nat.add_assoc]
  ·exact gcell_emb h4.emb (gcells_at hgc j v hj)
 have hrun0 := run_copy_row (P := C.P) w t t' ty el gb (off + o) dl dc sa sl sc cur e cs hu hs q5 (by rw [hcm, hm]) hcell (by simp at hcl ⊢; omega) hone
 have hrun : (execOp a.eval ⟨some d, .call ⟨.builtin .copy, #[x, y], #[t, t']⟩, ty, pos, af, g⟩).run C.P w = .ok (.value (.int .i64 (m : Nat))) (w.setRow gb (cur.toList.take (off + o) ++ cs ++ cur.toList.drop (off + o + cs.length)).toArray) := by
  simp only [execOp, resolve, invoke, List.map_toArray, List.map_cons, List.map_nil, ← ex, ← ey]
  simp [builtin, hrun0, goInt, hcm, Result.andThen]
 have hdn : d < a.tmps.size := by rw [h2]; exact Nat.le_of_ble_eq_true hN
 refine wpE_val (guardOf_on h3 hg) (by rintro c h; cases h) hrun ?_
 have hSb : S gb := (q8 gb).2 rfl
 refine hk _ _ h1 (by simp [Act.put, h2]) (h3.put hdn J) (hturn _ _ G _ S hL' ?_ (fun b o' hbG => ?_) XR (fun b hb => ⟨hSG b hb, .inl hb⟩) J J J (by simp) fun b _ hn => setRow_other _ _ _ _ fun h => hn (h ▸ hSb))
 ·have hcurL : cur.toList = cur.toList.take off ++ xs ++ cur.toList.drop (off + n) := by
   conv => lhs; rw [← List.take_append_drop off cur.toList, ← List.take_append_drop n (cur.toList.drop off)]
   rw [List.drop_drop, List.append_assoc]
   congr 2
   rw [← hxl, q7]
  have hnew : cur.toList.take (off + o) ++ cs ++ cur.toList.drop (off + o + cs.length) = cur.toList.take off ++ (xs.take o ++ cs ++ xs.drop (o + m)) ++ cur.toList.drop (off + n) := by
   have t1 : cur.toList.take (off + o) = cur.toList.take off ++ xs.take o := by
    conv => lhs; rw [hcurL]
    rw [List.append_assoc, List.take_append, List.length_take, Nat.min_eq_left (by omega), List.take_take, Nat.min_eq_right (by omega), List.take_append]
    rw [show off + o - off = o by omega, show o - xs.length = 0 by omega]
    simp
   have t2 : cur.toList.drop (off + o + cs.length) = xs.drop (o + m) ++ cur.toList.drop (off + n) := by
    conv => lhs; rw [hcurL]
    rw [List.append_assoc, List.drop_append, List.length_take, Nat.min_eq_left (by omega), List.drop_append, List.drop_eq_nil_of_le (by simp; omega), hcm]
    rw [show off + o + m - off = o + m by omega, show o + m - xs.length = 0 by omega]
    simp
   rw [t1, t2]
   simp [List.append_assoc]
  have hlen : (xs.take o ++ cs ++ xs.drop (o + m)).length = n := by
   simp only [List.length_append, List.length_take, List.length_drop]
   omega
  refine ⟨by rw [hlen, Nat.mul_one], q2, q3, .inr ⟨gb, off, _, J, q0, setRow_heap _ _ _ _ _ _ q5, ?_, ?_, q8⟩⟩
  ·rw [List.size_toArray, hnew]
   simp only [List.length_append, hlen, List.length_take, List.length_drop] at hcl ⊢
   simp at q6 hcl ⊢
   omega
  ·have key : ∀ (X Y Z : List Value), X.length = off → ((X ++ Y ++ Z).drop off).take Y.length = Y := by
    intro X Y Z hX
    subst hX
    rw [List.append_assoc, List.drop_left, List.take_left]
   rw [List.toList_toArray, hnew]
   exact key _ _ _ (by rw [List.length_take]; omega)
 ·rw [setRow_other _ _ _ _ (by rintro rfl; have h9 := hSG _ hSb; rw [h9] at hbG; cases hbG)]
  exact h4.emb b o' hbG
end
end
section
section
variable {C : Ctx} {E : Env} {ι : Ids} {L : List Ent} {G : PH} {d : Option Nat} {ty : Nat} {pos : String} {af : Array Edge} {g : Option (Nat × Bool)}
theorem V_gtK {t t' : Nat} {kd : IntKind} {x y : Operand} {p q : Int} (hx : ev E x = some (.val (.int kd p))) (hy : ev E y = some (.val (.int kd q))) : Vl C ι E L G ⟨d, .binOp .gtr t x y t', ty, pos, af, g⟩ (.bool (decide (q < p))) := by
 intro a w hE _
 have ex := ev_sound hE hx
 have ey := ev_sound hE hy
 simp only [denO, Option.some.injEq] at ex ey
 simp only [execOp, ← ex, ← ey]
 simp [eqGuard, binOp, Op.intCmp]
theorem V_sliceLo {T : Tab} (hT : tabOk C.P T) {t e sz sz' m : Nat} {os os' : List Nat} {tk : TK} {x y : Operand} {ad ad' : Addr} {n c : Nat} (ht : lookT t T = some ⟨.slc e, sz', os'⟩) (he : lookT e T = some ⟨tk, sz, os⟩) (hx : ev E x = some (.val (.slice (some ad) n c))) (hy : ev E y = some (.val (.int .i64 (m : Nat)))) (hm : m ≤ n) (hc : m < c) (had : ad' = ad.add (m * sz)) :
  Vl C ι E L G ⟨d, .slice t x (some y) none none, ty, pos, af, g⟩ (.slice (some ad') (n - m) (c - m)) := by
 intro a w hE hw
 have ex := ev_sound hE hx
 have ey := ev_sound hE hy
 simp only [denO, Option.some.injEq] at ex ey
 have hu := tyOk_slice (hT _ _ ht) rfl
 subst had
 simp only [execOp, Option.map_some, Option.map_none, ← ex, ← ey]
 have h1 : (m : Int) ≤ (n : Int) := by omega
 have h2 : ¬ ((m : Int) < 0) := by omega
 have h3 : ¬ (c - m = 0) := by omega
 have h4 : ¬ ((n : Int) < m) := by omega
 have h5 : ¬ (c ≤ m) := by omega
 simp only [Instr.sliceAt, Sem.run_bind, run_underlying hu, Result.andThen_ok]
 simp [Instr.slice, run_underlying hu, Instr.sliceBounds, Instr.sliceBound, asIntOf, tyOk_size (hT _ _ he), h1, h2, h3, h4, h5, hm, show ¬ c = m by omega]
theorem V_sliceHiO {T : Tab} (hT : tabOk C.P T) {t e sz sz' m : Nat} {os os' : List Nat} {tk : TK} {x y : Operand} {ad ad' : Addr} {n c : Nat} (ht : lookT t T = some ⟨.slc e, sz', os'⟩) (he : lookT e T = some ⟨tk, sz, os⟩) (hx : ev E x = some (.val (.slice (some ad) n c))) (hy : ev E y = some (.val (.int .i64 (m : Nat)))) (hm : m ≤ n) (hnc : n ≤ c) (hpos : 0 < c) (had : ad' = ad.add 0) :
  Vl C ι E L G ⟨d, .slice t x none (some y) none, ty, pos, af, g⟩ (.slice (some ad') m c) := by
 intro a w hE hw
 have ex := ev_sound hE hx
 have ey := ev_sound hE hy
 simp only [denO, Option.some.injEq] at ex ey
 have hu := tyOk_slice (hT _ _ ht) rfl
 have had2 := had.symm
 simp only [execOp, Option.map_some, Option.map_none, ← ex, ← ey]
 have h1 : (m : Int) ≤ (n : Int) := by omega
 have h2 : ¬ ((m : Int) < 0) := by omega
 have h3 : ¬ (c = 0) := by omega
 have h4 : (m : Int) ≤ (c : Int) := by omega
 simp only [Instr.sliceAt, Sem.run_bind, run_underlying hu, Result.andThen_ok]
 simp [Instr.slice, run_underlying hu, Instr.sliceBounds, Instr.sliceBound, asIntOf, tyOk_size (hT _ _ he), h1, h2, h3, h4, show m ≤ c by omega, had2]
end
end
section
theorem Mod.introE {P : Program} {f : FuncId} {fn : Func} {c : Code} {vs : List Value} {G : PH} {Post : Value → PH → HP → Prop} {n : Nat} (hf : P.funcs[f]? = some fn) (hn : fn.ntmps = n) (hb : fn.body = some c) (hle : Nat.ble vs.length n = true)
  (hx : ∀ w, X (MC P n fn G Post w (fun _ => False)) [.code c] (envOf 0 vs) [] [.hp 1 emptyHP] G) : Mod P f vs G emptyHP Post := by
 have h1 : ∀ w, X (MC P n fn G Post w (fun _ => False)) [.code c] (envOf 0 vs) [] [.hp 1 emptyHP] G := hx
 intro w S hw hA hS
 have : S = fun _ => False := funext fun b => propext ⟨fun h => emptyHP_none hA b h, False.elim⟩
 subst this
 refine Enter (ι := []) (L := [.hp 1 emptyHP]) (G := G) (S0 := fun _ => False) hf hb hn hle ?_ (h1 w)
 refine ⟨rfl, rfl, rfl, Nat.le_refl _, fun _ _ _ => rfl, hw, [fun _ => False], ⟨hA, ⟨fun T hT => (by cases hT), trivial⟩⟩, ?_⟩
 intro T hT b hb
 rw [List.mem_singleton.1 hT] at hb
 exact hb.elim
end
section
section
variable {C : Ctx} {E : Env} {ι : Ids} {L : List Ent} {G : PH}
theorem V_lookF {t kt et b clock : Nat} {u : Value} {m x : Operand} {key : Int} {es : Array MapEntry} {d : Option Nat} {ty : Nat} {pos : String} {af : Array Edge} {g : Option (Nat × Bool)}
  (hu : C.P.underlying t = some (.map kt et)) (hk' : C.P.underlying kt = some (.int .i64)) (hb : G b = some (.map es clock)) (hkeys : ∀ e ∈ es.toList, ∃ y, e.key = .int .i64 y) (hf : findI key es.toList = some u) (hm : ev E m = some (.val (.map (some b)))) (hx : ev E x = some (.val (.int .i64 key))) :
  Vl C ι E L G ⟨d, .lookup t m x false, ty, pos, af, g⟩ u := by
 intro a w hE hw
 have em := ev_sound hE hm
 have ex := ev_sound hE hx
 simp only [denO, Option.some.injEq] at em ex
 have hb' := hw.emb _ _ hb
 have hc := MapKept.run_checkKey (P := C.P) (w := w) (k := .int .i64 key) hk' (by simp [MapKept.IsKey]) es.isEmpty 9999
 obtain ⟨r, hr1, hr2⟩ := findNow_find (x := key) (i := 0) hkeys
 have hf' := MapKept.run_findKey (P := C.P) (w := w) hk' hr1
 rw [hf] at hr2
 simp only [execOp, ← em, ← ex]
 cases r with
 | none => cases hr2
 | some p =>
  simp only [Option.map_some, Option.some.injEq] at hr2
  simp [Instr.lookup, run_underlying hu, MapKept.run_getObj_map hb', hc, hf', hr2, Result.andThen]
end
theorem pure_alloc {P : Program} {f : Nat} {vs : List Value} {G : PH} {u : Nat → Value} {o : Obj} (h : ∀ w, Emb G w → Calls P f vs.toArray w fun e w' => e = .returned (u w.heap.size) ∧ w' = w.alloc o) : Pure P f vs G fun v G' => ∃ b, v = u b ∧ G' b = some o := by
 unfold Pure
 intro w hw
 refine (h w hw).mono ?_;rintro e w' ⟨rfl, rfl⟩
 have hGn : G w.heap.size = none := by
  cases hq : G w.heap.size with
  | none => rfl
  | some o' => have := (Array.getElem?_eq_some_iff.1 (hw _ _ hq)).1; omega
 refine ⟨_, G.add w.heap.size o, rfl, ⟨w.heap.size, rfl, PH.add_self _ _ _⟩, ⟨le_add hGn, fun b o' hb hn => ?_⟩, fun b o' hb => ?_, rfl, rfl, rfl, (by show w.heap.size ≤ (w.heap.push o).size; simp), fun b hb => ?_⟩
 ·unfold PH.add at hb
  split at hb
  ·omega
  ·rw [hn] at hb; cases hb
 ·unfold PH.add at hb
  split at hb
  ·rename_i e; subst e; cases hb
   show (w.heap.push o)[w.heap.size]? = _
   simp
  ·have := hw b o' hb
   have hlt := (Array.getElem?_eq_some_iff.1 this).1
   show (w.heap.push o)[b]? = _
   rw [Array.getElem?_push_lt hlt, ← Array.getElem?_eq_getElem hlt]; exact this
 ·show (w.heap.push o)[b]? = _
  rw [Array.getElem?_push_lt hb, ← Array.getElem?_eq_getElem hb]
theorem pure_belowE {P : Program} {f : Nat} {vs : List Value} {G : PH} {Q : Value → Prop} (h : ∀ w, Emb G w → Calls P f vs.toArray w fun e w' => ∃ u, e = .returned u ∧ Q u ∧ Below w.heap.size w w') : Pure P f vs G fun v G' => Q v ∧ G' = G := by
 unfold Pure
 intro w hw
 refine (h w hw).mono ?_;rintro e w' ⟨u, rfl, hq, hb⟩
 refine ⟨u, G, rfl, ⟨hq, rfl⟩, PH.ext.refl _ _, fun b o hbo => ?_, hb⟩
 have hlt : b < w.heap.size := (Array.getElem?_eq_some_iff.1 (hw b o hbo)).1
 rw [hb.block b hlt]
 exact hw b o hbo
end
section

end
section
theorem run_eqB {P : Program} (w : World) {t : TypeId} (ht : P.underlying t = some .bool) (p q : Bool) : (Op.equal t (.bool p) (.bool q)).run P w = .ok (decide (p = q)) w := by
 have h : ∀ d : Nat, (Op.equalIn (d + 1) t (.bool p) (.bool q)).run P w = .ok (decide (p = q)) w := fun d => by
  cases p <;> cases q <;> simp [Op.equalIn, run_underlying ht]
 simp [Op.equal, Op.maxDepth, h 9999]
section
variable {C : Ctx} {E : Env} {ι : Ids} {L : List Ent} {G : PH} {d : Option Nat} {ty : Nat} {pos : String} {af : Array Edge} {g : Option (Nat × Bool)}
theorem V_neqB {t t' : Nat} {x y : Operand} {p q : Bool} (hg : C.P.eqGuardType C.P.depth t = false) (ht : C.P.underlying t = some .bool) (hx : ev E x = some (.val (.bool p))) (hy : ev E y = some (.val (.bool q))) : Vl C ι E L G ⟨d, .binOp .neq t x y t', ty, pos, af, g⟩ (.bool (!decide (p = q))) := by
 intro a w hE hw
 have ex := ev_sound hE hx
 have ey := ev_sound hE hy
 simp only [denO, Option.some.injEq] at ex ey
 simp only [execOp, ← ex, ← ey]
 simp [eqGuard, hg, binOp, run_eqB w ht]
end
end
section
def tx (l : List UInt8) : Value := .string ⟨l.toArray⟩
theorem ba_append (l m : List UInt8) : ((⟨l.toArray⟩ : ByteArray) ++ ⟨m.toArray⟩) = ⟨(l ++ m).toArray⟩ := by
 apply ByteArray.ext
 show ((⟨l.toArray⟩ : ByteArray) ++ ⟨m.toArray⟩).data = _
 rw [ByteArray.data_append]; simp
section
variable {C : Ctx} {all : Array Oper} {l : List Oper} {k : List It} {E : Env} {ι : Ids} {L : List Ent} {G : PH} {d : Option Nat} {ty : Nat} {pos : String} {af : Array Edge} {g : Option (Nat × Bool)}
theorem V_addT {t t' : Nat} {x y : Operand} {p q : List UInt8} {a b : ByteArray} (hx : ev E x = some (.val (.string a))) (hy : ev E y = some (.val (.string b))) (ha : a = ⟨p.toArray⟩) (hb : b = ⟨q.toArray⟩) (hn : p.length + q.length ≤ 9223372036854775807) : Vl C ι E L G ⟨d, .binOp .add t x y t', ty, pos, af, g⟩ (tx (p ++ q)) := by
 intro a' w hE hw
 have ex := ev_sound hE hx
 have ey := ev_sound hE hy
 simp only [denO, Option.some.injEq] at ex ey
 subst ha hb
 have := run_string_add_sum (P := C.P) (w := w) ⟨p.toArray⟩ ⟨q.toArray⟩ (by simpa [ByteArray.size] using hn)
 simp only [execOp, ← ex, ← ey]
 simp [eqGuard, binOp, this, ba_append, tx]
theorem V_eqT {t t' : Nat} {x y : Operand} {p q : List UInt8} (hg : C.P.eqGuardType C.P.depth t = false) (hx : ev E x = some (.val (tx p))) (hy : ev E y = some (.val (tx q))) : Vl C ι E L G ⟨d, .binOp .eql t x y t', ty, pos, af, g⟩ (.bool (decide (p = q))) := by
 intro a' w hE hw
 have ex := ev_sound hE hx
 have ey := ev_sound hE hy
 simp only [denO, Option.some.injEq, tx] at ex ey
 simp only [execOp, ← ex, ← ey]
 simp [eqGuard, hg, binOp, Op.stringOp]
 by_cases h : p = q <;> simp [h]
theorem V_convT {t t' e : Nat} {x : Operand} {ad : Addr} {c : Nat} {p : List UInt8} (hs : C.P.underlying t = some (.slice e)) (he : C.P.underlying e = some (.int .u8)) (hd : C.P.underlying t' = some .string) (hx : ev E x = some (.val (.slice (some ad) p.length c))) (hc : ∀ j (hj : j < p.length), gcell G (ad.add j) = some (.int .u8 (p[j].toNat : Int))) : Vl C ι E L G ⟨d, .convert t t' x, ty, pos, af, g⟩ (tx p) := by
 intro a w hE hw
 have ex := ev_sound hE hx
 simp only [denO, Option.some.injEq] at ex
 have := run_convert_bytes_back (P := C.P) w t t' e ad c p hs he hd fun j hj => gcell_emb hw.emb (hc j hj)
 simp only [execOp, ← ex]
 simp [this, tx]
end
section
variable {C : Ctx} {all : Array Oper} {l : List Oper} {k : List It} {E : Env} {ι : Ids} {L : List Ent} {G : PH}
end
end
section
open Go.Shelf
def Tryd.lays156_ren : Go.Shelf.Ren := ⟨fun | 156 => 45 | 165 => 58 | 166 => 59 | 169 => 60 | 240 => 72 | 241 => 73 | 276 => 82 | 277 => 83 | n => n, fun | 31 => 28 | 9 => 9 | 3 => 3 | 4 => 4 | 0 => 0 | 20 => 20 | 72 => 94 | 76 => 57 | 70 => 92 | 37 => 68 | 75 => 56 | 127 => 110 | 164 => 125 | 5 => 5 | 80 => 61 | n => n, fun | n => n⟩
theorem Tryd.lays156 : Go.Proofs.Lays.n156 Tryd.prog Tryd.lays156_ren := {
 mixed := by kernel_rfl
 f156 := Tryd.func45.trans (congrArg some (by kernel_rfl))
 f165 := Tryd.func58.trans (congrArg some (by kernel_rfl))
 f166 := Tryd.func59.trans (congrArg some (by kernel_rfl))
 f169 := Tryd.func60.trans (congrArg some (by kernel_rfl))
 f240 := Tryd.func72.trans (congrArg some (by kernel_rfl))
 f241 := Tryd.func73.trans (congrArg some (by kernel_rfl))
 f276 := Tryd.func82.trans (congrArg some (by kernel_rfl))
 f277 := Tryd.func83.trans (congrArg some (by kernel_rfl))
 t0 := Tryd.underlying0
 a0 := Tryd.isAgg0
 z0 := Tryd.sizeOf0
 v0 := Tryd.zeroValue0
 t3 := Tryd.underlying3
 a3 := Tryd.isAgg3
 z3 := Tryd.sizeOf3
 v3 := Tryd.zeroValue3
 t4 := Tryd.underlying4
 a4 := Tryd.isAgg4
 z4 := Tryd.sizeOf4
 v4 := Tryd.zeroValue4
 t9 := Tryd.underlying9
 a9 := Tryd.isAgg9
 z9 := Tryd.sizeOf9
 v9 := Tryd.zeroValue9
 t20 := Tryd.underlying20
 a20 := Tryd.isAgg20
 z20 := Tryd.sizeOf20
 v20 := Tryd.zeroValue20
 t31 := Tryd.underlying28
 a31 := Tryd.isAgg28
 z31 := Tryd.sizeOf28
 v31 := Tryd.zeroValue28
 t37 := Tryd.underlying68
 a37 := Tryd.isAgg68
 z37 := Tryd.sizeOf68
 v37 := Tryd.zeroValue68
 t70 := Tryd.underlying92
 a70 := Tryd.isAgg92
 z70 := Tryd.sizeOf92
 v70 := Tryd.zeroValue92
 t72 := Tryd.underlying94
 a72 := Tryd.isAgg94
 z72 := Tryd.sizeOf94
 v72 := Tryd.zeroValue94
 t75 := Tryd.underlying56
 a75 := Tryd.isAgg56
 z75 := Tryd.sizeOf56
 v75 := Tryd.zeroValue56
 t76 := Tryd.underlying57
 a76 := Tryd.isAgg57
 z76 := Tryd.sizeOf57
 v76 := Tryd.zeroValue57
 t127 := Tryd.underlying110
 a127 := Tryd.isAgg110
 z127 := Tryd.sizeOf110
 v127 := Tryd.zeroValue110
 t164 := Tryd.underlying125
 a164 := Tryd.isAgg125
 z164 := Tryd.sizeOf125
 v164 := Tryd.zeroValue125 }
theorem Tryd.Builder_Extra_156 : Builder.Extra Tryd.prog Tryd.lays156_ren := {
 sizeBuilder := by kernel_rfl
 liesBuilder := by kernel_rfl
 t5 := Tryd.underlying5
 a5 := Tryd.isAgg5
 z5 := Tryd.sizeOf5
 v5 := Tryd.zeroValue5
 infoByte := by kernel_rfl
 cellsByte := by kernel_rfl
 sizeByte := by kernel_rfl
 neB5 := by decide }
open Go.RowKit in
theorem Tryd.strings_Join_none (a : Option Addr) (c : Nat) (sep : ByteArray) (w : World) :
  Calls Tryd.prog 45 #[.slice a 0 c, .string sep] w fun e w' => e = .returned (.string ⟨#[]⟩) ∧ w' = w := Any.strings_Join_none Tryd.lays156 Tryd.Builder_Extra_156 a c sep w
open Go.RowKit in
theorem Tryd.strings_Join (bk o c : Nat) (xs : List ByteArray) (sep : ByteArray) (w : World) (hcells : ∀ (j : Nat) x, xs[j]? = some x → w.cell? ⟨bk, o + j, none⟩ = some (.string x)) (hbk : bk < w.heap.size) (hN : xs.length ≤ 140737488355328) (hcap : xs.length ≤ c) (hlen : (Lib.join (xs.map (·.data.toList)) sep.data.toList).length ≤ 140737488355328) :
  Calls Tryd.prog 45 #[.slice (some ⟨bk, o, none⟩) xs.length c, .string sep] w fun e w' => e = .returned (.string ⟨(Lib.join (xs.map (·.data.toList)) sep.data.toList).toArray⟩) ∧ Below w.heap.size w w' := Any.strings_Join Tryd.lays156 Tryd.Builder_Extra_156 bk o c xs sep w hcells hbk hN hcap hlen
def Tryd.laysM171_ren : Go.Shelf.Ren := ⟨fun | 171 => 44 | 243 => 57 | 246 => 71 | 283 => 78 | 284 => 79 | 285 => 80 | 286 => 81 | 129 => 85 | 317 => 84 | 318 => 86 | 319 => 87 | 320 => 88 | 337 => 89 | 338 => 90 | n => n, fun | 3 => 3 | 9 => 9 | 2 => 2 | 4 => 4 | 171 => 120 | 0 => 0 | 53 => 97 | 37 => 68 | 5 => 5 | 173 => 123 | 212 => 129 | 51 => 104 | 20 => 20 | 213 => 130 | 46 => 89 | 232 => 133 | 233 => 134 | n => n, fun | 17 => 5 | 18 => 6 | 19 => 7 | n => n⟩
theorem Tryd.laysM171 : Go.Proofs.LaysM.n171 Tryd.prog Tryd.laysM171_ren := {
 mixed := by kernel_rfl
 f129 := Tryd.func85.trans (congrArg some (by kernel_rfl))
 f171 := Tryd.func44.trans (congrArg some (by kernel_rfl))
 f243 := Tryd.func57.trans (congrArg some (by kernel_rfl))
 f246 := Tryd.func71.trans (congrArg some (by kernel_rfl))
 f283 := Tryd.func78.trans (congrArg some (by kernel_rfl))
 f284 := Tryd.func79.trans (congrArg some (by kernel_rfl))
 f285 := Tryd.func80.trans (congrArg some (by kernel_rfl))
 f286 := Tryd.func81.trans (congrArg some (by kernel_rfl))
 f317 := Tryd.func84.trans (congrArg some (by kernel_rfl))
 f318 := Tryd.func86.trans (congrArg some (by kernel_rfl))
 f319 := Tryd.func87.trans (congrArg some (by kernel_rfl))
 f320 := Tryd.func88.trans (congrArg some (by kernel_rfl))
 f337 := Tryd.func89.trans (congrArg some (by kernel_rfl))
 f338 := Tryd.func90.trans (congrArg some (by kernel_rfl))
 t0 := Tryd.underlying0
 a0 := Tryd.isAgg0
 z0 := Tryd.sizeOf0
 v0 := Tryd.zeroValue0
 t2 := Tryd.underlying2
 a2 := Tryd.isAgg2
 z2 := Tryd.sizeOf2
 v2 := Tryd.zeroValue2
 t3 := Tryd.underlying3
 a3 := Tryd.isAgg3
 z3 := Tryd.sizeOf3
 v3 := Tryd.zeroValue3
 t4 := Tryd.underlying4
 a4 := Tryd.isAgg4
 z4 := Tryd.sizeOf4
 v4 := Tryd.zeroValue4
 t5 := Tryd.underlying5
 a5 := Tryd.isAgg5
 z5 := Tryd.sizeOf5
 v5 := Tryd.zeroValue5
 t9 := Tryd.underlying9
 a9 := Tryd.isAgg9
 z9 := Tryd.sizeOf9
 v9 := Tryd.zeroValue9
 t20 := Tryd.underlying20
 a20 := Tryd.isAgg20
 z20 := Tryd.sizeOf20
 v20 := Tryd.zeroValue20
 t37 := Tryd.underlying68
 a37 := Tryd.isAgg68
 z37 := Tryd.sizeOf68
 v37 := Tryd.zeroValue68
 t46 := Tryd.underlying89
 a46 := Tryd.isAgg89
 z46 := Tryd.sizeOf89
 v46 := Tryd.zeroValue89
 t51 := Tryd.underlying104
 a51 := Tryd.isAgg104
 z51 := Tryd.sizeOf104
 v51 := Tryd.zeroValue104
 t53 := Tryd.underlying97
 a53 := Tryd.isAgg97
 z53 := Tryd.sizeOf97
 v53 := Tryd.zeroValue97
 t171 := Tryd.underlying120
 a171 := Tryd.isAgg120
 z171 := Tryd.sizeOf120
 v171 := Tryd.zeroValue120
 t173 := Tryd.underlying123
 a173 := Tryd.isAgg123
 z173 := Tryd.sizeOf123
 v173 := Tryd.zeroValue123
 t212 := Tryd.underlying129
 a212 := Tryd.isAgg129
 z212 := Tryd.sizeOf129
 v212 := Tryd.zeroValue129
 t213 := Tryd.underlying130
 a213 := Tryd.isAgg130
 z213 := Tryd.sizeOf130
 t232 := Tryd.underlying133
 a232 := Tryd.isAgg133
 z232 := Tryd.sizeOf133
 v232 := Tryd.zeroValue133
 t233 := Tryd.underlying134
 a233 := Tryd.isAgg134
 z233 := Tryd.sizeOf134
 v233 := Tryd.zeroValue134
 g17 := by kernel_rfl
 g18 := by kernel_rfl
 g19 := by kernel_rfl
 i0 := by kernel_rfl
 i2 := by kernel_rfl
 i3 := by kernel_rfl
 i4 := by kernel_rfl
 i5 := by kernel_rfl
 i9 := by kernel_rfl
 i20 := by kernel_rfl
 i37 := by kernel_rfl
 i46 := by kernel_rfl
 i51 := by kernel_rfl
 i53 := by kernel_rfl
 i171 := by kernel_rfl
 i173 := by kernel_rfl
 i212 := by kernel_rfl
 i232 := by kernel_rfl
 i233 := by kernel_rfl
 m17 := by kernel_rfl
 m18 := by kernel_rfl
 m19 := by kernel_rfl }
open Go.RowKit Go.Sort Go.Lib in
theorem Tryd.strconv_Itoa (n : Int) (h0 : -9223372036854775808 ≤ n) (h1 : n ≤ 9223372036854775807) (w : World) (htab : Lib.TabIs Tryd.prog w "internal/strconv.uint64pow10" .u64 Lib.pow10Tab) :
  Calls Tryd.prog 44 #[.int .i64 n] w fun e w' => e = .returned (.string ⟨(Lib.itoa n).toArray⟩) ∧ ∃ k os, w' = grow (w.drewN k) os := Any.strconv_Itoa Tryd.laysM171 n h0 h1 w htab
def Tryd.laysC172_ren : Go.Shelf.Ren := ⟨fun | 172 => 26 | 244 => 36 | 245 => 37 | 247 => 51 | 279 => 52 | 280 => 53 | 281 => 54 | 282 => 55 | 287 => 66 | 316 => 67 | 171 => 44 | 205 => 68 | 321 => 76 | 322 => 77 | 243 => 57 | 246 => 71 | 283 => 78 | 284 => 79 | 285 => 80 | 286 => 81 | 129 => 85 | 317 => 84 | 318 => 86 | 319 => 87 | 320 => 88 | 337 => 89 | 338 => 90 | n => n, fun | 9 => 9 | 3 => 3 | 75 => 56 | 76 => 57 | 4 => 4 | 5 => 5 | 167 => 83 | 37 => 68 | 0 => 0 | 85 => 84 | 2 => 2 | 168 => 86 | 53 => 97 | 175 => 98 | 46 => 89 | 210 => 102 | 127 => 110 | 145 => 119 | 143 => 117 | 21 => 21 | 171 => 120 | 173 => 123 | 212 => 129 | 51 => 104 | 20 => 20 | 213 => 130 | 232 => 133 | 233 => 134 | 80 => 61 | n => n, fun | 15 => 1 | 16 => 2 | 17 => 5 | 18 => 6 | 19 => 7 | n => n⟩
theorem Tryd.laysC172 : Go.Proofs.LaysC.n172 Tryd.prog Tryd.laysC172_ren := {
 mixed := by kernel_rfl
 f129 := Tryd.func85.trans (congrArg some (by kernel_rfl))
 f171 := Tryd.func44.trans (congrArg some (by kernel_rfl))
 f172 := Tryd.func26.trans (congrArg some (by kernel_rfl))
 f205 := Tryd.func68.trans (congrArg some (by kernel_rfl))
 f243 := Tryd.func57.trans (congrArg some (by kernel_rfl))
 f244 := Tryd.func36.trans (congrArg some (by kernel_rfl))
 f245 := Tryd.func37.trans (congrArg some (by kernel_rfl))
 f246 := Tryd.func71.trans (congrArg some (by kernel_rfl))
 f247 := Tryd.func51.trans (congrArg some (by kernel_rfl))
 f279 := Tryd.func52.trans (congrArg some (by kernel_rfl))
 f280 := Tryd.func53.trans (congrArg some (by kernel_rfl))
 f281 := Tryd.func54.trans (congrArg some (by kernel_rfl))
 f282 := Tryd.func55.trans (congrArg some (by kernel_rfl))
 f283 := Tryd.func78.trans (congrArg some (by kernel_rfl))
 f284 := Tryd.func79.trans (congrArg some (by kernel_rfl))
 f285 := Tryd.func80.trans (congrArg some (by kernel_rfl))
 f286 := Tryd.func81.trans (congrArg some (by kernel_rfl))
 f287 := Tryd.func66.trans (congrArg some (by kernel_rfl))
 f316 := Tryd.func67.trans (congrArg some (by kernel_rfl))
 f317 := Tryd.func84.trans (congrArg some (by kernel_rfl))
 f318 := Tryd.func86.trans (congrArg some (by kernel_rfl))
 f319 := Tryd.func87.trans (congrArg some (by kernel_rfl))
 f320 := Tryd.func88.trans (congrArg some (by kernel_rfl))
 f321 := Tryd.func76.trans (congrArg some (by kernel_rfl))
 f322 := Tryd.func77.trans (congrArg some (by kernel_rfl))
 f337 := Tryd.func89.trans (congrArg some (by kernel_rfl))
 f338 := Tryd.func90.trans (congrArg some (by kernel_rfl))
 t0 := Tryd.underlying0
 a0 := Tryd.isAgg0
 z0 := Tryd.sizeOf0
 v0 := Tryd.zeroValue0
 t2 := Tryd.underlying2
 a2 := Tryd.isAgg2
 z2 := Tryd.sizeOf2
 v2 := Tryd.zeroValue2
 t3 := Tryd.underlying3
 a3 := Tryd.isAgg3
 z3 := Tryd.sizeOf3
 v3 := Tryd.zeroValue3
 t4 := Tryd.underlying4
 a4 := Tryd.isAgg4
 z4 := Tryd.sizeOf4
 v4 := Tryd.zeroValue4
 t5 := Tryd.underlying5
 a5 := Tryd.isAgg5
 z5 := Tryd.sizeOf5
 v5 := Tryd.zeroValue5
 t9 := Tryd.underlying9
 a9 := Tryd.isAgg9
 z9 := Tryd.sizeOf9
 v9 := Tryd.zeroValue9
 t20 := Tryd.underlying20
 a20 := Tryd.isAgg20
 z20 := Tryd.sizeOf20
 v20 := Tryd.zeroValue20
 t21 := Tryd.underlying21
 a21 := Tryd.isAgg21
 z21 := Tryd.sizeOf21
 v21 := Tryd.zeroValue21
 t37 := Tryd.underlying68
 a37 := Tryd.isAgg68
 z37 := Tryd.sizeOf68
 v37 := Tryd.zeroValue68
 t46 := Tryd.underlying89
 a46 := Tryd.isAgg89
 z46 := Tryd.sizeOf89
 v46 := Tryd.zeroValue89
 t51 := Tryd.underlying104
 a51 := Tryd.isAgg104
 z51 := Tryd.sizeOf104
 v51 := Tryd.zeroValue104
 t53 := Tryd.underlying97
 a53 := Tryd.isAgg97
 z53 := Tryd.sizeOf97
 v53 := Tryd.zeroValue97
 t75 := Tryd.underlying56
 a75 := Tryd.isAgg56
 z75 := Tryd.sizeOf56
 v75 := Tryd.zeroValue56
 t76 := Tryd.underlying57
 a76 := Tryd.isAgg57
 z76 := Tryd.sizeOf57
 v76 := Tryd.zeroValue57
 t85 := Tryd.underlying84
 a85 := Tryd.isAgg84
 z85 := Tryd.sizeOf84
 v85 := Tryd.zeroValue84
 t127 := Tryd.underlying110
 a127 := Tryd.isAgg110
 z127 := Tryd.sizeOf110
 v127 := Tryd.zeroValue110
 t143 := Tryd.underlying117
 a143 := Tryd.isAgg117
 z143 := Tryd.sizeOf117
 v143 := Tryd.zeroValue117
 t145 := Tryd.underlying119
 a145 := Tryd.isAgg119
 z145 := Tryd.sizeOf119
 v145 := Tryd.zeroValue119
 t167 := Tryd.underlying83
 a167 := Tryd.isAgg83
 z167 := Tryd.sizeOf83
 v167 := Tryd.zeroValue83
 t168 := Tryd.underlying86
 a168 := Tryd.isAgg86
 z168 := Tryd.sizeOf86
 v168 := Tryd.zeroValue86
 t171 := Tryd.underlying120
 a171 := Tryd.isAgg120
 z171 := Tryd.sizeOf120
 v171 := Tryd.zeroValue120
 t173 := Tryd.underlying123
 a173 := Tryd.isAgg123
 z173 := Tryd.sizeOf123
 v173 := Tryd.zeroValue123
 t175 := Tryd.underlying98
 a175 := Tryd.isAgg98
 z175 := Tryd.sizeOf98
 v175 := Tryd.zeroValue98
 t210 := Tryd.underlying102
 a210 := Tryd.isAgg102
 z210 := Tryd.sizeOf102
 v210 := Tryd.zeroValue102
 t212 := Tryd.underlying129
 a212 := Tryd.isAgg129
 z212 := Tryd.sizeOf129
 v212 := Tryd.zeroValue129
 t213 := Tryd.underlying130
 a213 := Tryd.isAgg130
 z213 := Tryd.sizeOf130
 t232 := Tryd.underlying133
 a232 := Tryd.isAgg133
 z232 := Tryd.sizeOf133
 v232 := Tryd.zeroValue133
 t233 := Tryd.underlying134
 a233 := Tryd.isAgg134
 z233 := Tryd.sizeOf134
 v233 := Tryd.zeroValue134
 g15 := by kernel_rfl
 g16 := by kernel_rfl
 g17 := by kernel_rfl
 g18 := by kernel_rfl
 g19 := by kernel_rfl
 t80 := Tryd.underlying61
 a80 := Tryd.isAgg61
 z80 := Tryd.sizeOf61
 v80 := Tryd.zeroValue61
 i0 := by kernel_rfl
 i2 := by kernel_rfl
 i3 := by kernel_rfl
 i4 := by kernel_rfl
 i5 := by kernel_rfl
 i9 := by kernel_rfl
 i20 := by kernel_rfl
 i21 := by kernel_rfl
 i37 := by kernel_rfl
 i46 := by kernel_rfl
 i51 := by kernel_rfl
 i53 := by kernel_rfl
 i75 := by kernel_rfl
 i76 := by kernel_rfl
 i80 := by kernel_rfl
 i85 := by kernel_rfl
 i127 := by kernel_rfl
 i143 := by kernel_rfl
 i145 := by kernel_rfl
 i167 := by kernel_rfl
 i168 := by kernel_rfl
 i171 := by kernel_rfl
 i173 := by kernel_rfl
 i175 := by kernel_rfl
 i210 := by kernel_rfl
 i212 := by kernel_rfl
 i232 := by kernel_rfl
 i233 := by kernel_rfl
 m15 := by kernel_rfl
 m16 := by kernel_rfl
 m17 := by kernel_rfl
 m18 := by kernel_rfl
 m19 := by kernel_rfl
 c0 := by kernel_rfl
 c2 := by kernel_rfl
 c3 := by kernel_rfl
 c4 := by kernel_rfl
 c5 := by kernel_rfl
 c9 := by kernel_rfl
 c20 := by kernel_rfl
 c21 := by kernel_rfl
 c37 := by kernel_rfl
 c46 := by kernel_rfl
 c51 := by kernel_rfl
 c53 := by kernel_rfl
 c75 := by kernel_rfl
 c76 := by kernel_rfl
 c80 := by kernel_rfl
 c85 := by kernel_rfl
 c127 := by kernel_rfl
 c143 := by kernel_rfl
 c145 := by kernel_rfl
 c167 := by kernel_rfl
 c168 := by kernel_rfl
 c171 := by kernel_rfl
 c173 := by kernel_rfl
 c175 := by kernel_rfl
 c210 := by kernel_rfl
 c212 := by kernel_rfl
 c213 := by kernel_rfl
 c232 := by kernel_rfl
 c233 := by kernel_rfl }
open Go.RowKit in
theorem Tryd.strconv_Atoi_ok (s : ByteArray) (hmax : s.size ≤ 9223372036854775806) (v : Int) (h : Lib.atoiAll s.data.toList = .ok v) (w : World) :
  Calls Tryd.prog 26 #[.string s] w fun e w' => e = .returned (.tuple #[.int .i64 v, .nilIface]) ∧ (w' = w ∨ ∃ t, w' = Lib.bytesWorld w 5 t) := Any.strconv_Atoi_ok Tryd.laysC172 s hmax v h w
open Go.RowKit in
theorem Tryd.strconv_Atoi_syntax_var (s : ByteArray) (hlim : s.size ≤ 281474976710656) (h : Lib.atoiAll s.data.toList = Lib.NumEnd.syntax) (tp : TypeId) (p : Value) (w : World) (hvar : w.var? Tryd.prog "strconv.ErrSyntax" = some #[.iface tp p]) :
  Calls Tryd.prog 26 #[.string s] w fun e w' => ∃ N, e = .returned (.tuple #[.int .i64 0, .iface 86 (.pointer (some ⟨N, 0, none⟩))]) ∧ w.heap.size ≤ N ∧ w'.heap[N]? = some (.cells #[.string ⟨#[65, 116, 111, 105]⟩, .string s, .iface tp p] 102 (0, 0)) ∧ Below w.heap.size w w' := Any.strconv_Atoi_syntax_var Tryd.laysC172 s hlim h tp p w hvar
open Go.RowKit in
theorem Tryd.strconv_Atoi_range_var (s : ByteArray) (hlim : s.size ≤ 281474976710656) (h : Lib.atoiAll s.data.toList = .range) (tp : TypeId) (p : Value) (w : World) (hvar : w.var? Tryd.prog "strconv.ErrRange" = some #[.iface tp p]) :
  Calls Tryd.prog 26 #[.string s] w fun e w' => ∃ N, e = .returned (.tuple #[.int .i64 (Lib.atoiSat s.data.toList), .iface 86 (.pointer (some ⟨N, 0, none⟩))]) ∧ w.heap.size ≤ N ∧ w'.heap[N]? = some (.cells #[.string ⟨#[65, 116, 111, 105]⟩, .string s, .iface tp p] 102 (0, 0)) ∧ Below w.heap.size w w' := Any.strconv_Atoi_range_var Tryd.laysC172 s hlim h tp p w hvar
def Tryd.lays146_ren : Go.Shelf.Ren := ⟨fun | 146 => 13 | 221 => 24 | 268 => 33 | 138 => 34 | 143 => 35 | 195 => 47 | 197 => 48 | 218 => 49 | 219 => 50 | 260 => 61 | 217 => 62 | 225 => 63 | 224 => 64 | 267 => 65 | 266 => 74 | 314 => 75 | n => n, fun | 9 => 9 | 31 => 28 | 3 => 3 | 4 => 4 | 0 => 0 | 105 => 80 | 21 => 21 | 5 => 5 | 46 => 89 | 119 => 111 | 139 => 114 | 138 => 113 | 146 => 105 | 51 => 104 | n => n, fun | 1 => 0 | 3 => 3 | 4 => 4 | n => n⟩
theorem Tryd.lays146 : Go.Proofs.Lays.n146 Tryd.prog Tryd.lays146_ren := {
 mixed := by kernel_rfl
 f138 := Tryd.func34.trans (congrArg some (by kernel_rfl))
 f143 := Tryd.func35.trans (congrArg some (by kernel_rfl))
 f146 := Tryd.func13.trans (congrArg some (by kernel_rfl))
 f195 := Tryd.func47.trans (congrArg some (by kernel_rfl))
 f197 := Tryd.func48.trans (congrArg some (by kernel_rfl))
 f217 := Tryd.func62.trans (congrArg some (by kernel_rfl))
 f218 := Tryd.func49.trans (congrArg some (by kernel_rfl))
 f219 := Tryd.func50.trans (congrArg some (by kernel_rfl))
 f221 := Tryd.func24.trans (congrArg some (by kernel_rfl))
 f224 := Tryd.func64.trans (congrArg some (by kernel_rfl))
 f225 := Tryd.func63.trans (congrArg some (by kernel_rfl))
 f260 := Tryd.func61.trans (congrArg some (by kernel_rfl))
 f266 := Tryd.func74.trans (congrArg some (by kernel_rfl))
 f267 := Tryd.func65.trans (congrArg some (by kernel_rfl))
 f268 := Tryd.func33.trans (congrArg some (by kernel_rfl))
 f314 := Tryd.func75.trans (congrArg some (by kernel_rfl))
 t0 := Tryd.underlying0
 a0 := Tryd.isAgg0
 z0 := Tryd.sizeOf0
 v0 := Tryd.zeroValue0
 t3 := Tryd.underlying3
 a3 := Tryd.isAgg3
 z3 := Tryd.sizeOf3
 v3 := Tryd.zeroValue3
 t4 := Tryd.underlying4
 a4 := Tryd.isAgg4
 z4 := Tryd.sizeOf4
 v4 := Tryd.zeroValue4
 t5 := Tryd.underlying5
 a5 := Tryd.isAgg5
 z5 := Tryd.sizeOf5
 v5 := Tryd.zeroValue5
 t9 := Tryd.underlying9
 a9 := Tryd.isAgg9
 z9 := Tryd.sizeOf9
 v9 := Tryd.zeroValue9
 t21 := Tryd.underlying21
 a21 := Tryd.isAgg21
 z21 := Tryd.sizeOf21
 v21 := Tryd.zeroValue21
 t31 := Tryd.underlying28
 a31 := Tryd.isAgg28
 z31 := Tryd.sizeOf28
 v31 := Tryd.zeroValue28
 t46 := Tryd.underlying89
 a46 := Tryd.isAgg89
 z46 := Tryd.sizeOf89
 v46 := Tryd.zeroValue89
 t51 := Tryd.underlying104
 a51 := Tryd.isAgg104
 z51 := Tryd.sizeOf104
 v51 := Tryd.zeroValue104
 t105 := Tryd.underlying80
 a105 := Tryd.isAgg80
 z105 := Tryd.sizeOf80
 v105 := Tryd.zeroValue80
 t119 := Tryd.underlying111
 a119 := Tryd.isAgg111
 z119 := Tryd.sizeOf111
 t138 := Tryd.underlying113
 a138 := Tryd.isAgg113
 z138 := Tryd.sizeOf113
 v138 := Tryd.zeroValue113
 t139 := Tryd.underlying114
 a139 := Tryd.isAgg114
 z139 := Tryd.sizeOf114
 v139 := Tryd.zeroValue114
 t146 := Tryd.underlying105
 a146 := Tryd.isAgg105
 z146 := Tryd.sizeOf105
 v146 := Tryd.zeroValue105
 g1 := by kernel_rfl
 g3 := by kernel_rfl
 g4 := by kernel_rfl }
open Go.RowKit Go.Lib in
theorem Tryd.strings_Split (s sep : ByteArray) (m : Int) (w : World) (hs : s.size < 4294967281) (hm : w.cell? ⟨0, 0, none⟩ = some (.int .i64 m)) (h1 : 1 ≤ sep.size) :
  Calls Tryd.prog 13 #[.string s, .string sep] w fun e w' =>
   e = .returned (.slice (some ⟨w.heap.size, 0, none⟩) (Lib.countB s sep + 1) (Lib.countB s sep + 1)) ∧ w' = w.alloc (.cells ((Lib.splitB sep 0 (Lib.countB s sep) s).map Value.string).toArray 9) := Any.strings_Split Tryd.lays146 (by kernel_rfl) s sep m w hs hm h1
def Tryd.lays212_ren : Go.Shelf.Ren := ⟨fun | 212 => 56 | 263 => 69 | 264 => 70 | n => n, fun | 46 => 89 | 51 => 104 | 146 => 105 | 53 => 97 | 148 => 107 | n => n, fun | n => n⟩
theorem Tryd.lays212 : Go.Proofs.Lays.n212 Tryd.prog Tryd.lays212_ren := {
 mixed := by kernel_rfl
 f212 := Tryd.func56.trans (congrArg some (by kernel_rfl))
 f263 := Tryd.func69.trans (congrArg some (by kernel_rfl))
 f264 := Tryd.func70.trans (congrArg some (by kernel_rfl))
 t46 := Tryd.underlying89
 a46 := Tryd.isAgg89
 z46 := Tryd.sizeOf89
 v46 := Tryd.zeroValue89
 t51 := Tryd.underlying104
 a51 := Tryd.isAgg104
 z51 := Tryd.sizeOf104
 v51 := Tryd.zeroValue104
 t53 := Tryd.underlying97
 a53 := Tryd.isAgg97
 z53 := Tryd.sizeOf97
 v53 := Tryd.zeroValue97
 t146 := Tryd.underlying105
 a146 := Tryd.isAgg105
 z146 := Tryd.sizeOf105
 v146 := Tryd.zeroValue105
 t148 := Tryd.underlying107
 a148 := Tryd.isAgg107
 z148 := Tryd.sizeOf107
 v148 := Tryd.zeroValue107 }
open Go.RowKit Go.Lib in
theorem Tryd.bits_Mul (x y : Nat) (hx : x < 18446744073709551616) (hy : y < 18446744073709551616) (w : World) :
  Calls Tryd.prog 56 #[.int .u64 x, .int .u64 y] w fun e w' => e = .returned (.tuple #[.int .u64 ((x * y / 18446744073709551616 : Nat) : Int), .int .u64 ((x * y % 18446744073709551616 : Nat) : Int)]) ∧ w' = w := Any.bits_Mul Tryd.lays212 x y hx hy w
end
section
open Go.Lib (itoa join)
attribute [local irreducible] X Pure Mod
def TabG (G : PH) : Prop := ∀ w, Emb G w → Lib.TabIs Tryd.prog w "internal/strconv.uint64pow10" .u64 Lib.pow10Tab
theorem TabG_le {G G' : PH} (h : G.le G') (hT : TabG G) : TabG G' := fun w hw => hT w fun b o hb => hw b o (h b o hb)
theorem pure_below {P : Program} {f : Nat} {vs : List Value} {G : PH} {u : Value} (h : ∀ w, Emb G w → Calls P f vs.toArray w fun e w' => e = .returned u ∧ Below w.heap.size w w') : Pure P f vs G fun v G' => v = u ∧ G' = G := by
 unfold Pure
 intro w hw
 refine (h w hw).mono ?_;rintro e w' ⟨rfl, hb⟩
 refine ⟨u, G, rfl, ⟨rfl, rfl⟩, PH.ext.refl _ _, fun b o hbo => ?_, hb⟩
 have hlt : b < w.heap.size := (Array.getElem?_eq_some_iff.1 (hw b o hbo)).1
 rw [hb.block b hlt]
 exact hw b o hbo
theorem below_grow (w : World) (k : Nat) (os : Array Obj) : Below w.heap.size w (Sort.grow (w.drewN k) os) :=
 ⟨rfl, rfl, rfl, by simp [Sort.grow, World.drewN], fun b hb => by
  rw [Sort.heap_grow_old _ _ (by simpa [World.drewN] using hb)]; rfl⟩
theorem c_Itoa (n : Int) (hn : I64 n) (G : PH) (hT : TabG G) : Pure Tryd.prog 44 [.int .i64 n] G fun v G' => v = tx (itoa n) ∧ G' = G :=
 pure_below fun w hw => (Tryd.strconv_Itoa n hn.1 hn.2 w (hT w hw)).mono fun e w' ⟨he, k, os, hw'⟩ => ⟨he, hw' ▸ below_grow w k os⟩
theorem c_Join (xs : List (List UInt8)) (sep : List UInt8) (A : Option Addr) (c : Nat) (G : PH) (hv : xs.length = 0 ∨ ∃ g o, A = some ⟨g, o, none⟩ ∧ gcells G ⟨g, o, none⟩ (xs.map tx)) (hc : xs.length ≤ c) (hn : xs.length ≤ 1000000000) (hl : (join xs sep).length ≤ 140737488355328) : Pure Tryd.prog 45 [.slice A xs.length c, tx sep] G fun v' G' => v' = tx (join xs sep) ∧ G' = G := by
 rcases Nat.eq_zero_or_pos xs.length with h0 | h0
 ·obtain rfl := List.eq_nil_of_length_eq_zero h0
  exact pure_below fun w hw => (Tryd.strings_Join_none A c ⟨sep.toArray⟩ w).mono fun e w' ⟨he, hw'⟩ => ⟨he, hw' ▸ Below.refl _ _⟩
 rcases hv with hv | ⟨g, o, rfl, hcs⟩
 ·omega
 have e1 : (xs.map fun x => (⟨x.toArray⟩ : ByteArray)).map (·.data.toList) = xs := by simp [Function.comp_def]
 refine pure_below fun w hw => ?_
 have hcell : ∀ (j : Nat) (x : ByteArray), (xs.map fun x => (⟨x.toArray⟩ : ByteArray))[j]? = some x → w.cell? ⟨g, o + j, none⟩ = some (.string x) := by
  intro j x hj
  rw [List.getElem?_map] at hj
  obtain ⟨y, hy, rfl⟩ := Option.map_eq_some_iff.1 hj
  have := gcell_emb hw (gcells_at hcs j (tx y) (by rw [List.getElem?_map, hy]; rfl))
  rw [show (⟨g, o, none⟩ : Addr).add j = ⟨g, o + j, none⟩ by unfold Addr.add; split <;> simp_all] at this
  exact this
 have hg : g < w.heap.size := by
  have h1 := gcells_at hcs 0 (tx xs[0]) (by simp [h0])
  unfold gcell at h1
  simp only [Addr.add] at h1
  split at h1
  ·rename_i hx
   exact (Array.getElem?_eq_some_iff.1 (hw _ _ hx)).1
  ·cases h1
 have := Tryd.strings_Join g o c (xs.map fun x => (⟨x.toArray⟩ : ByteArray)) ⟨sep.toArray⟩ w hcell hg (by simp; omega) (by simpa using hc) (by rw [e1]; simpa using hl)
 rw [e1] at this
 simpa [tx] using this
theorem S_freezeN {C : Ctx} {k : List It} {E : Env} {ι : Ids} {L : List Ent} {G : PH} (κ : Nat) {base e sz : Nat} {A : Option Addr} {n c : Nat} {xs : List Value} {L' : List Ent} (hL : getH κ L = some (rowO base e sz A n c xs)) (hL' : delH κ L = some L') (hb0 : C.w0.heap.size ≤ base)
  (hk : ∀ G', PH.ext C.w0.heap.size G G' → n ≤ c → c ≤ maxLen → (n = 0 ∨ ∃ g o, A = some ⟨g, o, none⟩ ∧ gcells G' ⟨g, o, none⟩ xs) → X C k E ι L' G') : X C k E ι L G := by
 refine S_lendO κ hL hL' (fun hA hn hc hx => ?_) (fun g off cur hA hbg hnc hcm hl hfit ht hG hb hcells => ?_)
 ·exact hk G XR (by omega) (by rw [hc]; simp [maxLen]) (.inl hn)
 ·refine hk _ ⟨le_add hG, fun b o hbo hn => ?_⟩ hnc hcm (.inr ⟨g, off, hA, ?_⟩)
  ·unfold PH.add at hbo
   split at hbo
   ·rename_i e'; subst e'; omega
   ·rw [hn] at hbo; cases hbo
  ·refine gcells_row (cur := cur) (e := e) (fr := (0, 0)) ?_ xs off ht
   simp [PH.add]
end
section
attribute [local irreducible] X Pure Mod
theorem c_iNumOk (n : Int) (G : PH) : Pure Tryd.prog 39 [.int .i64 n] G fun v G' => v = .bool (numOk n) ∧ G' = G := by
 refine Pure.intro Tryd.func39 Tryd.ntmps39 J J fun w => ?_; refine Va J J ?_;exact S_retP Tryd.results39 J J XR ⟨J, J⟩
def opOk (n : Int) : Bool := decide (1 ≤ n) && decide (n ≤ 5)
theorem c_isOp (n : Int) (G : PH) : Pure Tryd.prog 40 [.int .i64 n] G fun v G' => v = .bool (opOk n) ∧ G' = G := by
 refine Pure.intro Tryd.func40 Tryd.ntmps40 J J fun w => ?_; refine Va J J ?_;exact S_retP Tryd.results40 J J XR ⟨J, J⟩
def fitsB (n l : Int) : Bool := decide (n = 0) || (decide (0 < n) && decide (n < l))
theorem c_fits (n l : Int) (G : PH) : Pure Tryd.prog 38 [.int .i64 n, .int .i64 l] G fun v G' => v = .bool (fitsB n l) ∧ G' = G := by
 refine Pure.intro Tryd.func38 Tryd.ntmps38 J J fun w => ?_; refine Va J J ?_
 repeat' (first
  | (refine S_condp J (fun h => ?_) (fun h => ?_) <;> refine Va J J ?_) | (refine S_cond J (fun h => ?_) (fun h => ?_) <;> refine Va J J ?_) | (refine S_box J J J J J fun b => ?_; refine Va J J ?_) | (refine AZ ZT_ok J J J J fun b => ?_; refine Va J J ?_) | (refine S_guardp J J (fun h => ?_) (fun h => ?_) <;> refine Va J J ?_) | (refine S_guard J J (fun h => ?_) (fun h => ?_) <;> refine Va J J ?_)
  | (refine S_retP Tryd.results38 J J XR ⟨?_, J⟩))
 all_goals (try simp_all [fitsB])
 all_goals (try omega)
theorem u_int : Tryd.prog.underlying 3 = some (.int .i64) := by kernel_rfl
theorem findI_none {x : Int} : ∀ {es : List MapEntry}, (∀ e ∈ es, ∃ y, e.key = .int .i64 y ∧ x ≠ y) → findI x es = none := by
 intro es
 induction es with
 | nil => intro _; rfl
 | cons e es ih =>
  intro h
  obtain ⟨y, hy, hne⟩ := h e (List.mem_cons_self ..)
  obtain ⟨key, val, born⟩ := e
  simp only at hy
  subst hy
  simp only [findI, if_neg hne]
  exact ih fun e he => h e (List.mem_cons_of_mem _ he)
end
section
section
variable {C : Ctx} {E : Env} {ι : Ids} {L : List Ent} {G : PH} {d : Option Nat} {ty : Nat} {pos : String} {af : Array Edge} {g : Option (Nat × Bool)}
theorem ba_size (l : List UInt8) : (ByteArray.mk l.toArray).size = l.length := by simp [ByteArray.size]
theorem ba_get (l : List UInt8) (i : Nat) (hi : i < l.length) (h : i < (ByteArray.mk l.toArray).size) : (ByteArray.mk l.toArray)[i]'h = l[i] := by
 simp [ByteArray.getElem_eq_getElem_data]
theorem V_idxT {t : Nat} {x ix : Operand} {p : List UInt8} {i : Nat} (hu : C.P.underlying t = some .string) (hx : ev E x = some (.val (tx p))) (hi : ev E ix = some (.val (.int .i64 (i : Nat)))) (hlt : i < p.length) : Vl C ι E L G ⟨d, .index t x ix, ty, pos, af, g⟩ (.int .u8 (p[i].toNat : Int)) := by
 intro a w hE hw
 have ex := ev_sound hE hx
 have ei := ev_sound hE hi
 simp only [denO, Option.some.injEq, tx] at ex ei
 simp only [execOp, ← ex, ← ei]
 rw [Sem.run_bind, run_index_string w t _ .i64 (i : Nat) hu, dif_pos ⟨by omega, by rw [ba_size]; omega⟩]
 simp only [Result.andThen, Int.toNat_natCast, ba_get p i hlt]
 rfl
theorem V_subT {t : Nat} {x lo hi : Operand} {p : List UInt8} {i j : Nat} (hu : C.P.underlying t = some .string) (hx : ev E x = some (.val (tx p))) (hlo : ev E lo = some (.val (.int .i64 (i : Nat)))) (hhi : ev E hi = some (.val (.int .i64 (j : Nat)))) (hij : i ≤ j) (hj : j ≤ p.length) : Vl C ι E L G ⟨d, .slice t x (some lo) (some hi) none, ty, pos, af, g⟩ (tx ((p.drop i).take (j - i))) := by
 intro a w hE hw
 have ex := ev_sound hE hx
 have el := ev_sound hE hlo
 have eh := ev_sound hE hhi
 simp only [denO, Option.some.injEq, tx] at ex el eh
 simp only [execOp, ← ex, Option.map_some, Option.map_none, ← el, ← eh]
 have := run_slice_string (P := C.P) w t ⟨p.toArray⟩ .i64 .i64 (i : Nat) (j : Nat) hu (by omega) (by omega) (by rw [ba_size]; omega)
 simp only [Int.toNat_natCast, ByteArray.extract_mk] at this
 simp [Instr.sliceAt, run_underlying hu, Result.andThen, this, tx]
theorem V_subTl {t : Nat} {x lo : Operand} {p : List UInt8} {i : Nat} (hu : C.P.underlying t = some .string) (hx : ev E x = some (.val (tx p))) (hlo : ev E lo = some (.val (.int .i64 (i : Nat)))) (hi : i ≤ p.length) : Vl C ι E L G ⟨d, .slice t x (some lo) none none, ty, pos, af, g⟩ (tx (p.drop i)) := by
 intro a w hE hw
 have ex := ev_sound hE hx
 have el := ev_sound hE hlo
 simp only [denO, Option.some.injEq, tx] at ex el
 simp only [execOp, ← ex, Option.map_some, Option.map_none, ← el]
 have := run_slice_string_l (P := C.P) w t ⟨p.toArray⟩ hu .i64 (i : Nat) (by omega) (by rw [ba_size]; omega)
 simp only [Int.toNat_natCast, ByteArray.extract_mk, ba_size] at this
 rw [List.take_of_length_le (by simp)] at this
 simp [Instr.sliceAt, run_underlying hu, Result.andThen, this, tx]
theorem V_neT {t t' : Nat} {x y : Operand} {p q : List UInt8} (hg : C.P.eqGuardType C.P.depth t = false) (hx : ev E x = some (.val (tx p))) (hy : ev E y = some (.val (tx q))) : Vl C ι E L G ⟨d, .binOp .neq t x y t', ty, pos, af, g⟩ (.bool (!decide (p = q))) := by
 intro a' w hE hw
 have ex := ev_sound hE hx
 have ey := ev_sound hE hy
 simp only [denO, Option.some.injEq, tx] at ex ey
 simp only [execOp, ← ex, ← ey]
 simp [eqGuard, hg, binOp, Op.stringOp]
 by_cases h : p = q <;> simp [h]
theorem V_eq8 {t t' : Nat} {x y : Operand} {p q : Int} (hx : ev E x = some (.val (.int .u8 p))) (hy : ev E y = some (.val (.int .u8 q))) : Vl C ι E L G ⟨d, .binOp .eql t x y t', ty, pos, af, g⟩ (.bool (decide (p = q))) := by
 intro a w hE _
 have ex := ev_sound hE hx
 have ey := ev_sound hE hy
 simp only [denO, Option.some.injEq] at ex ey
 simp only [execOp, ← ex, ← ey]
 simp [eqGuard, binOp, Op.intCmp]
 by_cases h : p = q <;> simp [h]
theorem V_lt8 {t t' : Nat} {x y : Operand} {p q : Int} (hx : ev E x = some (.val (.int .u8 p))) (hy : ev E y = some (.val (.int .u8 q))) : Vl C ι E L G ⟨d, .binOp .lss t x y t', ty, pos, af, g⟩ (.bool (decide (p < q))) := by
 intro a w hE _
 have ex := ev_sound hE hx
 have ey := ev_sound hE hy
 simp only [denO, Option.some.injEq] at ex ey
 simp only [execOp, ← ex, ← ey]
 simp [eqGuard, binOp, Op.intCmp]
theorem V_gt8 {t t' : Nat} {x y : Operand} {p q : Int} (hx : ev E x = some (.val (.int .u8 p))) (hy : ev E y = some (.val (.int .u8 q))) : Vl C ι E L G ⟨d, .binOp .gtr t x y t', ty, pos, af, g⟩ (.bool (decide (q < p))) := by
 intro a w hE _
 have ex := ev_sound hE hx
 have ey := ev_sound hE hy
 simp only [denO, Option.some.injEq] at ex ey
 simp only [execOp, ← ex, ← ey]
 simp [eqGuard, binOp, Op.intCmp]
theorem V_sub8 {t t' : Nat} {x y : Operand} {p q : Int} (hx : ev E x = some (.val (.int .u8 p))) (hy : ev E y = some (.val (.int .u8 q))) (h0 : 0 ≤ p - q) (h1 : p - q ≤ 255) : Vl C ι E L G ⟨d, .binOp .sub t x y t', ty, pos, af, g⟩ (.int .u8 (p - q)) := by
 intro a w hE _
 have ex := ev_sound hE hx
 have ey := ev_sound hE hy
 simp only [denO, Option.some.injEq] at ex ey
 simp only [execOp, ← ex, ← ey]
 have hwr : IntKind.u8.wrap (p - q) = p - q := by
  simp only [IntKind.wrap, IntKind.bits, IntKind.signed]
  simp
  omega
 simp [eqGuard, binOp, Op.intArith, hwr]
end
end
section
section
variable {C : Ctx} {ks : List Nat} {all : Array Oper} {k : List It} {E : Env} {ι : Ids} {L : List Ent} {G : PH} {R : List Nat} {pend l : List Pd}
end
section
variable {C : Ctx} {E : Env} {ι : Ids} {L : List Ent} {G : PH} {d : Option Nat} {ty : Nat} {pos : String} {af : Array Edge} {g : Option (Nat × Bool)}
end
end
end Go.Proofs.YtblildkhbkmmdaaDoor
