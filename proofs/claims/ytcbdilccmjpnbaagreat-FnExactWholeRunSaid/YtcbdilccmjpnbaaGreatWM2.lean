/- Walks of the program's functions, one after the other (part 2); without conditions of their own. -/
import Derived.Test.YtcbdilccmjpnbaaGreatWM1
import Derived.MapKept
import Derived.RangeFuncFrom
import Derived.RangeFuncLeaves
set_option linter.unusedVariables false
set_option linter.unusedSimpArgs false
set_option maxRecDepth 100000
set_option maxHeartbeats 4000000
open Go.RowKit
namespace Go.Proofs.YtcbdilccmjpnbaaGreat
section
section
variable {α : Type}
def Rw (G : PH) (sz : Nat) (rep : α → List Value → Prop) : List α → Addr → Prop
 | [], _ => True
 | x :: r, ad => (∃ cs, gcells G ad cs ∧ rep x cs) ∧ Rw G sz rep r (ad.add sz)
def Cs (sz : Nat) (rep : α → List Value → Prop) : List α → List Value → Prop
 | [], xs => xs = []
 | x :: r, xs => ∃ cs ys, xs = cs ++ ys ∧ cs.length = sz ∧ rep x cs ∧ Cs sz rep r ys
def Sr (G : PH) (sz : Nat) (rep : α → List Value → Prop) (L : List α) (v : Value) : Prop := Sl G (Rw G sz rep L) L.length v
variable {G G' : PH} {sz : Nat} {rep rep' : α → List Value → Prop}
theorem Rw_mono (hl : G.le G') {L : List α} (hr : ∀ x ∈ L, ∀ cs, rep x cs → rep' x cs) {ad : Addr} (h : Rw G sz rep L ad) : Rw G' sz rep' L ad := by
 induction L generalizing ad with
 | nil => trivial
 | cons x L ih =>
  obtain ⟨⟨cs, h1, h2⟩, h3⟩ := h
  exact ⟨⟨cs, gcells_le hl h1, hr x (List.mem_cons_self ..) cs h2⟩, ih (fun y hy => hr y (List.mem_cons_of_mem _ hy)) h3⟩
theorem Cs_mono {L : List α} (hr : ∀ x ∈ L, ∀ cs, rep x cs → rep' x cs) {xs : List Value} (h : Cs sz rep L xs) : Cs sz rep' L xs := by
 induction L generalizing xs with
 | nil => exact h
 | cons x L ih =>
  obtain ⟨cs, ys, h1, h2, h3, h4⟩ := h
  exact ⟨cs, ys, h1, h2, hr x (List.mem_cons_self ..) cs h3, ih (fun y hy => hr y (List.mem_cons_of_mem _ hy)) h4⟩
theorem Sr_mono (hl : G.le G') {L : List α} (hr : ∀ x ∈ L, ∀ cs, rep x cs → rep' x cs) {v : Value} (h : Sr G sz rep L v) : Sr G' sz rep' L v := by
 obtain ⟨A, c, h1, h2, h3, h4, h5⟩ := h
 refine ⟨A, c, h1, h2, h3, h4, ?_⟩
 rcases h5 with h5 | ⟨ad, h5, h6⟩
 ·exact .inl h5
 ·exact .inr ⟨ad, h5, Rw_mono hl hr h6⟩
theorem Cs_append {L : List α} {xs : List Value} (h : Cs sz rep L xs) {x : α} {cs : List Value} (hx : rep x cs) (hc : cs.length = sz) : Cs sz rep (L ++ [x]) (xs ++ cs) := by
 induction L generalizing xs with
 | nil => cases h; exact ⟨cs, [], by simp, hc, hx, J⟩
 | cons y L ih =>
  obtain ⟨ds, ys, rfl, h2, h3, h4⟩ := h
  exact ⟨ds, ys ++ cs, by simp, h2, h3, ih h4⟩
theorem Cs_length {L : List α} {xs : List Value} (h : Cs sz rep L xs) : xs.length = L.length * sz := by
 induction L generalizing xs with
 | nil => cases h; simp
 | cons y L ih =>
  obtain ⟨ds, ys, rfl, h2, h3, h4⟩ := h
  simp only [List.length_append, h2, ih h4, List.length_cons, Nat.succ_mul]; omega
theorem gcells_append {ad : Addr} {cs ys : List Value} (h : gcells G ad (cs ++ ys)) : gcells G ad cs ∧ gcells G (ad.add cs.length) ys := by
 induction cs generalizing ad with
 | nil => exact ⟨trivial, by rw [List.length_nil, add_zero']; exact h⟩
 | cons c cs ih =>
  obtain ⟨h1, h2⟩ := h
  obtain ⟨h3, h4⟩ := ih h2
  rw [add_add'] at h4
  exact ⟨⟨h1, h3⟩, by rw [List.length_cons, Nat.add_comm]; exact h4⟩
theorem Rw_of {L : List α} {xs : List Value} (h : Cs sz rep L xs) {ad : Addr} (hg : gcells G ad xs) : Rw G sz rep L ad := by
 induction L generalizing xs ad with
 | nil => trivial
 | cons y L ih =>
  obtain ⟨ds, ys, rfl, h2, h3, h4⟩ := h
  obtain ⟨h5, h6⟩ := gcells_append hg
  rw [h2] at h6
  exact ⟨⟨ds, h5, h3⟩, ih h4 h6⟩
theorem Rw_at {L : List α} {ad : Addr} (h : Rw G sz rep L ad) {k : Nat} (hk : k < L.length) : ∃ cs, gcells G (ad.add (k * sz)) cs ∧ rep L[k] cs := by
 induction L generalizing ad k with
 | nil => simp at hk
 | cons s r ih =>
  obtain ⟨h1, h2⟩ := h
  cases k with
  | zero => simpa [add_zero'] using h1
  | succ k =>
   obtain ⟨cs, h3, h4⟩ := ih h2 (k := k) (by simpa using hk)
   rw [add_add'] at h3
   exact ⟨cs, by rw [show (k + 1) * sz = sz + k * sz by rw [Nat.succ_mul]; omega]; exact h3, by simpa using h4⟩
theorem Sr_nil {L : List α} (h : L = []) : Sr G sz rep L (.slice none 0 0) := by
 subst h
 exact ⟨none, 0, J, by simp, by simp, by decide, .inl J⟩
theorem Sr_of {L : List α} {xs : List Value} (h : Cs sz rep L xs) {v : Value} {n : Nat} (hn : n = L.length) (hb : L.length ≤ 1000000000) (hsz : 0 < sz)
  (hv : v = .slice none 0 0 ∧ n = 0 ∧ xs = [] ∨ ∃ g cap, v = .slice (some ⟨g, 0, none⟩) n cap ∧ n ≤ cap ∧ cap ≤ maxLen ∧ gcells G ⟨g, 0, none⟩ xs) : Sr G sz rep L v := by
 subst hn
 rcases hv with ⟨rfl, h1, rfl⟩ | ⟨g, cap, rfl, h1, h2, h3⟩
 ·exact ⟨none, 0, by rw [h1], by omega, by omega, by decide, .inl h1⟩
 ·exact ⟨some ⟨g, 0, none⟩, cap, J, hb, h1, h2, .inr ⟨_, J, Rw_of h h3⟩⟩
theorem Sr_at {L : List α} {A : Option Addr} {n c : Nat} (h : Sr G sz rep L (.slice A n c)) {k : Nat} (hk : k < L.length) : ∃ ad cs, A = some ad ∧ gcells G (ad.add (k * sz)) cs ∧ rep L[k] cs := by
 obtain ⟨A', c', e, _, _, _, h5⟩ := h
 cases e
 rcases h5 with h5 | ⟨ad, rfl, h6⟩
 ·omega
 ·obtain ⟨cs, h7, h8⟩ := Rw_at h6 hk
  exact ⟨ad, cs, J, h7, h8⟩
end
theorem Stm.row_eq {G : PH} : ∀ (L : List Stm) (ad : Addr), Stm.row G L ad ↔ Rw G 6 (Stm.rep G) L ad
 | [], _ => by simp [Stm.row, Rw]
 | s :: L, ad => by simp only [Stm.row, Rw, Stm.row_eq L]
theorem Stm.rep_iff {G : PH} {k a b n : Int} {x y : List Stm} {cs : List Value} : Stm.rep G (.mk k a b n x y) cs ↔ ∃ vx vy, cs = [.int .i64 k, .int .i64 a, .int .i64 b, .int .i64 n, vx, vy] ∧ I64 k ∧ I64 a ∧ I64 b ∧ I64 n ∧ Sr G 6 (Stm.rep G) x vx ∧ Sr G 6 (Stm.rep G) y vy := by
 have e : ∀ L : List Stm, Stm.row G L = Rw G 6 (Stm.rep G) L := fun L => funext fun ad => propext (Stm.row_eq L ad)
 simp only [Stm.rep, Sr, e]
theorem Stm.rep_len {G : PH} {s : Stm} {cs : List Value} (h : Stm.rep G s cs) : cs.length = 6 := by
 cases s
 obtain ⟨vx, vy, e, _⟩ := Stm.rep_iff.1 h
 simp [e]
mutual
theorem Stm.rep_le {G G' : PH} (hl : G.le G') : ∀ (s : Stm) (cs : List Value), Stm.rep G s cs → Stm.rep G' s cs
 | .mk k a b n x y, cs, h => by
  obtain ⟨vx, vy, e, h1, h2, h3, h4, h5, h6⟩ := Stm.rep_iff.1 h
  exact Stm.rep_iff.2 ⟨vx, vy, e, h1, h2, h3, h4, Sr_mono hl (Stm.reps_le hl x) h5, Sr_mono hl (Stm.reps_le hl y) h6⟩
theorem Stm.reps_le {G G' : PH} (hl : G.le G') : ∀ (L : List Stm), ∀ s ∈ L, ∀ cs, Stm.rep G s cs → Stm.rep G' s cs
 | [], s, hs, _, _ => by cases hs
 | t :: L, s, hs, cs, h => by
  rcases List.mem_cons.1 hs with e | hs'
  ·rw [e] at h ⊢; exact Stm.rep_le hl t cs h
  ·exact Stm.reps_le hl L s hs' cs h
end
abbrev Sts (G : PH) (L : List Stm) (v : Value) : Prop := Sr G 6 (Stm.rep G) L v
theorem Sts_le {G G' : PH} (hl : G.le G') {L : List Stm} {v : Value} (h : Sts G L v) : Sts G' L v := Sr_mono hl (Stm.reps_le hl L) h
theorem Sts_Sl {G : PH} {L : List Stm} {v : Value} : Sts G L v ↔ Sl G (Stm.row G L) L.length v := by
 have e : ∀ L : List Stm, Stm.row G L = Rw G 6 (Stm.rep G) L := fun L => funext fun ad => propext (Stm.row_eq L ad)
 simp only [Sr, e]
def intRep (n : Int) (cs : List Value) : Prop := cs = [.int .i64 n] ∧ I64 n
abbrev Ints (G : PH) (L : List Int) (v : Value) : Prop := Sr G 1 intRep L v
theorem Ints_le {G G' : PH} (hl : G.le G') {L : List Int} {v : Value} (h : Ints G L v) : Ints G' L v := Sr_mono hl (fun _ _ _ h => h) h
def stsRep (G : PH) (L : List Stm) (cs : List Value) : Prop := ∃ v, cs = [v] ∧ Sts G L v
abbrev Prg (G : PH) (p : List (List Stm)) (v : Value) : Prop := Sr G 1 (stsRep G) p v
theorem stsRep_le {G G' : PH} (hl : G.le G') {L : List Stm} {cs : List Value} (h : stsRep G L cs) : stsRep G' L cs := by
 obtain ⟨v, h1, h2⟩ := h
 exact ⟨v, h1, Sts_le hl h2⟩
theorem Prg_le {G G' : PH} (hl : G.le G') {p : List (List Stm)} {v : Value} (h : Prg G p v) : Prg G' p v := Sr_mono hl (fun _ _ _ h => stsRep_le hl h) h
end
section
def objHP (b : Nat) (o : Obj) : HP where
 holds w S := w.heap[b]? = some o ∧ ∀ x, S x ↔ x = b
 loc w w' S h hs := ⟨by rw [hs b ((h.2 b).2 rfl)]; exact h.1, h.2⟩
 lt w S h x hx := by rw [(h.2 x).1 hx]; exact (Array.getElem?_eq_some_iff.1 h.1).1
theorem SatW.allocH {C : Ctx} {ι : Ids} {L : List Ent} {G : PH} {w : World} (h : SatW C ι L G w) (κ : Nat) (o : Obj) : SatW C ι (.hp κ (objHP w.heap.size o) :: L) G (w.alloc o) := by
 obtain ⟨Ss, ho, hS⟩ := h.own
 have hold : ∀ x, x ≠ w.heap.size → (w.alloc o).heap[x]? = w.heap[x]? := by
  intro x hx
  show (w.heap.push _)[x]? = _
  rw [Array.getElem?_push, if_neg hx]
 have hlt := owns_lt ho
 refine ⟨h.os, h.tape, h.output, by have := h.size; simp; omega, ?_, ?_, (fun x => x = w.heap.size) :: Ss, ⟨⟨heap_alloc_new w _, fun x => Iff.rfl⟩, ?_, ?_⟩, ?_⟩
 ·intro x hx hn
  rw [hold x (by have := h.size; omega)]
  exact h.keep x hx hn
 ·intro x o hx
  have := h.emb x o hx
  rw [hold x (by have := (Array.getElem?_eq_some_iff.1 this).1; omega)]
  exact this
 ·rintro T hT b rfl hb
  have := hlt T hT _ hb
  omega
 ·exact owns_far ho (· = w.heap.size) hold fun T hT x hx e => by have := hlt T hT x hx; omega
 ·intro S hS' b hb
  rcases List.mem_cons.1 hS' with rfl | hS'
  ·refine ⟨?_, .inr (by have := h.size; omega)⟩
   cases hG : G b with
   | none => rfl
   | some o => have := (Array.getElem?_eq_some_iff.1 (h.emb b o hG)).1; omega
  ·exact hS S hS' b hb
def delB (k : Nat) : List Ent → Option (List Ent)
 | [] => none
 | .blk j t cs :: L => if k = j then some L else match delB k L with
  | some r => some (.blk j t cs :: r)
  | none => none
 | .hp j A :: L => match delB k L with
  | some r => some (.hp j A :: r)
  | none => none
theorem owns_delB {ι : Ids} {w : World} {key ty : Nat} {cs : List Cel} {vs : List Value} (hd : denL ι cs = some vs) : ∀ {L L' : List Ent} {Ss : List (Nat → Prop)}, owns ι w L Ss → lookB key L = some (ty, cs) → delB key L = some L' →
  ∃ S Ss' b, lookI key ι = some b ∧ w.heap[b]? = some (.cells vs.toArray ty (0, 0)) ∧ (∀ x, S x ↔ x = b) ∧ S ∈ Ss ∧ owns ι w L' Ss' ∧ ∀ T ∈ Ss', T ∈ Ss ∧ ∀ x, T x → ¬ S x := by
 intro L
 induction L with
 | nil => intro L' Ss _ h; cases h
 | cons e L ih =>
  intro L' Ss ho hg hs
  cases Ss with
  | nil => simp [owns] at ho
  | cons S0 Ss =>
   obtain ⟨h1, h2, h3⟩ := ho
   have fin : ∀ (L1 : List Ent), lookB key L = some (ty, cs) → delB key L = some L1 → L' = e :: L1 →
     ∃ S Ss' b, lookI key ι = some b ∧ w.heap[b]? = some (.cells vs.toArray ty (0, 0)) ∧ (∀ x, S x ↔ x = b) ∧ S ∈ S0 :: Ss ∧ owns ι w L' Ss' ∧ ∀ T ∈ Ss', T ∈ S0 :: Ss ∧ ∀ x, T x → ¬ S x := by
    rintro L1 hg1 hs1 rfl
    obtain ⟨S, Ss', b, hb, hh, hSb, hm, ho', hT⟩ := ih h3 hg1 hs1
    refine ⟨S, S0 :: Ss', b, hb, hh, hSb, List.mem_cons_of_mem _ hm, ⟨h1, fun T hT' x hx hx' => h2 T (hT T hT').1 x hx hx', ho'⟩, ?_⟩
    intro T hT'
    rcases List.mem_cons.1 hT' with rfl | hT'
    ·exact ⟨List.mem_cons_self .., fun x hx hx' => h2 S hm x hx hx'⟩
    ·exact ⟨List.mem_cons_of_mem _ (hT T hT').1, (hT T hT').2⟩
   cases e with
   | hp j A =>
    simp only [lookB] at hg
    simp only [delB] at hs
    split at hs
    ·rename_i r hr; cases hs; exact fin r hg hr J
    ·cases hs
   | blk j t ds =>
    simp only [lookB] at hg
    simp only [delB] at hs
    split at hg
    ·rename_i e'; subst e'
     rw [if_pos rfl] at hs
     cases hg; cases hs
     obtain ⟨b, us, hb, hdu, hh, hSb⟩ := h1
     rw [hd] at hdu; cases hdu
     exact ⟨S0, Ss, b, hb, hh, hSb, List.mem_cons_self .., h3, fun T hT => ⟨List.mem_cons_of_mem _ hT, fun x hx hx' => h2 T hT x hx' hx⟩⟩
    ·rename_i e'
     rw [if_neg e'] at hs
     split at hs
     ·rename_i r hr; cases hs; exact fin r hg hr J
     ·cases hs
section
variable {C : Ctx} {k : List It} {E : Env} {ι : Ids} {L : List Ent} {G : PH} {all : Array Oper} {l : List Oper}
theorem freeze_core {a : Act} {w : World} {L' : List Ent} {b : Nat} {o : Obj} {S : Nat → Prop} {Ss Ss' : List (Nat → Prop)} (h : SatW C ι L G w) (ho : owns ι w L Ss) (hS : ∀ S ∈ Ss, ∀ b, S b → G b = none ∧ (C.S0 b ∨ C.w0.heap.size ≤ b)) (hh : w.heap[b]? = some o) (hSb : ∀ x, S x ↔ x = b) (hm : S ∈ Ss) (ho' : owns ι w L' Ss') (hT : ∀ T ∈ Ss', T ∈ Ss ∧ ∀ x, T x → ¬ S x) (hS0 : ∀ b, ¬ C.S0 b) :
  PH.ext C.w0.heap.size G (G.add b o) ∧ SatW C ι L' (G.add b o) w := by
 have hGb : G b = none ∧ (C.S0 b ∨ C.w0.heap.size ≤ b) := hS S hm b ((hSb b).2 rfl)
 refine ⟨⟨fun x o' hx => ?_, fun x o' hx hn => ?_⟩, h.os, h.tape, h.output, h.size, h.keep, ?_, Ss', ho', ?_⟩
 ·unfold PH.add
  rw [if_neg (by rintro rfl; rw [hGb.1] at hx; cases hx)]
  exact hx
 ·unfold PH.add at hx
  split at hx
  ·rename_i e
   rcases hGb.2 with h2 | h2
   ·exact absurd h2 (hS0 b)
   ·omega
  ·rw [hn] at hx; cases hx
 ·intro x o' hx
  unfold PH.add at hx
  split at hx
  ·rename_i e; subst e; cases hx; exact hh
  ·exact h.emb x o' hx
 ·intro T hT' x hx
  obtain ⟨h1, h2⟩ := hT T hT'
  obtain ⟨h3, h4⟩ := hS T h1 x hx
  refine ⟨?_, h4⟩
  unfold PH.add
  rw [if_neg (fun e => h2 x hx ((hSb x).2 e))]
  exact h3
theorem S_freezeO (κ : Nat) {b : Nat} {o : Obj} {L' : List Ent} (hL : getH κ L = some (objHP b o)) (hL' : delH κ L = some L') (hS0 : ∀ b, ¬ C.S0 b) (hk : PH.ext C.w0.heap.size G (G.add b o) → X C k E ι L' (G.add b o)) : X C k E ι L G := by
 intro a w g1 g2 g3 g4
 obtain ⟨Ss, ho, hS⟩ := g4.own
 obtain ⟨S, Ss', hA, hm, ho', hT⟩ := owns_del ho hL hL'
 obtain ⟨h1, h2⟩ := freeze_core (a := a) g4 ho hS hA.1 hA.2 hm ho' hT hS0
 exact hk h1 a w (g1.mono h1.le) g2 g3 h2
theorem S_freezeB (key : Nat) {b ty : Nat} {cs : List Cel} {vs : List Value} {L' : List Ent} (hj : lookI key ι = some b) (hB : lookB key L = some (ty, cs)) (hd : denL ι cs = some vs) (hL' : delB key L = some L') (hS0 : ∀ b, ¬ C.S0 b) (hk : PH.ext C.w0.heap.size G (G.add b (.cells vs.toArray ty (0, 0))) → X C k E ι L' (G.add b (.cells vs.toArray ty (0, 0)))) : X C k E ι L G := by
 intro a w g1 g2 g3 g4
 obtain ⟨Ss, ho, hS⟩ := g4.own
 obtain ⟨S, Ss', b', hb', hh, hSb, hm, ho', hT⟩ := owns_delB hd ho hB hL'
 rw [hj] at hb'; cases hb'
 obtain ⟨h1, h2⟩ := freeze_core (a := a) g4 ho hS hh hSb hm ho' hT hS0
 exact hk h1 a w (g1.mono h1.le) g2 g3 h2
theorem PH.add_self (G : PH) (b : Nat) (o : Obj) : G.add b o b = some o := by simp [PH.add]
theorem S_makeMap (κ : Nat) {d t : Nat} {ty : Nat} {pos : String} {af : Array Edge} {g : Option (Nat × Bool)} (hg : guardOf all E g = .on) (hN : Nat.ble (d + 1) C.n = true)
  (hk : ∀ b, X C (.ops all l :: k) ((d, .val (.map (some b))) :: E) ι (.hp κ (objHP b (.map #[] 0)) :: L) G) : X C (.ops all (⟨some d, .makeMap t none, ty, pos, af, g⟩ :: l) :: k) E ι L G := by
 intro a w h1 h2 h3 h4
 have hrun : (execOp a.eval ⟨some d, .makeMap t none, ty, pos, af, g⟩).run C.P w = .ok (.value (.map (some w.heap.size))) (w.alloc (.map #[] 0)) := by
  simp only [execOp]; simp [Instr.makeMap]
 refine wpE_val (guardOf_on h3 hg) (by intro c h; cases h) hrun ?_
 have hdn : d < a.tmps.size := by rw [h2]; exact Nat.le_of_ble_eq_true hN
 exact hk w.heap.size _ _ h1 (by simp [Act.put, h2]) (h3.put hdn J) (h4.allocH κ _)
def newI (x : Int) : List MapEntry → Bool
 | [] => true
 | e :: es => match e.key with
  | .int .i64 y => !decide (x = y) && newI x es
  | _ => false
def findI (x : Int) : List MapEntry → Option Value
 | [] => none
 | e :: es => match e.key with
  | .int .i64 y => if x = y then some e.val else findI x es
  | _ => none
def setO (w : World) (b : Nat) (o : Obj) : World := { w with heap := w.heap.setIfInBounds b o }
theorem setO_same {w : World} {b : Nat} {o : Obj} (hb : w.heap[b]? = some o) (o' : Obj) : (setO w b o').heap[b]? = some o' := by
 have := (Array.getElem?_eq_some_iff.1 hb).1
 simp [setO, this]
theorem setO_other {w : World} {b x : Nat} (o' : Obj) (hne : x ≠ b) : (setO w b o').heap[x]? = w.heap[x]? := by
 simp only [setO, Array.getElem?_setIfInBounds]
 rw [if_neg (fun e => hne e.symm)]
theorem findNow_new {x : Int} : ∀ {es : List MapEntry} {i : Nat}, newI x es = true → Instr.findNow (.int .i64) (.int .i64 x) es i = some none := by
 intro es
 induction es with
 | nil => intro i _; rfl
 | cons e es ih =>
  intro i h
  obtain ⟨key, val, born⟩ := e
  simp only [newI] at h
  split at h
  ·rename_i y
   simp only [Bool.and_eq_true, Bool.not_eq_true', decide_eq_false_iff_not] at h
   simp only [Instr.findNow, Instr.sameNow]
   have : (x == y) = false := by simpa using h.1
   simp only [this]
   exact ih h.2
  ·cases h
theorem findNow_find {x : Int} : ∀ {es : List MapEntry} {i : Nat}, (∀ e ∈ es, ∃ y, e.key = .int .i64 y) → ∃ r, Instr.findNow (.int .i64) (.int .i64 x) es i = some r ∧ r.map (·.2) = findI x es := by
 intro es
 induction es with
 | nil => intro i _; exact ⟨none, J, J⟩
 | cons e es ih =>
  intro i h
  obtain ⟨y, hy⟩ := h e (List.mem_cons_self ..)
  obtain ⟨key, val, born⟩ := e
  simp only at hy
  subst hy
  simp only [Instr.findNow, Instr.sameNow, findI]
  by_cases hxy : x = y
  ·subst hxy
   simp
  ·have : (x == y) = false := by simpa using hxy
   simp only [this, if_neg hxy]
   exact ih fun e he => h e (List.mem_cons_of_mem _ he)
theorem S_insert (κ : Nat) {t kt et b clock : Nat} {m x v : Operand} {key : Int} {es : Array MapEntry} {val : Value} {ty : Nat} {pos : String} {af : Array Edge} {g : Option (Nat × Bool)} {L' : List Ent}
  (hu : C.P.underlying t = some (.map kt et)) (hk' : C.P.underlying kt = some (.int .i64)) (hg : guardOf all E g = .on) (hm : ev E m = some (.val (.map (some b)))) (hx : ev E x = some (.val (.int .i64 key))) (hv : ev E v = some (.val val))
  (hL : getH κ L = some (objHP b (.map es clock))) (hnew : newI key es.toList = true) (hL' : setH κ (objHP b (.map (es.push { key := .int .i64 key, val := val, born := clock }) (clock + 1))) L = some L')
  (hk : X C (.ops all l :: k) E ι L' G) : X C (.ops all (⟨none, .insert t m x v, ty, pos, af, g⟩ :: l) :: k) E ι L G := by
 intro a w h1 h2 h3 h4
 have em := ev_sound h3 hm
 have ex := ev_sound h3 hx
 have evv := ev_sound h3 hv
 simp only [denO, Option.some.injEq] at em ex evv
 obtain ⟨S, hA, hSG, hturn⟩ := h4.turn hL
 have hb := hA.1
 have hr : (Instr.mapUpdate t (.map (some b)) (.int .i64 key) val).run C.P w = .ok () (setO w b (.map (es.push { key := .int .i64 key, val := val, born := clock }) (clock + 1))) := by
  have hc := MapKept.run_checkKey (P := C.P) (w := w) (k := .int .i64 key) hk' (by simp [MapKept.IsKey]) false 9999
  have hf := MapKept.run_findKey (P := C.P) (w := w) hk' (findNow_new (i := 0) hnew)
  simp [Instr.mapUpdate, run_underlying hu, MapKept.run_getObj_map hb, hc, hf, MapKept.run_setObj_map _ hb, Result.andThen, setO]
 have hrun : (execOp a.eval ⟨none, .insert t m x v, ty, pos, af, g⟩).run C.P w = .ok .skip (setO w b (.map (es.push { key := .int .i64 key, val := val, born := clock }) (clock + 1))) := by
  simp only [execOp, ← em, ← ex, ← evv]; simp [hr]
 refine wpE_skipv (guardOf_on h3 hg) (by intro c h; cases h) hrun ?_;refine hk _ _ h1 h2 h3 (hturn _ _ G _ S hL' ⟨setO_same hb _, hA.2⟩ ?_ XR (fun x hx => ⟨hSG x hx, .inl hx⟩) J J J (by simp [setO]) ?_)
 ·intro x o hxo
  rw [setO_other _ (by rintro rfl; have := hSG x ((hA.2 x).2 rfl); rw [this] at hxo; cases hxo)]
  exact h4.emb x o hxo
 ·intro x hx hn
  exact setO_other _ (fun e => hn ((hA.2 x).2 e))
theorem V_lookup {Z : ZTab} (hZ : zOk C.P Z) {t kt et b clock : Nat} {z : ZI} {zv : Value} {m x : Operand} {key : Int} {es : Array MapEntry} {d : Option Nat} {ty : Nat} {pos : String} {af : Array Edge} {g : Option (Nat × Bool)}
  (hu : C.P.underlying t = some (.map kt et)) (hk' : C.P.underlying kt = some (.int .i64)) (hm : ev E m = some (.val (.map (some b)))) (hx : ev E x = some (.val (.int .i64 key))) (hz : ∀ w, (zeroValue et).run C.P w = .ok zv w) (hb : G b = some (.map es clock)) (hkeys : ∀ e ∈ es.toList, ∃ y, e.key = .int .i64 y) :
  Vl C ι E L G ⟨d, .lookup t m x true, ty, pos, af, g⟩ (.tuple #[(findI key es.toList).getD zv, .bool (findI key es.toList).isSome]) := by
 intro a w hE hw
 have em := ev_sound hE hm
 have ex := ev_sound hE hx
 simp only [denO, Option.some.injEq] at em ex
 have hb' := hw.emb _ _ hb
 have hc := MapKept.run_checkKey (P := C.P) (w := w) (k := .int .i64 key) hk' (by simp [MapKept.IsKey]) es.isEmpty 9999
 obtain ⟨r, hr1, hr2⟩ := findNow_find (x := key) (i := 0) hkeys
 have hf := MapKept.run_findKey (P := C.P) (w := w) hk' hr1
 simp only [execOp, ← em, ← ex]
 rw [← hr2]
 cases r with
 | none => simp [Instr.lookup, run_underlying hu, MapKept.run_getObj_map hb', hc, hf, hz, Result.andThen]
 | some p => simp [Instr.lookup, run_underlying hu, MapKept.run_getObj_map hb', hc, hf, Result.andThen]
theorem V_lookupS {t kt et b clock : Nat} {u : Value} {m x : Operand} {key : Int} {es : Array MapEntry} {d : Option Nat} {ty : Nat} {pos : String} {af : Array Edge} {g : Option (Nat × Bool)}
  (hu : C.P.underlying t = some (.map kt et)) (hk' : C.P.underlying kt = some (.int .i64)) (hb : G b = some (.map es clock)) (hkeys : ∀ e ∈ es.toList, ∃ y, e.key = .int .i64 y) (hf : findI key es.toList = some u) (hm : ev E m = some (.val (.map (some b)))) (hx : ev E x = some (.val (.int .i64 key))) :
  Vl C ι E L G ⟨d, .lookup t m x true, ty, pos, af, g⟩ (.tuple #[u, .bool true]) := by
 intro a w hE hw
 have em := ev_sound hE hm
 have ex := ev_sound hE hx
 simp only [denO, Option.some.injEq] at em ex
 have hb' := hw.emb _ _ hb
 have hc := MapKept.run_checkKey (P := C.P) (w := w) (k := .int .i64 key) hk' (by simp [MapKept.IsKey]) es.isEmpty 9999
 obtain ⟨r, hr1, hr2⟩ := findNow_find (x := key) (i := 0) hkeys
 have hf' := MapKept.run_findKey (P := C.P) (w := w) hk' hr1
 rw [hf] at hr2
 simp only [execOp, ← em, ← ex]
 cases r with
 | none => cases hr2
 | some p =>
  simp only [Option.map_some, Option.some.injEq] at hr2
  simp [Instr.lookup, run_underlying hu, MapKept.run_getObj_map hb', hc, hf', hr2, Result.andThen]
theorem V_lookupN {Z : ZTab} (hZ : zOk C.P Z) {t kt et b clock : Nat} {z : ZI} {m x : Operand} {key : Int} {es : Array MapEntry} {d : Option Nat} {ty : Nat} {pos : String} {af : Array Edge} {g : Option (Nat × Bool)}
  (hu : C.P.underlying t = some (.map kt et)) (hk' : C.P.underlying kt = some (.int .i64)) (hb : G b = some (.map es clock)) (hkeys : ∀ e ∈ es.toList, ∃ y, e.key = .int .i64 y) (hf : findI key es.toList = none) (hm : ev E m = some (.val (.map (some b)))) (hx : ev E x = some (.val (.int .i64 key))) (hz : ∀ w, (zeroValue et).run C.P w = .ok (.agg z.zs.toArray) w) :
  Vl C ι E L G ⟨d, .lookup t m x true, ty, pos, af, g⟩ (.tuple #[.agg z.zs.toArray, .bool false]) := by
 have := V_lookup (d := d) (ty := ty) (pos := pos) (af := af) (g := g) (ι := ι) (L := L) hZ (z := z) hu hk' hm hx hz hb hkeys
 rw [hf] at this
 exact this
theorem V_makeFunc {f : FuncId} {captured : Array Operand} {cap : List Value} {d : Option Nat} {ty : Nat} {pos : String} {af : Array Edge} {g : Option (Nat × Bool)} (hc : evs ι E captured.toList = some cap) : Vl C ι E L G ⟨d, .makeFunc (.func f) #[] captured, ty, pos, af, g⟩ (.func (.func f) #[] cap.toArray) := by
 intro a w hE hw
 have e := evs_sound hE hc
 have e1 : captured.map a.eval = cap.toArray := by rw [← e]; cases captured; simp
 simp only [execOp]
 simp [Instr.makeFunc, e1]
theorem S_valV {d : Nat} {op : Op} {ty : Nat} {pos : String} {af : Array Edge} {g : Option (Nat × Bool)} {v : Value} (hg : guardOf all E g = .on) (hnd : (match op with | .defer _ => false | _ => true) = true) (hN : Nat.ble (d + 1) C.n = true) (hr : Vl C ι E L G ⟨some d, op, ty, pos, af, g⟩ v)
  (hx : X C (.ops all l :: k) ((d, .val v) :: E) ι L G) : X C (.ops all (⟨some d, op, ty, pos, af, g⟩ :: l) :: k) E ι L G :=
 S_val hg (by rintro c rfl; cases hnd) hN hr hx
theorem S_callV {d f : Nat} {x : Operand} {cap : Array Value} {xs : Array Operand} {ats : Array TypeId} {ty : Nat} {pos : String} {af : Array Edge} {g : Option (Nat × Bool)} {vs : List Value} {Post : Value → PH → Prop} (hx : ev E x = some (.val (.func (.func f) #[] cap))) (hcf : ∀ args w, (callFunc f args).run C.P w = .ok (.enter f args) w)
  (hc : Pure C.P f (vs ++ cap.toList) G Post) (hg : guardOf all E g = .on) (hN : Nat.ble (d + 1) C.n = true) (hxs : evs ι E xs.toList = some vs)
  (hk : ∀ v G', Post v G' → PH.ext C.w0.heap.size G G' → X C (.ops all l :: k) ((d, .val v) :: E) ι L G') : X C (.ops all (⟨some d, .call ⟨.value x, xs, ats⟩, ty, pos, af, g⟩ :: l) :: k) E ι L G := by
 intro a w h1 h2 h3 h4
 have hdn : d < a.tmps.size := by rw [h2]; exact Nat.le_of_ble_eq_true hN
 have ex := ev_sound h3 hx
 simp only [denO, Option.some.injEq] at ex
 have hcc := hc w h4.emb
 refine wpE_call (f := f) (cap := cap) (vs := vs) (guardOf_on h3 hg) ex.symm (evs_sound h3 hxs) hcf (R := fun v w' => ∃ G', Post v G' ∧ PH.ext w.heap.size G G' ∧ Emb G' w' ∧ Below w.heap.size w w') ?_ ?_
 ·exact hcc.mono fun e w' ⟨v, G', e1, e2⟩ => ⟨v, e1, G', e2⟩
 ·rintro v w' ⟨G', hp, hext, hemb, hb⟩
  exact hk v G' hp (hext.mono h4.size) _ _ (h1.mono hext.le) (by simp [Act.put, h2]) (h3.put hdn J) (h4.pure hemb hext.new hb)
end
theorem Pure.drop {P : Program} {f : FuncId} {vs : List Value} {G : PH} {Post : Value → PH → Prop} {Post' : Value → Prop} (h : Pure P f vs G Post) (hp : ∀ v G', Post v G' → Post' v) : Pure P f vs G fun v G' => Post' v ∧ G' = G :=
 fun w hw => (h w hw).mono fun e w' ⟨v, G', h1, h2, h3, h4, h5⟩ => ⟨v, G, h1, ⟨hp v G' h2, rfl⟩, PH.ext.refl _ _, fun b o hb => h4 b o (h3.le b o hb), h5⟩
end
section
structure Frm (S : Nat → Prop) (W W' : World) : Prop where
 os : W'.os = W.os
 tape : W'.tape = W.tape
 output : W'.output = W.output
 size : W.heap.size ≤ W'.heap.size
 keep : ∀ b, b < W.heap.size → ¬ S b → W'.heap[b]? = W.heap[b]?
theorem Frm.refl (S : Nat → Prop) (W : World) : Frm S W W := ⟨rfl, rfl, rfl, Nat.le_refl _, fun _ _ _ => rfl⟩
def YieldR (W : World) (S : Nat → Prop) (A Ax : HP) (e : Ending) (W' : World) : Prop :=
 ∃ S', (∀ b, S' b → S b ∨ W.heap.size ≤ b) ∧ Frm S W W' ∧ ((e = .returned (.bool true) ∧ A.holds W' S') ∨ (e = .returned (.bool false) ∧ Ax.holds W' S'))
def IterR {α : Type} (P : Program) (gf : Nat) (cap : Array Value) (G : PH) (enc : α → List Value → Prop) (xs : List α) : Prop :=
 ∀ (l : Nat) (A Ax : List α → HP) (W0 : World) (S0 : Nat → Prop), Emb G W0 → (A []).holds W0 S0 → (∀ b, S0 b → G b = none) →
  (∀ pre x vs W S, (pre ++ [x]) <+: xs → enc x vs → Emb G W → (A pre).holds W S → (∀ b, S b → G b = none) → YieldAt (FW none) 0 P l vs.toArray W (YieldR W S (A (pre ++ [x])) (Ax (pre ++ [x])))) →
  Calls P gf (#[.func (.yield l) #[] #[]] ++ cap) W0 fun e W' => ∃ v S', e = .returned v ∧ (∀ b, S' b → S0 b ∨ W0.heap.size ≤ b) ∧ Frm S0 W0 W' ∧ ((A xs).holds W' S' ∨ ∃ pre, (Ax pre).holds W' S')
def entsHP (ι : Ids) (L : List Ent) (l D : Nat) (rec : Obj) : HP where
 holds w S := ∃ Ss, owns ι w L Ss ∧ (∀ T ∈ Ss, ¬ T l ∧ ¬ T D) ∧ w.heap[l]? = some rec ∧ w.heap[D]? = some (.deferred (some [])) ∧ ∀ x, S x ↔ (∃ T ∈ Ss, T x) ∨ x = l ∨ x = D
 loc w w' S h hs := by
  obtain ⟨Ss, ho, hd, h1, h2, hS⟩ := h
  refine ⟨Ss, owns_far ho (fun x => ¬ S x) (fun x hx => hs x (Classical.not_not.1 hx)) (fun T hT x hx hn => hn ((hS x).2 (.inl ⟨T, hT, hx⟩))), hd, ?_, ?_, hS⟩
  ·rw [hs l ((hS l).2 (.inr (.inl rfl)))]; exact h1
  ·rw [hs D ((hS D).2 (.inr (.inr rfl)))]; exact h2
 lt w S h x hx := by
  obtain ⟨Ss, ho, hd, h1, h2, hS⟩ := h
  rcases (hS x).1 hx with ⟨T, hT, hTx⟩ | rfl | rfl
  ·exact owns_lt ho T hT x hTx
  ·exact (Array.getElem?_eq_some_iff.1 h1).1
  ·exact (Array.getElem?_eq_some_iff.1 h2).1
theorem SatW.ctx {C C' : Ctx} {ι : Ids} {L : List Ent} {G : PH} {w : World} (h : SatW C ι L G w) (hw : C'.w0 = C.w0) (hS : C'.S0 = C.S0) : SatW C' ι L G w :=
 ⟨by rw [hw]; exact h.os, by rw [hw]; exact h.tape, by rw [hw]; exact h.output, by rw [hw]; exact h.size, by rw [hw, hS]; exact h.keep, h.emb, by rw [hw, hS]; exact h.own⟩
def RCx (C : Ctx) (l : Nat) (Q : Exit → Act → World → Prop) (W : World) (S : Nat → Prop) : Ctx := ⟨C.P, some l, C.n, Q, W, S, false⟩
def roundQ (C : Ctx) (ι : Ids) (G : PH) (Ln Lr : List Ent) (W : World) (S : Nat → Prop) : Exit → Act → World → Prop
 | .normal, _, W' => SatW (RCx C 0 (fun _ _ _ => False) W S) ι Ln G W'
 | .ret, _, W' => SatW (RCx C 0 (fun _ _ _ => False) W S) ι Lr G W'
 | _, _, _ => False
section
variable {C : Ctx} {E : Env} {ι ι' : Ids} {L Ln Lr : List Ent} {G : PH} {l : Nat} {W : World} {S : Nat → Prop} {k : List It}
theorem S_roundEnd (hL : subL ι' ι L Ln) : X (RCx C l (roundQ C ι G Ln Lr W S) W S) [] E ι' L G :=
 fun a w h1 h2 h3 h4 => (h4.sub hL).ctx rfl rfl
end
theorem owns_putObj {ι : Ids} {w : World} {L : List Ent} {Ss : List (Nat → Prop)} (h : owns ι w L Ss) {l : Nat} {o : Obj} (hl : ∀ T ∈ Ss, ¬ T l) : owns ι (w.putObj l o) L Ss :=
 owns_far h (· = l) (fun x hx => World.putObj_heap_other hx) fun T hT x hx e => hl T hT (e ▸ hx)
theorem SatW.round {C : Ctx} {ι : Ids} {L : List Ent} {G : PH} {W : World} {Ss : List (Nat → Prop)} {l : Nat} {Q : Exit → Act → World → Prop} (ho : owns ι W L Ss) (hG : ∀ T ∈ Ss, ∀ b, T b → G b = none) (hE : Emb G W) : SatW (RCx C l Q W (fun x => ∃ T ∈ Ss, T x)) ι L G W :=
 ⟨rfl, rfl, rfl, Nat.le_refl _, fun _ _ _ => rfl, hE, Ss, ho, fun T hT b hb => ⟨hG T hT b hb, .inl ⟨T, hT, hb⟩⟩⟩
def setE : List Nat → List Value → Env → Env
 | p :: ps, v :: vs, E => setE ps vs ((p, .val v) :: E)
 | _, _, E => E
def allLt (n : Nat) : List Nat → Bool
 | [] => true
 | p :: ps => match Nat.ble (p + 1) n with
  | true => allLt n ps
  | false => false
theorem setE_sound {ι : Ids} {n : Nat} : ∀ {ps : List Nat} {vs : List Value} {E : Env} {a : Act}, AgE ι E a → a.tmps.size = n → allLt n ps = true →
  AgE ι (setE ps vs E) { a with tmps := (ps.zip vs).foldl (fun t (x : Nat × Value) => t.setIfInBounds x.1 x.2) a.tmps } ∧ ((ps.zip vs).foldl (fun t (x : Nat × Value) => t.setIfInBounds x.1 x.2) a.tmps).size = n := by
 intro ps
 induction ps with
 | nil => intro vs E a h hn _; cases vs <;> exact ⟨h, hn⟩
 | cons p ps ih =>
  intro vs E a h hn hl
  cases vs with
  | nil => exact ⟨h, hn⟩
  | cons v vs =>
   simp only [allLt] at hl
   split at hl
   ·rename_i hb
    simp only [setE, List.zip_cons_cons, List.foldl_cons]
    have hp : p < a.tmps.size := by rw [hn]; exact Nat.le_of_ble_eq_true hb
    exact ih (a := a.put (some p) v) (h.put hp J) (by simp [Act.put, hn]) hl
   ·cases hl
section
variable {C : Ctx} {k : List It} {E : Env} {ι : Ids} {L : List Ent} {G : PH}
theorem S_range {α : Type} {g : Operand} {ps : Array Tmp} {assign body : Code} {gf : Nat} {cap : Array Value} {enc : α → List Value → Prop} {xs : List α} (L' Lr : List α → List Ent) (hr : C.r = none) (hms : C.ms = true) (hg : ev E g = some (.val (.func (.func gf) #[] cap)))
  (hcf : ∀ args w, (callFunc gf args).run C.P w = .ok (.enter gf args) w) (hI : IterR C.P gf cap G enc xs) (hps : ∀ x vs, enc x vs → vs.length = ps.size) (hpn : allLt C.n ps.toList = true) (h0 : subL ι ι L (L' []))
  (round : ∀ (l : Nat) (pre : List α) (x : α) (vs : List Value) (W : World) (S : Nat → Prop) (I : Act → World → Prop), (pre ++ [x]) <+: xs → enc x vs → C.w0.heap.size ≤ W.heap.size →
   (∀ (E' : Env) (ι' : Ids) (L'' : List Ent), (∀ W2 S2, C.w0.heap.size ≤ W2.heap.size → X (RCx C l (roundQ C ι G (L' (pre ++ [x])) (Lr (pre ++ [x])) W2 S2) W2 S2) [.code body] E' ι' L'' G) → X (RCx C l (fun _ _ _ => False) W S) [.stop I] E' ι' L'' G) →
   X (RCx C l (fun _ _ _ => False) W S) [.code assign, .stop I] (setE ps.toList vs E) ι (L' pre) G)
  (hdone : ∀ D, G D = none → C.w0.heap.size ≤ D → X C k E ι (L' xs) (G.add D (.deferred (some [])))) (hstop : ∀ D pre, G D = none → C.w0.heap.size ≤ D → X C (.code .ret :: k) E ι (Lr pre) (G.add D (.deferred (some [])))) : X C (.code (.rangeFunc g ps assign body) :: k) E ι L G := by
 intro a w h1 h2 h3 h4
 have eg := ev_sound h3 hg
 simp only [denO, Option.some.injEq] at eg
 show (Code.rangeFunc g ps assign body).wpIn (FW C.r) 0 C.P (wpE C k) a w
 refine wpIn_rangeFunc ?_
 intro fn hfn
 have hFr : (FW C.r).round = none := hr
 rw [hFr]
 obtain ⟨rec, hrec⟩ : ∃ rec : LoopState → Option Code → Loop, rec = fun st pe => { state := st, pending := pe, fn, tmps := a.tmps, params := ps, assign, body, defers := w.heap.size } := ⟨_, rfl⟩
 obtain ⟨W1, hW1⟩ : ∃ W1, (w.alloc (.deferred (some []))).alloc (.loop (rec .ready none)) = W1 := ⟨_, rfl⟩
 obtain ⟨Ss0, ho0, hS0⟩ := h4.own
 obtain ⟨Ss, ho, hSsub⟩ := subL_sound h0 ho0
 have hS : ∀ T ∈ Ss, ∀ b, T b → G b = none ∧ (C.S0 b ∨ C.w0.heap.size ≤ b) := fun T hT => hS0 T (hSsub T hT)
 have hlt := owns_lt ho
 have hGlt : ∀ b o, G b = some o → b < w.heap.size := fun b o hb => (Array.getElem?_eq_some_iff.1 (h4.emb b o hb)).1
 have hold : ∀ x, x < w.heap.size → W1.heap[x]? = w.heap[x]? := by
  intro x hx
  rw [← hW1]
  show ((w.heap.push _).push _)[x]? = _
  rw [Array.getElem?_push, if_neg (by simp; omega), Array.getElem?_push, if_neg (by omega)]
 have hsz1 : W1.heap.size = w.heap.size + 2 := by rw [← hW1]; simp
 have hL1 : W1.heap[w.heap.size + 1]? = some (.loop (rec .ready none)) := by
  rw [← hW1]; have := World.alloc_heap_new (w.alloc (.deferred (some []))) (.loop (rec .ready none)); rwa [World.size_alloc] at this
 have hD1 : W1.heap[w.heap.size]? = some (.deferred (some [])) := by
  rw [← hW1]
  show ((w.heap.push _).push _)[w.heap.size]? = _
  rw [Array.getElem?_push, if_neg (by simp), Array.getElem?_push, if_pos rfl]
 have ho1 : owns ι W1 (L' []) Ss := owns_far ho (fun x => w.heap.size ≤ x) (fun x hx => hold x (by omega)) (fun T hT x hx hge => by have := hlt T hT x hx; omega)
 have hemb1 : Emb G W1 := fun b o hb => by rw [hold b (hGlt b o hb)]; exact h4.emb b o hb
 have hGl : G (w.heap.size + 1) = none := by
  cases hq : G (w.heap.size + 1) with
  | none => rfl
  | some o => have := hGlt _ _ hq; omega
 have hGD : G w.heap.size = none := by
  cases hq : G w.heap.size with
  | none => rfl
  | some o => have := hGlt _ _ hq; omega
 -- behind the loop
 have behind : ∀ (Lx : List Ent) (pe : Option Code) (st : LoopState) (W' : World) (S' : Nat → Prop), (∀ b, S' b → ((∃ T ∈ Ss, T b) ∨ b = w.heap.size + 1 ∨ b = w.heap.size) ∨ W1.heap.size ≤ b) → Frm (fun b => (∃ T ∈ Ss, T b) ∨ b = w.heap.size + 1 ∨ b = w.heap.size) W1 W' →
   (entsHP ι Lx (w.heap.size + 1) w.heap.size (.loop (rec st pe))).holds W' S' → SatW C ι Lx (G.add w.heap.size (.deferred (some []))) (W'.putObj (w.heap.size + 1) (.loop { rec st pe with state := .exhausted })) := by
  intro Lx pe st W' S' hS' hf hA
  obtain ⟨Ss', hos, hdis, hl, hD, hSS⟩ := hA
  have hlt' : w.heap.size + 2 ≤ W'.heap.size := by have := hf.size; omega
  have hkeep : ∀ b, b < w.heap.size → (∀ T ∈ Ss, ¬ T b) → (W'.putObj (w.heap.size + 1) (.loop { rec st pe with state := .exhausted })).heap[b]? = w.heap[b]? := by
   intro b hb hn
   rw [World.putObj_heap_other (by omega), hf.keep b (by omega) (by rintro (⟨T, hT, hTb⟩ | h | h); exact hn T hT hTb; omega; omega), hold b hb]
  refine ⟨?_, ?_, ?_, ?_, ?_, ?_, Ss', owns_putObj hos (fun T hT => (hdis T hT).1), ?_⟩
  ·show W'.os = _; rw [hf.os, ← hW1]; exact h4.os
  ·show W'.tape = _; rw [hf.tape, ← hW1]; exact h4.tape
  ·show W'.output = _; rw [hf.output, ← hW1]; exact h4.output
  ·have := h4.size; simp; omega
  ·intro b hb hn
   have := h4.size
   rw [hkeep b (by omega) (fun T hT hTb => by
    rcases (hS T hT b hTb).2 with h | h
    ·exact hn h
    ·omega)]
   exact h4.keep b hb hn
  ·intro b o hb
   unfold PH.add at hb
   split at hb
   ·rename_i e
    cases hb
    rw [e, World.putObj_heap_other (by omega)]; exact hD
   ·rw [hkeep b (hGlt b o hb) (fun T hT hTb => by have := (hS T hT b hTb).1; rw [this] at hb; cases hb)]
    exact h4.emb b o hb
  ·intro T hT b hb
   have hb' : S' b := (hSS b).2 (.inl ⟨T, hT, hb⟩)
   have hne : b ≠ w.heap.size := by rintro rfl; exact (hdis T hT).2 hb
   have hne2 : b ≠ w.heap.size + 1 := by rintro rfl; exact (hdis T hT).1 hb
   unfold PH.add
   rw [if_neg hne]
   rcases hS' b hb' with (⟨T', hT', hTb⟩ | h | h) | h
   ·exact hS T' hT' b hTb
   ·exact absurd h hne2
   ·exact absurd h hne
   ·refine ⟨?_, .inr (by have := h4.size; omega)⟩
    cases hq : G b with
    | none => rfl
    | some o => have := hGlt _ _ hq; omega
 have hdfs : DfsOk C (G.add w.heap.size (.deferred (some []))) ({ target := .collected w.heap.size, args := #[] } :: a.defers) := by
  unfold DfsOk at h1 ⊢
  rw [hms] at h1 ⊢
  obtain ⟨Ds, d1, d2, d3⟩ := h1
  refine ⟨w.heap.size :: Ds, List.nodup_cons.2 ⟨fun hm => ?_, d1⟩, by rw [d2]; rfl, ?_⟩
  ·have := (d3 _ hm).2; rw [hGD] at this; cases this
  ·intro D hD
   rcases List.mem_cons.1 hD with rfl | hD
   ·exact ⟨h4.size, PH.add_self _ _ _⟩
   ·refine ⟨(d3 D hD).1, ?_⟩
    unfold PH.add
    rw [if_neg (by rintro rfl; have := (d3 _ hD).2; rw [hGD] at this; cases this)]
    exact (d3 D hD).2
 refine ⟨w.heap.size + 1, [{ target := .collected w.heap.size, args := #[] }], W1, { target := .fn (.func gf) cap, args := #[.func (.yield (w.heap.size + 1)) #[] #[]] }, W1, gf,
  #[.func (.yield (w.heap.size + 1)) #[] #[]] ++ cap, W1, ?_, ?_, ?_, ?_, fun h => by simp [FW, Fence.wide] at h, ?_⟩
 ·rw [← hW1, hrec]; exact run_enterLoop_outer _ _ _ _ _
 ·simp only [resolve, ← eg]
  simp [go_sem]
 ·intro f' hf'; trivial
 ·simp [invoke, go_sem, hcf]
 ·refine callsIn_FW.2 ?_
  have hA0 : (entsHP ι (L' []) (w.heap.size + 1) w.heap.size (.loop (rec .ready none))).holds W1 (fun b => (∃ T ∈ Ss, T b) ∨ b = w.heap.size + 1 ∨ b = w.heap.size) :=
   ⟨Ss, ho1, fun T hT => ⟨fun h => by have := hlt T hT _ h; omega, fun h => by have := hlt T hT _ h; omega⟩, hL1, hD1, fun x => Iff.rfl⟩
  refine (hI (w.heap.size + 1) (fun pre => entsHP ι (L' pre) (w.heap.size + 1) w.heap.size (.loop (rec .ready none))) (fun pre => entsHP ι (Lr pre) (w.heap.size + 1) w.heap.size (.loop (rec .done (some .ret)))) W1 _ hemb1 hA0 ?_ ?_).mono ?_
  ·rintro b (⟨T, hT, hTb⟩ | rfl | rfl)
   ·exact (hS T hT b hTb).1
   ·exact hGl
   ·exact hGD
  ·-- one round
   intro pre x vs W S hpre henc hE hA hSG
   obtain ⟨Ss2, ho2, hd2, hl2, hD2, hS2⟩ := hA
   have hszW : w.heap.size + 2 ≤ W.heap.size := by have := (Array.getElem?_eq_some_iff.1 hl2).1; omega
   have hlen := hps x vs henc
   have hy := run_yield (P := C.P) (args := vs.toArray) hl2 (by rw [hrec]; simpa using hlen)
   rw [hrec] at hy
   refine ⟨fn, _, assign, body, hy, roundIn_of_wpIn hfn ?_⟩
   obtain ⟨I, hIdef⟩ : ∃ I : Act → World → Prop, I = fun a₁ w₁ => ∃ w₂, (Instr.beginRound (w.heap.size + 1)).run C.P w₁ = .ok () w₂ ∧ body.wpIn ((FW none).inRound (w.heap.size + 1)) 0 C.P (roundPost C.P (w.heap.size + 1) (YieldR W S (entsHP ι (L' (pre ++ [x])) (w.heap.size + 1) w.heap.size (.loop (rec .ready none))) (entsHP ι (Lr (pre ++ [x])) (w.heap.size + 1) w.heap.size (.loop (rec .done (some .ret)))))) a₁ w₂ := ⟨_, rfl⟩
   have hx := round (w.heap.size + 1) pre x vs W (fun b => ∃ T ∈ Ss2, T b) I hpre henc (by have := h4.size; omega) ?_
   ·obtain ⟨he, hsz⟩ := setE_sound (vs := vs) h3 h2 hpn
    have := hx { tmps := (ps.toList.zip vs).foldl (fun t (x : Nat × Value) => t.setIfInBounds x.1 x.2) a.tmps, defers := [] } W DfsOk.nil hsz he (SatW.round ho2 (fun T hT b hb => (hSG b ((hS2 b).2 (.inl ⟨T, hT, hb⟩)))) hE)
    have hfold : (ps.zip vs.toArray).foldl (fun tmps (x : Nat × Value) => tmps.setIfInBounds x.1 x.2) a.tmps = (ps.toList.zip vs).foldl (fun t (x : Nat × Value) => t.setIfInBounds x.1 x.2) a.tmps := by
     rw [← Array.foldl_toList, Array.toList_zip]
    have hw := wpIn_mono (Q' := Exit.then (fun a₁ w₁ => I a₁ w₁) (fun _ _ _ => False)) (show assign.wpIn (FW (some (w.heap.size + 1))) 0 C.P _ _ W from this) (by
     intro e a' w' q
     cases e <;> exact q)
    rw [hIdef] at hw
    rw [show (fun tmps (x : Nat × Value) => match x with | (t, a) => tmps.setIfInBounds t a) = (fun (tmps : Array Value) (x : Nat × Value) => tmps.setIfInBounds x.1 x.2) from rfl, hfold]
    exact hw
   ·intro E' ι' L'' hbody a1 w1 g1 g2 g3 g4
    show I a1 w1
    rw [hIdef]
    obtain ⟨Ss3, ho3, hS3⟩ := g4.own
    have hsz1' : W.heap.size ≤ w1.heap.size := g4.size
    have hkeep1 : ∀ b, b < W.heap.size → (¬ ∃ T ∈ Ss2, T b) → w1.heap[b]? = W.heap[b]? := fun b hb hn => g4.keep b hb hn
    have hnl : ¬ ∃ T ∈ Ss2, T (w.heap.size + 1) := fun ⟨T, hT, h⟩ => (hd2 T hT).1 h
    have hnD : ¬ ∃ T ∈ Ss2, T w.heap.size := fun ⟨T, hT, h⟩ => (hd2 T hT).2 h
    have hl3 : w1.heap[w.heap.size + 1]? = some (.loop (rec .ready none)) := by rw [hkeep1 _ (by omega) hnl]; exact hl2
    have hD3 : w1.heap[w.heap.size]? = some (.deferred (some [])) := by rw [hkeep1 _ (by omega) hnD]; exact hD2
    have hn3 : ∀ T ∈ Ss3, ¬ T (w.heap.size + 1) ∧ ¬ T w.heap.size := by
     intro T hT
     refine ⟨fun h => ?_, fun h => ?_⟩
     ·rcases (hS3 T hT _ h).2 with h' | h'
      ·exact hnl h'
      ·have : W.heap.size ≤ w.heap.size + 1 := h'; omega
     ·rcases (hS3 T hT _ h).2 with h' | h'
      ·exact hnD h'
      ·have : W.heap.size ≤ w.heap.size := h'; omega
    refine ⟨_, run_beginRound hl3 (by rw [hrec]), ?_⟩
    obtain ⟨w2, hw2⟩ : ∃ w2, w1.putObj (w.heap.size + 1) (.loop { rec .ready none with state := .busy }) = w2 := ⟨_, rfl⟩
    rw [hw2]
    have hsz2 : w2.heap.size = w1.heap.size := by rw [← hw2]; simp
    have hoth2 : ∀ b, b ≠ w.heap.size + 1 → w2.heap[b]? = w1.heap[b]? := fun b hb => by rw [← hw2]; exact World.putObj_heap_other hb
    have hl4 : w2.heap[w.heap.size + 1]? = some (.loop { rec .ready none with state := .busy }) := by rw [← hw2]; exact World.putObj_heap_same (by omega)
    have hD4 : w2.heap[w.heap.size]? = some (.deferred (some [])) := by rw [hoth2 _ (by omega)]; exact hD3
    have hE2 : Emb G w2 := by
     intro b o hb
     rw [hoth2 b (by rintro rfl; rw [hGl] at hb; cases hb)]
     exact g4.emb b o hb
    have ho4 : owns ι' w2 L'' Ss3 := by rw [← hw2]; exact owns_putObj ho3 (fun T hT => (hn3 T hT).1)
    have hb2 := hbody w2 (fun b => ∃ T ∈ Ss3, T b) (by have := h4.size; omega) a1 w2 (by rw [g1.eq rfl]; exact DfsOk.nil) g2 g3 (SatW.round ho4 (fun T hT b hb => (hS3 T hT b hb).1) hE2)
    refine wpIn_mono (show body.wpIn (FW (some (w.heap.size + 1))) 0 C.P _ a1 w2 from hb2) ?_
    have fin : ∀ (jump : Option Code) (st : LoopState) (Lx : List Ent) (W3 : World), (st = if jump.isNone then .ready else .done) → SatW (RCx C 0 (fun _ _ _ => False) w2 (fun b => ∃ T ∈ Ss3, T b)) ι Lx G W3 →
      ∃ w', (Instr.endRound (w.heap.size + 1) jump).run C.P W3 = .ok (.bool jump.isNone) w' ∧ ∃ S', (∀ b, S' b → S b ∨ W.heap.size ≤ b) ∧ Frm S W w' ∧ (entsHP ι Lx (w.heap.size + 1) w.heap.size (.loop (rec st jump))).holds w' S' := by
     intro jump st Lx W3 hst hsat
     obtain ⟨Ss4, ho5, hS5⟩ := hsat.own
     have hsz3 : w2.heap.size ≤ W3.heap.size := hsat.size
     have hk3 : ∀ b, b < w2.heap.size → (¬ ∃ T ∈ Ss3, T b) → W3.heap[b]? = w2.heap[b]? := fun b hb hn => hsat.keep b hb hn
     have hl5 : W3.heap[w.heap.size + 1]? = some (.loop { rec .ready none with state := .busy }) := by rw [hk3 _ (by omega) (fun ⟨T, hT, h⟩ => (hn3 T hT).1 h)]; exact hl4
     have hD5 : W3.heap[w.heap.size]? = some (.deferred (some [])) := by rw [hk3 _ (by omega) (fun ⟨T, hT, h⟩ => (hn3 T hT).2 h)]; exact hD4
     have hn5 : ∀ T ∈ Ss4, ¬ T (w.heap.size + 1) ∧ ¬ T w.heap.size := by
      intro T hT
      refine ⟨fun h => ?_, fun h => ?_⟩
      ·rcases (hS5 T hT _ h).2 with ⟨T', hT', h'⟩ | h'
       ·exact (hn3 T' hT').1 h'
       ·have : w2.heap.size ≤ w.heap.size + 1 := h'; omega
      ·rcases (hS5 T hT _ h).2 with ⟨T', hT', h'⟩ | h'
       ·exact (hn3 T' hT').2 h'
       ·have : w2.heap.size ≤ w.heap.size := h'; omega
     have hend := run_endRound (P := C.P) jump hl5
     have hrr : ({ ({ rec .ready none with state := .busy } : Loop) with state := if jump.isNone then .ready else .done, pending := jump } : Loop) = rec st jump := by rw [hrec, hst]
     rw [hrr] at hend
     refine ⟨_, hend, (fun b => (∃ T ∈ Ss4, T b) ∨ b = w.heap.size + 1 ∨ b = w.heap.size), ?_, ?_, ?_⟩
     ·rintro b (⟨T, hT, h⟩ | rfl | rfl)
      ·rcases (hS5 T hT _ h).2 with ⟨T', hT', h'⟩ | h'
       ·rcases (hS3 T' hT' _ h').2 with h6 | h6
        ·exact .inl ((hS2 b).2 (.inl h6))
        ·exact .inr h6
       ·have : w2.heap.size ≤ b := h'
        exact .inr (by omega)
      ·exact .inl ((hS2 _).2 (.inr (.inl J)))
      ·exact .inl ((hS2 _).2 (.inr (.inr J)))
     ·refine ⟨?_, ?_, ?_, by simp; omega, ?_⟩
      ·show W3.os = _; rw [hsat.os]; show w2.os = _; rw [← hw2]; exact g4.os
      ·show W3.tape = _; rw [hsat.tape]; show w2.tape = _; rw [← hw2]; exact g4.tape
      ·show W3.output = _; rw [hsat.output]; show w2.output = _; rw [← hw2]; exact g4.output
      ·intro b hb hn
       have hne : b ≠ w.heap.size + 1 := by rintro rfl; exact hn ((hS2 _).2 (.inr (.inl J)))
       have hns2 : ¬ ∃ T ∈ Ss2, T b := fun h => hn ((hS2 b).2 (.inl h))
       have hns3 : ¬ ∃ T ∈ Ss3, T b := by
        rintro ⟨T, hT, h⟩
        rcases (hS3 T hT _ h).2 with h6 | h6
        ·exact hns2 h6
        ·have : W.heap.size ≤ b := h6; omega
       rw [World.putObj_heap_other hne, hk3 b (by omega) hns3, hoth2 b hne, hkeep1 b hb hns2]
     ·exact ⟨Ss4, owns_putObj ho5 (fun T hT => (hn5 T hT).1), hn5, World.putObj_heap_same (by omega), by rw [World.putObj_heap_other (by omega)]; exact hD5, fun x => Iff.rfl⟩
    intro e a3 W3 hp
    cases e with
    | normal =>
     obtain ⟨w', he, S', f1, f2, f3⟩ := fin none .ready _ W3 rfl hp
     exact ⟨_, w', he, S', f1, f2, .inl ⟨J, f3⟩⟩
    | ret =>
     obtain ⟨w', he, S', f1, f2, f3⟩ := fin (some .ret) .done _ W3 rfl hp
     exact ⟨_, w', he, S', f1, f2, .inr ⟨J, f3⟩⟩
    | exit id => exact hp.elim
    | goto t => exact hp.elim
    | panic ch => exact hp.elim
    | outgrown => exact hp.elim
  ·-- behind the iterator
   rintro e W' ⟨v, S', rfl, hS', hf, hA | ⟨pre, hA⟩⟩
   ·have hend := run_endLoop (P := C.P) (l := w.heap.size + 1) (w := W') (r := rec .ready none) (by obtain ⟨_, _, _, h, _⟩ := hA; exact h) (by rw [hrec]; simp)
    rw [show (rec .ready none).pending = none from by rw [hrec]] at hend
    refine ⟨none, _, hend, ?_⟩
    have hb := behind _ _ _ _ _ hS' hf hA
    subst hrec
    exact hdone _ hGD h4.size _ _ hdfs h2 h3 hb
   ·have hend := run_endLoop (P := C.P) (l := w.heap.size + 1) (w := W') (r := rec .done (some .ret)) (by obtain ⟨_, _, _, h, _⟩ := hA; exact h) (by rw [hrec]; simp)
    rw [show (rec .done (some .ret)).pending = some .ret from by rw [hrec]] at hend
    refine ⟨some .ret, _, hend, ?_⟩
    have hb := behind _ _ _ _ _ hS' hf hA
    subst hrec
    exact hstop _ _ hGD h4.size _ _ hdfs h2 h3 hb
end
end
section
def MC (P : Program) (n : Nat) (fn : Func) (G : PH) (Post : Value → PH → HP → Prop) (w : World) (S : Nat → Prop) : Ctx := ⟨P, none, n, bodyPost P fn (ModR G w S Post), w, S, false⟩
theorem Mod.intro {P : Program} {f : FuncId} {fn : Func} {c : Code} {vs : List Value} {G : PH} {A : HP} {Post : Value → PH → HP → Prop} {n : Nat} (hf : P.funcs[f]? = some fn) (hn : fn.ntmps = n) (hb : fn.body = some c) (hle : Nat.ble vs.length n = true)
  (hx : ∀ w S, X (MC P n fn G Post w S) [.code c] (envOf 0 vs) [] [.hp 1 A] G) : Mod P f vs G A Post := by
 intro w S hw hA hS
 refine Enter (ι := []) (L := [.hp 1 A]) (G := G) (S0 := S) hf hb hn hle ?_ (hx w S)
 refine ⟨rfl, rfl, rfl, Nat.le_refl _, fun _ _ _ => rfl, hw, [S], ⟨hA, ⟨fun T hT => (by cases hT), trivial⟩⟩, ?_⟩
 intro T hT b hb
 rw [List.mem_singleton.1 hT] at hb
 exact ⟨hS b hb, .inl hb⟩
section
variable {P : Program} {fn : Func} {n : Nat} {G0 G : PH} {Post : Value → PH → HP → Prop} {w0 : World} {S0 : Nat → Prop} {k : List It} {E : Env} {ι : Ids} {L : List Ent}
theorem SatW.modR {w : World} (h : SatW (MC P n fn G0 Post w0 S0) ι L G w) {κ : Nat} {A' : HP} (hL : getH κ L = some A') (hx : PH.ext w0.heap.size G0 G) {v : Value} (hp : Post v G A') : ModR G0 w0 S0 Post (.returned v) w := by
 obtain ⟨Ss, ho, hS⟩ := h.own
 obtain ⟨S, hA, hm, _⟩ := owns_split ho hL
 exact ⟨v, G, A', S, rfl, hp, hA, hx, h.emb, fun b hb => hS S hm b hb, h.os, h.tape, h.output, h.size, h.keep⟩
end
def packHP (p : Ids → List Ent → Prop) : HP where
 holds w S := ∃ ι L Ss, p ι L ∧ owns ι w L Ss ∧ ∀ x, S x ↔ ∃ T ∈ Ss, T x
 loc w w' S h hs := by
  obtain ⟨ι, L, Ss, hp, ho, hS⟩ := h
  exact ⟨ι, L, Ss, hp, owns_far ho (fun x => ¬ S x) (fun x hx => hs x (Classical.not_not.1 hx)) (fun T hT x hx hn => hn ((hS x).2 ⟨T, hT, hx⟩)), hS⟩
 lt w S h x hx := by
  obtain ⟨ι, L, Ss, hp, ho, hS⟩ := h
  obtain ⟨T, hT, hTx⟩ := (hS x).1 hx
  exact owns_lt ho T hT x hTx
def freshB : List Nat → Ids → Bool
 | [], _ => true
 | k :: ks, ι => match lookI k ι with
  | some _ => false
  | none => freshB ks ι
theorem lookI_append {k : Nat} {ι0 ι : Ids} : lookI k (ι0 ++ ι) = (match lookI k ι0 with | some b => some b | none => lookI k ι) := by
 induction ι0 with
 | nil => rfl
 | cons x l ih =>
  obtain ⟨j, b⟩ := x
  simp only [List.cons_append, lookI]
  split
  ·rfl
  ·exact ih
theorem freshB_eq {ks : List Nat} {ι : Ids} (h : freshB ks ι = true) : ∀ k ∈ ks, lookI k ι = none := by
 induction ks with
 | nil => intro k hk; cases hk
 | cons j ks ih =>
  simp only [freshB] at h
  split at h
  ·cases h
  ·rename_i hj
   intro k hk
   rcases List.mem_cons.1 hk with rfl | hk
   ·exact hj
   ·exact ih h k hk
def IdsLe (ι ι' : Ids) : Prop := ∀ k b, lookI k ι = some b → lookI k ι' = some b
theorem denC_le {ι ι' : Ids} (hl : IdsLe ι ι') {c : Cel} {v : Value} (h : denC ι c = some v) : denC ι' c = some v := by
 cases c with
 | v x => exact h
 | p k o => simp only [denC] at h ⊢; split at h <;> rename_i hk; rw [hl _ _ hk]; exact h; cases h
 | s k o n m => simp only [denC] at h ⊢; split at h <;> rename_i hk; rw [hl _ _ hk]; exact h; cases h
theorem denL_le {ι ι' : Ids} (hl : IdsLe ι ι') {l : List Cel} {vs : List Value} (h : denL ι l = some vs) : denL ι' l = some vs := by
 induction l generalizing vs with
 | nil => exact h
 | cons c l ih =>
  obtain ⟨v, r, rfl, h1, h2⟩ := denL_cons h
  simp [denL, denC_le hl h1, ih h2]
theorem denO_le {ι ι' : Ids} (hl : IdsLe ι ι') {s : Sym} {v : Value} (h : denO ι s = some v) : denO ι' s = some v := by
 cases s with
 | val x => exact h
 | lit x => exact h
 | ptr k o => simp only [denO] at h ⊢; split at h <;> rename_i hk; rw [hl _ _ hk]; exact h; cases h
 | slc k o n m => simp only [denO] at h ⊢; split at h <;> rename_i hk; rw [hl _ _ hk]; exact h; cases h
 | agg l => simp only [denO] at h ⊢; split at h <;> rename_i hk; rw [denL_le hl hk]; exact h; cases h
theorem owns_le {ι ι' : Ids} (hl : IdsLe ι ι') {w : World} {L : List Ent} {Ss : List (Nat → Prop)} (ho : owns ι w L Ss) : owns ι' w L Ss := by
 induction L generalizing Ss with
 | nil => cases Ss with
  | nil => trivial
  | cons => simp [owns] at ho
 | cons e L ih =>
  cases Ss with
  | nil => simp [owns] at ho
  | cons S Ss =>
   obtain ⟨h1, h2, h3⟩ := ho
   refine ⟨?_, h2, ih h3⟩
   cases e with
   | blk j ty cs =>
    obtain ⟨c, vs, hc, hdv, hh, hS⟩ := h1
    exact ⟨c, vs, hl _ _ hc, denL_le hl hdv, hh, hS⟩
   | hp j A => exact h1
theorem AgE.idsLe {ι ι' : Ids} (hl : IdsLe ι ι') {E : Env} {a : Act} (h : AgE ι E a) : AgE ι' E a := by
 intro i s hi
 obtain ⟨v, hv, ht⟩ := h i s hi
 exact ⟨v, denO_le hl hv, ht⟩
theorem IdsLe.left (ι0 ι : Ids) : IdsLe ι0 (ι0 ++ ι) := by
 intro k b h
 rw [lookI_append, h]
theorem IdsLe.right {ι0 ι : Ids} (hf : ∀ k ∈ ι0.map (·.1), lookI k ι = none) : IdsLe ι (ι0 ++ ι) := by
 intro k b h
 rw [lookI_append]
 split
 ·rename_i c hc
  have : k ∈ ι0.map (·.1) := by
   clear h hf
   induction ι0 with
   | nil => cases hc
   | cons x l ih =>
    obtain ⟨j, b'⟩ := x
    simp only [lookI] at hc
    split at hc
    ·rename_i e; subst e; exact List.mem_cons_self ..
    ·exact List.mem_cons_of_mem _ (ih hc)
  rw [hf k this] at h; cases h
 ·exact h
theorem owns_app {ι : Ids} {w : World} : ∀ {L L' : List Ent} {Ss Ss' : List (Nat → Prop)}, owns ι w L Ss → owns ι w L' Ss' → (∀ S ∈ Ss, ∀ T ∈ Ss', ∀ b, S b → T b → False) → owns ι w (L ++ L') (Ss ++ Ss')
 | [], _, [], _, _, h', _ => h'
 | [], _, _ :: _, _, h, _, _ => by simp [owns] at h
 | e :: L, _, [], _, h, _, _ => by simp [owns] at h
 | e :: L, L', S :: Ss, Ss', h, h', hd => by
  obtain ⟨h1, h2, h3⟩ := h
  refine ⟨h1, ?_, owns_app h3 h' fun T hT => hd T (List.mem_cons_of_mem _ hT)⟩
  intro T hT b hb hb'
  rcases List.mem_append.1 hT with hT | hT
  ·exact h2 T hT b hb hb'
  ·exact hd S (List.mem_cons_self ..) T hT b hb hb'
def normI : Ids → Option Ids
 | [] => some []
 | (k, b) :: l => match normI l with
  | some r => some ((k, b) :: r)
  | none => none
theorem normI_eq : ∀ {l r : Ids}, normI l = some r → l = r
 | [], r, h => by cases h; rfl
 | (k, b) :: l, r, h => by
  simp only [normI] at h
  split at h
  ·rename_i q hq; cases h; rw [normI_eq hq]
  ·cases h
def normE : List Ent → Option (List Ent)
 | [] => some []
 | .hp k A :: l => match normE l with
  | some r => some (.hp k A :: r)
  | none => none
 | .blk k t cs :: l => match normE l with
  | some r => some (.blk k t cs :: r)
  | none => none
theorem normE_eq : ∀ {l r : List Ent}, normE l = some r → l = r
 | [], r, h => by cases h; rfl
 | .hp k A :: l, r, h => by
  simp only [normE] at h
  split at h
  ·rename_i q hq; cases h; rw [normE_eq hq]
  ·cases h
 | .blk k t cs :: l, r, h => by
  simp only [normE] at h
  split at h
  ·rename_i q hq; cases h; rw [normE_eq hq]
  ·cases h
def pickB (k : Nat) : List Ent → Option (Ent × List Ent)
 | [] => none
 | e :: L => match Nat.beq e.key k with
  | true => some (e, L)
  | false => match pickB k L with
   | some (x, r) => some (x, e :: r)
   | none => none
def pickE : List Nat → List Ent → Option (List Ent × List Ent)
 | [], L => some ([], L)
 | k :: ks, L => match pickB k L with
  | some (x, r) => match pickE ks r with
   | some (xs, r') => some (x :: xs, r')
   | none => none
  | none => none
theorem pickB_sound {ι : Ids} {w : World} {k : Nat} : ∀ {L r : List Ent} {x : Ent} {Ss : List (Nat → Prop)}, pickB k L = some (x, r) → owns ι w L Ss → ∃ S Ss', owns ι w (x :: r) (S :: Ss') ∧ ∀ T, T ∈ S :: Ss' ↔ T ∈ Ss
 | [], r, x, Ss, h, _ => by cases h
 | e :: L, r, x, Ss, h, ho => by
  cases Ss with
  | nil => simp [owns] at ho
  | cons S Ss =>
   simp only [pickB] at h
   split at h
   ·cases h; exact ⟨S, Ss, ho, fun T => Iff.rfl⟩
   ·split at h
    ·rename_i y q hq
     cases h
     obtain ⟨h1, h2, h3⟩ := ho
     obtain ⟨S', Ss', ⟨g1, g2, g3⟩, hmem⟩ := pickB_sound hq h3
     refine ⟨S', S :: Ss', ⟨g1, ?_, h1, ?_, g3⟩, ?_⟩
     ·intro T hT b hb hb'
      rcases List.mem_cons.1 hT with rfl | hT
      ·exact h2 S' ((hmem S').1 (List.mem_cons_self ..)) b hb' hb
      ·exact g2 T hT b hb hb'
     ·intro T hT
      exact h2 T ((hmem T).1 (List.mem_cons_of_mem _ hT))
     ·intro T
      simp only [List.mem_cons]
      have := hmem T
      simp only [List.mem_cons] at this
      rw [← this]
      constructor
      ·rintro (h | h | h); exact .inr (.inl h); exact .inl h; exact .inr (.inr h)
      ·rintro (h | h | h); exact .inr (.inl h); exact .inl h; exact .inr (.inr h)
    ·cases h
theorem pickE_sound {ι : Ids} {w : World} : ∀ {ks : List Nat} {L xs r : List Ent} {Ss : List (Nat → Prop)}, pickE ks L = some (xs, r) → owns ι w L Ss →
  ∃ Sx Sr, owns ι w xs Sx ∧ owns ι w r Sr ∧ (∀ S ∈ Sx, ∀ T ∈ Sr, ∀ b, S b → T b → False) ∧ (∀ T, T ∈ Sx ∨ T ∈ Sr ↔ T ∈ Ss)
 | [], L, xs, r, Ss, h, ho => by
  cases h
  exact ⟨[], Ss, trivial, ho, fun S hS => absurd hS (by simp), fun T => by simp⟩
 | k :: ks, L, xs, r, Ss, h, ho => by
  simp only [pickE] at h
  split at h
  ·rename_i x q hq
   split at h
   ·rename_i ys r' hr
    cases h
    obtain ⟨S, Ss', ⟨h1, h2, h3⟩, hmem⟩ := pickB_sound hq ho
    obtain ⟨Sx, Sr, g1, g2, g3, g4⟩ := pickE_sound hr h3
    refine ⟨S :: Sx, Sr, ⟨h1, fun T hT => h2 T ((g4 T).1 (.inl hT)), g1⟩, g2, ?_, ?_⟩
    ·intro U hU T hT b hb hb'
     rcases List.mem_cons.1 hU with rfl | hU
     ·exact h2 T ((g4 T).1 (.inr hT)) b hb hb'
     ·exact g3 U hU T hT b hb hb'
    ·intro T
     rw [← hmem T, List.mem_cons, List.mem_cons, ← g4 T, or_assoc]
   ·cases h
  ·cases h
section
variable {C : Ctx} {k : List It} {E : Env} {ι : Ids} {L : List Ent} {G : PH}
theorem S_unpack (κ : Nat) {p : Ids → List Ent → Prop} {L' : List Ent} (ks : List Nat) (hL : getH κ L = some (packHP p)) (hL' : delH κ L = some L') (hks : ∀ ι0 L0, p ι0 L0 → ι0.map (·.1) = ks) (hf : freshB ks ι = true)
  (hk : ∀ ι0 L0, p ι0 L0 → X C k E (ι0 ++ ι) (L0 ++ L') G) : X C k E ι L G := by
 intro a w h1 h2 h3 h4
 obtain ⟨Ss, ho, hS⟩ := h4.own
 obtain ⟨S, Ss', hA, hm, ho', hT⟩ := owns_del ho hL hL'
 obtain ⟨ι0, L0, Ss0, hp, ho0, hS0⟩ := hA
 have hr : IdsLe ι (ι0 ++ ι) := IdsLe.right (by rw [hks _ _ hp]; exact freshB_eq hf)
 refine hk ι0 L0 hp a w h1 h2 (h3.idsLe hr) ⟨h4.os, h4.tape, h4.output, h4.size, h4.keep, h4.emb, Ss0 ++ Ss', owns_app (owns_le (IdsLe.left ι0 ι) ho0) (owns_le hr ho') ?_, ?_⟩
 ·intro T hT0 U hU b hb hb'
  exact (hT U hU).2 b hb' ((hS0 b).2 ⟨T, hT0, hb⟩)
 ·intro T hT0 b hb
  rcases List.mem_append.1 hT0 with hT0 | hT0
  ·exact hS S hm b ((hS0 b).2 ⟨T, hT0, hb⟩)
  ·exact hS T (hT T hT0).1 b hb
theorem S_pack (κ : Nat) {p : Ids → List Ent → Prop} {ι1 : Ids} {L1 L2 Ls : List Ent} (ks : List Nat) (hL : pickE ks L = some (L1, L2)) (hs : subL ι ι1 L1 Ls) (hp : p ι1 Ls) (hk : X C k E ι (.hp κ (packHP p) :: L2) G) : X C k E ι L G := by
 intro a w h1 h2 h3 h4
 obtain ⟨Ss, ho, hS⟩ := h4.own
 obtain ⟨Sx, Sr, g1, g2, g3, g4⟩ := pickE_sound hL ho
 obtain ⟨Ss', ho', hsub⟩ := subL_sound hs g1
 refine hk a w h1 h2 h3 ⟨h4.os, h4.tape, h4.output, h4.size, h4.keep, h4.emb, (fun x => ∃ T ∈ Ss', T x) :: Sr, ⟨⟨ι1, Ls, Ss', hp, ho', fun x => Iff.rfl⟩, ?_, g2⟩, ?_⟩
 ·rintro T hT b ⟨U, hU, hb⟩ hb'
  exact g3 U (hsub U hU) T hT b hb hb'
 ·intro T hT b hb
  rcases List.mem_cons.1 hT with rfl | hT
  ·obtain ⟨U, hU, hb⟩ := hb
   exact hS U ((g4 U).1 (.inl (hsub U hU))) b hb
  ·exact hS T ((g4 T).1 (.inr hT)) b hb
theorem NM {ι' : Ids} {L' : List Ent} (hι : normI ι = some ι') (hL : normE L = some L') (hk : X C k E ι' L' G) : X C k E ι L G := by
 rw [normI_eq hι, normE_eq hL]; exact hk
theorem S_reE (d : Nat) (s' : Sym) {s : Sym} (hl : look d E = some s) (hd : denO ι s = denO ι s') (hk : X C k ((d, s') :: E) ι L G) : X C k E ι L G := by
 intro a w h1 h2 h3 h4
 refine hk a w h1 h2 ?_ h4
 intro i t hi
 simp only [look] at hi
 split at hi
 ·rename_i e; subst e; cases hi
  obtain ⟨v, hv, ht⟩ := h3 _ _ hl
  exact ⟨v, hd ▸ hv, ht⟩
 ·exact h3 i t hi
end
def rounds (C : Ctx) (c : Code) (k : List It) : Nat → Act → World → Prop
 | 0, _, _ => False
 | n + 1, a, w => wpE C (.code c :: .stop (rounds C c k n) :: k) .normal a w
theorem wpE_mono_stop {C : Ctx} {c : Code} {k : List It} {I J : Act → World → Prop} (h : ∀ a w, I a w → J a w) {a : Act} {w : World} (hw : wpE C (.code c :: .stop I :: k) .normal a w) : wpE C (.code c :: .stop J :: k) .normal a w := by
 refine wpIn_mono hw ?_
 intro e a' w' q
 cases e with
 | normal => exact h _ _ q
 | _ => exact q
section
variable {C : Ctx} {k : List It} {E : Env} {ι : Ids} {L : List Ent} {G : PH}
theorem S_unroll (n : Nat) {c : Code} (hx : X C (.code c :: .stop (rounds C c k n) :: k) E ι L G) : X C (.code (.loop c) :: k) E ι L G := by
 intro a w h1 h2 h3 h4
 refine wpE_loopN (fun m a w => rounds C c k m a w) (n + 1) (hx a w h1 h2 h3 h4) ?_
 intro m a w hm
 cases m with
 | zero => exact hm.elim
 | succ m => exact wpE_mono_stop (fun a w h => ⟨m, Nat.lt_succ_self m, h⟩) hm
theorem S_next {n : Nat} {c : Code} {k' : List It} (hx : X C (.code c :: .stop (rounds C c k n) :: k) E ι L G) : X C (.stop (rounds C c k (n + 1)) :: k') E ι L G :=
 fun a w h1 h2 h3 h4 => hx a w h1 h2 h3 h4
end
section
variable {C : Ctx} {k : List It} {E : Env} {ι : Ids} {L : List Ent} {G : PH} {all : Array Oper} {l : List Oper}
theorem S_callMV (κ : Nat) {A : HP} {L' : HP → List Ent} {d f : Nat} {x : Operand} {cap : Array Value} {xs : Array Operand} {ats : Array TypeId} {ty : Nat} {pos : String} {af : Array Edge} {g : Option (Nat × Bool)} {vs : List Value} {Post : Value → PH → HP → Prop}
  (hx : ev E x = some (.val (.func (.func f) #[] cap))) (hcf : ∀ args w, (callFunc f args).run C.P w = .ok (.enter f args) w)
  (hc : Mod C.P f (vs ++ cap.toList) G A Post) (hg : guardOf all E g = .on) (hN : Nat.ble (d + 1) C.n = true) (hxs : evs ι E xs.toList = some vs) (hL : getH κ L = some A) (hL' : ∀ A', setH κ A' L = some (L' A'))
  (hk : ∀ v G' A', Post v G' A' → PH.ext C.w0.heap.size G G' → X C (.ops all l :: k) ((d, .val v) :: E) ι (L' A') G') : X C (.ops all (⟨some d, .call ⟨.value x, xs, ats⟩, ty, pos, af, g⟩ :: l) :: k) E ι L G := by
 intro a w h1 h2 h3 h4
 have hdn : d < a.tmps.size := by rw [h2]; exact Nat.le_of_ble_eq_true hN
 obtain ⟨S, hA, hSG, hturn⟩ := h4.turn hL
 have hcc := hc w S h4.emb hA hSG
 have ex := ev_sound h3 hx
 simp only [denO, Option.some.injEq] at ex
 refine wpE_call (f := f) (cap := cap) (vs := vs) (guardOf_on h3 hg) ex.symm (evs_sound h3 hxs) hcf (R := fun v w' => ∃ G' A', Post v G' A' ∧ PH.ext C.w0.heap.size G G' ∧ SatW C ι (L' A') G' w') ?_ ?_
 ·refine hcc.mono ?_
  rintro e w' ⟨v, G', A', S', rfl, hp, hA', hext, hemb, hS', e1, e2, e3, e4, hkeep⟩
  refine ⟨v, J, G', A', hp, hext.mono h4.size, ?_⟩
  exact hturn A' _ G' w' S' (hL' A') hA' hemb hext hS' e1 e2 e3 e4 hkeep
 ·rintro v w' ⟨G', A', hp, hext, hsat⟩
  exact hk v G' A' hp hext _ _ (h1.mono hext.le) (by simp [Act.put, h2]) (h3.put hdn J) hsat
theorem S_invokeM (κ : Nat) {A : HP} {L' : HP → List Ent} {d f t : Nat} {x : Operand} {name : String} {rv : Value} {xs : Array Operand} {ats : Array TypeId} {ty : Nat} {pos : String} {af : Array Edge} {g : Option (Nat × Bool)} {vs : List Value} {Post : Value → PH → HP → Prop}
  (hx : ev E x = some (.val (.iface t rv))) (hcm : ∀ args w, (callMethod (.iface t rv) name args).run C.P w = .ok (.enter f (#[rv] ++ args)) w)
  (hc : Mod C.P f (rv :: vs) G A Post) (hg : guardOf all E g = .on) (hN : Nat.ble (d + 1) C.n = true) (hxs : evs ι E xs.toList = some vs) (hL : getH κ L = some A) (hL' : ∀ A', setH κ A' L = some (L' A'))
  (hk : ∀ v G' A', Post v G' A' → PH.ext C.w0.heap.size G G' → X C (.ops all l :: k) ((d, .val v) :: E) ι (L' A') G') : X C (.ops all (⟨some d, .call ⟨.invoke x name, xs, ats⟩, ty, pos, af, g⟩ :: l) :: k) E ι L G := by
 intro a w h1 h2 h3 h4
 have hdn : d < a.tmps.size := by rw [h2]; exact Nat.le_of_ble_eq_true hN
 obtain ⟨S, hA, hSG, hturn⟩ := h4.turn hL
 have hcc := hc w S h4.emb hA hSG
 have ex := ev_sound h3 hx
 simp only [denO, Option.some.injEq] at ex
 have e1 : xs.map a.eval = vs.toArray := by
  have := evs_sound h3 hxs
  rw [← this]; cases xs; simp
 show wpListIn _ _ _ _ _ _ _ _
 unfold wpListIn
 rw [if_pos (guardOf_on h3 hg)]
 refine ⟨fun _ _ => trivial, ?_⟩
 rw [Oper.semAt_eq _ _ _ (by intro c h; cases h)]
 have hrun : (execOp a.eval ⟨some d, .call ⟨.invoke x name, xs, ats⟩, ty, pos, af, g⟩).run C.P w = .ok (.enter f (rv :: vs).toArray) w := by
  simp only [execOp, resolve, ← ex, e1]
  simp [invoke, hcm]
 rw [hrun]
 simp only [Oper.uponIn]
 refine ⟨fun h => by simp [FW, Fence.wide] at h, ?_⟩
 refine callsIn_FW.2 (hcc.mono ?_)
 rintro e w' ⟨v, G', A', S', rfl, hp, hA', hext, hemb, hS', q1, q2, q3, q4, hkeep⟩
 have hsat := hturn A' _ G' w' S' (hL' A') hA' hemb hext hS' q1 q2 q3 q4 hkeep
 exact hk v G' A' hp (hext.mono h4.size) _ _ (h1.mono hext.le) (by simp [Act.put, h2]) (h3.put hdn J) hsat
end
section
variable {C : Ctx} {ks : List Nat} {all : Array Oper} {k : List It} {E : Env} {ι : Ids} {L : List Ent} {G : PH} {R : List Nat} {pend : List Pd}
theorem N_turn {T : Tab} (hT : tabOk C.P T) (j : Nat) {o : Oper} {R' : List Nat} {pend' : List Pd} {E' : Env} (ho : nthOp j all.toList = some o) (hR : strN (remN j R) = some R') (hp' : strP (dropP (edgeN o.after.toList) pend) = some pend') (hE : strE (penv (takeP (edgeN o.after.toList) pend) ++ E) = some E')
  (hx : (∀ (E'' : Env) (ι' : Ids) (L' : List Ent) (G' : PH), rechk ks T C.n ι' all L' (penv pend' ++ E'') E'' pend' = some pend' → D C ks all k R' pend' E'' ι' L' G' → X C (.ops all [] :: .stop (DR C all k R' pend') :: k) E'' ι' L' G') →
   X C (.ops all [o] :: .stop (DR C all k R' pend') :: k) E' ι L G) : Nx C ks all k R pend E ι L G j := by
 refine N_eff j ho hR hp' hE fun hok hp hdis => hx fun E'' ι' L' G' hrc h => ?_
 intro a w h1 h2 h3 h4
 refine wpE_nil (h hok (rechk_sound hT J _ _ hrc) ?_ _ _ h1 h2 h3 h4)
 intro p hpm hR'
 have hp' := strP_eq hp'
 have hR := strN_eq hR
 rw [dropP_eq] at hp'
 rw [remN_eq] at hR
 subst hp' hR
 exact hdis p (List.mem_filter.1 hpm).1 (List.mem_filter.1 hR').1
end
section
variable {C : Ctx} {ks : List Nat} {all : Array Oper} {k : List It} {E : Env} {ι : Ids} {L : List Ent} {G : PH} {R : List Nat} {pend : List Pd}
theorem Nt (j : Nat) {o : Oper} {R' : List Nat} {pend' : List Pd} {E' : Env} (h1 : soleB all R j R = true) (h2 : memN j R = true) (ho : nthOp j all.toList = some o) (hR : strN (remN j R) = some R') (hp' : strP (dropP (edgeN o.after.toList) pend) = some pend') (hE : strE (penv (takeP (edgeN o.after.toList) pend) ++ E) = some E')
  (hx : (∀ (E'' : Env) (ι' : Ids) (L' : List Ent) (G' : PH), rechk ks TT C.n ι' all L' (penv pend' ++ E'') E'' pend' = some pend' → D C ks all k R' pend' E'' ι' L' G' → X C (.ops all [] :: .stop (DR C all k R' pend') :: k) E'' ι' L' G') →
      X C (.ops all [o] :: .stop (DR C all k R' pend') :: k) E' ι L G) (hT : tabOk C.P TT := by exact Tk) : D C ks all k R pend E ι L G := D_sole j h1 h2 (N_turn hT j ho hR hp' hE hx)
end
end
section
def rowO (base e size : Nat) (A : Option Addr) (n c : Nat) (xs : List Value) : HP where
 holds w S := xs.length = n * size ∧ c ≤ maxLen ∧ n ≤ c ∧ ((A = none ∧ c = 0 ∧ ∀ b, ¬ S b) ∨ ∃ g off cur, A = some ⟨g, off, none⟩ ∧ base ≤ g ∧ w.heap[g]? = some (.cells cur e (0, 0)) ∧ off + c * size ≤ cur.size ∧ (cur.toList.drop off).take xs.length = xs ∧ ∀ b, S b ↔ b = g)
 loc w w' S h hs := by
  obtain ⟨h1, h2, h3, h4⟩ := h
  refine ⟨h1, h2, h3, ?_⟩
  rcases h4 with h4 | ⟨g, off, cur, q1, q0, q2, q3, q4, q5⟩
  ·exact .inl h4
  ·exact .inr ⟨g, off, cur, q1, q0, by rw [hs g ((q5 g).2 J)]; exact q2, q3, q4, q5⟩
 lt w S h b hb := by
  obtain ⟨h1, h2, h3, h4⟩ := h
  rcases h4 with h4 | ⟨g, off, cur, q1, q0, q2, q3, q4, q5⟩
  ·exact absurd hb (h4.2.2 b)
  ·rw [(q5 b).1 hb]; exact (Array.getElem?_eq_some_iff.1 q2).1
theorem add_lit' (g off n : Nat) : (⟨g, off, none⟩ : Addr).add n = ⟨g, off + n, none⟩ := by unfold Addr.add; split <;> simp_all
theorem cells_at {w : World} {g off e : Nat} {cur : Array Value} {xs : List Value} (hg : w.heap[g]? = some (.cells cur e (0, 0))) (ht : (cur.toList.drop off).take xs.length = xs) : ∀ j u, xs[j]? = some u → w.cell? ((⟨g, off, none⟩ : Addr).add j) = some u := by
 intro j u hj
 rw [add_lit']
 simp only [World.cell?, hg]
 rw [← ht] at hj
 rw [List.getElem?_take] at hj
 split at hj
 ·simpa using hj
 ·cases hj
def SrcOk (w : World) (sz : Nat) (v : Value) (m : Nat) (news : List Value) : Prop :=
 news.length = m * sz ∧ ∃ A c, v = .slice A m c ∧ (m = 0 ∨ ∃ a, A = some a ∧ ∀ j u, news[j]? = some u → w.cell? (a.add j) = some u)
theorem run_appendO {P : Program} (w : World) (base t ty e : Nat) (i : TypeInfo) (z : Value) (sz : Nat) (ht : P.underlying t = some (.slice e)) (hi : P.info? e = some i) (hz : i.zero = some z) (hsz : i.size = sz) (hzs : z.cells.size = sz) (hpos : 0 < sz)
  {A : Option Addr} {n c : Nat} {xs : List Value} {S : Nat → Prop} (hA : (rowO base e sz A n c xs).holds w S) {v : Value} {m : Nat} {news : List Value} (hs : SrcOk w sz v m news) (h1 : ∀ u ∈ news, u.oneCell' = true)
  (h63 : n + m ≤ maxLen) (hby : (n + m) * i.bytes ≤ 140737488355328) (hbase : base ≤ w.heap.size) :
  ∃ A' c' w' S', (Builtin.append_ #[t, t] ty #[.slice A n c, v]).run P w = .ok (.slice A' (n + m) c') w' ∧ (rowO base e sz A' (n + m) c' (xs ++ news)).holds w' S' ∧ (∀ b, S' b → S b ∨ b = w.heap.size) ∧
   w'.os = w.os ∧ w'.tape = w.tape ∧ w'.output = w.output ∧ w.heap.size ≤ w'.heap.size ∧ (∀ b, b < w.heap.size → ¬ S b → w'.heap[b]? = w.heap[b]?) ∧ (A' = A ∨ ∃ g, A' = some ⟨g, 0, none⟩) := by
 obtain ⟨hl, A2, c2, rfl, hsrc⟩ := hs
 obtain ⟨hxl, hcm, hnc, hcase⟩ := hA
 have hsmall : n + m ≤ 9223372036854775807 := by simp only [maxLen] at h63; omega
 rcases hsrc with rfl | ⟨a, rfl, hnews⟩
 ·-- nothing is appended
  have hn : news = [] := List.eq_nil_of_length_eq_zero (by simpa using hl)
  subst hn
  refine ⟨A, c, w, S, ?_, by simp only [Nat.add_zero, List.append_nil]; exact ⟨hxl, hcm, hnc, hcase⟩, fun b hb => .inl hb, rfl, rfl, rfl, Nat.le_refl _, fun _ _ _ => rfl, .inl rfl⟩
  have hf : ∀ w, (Builtin.firstCells i.size 0 (.slice A2 0 c2)).run P w = .ok #[] w := by
   intro w
   cases A2 with
   | none => exact run_firstCells_none (P := P) w i.size 0 0 c2
   | some a => exact run_firstCells_some (P := P) w i.size 0 a 0 c2 [] (by simp) (by simp)
  rcases hcase with ⟨rfl, rfl, _⟩ | ⟨g, off, cur, rfl, _, hg, hfit, _, _⟩
  ·obtain rfl : n = 0 := by omega
   simp [Builtin.append_, run_underlying ht, sizeOf, typeInfo, hi, Builtin.lenOf, hf]
  ·have hst : ∀ a, (storeCells a []).run P w = .ok () w := fun a => by simp [storeCells]
   simp [Builtin.append_, run_underlying ht, sizeOf, typeInfo, hi, Builtin.lenOf, hnc, hf, hst]
 ·subst hsz
  by_cases hm : m = 0
  ·subst hm
   have hn : news = [] := List.eq_nil_of_length_eq_zero (by simpa using hl)
   subst hn
   refine ⟨A, c, w, S, ?_, by simp only [Nat.add_zero, List.append_nil]; exact ⟨hxl, hcm, hnc, hcase⟩, fun b hb => .inl hb, rfl, rfl, rfl, Nat.le_refl _, fun _ _ _ => rfl, .inl rfl⟩
   have hf : ∀ w, (Builtin.firstCells i.size 0 (.slice (some a) 0 c2)).run P w = .ok #[] w := fun w => run_firstCells_some (P := P) w i.size 0 a 0 c2 [] (by simp) (by simp)
   rcases hcase with ⟨rfl, rfl, _⟩ | ⟨g, off, cur, rfl, _, hg, hfit, _, _⟩
   ·obtain rfl : n = 0 := by omega
    simp [Builtin.append_, run_underlying ht, sizeOf, typeInfo, hi, Builtin.lenOf, hf]
   ·have hst : ∀ a, (storeCells a []).run P w = .ok () w := fun a => by simp [storeCells]
    simp [Builtin.append_, run_underlying ht, sizeOf, typeInfo, hi, Builtin.lenOf, hnc, hf, hst]
  ·have grown : ∀ (old : Nat), (rowO base e i.size (some ⟨w.heap.size, 0, none⟩) (n + m) (grownCap w (n + m) old e) (xs ++ news)).holds (w.drew.alloc (.cells (xs.toArray ++ news.toArray ++ Builtin.zeroCells z.cells (grownCap w (n + m) old e - (n + m))) e)) (fun b => b = w.heap.size) := by
    intro old
    have hge := grownCap_ge w (n + m) old e
    have hcm' : grownCap w (n + m) old e ≤ maxLen := grownCap_le_maxLen w (n + m) old e h63
    refine ⟨by rw [List.length_append, hxl, hl, Nat.add_mul], hcm', hge, .inr ⟨_, 0, _, rfl, hbase, heap_alloc_new w.drew _, ?_, ?_, fun b => Iff.rfl⟩⟩
    ·simp only [Array.size_append, List.size_toArray, size_zeroCells, hzs, hxl, hl, ← Nat.add_mul]
     rw [Nat.zero_add]
     exact Nat.mul_le_mul_right _ (by omega)
    ·simp only [Array.toList_append, List.drop_zero]
     exact List.take_left
   have hold : ∀ old b, b < w.heap.size → (w.drew.alloc (.cells (xs.toArray ++ news.toArray ++ Builtin.zeroCells z.cells (grownCap w (n + m) old e - (n + m))) e)).heap[b]? = w.heap[b]? := fun old b hb => heap_alloc_old w.drew _ hb
   rcases hcase with ⟨rfl, rfl, hS⟩ | ⟨g, off, cur, rfl, hbg, hg, hfit, htake, hS⟩
   ·obtain rfl : n = 0 := by omega
    have hx : xs = [] := List.eq_nil_of_length_eq_zero (by simpa using hxl)
    subst hx
    have hr := run_append_nil (P := P) w t ty e i z ht hi hz a m c2 news hl hnews (by omega) (by omega) (by have hb := hby; simp only [Nat.zero_add] at hb; omega)
    have hgr := grown 0
    simp only [Nat.zero_add, List.nil_append, Array.empty_append] at hgr ⊢
    have hold0 := hold 0
    simp only [Nat.zero_add, List.nil_append, Array.empty_append] at hold0
    exact ⟨_, _, _, _, hr, hgr, fun b hb => .inr hb, rfl, rfl, rfl, by simp, fun b hb _ => hold0 b hb, .inr ⟨_, rfl⟩⟩
   ·by_cases hroom : n + m ≤ c
    ·have hf := run_firstCells_some (P := P) w i.size m a m c2 news hl hnews
     have hlen : off + n * i.size + news.length ≤ cur.size := by
      rw [hl, Nat.add_assoc, ← Nat.add_mul]
      exact Nat.le_trans (Nat.add_le_add_left (Nat.mul_le_mul_right _ hroom) _) hfit
     have hst := run_storeCells_at P g (off + n * i.size) e news 0 cur w hg (by simpa using hlen) h1
     simp only [Nat.add_zero] at hst
     refine ⟨some ⟨g, off, none⟩, c, w.setRow g (cur.toList.take (off + n * i.size) ++ news ++ cur.toList.drop (off + n * i.size + news.length)).toArray, S, ?_, ⟨by rw [List.length_append, hxl, hl, Nat.add_mul], hcm, hroom, .inr ⟨g, off, _, rfl, hbg, setRow_heap w g cur _ e _ hg, ?_, ?_, hS⟩⟩, fun b hb => .inl hb, rfl, rfl, rfl, by simp, fun b _ hb => setRow_other w g b _ (fun e => hb ((hS b).2 e)), .inl rfl⟩
     ·simp [Builtin.append_, run_underlying ht, sizeOf, typeInfo, hi, Builtin.lenOf, hroom, hf, add_lit', hst]
     ·simp only [List.size_toArray, List.length_append, List.length_take, List.length_drop, Array.length_toList]
      omega
     ·have hlc : off + n * i.size ≤ cur.toList.length := by rw [Array.length_toList]; omega
      have e1 : List.take (off + n * i.size) cur.toList = List.take off cur.toList ++ xs := by
       rw [List.take_add, ← hxl, htake]
      show (List.drop off (List.take (off + n * i.size) cur.toList ++ news ++ List.drop (off + n * i.size + news.length) cur.toList)).take (xs ++ news).length = xs ++ news
      rw [e1]
      have hoff : (List.take off cur.toList).length = off := by rw [List.length_take]; omega
      rw [List.append_assoc, List.append_assoc]
      have hd : List.drop off (List.take off cur.toList ++ (xs ++ (news ++ List.drop (off + n * i.size + news.length) cur.toList))) = xs ++ (news ++ List.drop (off + n * i.size + news.length) cur.toList) := by
       have := List.drop_left (l₁ := List.take off cur.toList) (l₂ := xs ++ (news ++ List.drop (off + n * i.size + news.length) cur.toList))
       rw [hoff] at this
       exact this
      rw [hd, ← List.append_assoc]
      exact List.take_left
    ·have holds : ∀ j u, xs[j]? = some u → w.cell? ((⟨g, off, none⟩ : Addr).add j) = some u := cells_at hg htake
     have hr := run_append_grow (P := P) w t ty e i z ht hi hz ⟨g, off, none⟩ n c xs hxl holds a m c2 news hl hnews (by omega) (by omega) (growslice_fits (by omega) hby)
     exact ⟨_, _, _, _, hr, grown c, fun b hb => .inr hb, rfl, rfl, rfl, by simp, fun b hb _ => hold c b hb, .inr ⟨_, rfl⟩⟩
section
variable {C : Ctx} {k : List It} {E : Env} {ι : Ids} {L : List Ent} {G : PH} {all : Array Oper} {l : List Oper}
theorem S_appOz {T : Tab} (hT : tabOk C.P T) (κ : Nat) {d t e sz' sz : Nat} {os os' : List Nat} {tk : TK} {zi : ZI} {s x : Operand} {sx : Sym} {ty : Nat} {pos : String} {af : Array Edge} {g : Option (Nat × Bool)} {base : Nat} {A : Option Addr} {vx : Value} {n m c : Nat} {xs news : List Value} {L' : Option Addr → Nat → List Ent}
  (ht : lookT t T = some ⟨.slc e, sz', os'⟩) (he : lookT e T = some ⟨tk, sz, os⟩) (hz : lookZ e T.zs = some zi) (hzs : zi.zs.length = sz) (hsz : Nat.ble 1 sz = true)
  (hg : guardOf all E g = .on) (hN : Nat.ble (d + 1) C.n = true) (hs : ev E s = some (.val (.slice A n c))) (hx : ev E x = some sx) (hdx : denO ι sx = some vx)
  (hL : getH κ L = some (rowO base e sz A n c xs)) (hL' : ∀ A' c', setH κ (rowO base e sz A' (n + m) c' (xs ++ news)) L = some (L' A' c'))
  (hsrc : ∀ w, SatW C ι L G w → SrcOk w sz vx m news) (h1 : ∀ u ∈ news, u.oneCell' = true) (hby : (n + m) * zi.b ≤ 140737488355328) (h63 : n + m ≤ maxLen) (hbase : base ≤ C.w0.heap.size)
  (hk : ∀ A' c', (A' = A ∨ ∃ g, A' = some ⟨g, 0, none⟩) → X C (.ops all l :: k) ((d, .val (.slice A' (n + m) c')) :: E) ι (L' A' c') G) : X C (.ops all (⟨some d, .call ⟨.builtin .append, #[s, x], #[t, t]⟩, ty, pos, af, g⟩ :: l) :: k) E ι L G := by
 intro a w g1 g2 g3 g4
 have hdn : d < a.tmps.size := by rw [g2]; exact Nat.le_of_ble_eq_true hN
 have es := ev_sound g3 hs
 have ex := ev_sound g3 hx
 rw [hdx] at ex
 simp only [denO, Option.some.injEq] at es ex
 have hu := tyOk_slice (hT _ _ ht) rfl
 obtain ⟨dsc, inf, _, hi, _, hsize, _⟩ := tyOk_parts (hT _ _ he)
 obtain ⟨inf', vz, hi', hv, hb, hc, _⟩ := viewZ_eq (hT.z _ _ hz)
 rw [hi] at hi'; cases hi'
 obtain ⟨S2, hA, hS2G, hturn⟩ := g4.turn hL
 obtain ⟨A', c', w', S', hr, hA', hS', q1, q2, q3, q4, q5, q6⟩ := run_appendO (P := C.P) w base t ty e inf vz sz hu hi hv hsize (by rw [hc]; simpa using hzs) (Nat.le_of_ble_eq_true hsz) hA (hsrc w g4) h1 h63 (by rw [hb]; exact hby) (Nat.le_trans hbase g4.size)
 have hrun : (execOp a.eval ⟨some d, .call ⟨.builtin .append, #[s, x], #[t, t]⟩, ty, pos, af, g⟩).run C.P w = .ok (.value (.slice A' (n + m) c')) w' := by
  simp only [execOp, resolve, invoke, List.map_toArray, List.map_cons, List.map_nil, ← es, ← ex]
  simp [builtin, hr]
 refine wpE_val (guardOf_on g3 hg) (by intro c h; cases h) hrun ?_;refine hk A' c' q6 _ _ g1 (by simp [Act.put, g2]) (g3.put hdn J) ?_
 have hGlt : ∀ b o, G b = some o → b < w.heap.size := fun b o hb => (Array.getElem?_eq_some_iff.1 (g4.emb b o hb)).1
 refine hturn _ _ G w' S' (hL' A' c') hA' ?_ XR ?_ q1 q2 q3 q4 q5
 ·intro b o hb
  rw [q5 b (hGlt b o hb) (fun h => by rw [hS2G b h] at hb; cases hb)]
  exact g4.emb b o hb
 ·intro b hb
  rcases hS' b hb with h | h
  ·exact ⟨hS2G b h, .inl h⟩
  ·subst h
   refine ⟨?_, .inr (Nat.le_refl _)⟩
   cases hq : G w.heap.size with
   | none => rfl
   | some o => have := hGlt _ _ hq; omega
theorem S_appO {T : Tab} (hT : tabOk C.P T) (κ : Nat) {d t e sz' sz : Nat} {os os' : List Nat} {tk : TK} {zi : ZI} {s x : Operand} {sx : Sym} {ty : Nat} {pos : String} {af : Array Edge} {g : Option (Nat × Bool)} {base : Nat} {A : Option Addr} {vx : Value} {n m c : Nat} {xs news : List Value} {L' : Option Addr → Nat → List Ent}
  (ht : lookT t T = some ⟨.slc e, sz', os'⟩) (he : lookT e T = some ⟨tk, sz, os⟩) (hz : lookZ e T.zs = some zi) (hzs : zi.zs.length = sz) (hsz : Nat.ble 1 sz = true)
  (hg : guardOf all E g = .on) (hN : Nat.ble (d + 1) C.n = true) (hs : ev E s = some (.val (.slice A n c))) (hx : ev E x = some sx) (hdx : denO ι sx = some vx)
  (hL : getH κ L = some (rowO base e sz A n c xs)) (hL' : ∀ A' c', setH κ (rowO base e sz A' (n + m) c' (xs ++ news)) L = some (L' A' c'))
  (hsrc : ∀ w, SatW C ι L G w → SrcOk w sz vx m news) (h1 : ∀ u ∈ news, u.oneCell' = true) (hby : (n + m) * zi.b ≤ 140737488355328) (h63 : n + m ≤ maxLen) (hbase : base ≤ C.w0.heap.size)
  (hk : ∀ A' c', X C (.ops all l :: k) ((d, .val (.slice A' (n + m) c')) :: E) ι (L' A' c') G) : X C (.ops all (⟨some d, .call ⟨.builtin .append, #[s, x], #[t, t]⟩, ty, pos, af, g⟩ :: l) :: k) E ι L G :=
 S_appOz hT κ ht he hz hzs hsz hg hN hs hx hdx hL hL' hsrc h1 hby h63 hbase fun A' c' _ => hk A' c'
theorem src_blk (j : Nat) {o ty b m c sz : Nat} {ns : List Cel} {cs : List Value} (hB : lookB j L = some (ty, ns)) (hd : denL ι ns = some cs) (hb : lookI j ι = some b) {news : List Value} (hn : (cs.drop o).take (m * sz) = news) (hl : news.length = m * sz) :
  ∀ w, SatW C ι L G w → SrcOk w sz (.slice (some ⟨b, o, none⟩) m c) m news := by
 intro w hw
 refine ⟨hl, some ⟨b, o, none⟩, c, J, .inr ⟨_, J, ?_⟩⟩
 obtain ⟨Ss, ho, _⟩ := hw.own
 obtain ⟨b', vs, hb', hdv, hh⟩ := owns_blk ho hB
 rw [hb] at hb'; cases hb'
 rw [hd] at hdv; cases hdv
 refine cells_at hh ?_
 rw [hl]; simpa using hn
theorem src_G {A : Option Addr} {m c sz : Nat} {news : List Value} (hl : news.length = m * sz) (h : m = 0 ∨ ∃ a, A = some a ∧ gcells G a news) : ∀ w, SatW C ι L G w → SrcOk w sz (.slice A m c) m news := by
 intro w hw
 refine ⟨hl, A, c, J, ?_⟩
 rcases h with h | ⟨a, h1, h2⟩
 ·exact .inl h
 ·exact .inr ⟨a, h1, fun j u hj => gcell_emb hw.emb (gcells_at h2 j u hj)⟩
theorem S_nilO (κ : Nat) {base e size : Nat} (hx : X C k E ι (.hp κ (rowO base e size none 0 0 []) :: L) G) : X C k E ι L G := by
 intro a w h1 h2 h3 h4
 refine hx a w h1 h2 h3 ?_;obtain ⟨Ss, ho, hS⟩ := h4.own
 refine ⟨h4.os, h4.tape, h4.output, h4.size, h4.keep, h4.emb, (fun _ => False) :: Ss, ⟨⟨by simp, by simp [maxLen], Nat.le_refl _, .inl ⟨rfl, rfl, fun _ h => h⟩⟩, fun T _ b hb => hb.elim, ho⟩, ?_⟩
 intro T hT b hb
 rcases List.mem_cons.1 hT with rfl | hT
 ·exact hb.elim
 ·exact hS T hT b hb
theorem S_emptyOz {T : Tab} (hT : tabOk C.P T) (κ : Nat) {d t e sz sz' : Nat} {os os' : List Nat} {tk : TK} {ty : Nat} {pos : String} {af : Array Edge} {g : Option (Nat × Bool)} (ht : lookT t T = some ⟨.slc e, sz', os'⟩) (he : lookT e T = some ⟨tk, sz, os⟩)
  (hg : guardOf all E g = .on) (hN : Nat.ble (d + 1) C.n = true)
  (hk : ∀ A, (∃ g, A = some ⟨g, 0, none⟩) → X C (.ops all l :: k) ((d, .val (.slice A 0 0)) :: E) ι (.hp κ (rowO C.w0.heap.size e sz A 0 0 []) :: L) G) : X C (.ops all (⟨some d, .buildSlice t 0 #[], ty, pos, af, g⟩ :: l) :: k) E ι L G := by
 intro a w h1 h2 h3 h4
 have hus := tyOk_slice (hT _ _ ht) rfl
 have hrun : (execOp a.eval ⟨some d, .buildSlice t 0 #[], ty, pos, af, g⟩).run C.P w = .ok (.value (.slice (some ⟨w.heap.size, 0, none⟩) 0 0)) (w.alloc (.cells #[] e)) := by
  simp only [execOp]
  have hr0 : Array.range 0 = #[] := by apply Array.toList_inj.1; simp
  simp [Instr.buildSlice, run_underlying hus, tyOk_size (hT _ _ he), Instr.fill, newRow, hr0]
 refine wpE_val (guardOf_on h3 hg) (by intro c h; cases h) hrun ?_
 have hdn : d < a.tmps.size := by rw [h2]; exact Nat.le_of_ble_eq_true hN
 refine hk _ ⟨_, J⟩ _ _ h1 (by simp [Act.put, h2]) (h3.put hdn J) ?_;obtain ⟨Ss, ho, hS⟩ := (h4.allocH κ (.cells #[] e)).own
 have hal := h4.allocH κ (.cells #[] e)
 cases Ss with
 | nil => simp [owns] at ho
 | cons S Ss =>
  obtain ⟨hA, hd, hr⟩ := ho
  exact ⟨hal.os, hal.tape, hal.output, hal.size, hal.keep, hal.emb, S :: Ss, ⟨⟨by simp, by simp [maxLen], Nat.le_refl _, .inr ⟨_, 0, #[], J, h4.size, hA.1, by simp, by simp, hA.2⟩⟩, hd, hr⟩, hS⟩
theorem S_emptyO {T : Tab} (hT : tabOk C.P T) (κ : Nat) {d t e sz sz' : Nat} {os os' : List Nat} {tk : TK} {ty : Nat} {pos : String} {af : Array Edge} {g : Option (Nat × Bool)} (ht : lookT t T = some ⟨.slc e, sz', os'⟩) (he : lookT e T = some ⟨tk, sz, os⟩)
  (hg : guardOf all E g = .on) (hN : Nat.ble (d + 1) C.n = true)
  (hk : ∀ A, X C (.ops all l :: k) ((d, .val (.slice A 0 0)) :: E) ι (.hp κ (rowO C.w0.heap.size e sz A 0 0 []) :: L) G) : X C (.ops all (⟨some d, .buildSlice t 0 #[], ty, pos, af, g⟩ :: l) :: k) E ι L G :=
 S_emptyOz hT κ ht he hg hN fun A _ => hk A
theorem S_someO (κ : Nat) {base e sz : Nat} {A : Option Addr} {n c : Nat} {xs : List Value} (hL : getH κ L = some (rowO base e sz A n c xs)) (hn : 0 < c) (hk : ∀ g off, A = some ⟨g, off, none⟩ → X C k E ι L G) : X C k E ι L G := by
 intro a w h1 h2 h3 h4
 obtain ⟨Ss, ho, _⟩ := h4.own
 obtain ⟨S, ⟨q1, q2, q3, q4⟩, _⟩ := owns_split ho hL
 rcases q4 with ⟨_, q4, _⟩ | ⟨g, off, cur, rfl, _⟩
 ·omega
 ·exact hk g off J a w h1 h2 h3 h4
theorem S_capO (κ : Nat) {base e sz : Nat} {A : Option Addr} {n c : Nat} {xs : List Value} (hL : getH κ L = some (rowO base e sz A n c xs)) (hk : n ≤ c → c ≤ maxLen → xs.length = n * sz → X C k E ι L G) : X C k E ι L G := by
 intro a w h1 h2 h3 h4
 obtain ⟨Ss, ho, _⟩ := h4.own
 obtain ⟨S, ⟨q1, q2, q3, q4⟩, _⟩ := owns_split ho hL
 exact hk q3 q2 q1 a w h1 h2 h3 h4
end
theorem V_loadR {C : Ctx} {ι : Ids} {E : Env} {L : List Ent} {G : PH} {d : Option Nat} {ty : Nat} {pos : String} {af : Array Edge} {g : Option (Nat × Bool)} {T : Tab} (hT : tabOk C.P T) (κ : Nat) {t : Nat} {i : TyI} {x : Operand} {gb off o : Nat} {v : Value} {base e sz : Nat} {n c : Nat} {xs : List Value}
  (hL : getH κ L = some (rowO base e sz (some ⟨gb, off, none⟩) n c xs)) (hx : ev E x = some (.val (.pointer (some ⟨gb, off + o, none⟩)))) (ht : lookT t T = some i) (hk0 : i.k.isAgg = false) (hc : xs[o]? = some v) : Vl C ι E L G ⟨d, .load t x, ty, pos, af, g⟩ v := by
 intro a w hE hw
 obtain ⟨Ss, ho, _⟩ := hw.own
 obtain ⟨S, ⟨q1, q2, q3, q4⟩, _⟩ := owns_split ho hL
 have ex := ev_sound hE hx
 simp only [denO, Option.some.injEq] at ex
 rcases q4 with ⟨q4, _⟩ | ⟨g', off', cur, q, _, q5, q6, q7, q8⟩
 ·cases q4
 ·cases q
  have := cells_at q5 q7 o v hc
  rw [add_lit'] at this
  simp only [execOp, ← ex]
  simp [Instr.loadAt, loadVar, Instr.sureAddr, tyOk_agg (hT _ _ ht), hk0, this]
def PH.del (G : PH) (g : Nat) : PH := fun b => if b = g then none else G b
def newp (G G' : PH) : PH := fun b => match G b with
 | some _ => none
 | none => G' b
theorem newp_le (G G' : PH) : (newp G G').le G' := by
 intro b o h
 unfold newp at h
 split at h
 ·cases h
 ·exact h
theorem newp_add_le {G G' : PH} {g : Nat} {o : Obj} : (newp (G.add g o) G').le (G'.del g) := by
 intro b o' h
 unfold newp at h
 split at h
 ·cases h
 ·rename_i hn
  unfold PH.del
  rw [if_neg (by rintro rfl; simp [PH.add] at hn)]
  exact h
theorem newp_mono {G G1 G2 : PH} (h : G.le G1) (h12 : G1.le G2) : (newp G1 G2).le (newp G G2) := by
 intro b o hb
 unfold newp at hb ⊢
 split at hb
 ·cases hb
 ·rename_i hn
  split
  ·rename_i x hx; rw [h b x hx] at hn; cases hn
  ·exact hb
theorem PH.ext.del {B : Nat} {G G2 : PH} {g : Nat} {o : Obj} (hg : G g = none) (h : PH.ext B (G.add g o) G2) : PH.ext B G (G2.del g) := by
 refine ⟨fun b o' hb => ?_, fun b o' hb hn => ?_⟩
 ·unfold PH.del
  rw [if_neg (by rintro rfl; rw [hg] at hb; cases hb)]
  refine h.le b o' ?_
  unfold PH.add
  rw [if_neg (by rintro rfl; rw [hg] at hb; cases hb)]
  exact hb
 ·unfold PH.del at hb
  split at hb
  ·cases hb
  ·rename_i hne
   refine h.new b o' hb ?_
   unfold PH.add
   rw [if_neg hne]; exact hn
theorem PH.del_add {G : PH} {g : Nat} {o : Obj} (h : G g = none) : (G.add g o).del g = G := by
 funext b
 unfold PH.del PH.add
 by_cases e : b = g
 ·subst e; simp [h]
 ·simp [e]
section
variable {C : Ctx} {k : List It} {E : Env} {ι : Ids} {L : List Ent} {G : PH}
theorem SatW.lend {a : Act} {w : World} {L' : List Ent} {b : Nat} {o : Obj} {S : Nat → Prop} {Ss Ss' : List (Nat → Prop)} (h : SatW C ι L G w) (ho : owns ι w L Ss) (hS : ∀ S ∈ Ss, ∀ b, S b → G b = none ∧ (C.S0 b ∨ C.w0.heap.size ≤ b)) (hh : w.heap[b]? = some o) (hSb : ∀ x, S x ↔ x = b) (hm : S ∈ Ss) (ho' : owns ι w L' Ss') (hT : ∀ T ∈ Ss', T ∈ Ss ∧ ∀ x, T x → ¬ S x) :
  G b = none ∧ (C.S0 b ∨ C.w0.heap.size ≤ b) ∧ SatW C ι L' (G.add b o) w := by
 have hGb := hS S hm b ((hSb b).2 rfl)
 refine ⟨hGb.1, hGb.2, h.os, h.tape, h.output, h.size, h.keep, ?_, Ss', ho', ?_⟩
 ·intro x o' hx
  unfold PH.add at hx
  split at hx
  ·rename_i e; subst e; cases hx; exact hh
  ·exact h.emb x o' hx
 ·intro T hT' x hx
  obtain ⟨h1, h2⟩ := hT T hT'
  obtain ⟨h3, h4⟩ := hS T h1 x hx
  refine ⟨?_, h4⟩
  unfold PH.add
  rw [if_neg (fun e => h2 x hx ((hSb x).2 e))]
  exact h3
theorem le_add {G : PH} {b : Nat} {o : Obj} (h : G b = none) : G.le (G.add b o) := by
 intro x o' hx
 unfold PH.add
 rw [if_neg (by rintro rfl; rw [h] at hx; cases hx)]
 exact hx
theorem S_lendB (key : Nat) {b ty : Nat} {cs : List Cel} {vs : List Value} {L' : List Ent} (hj : lookI key ι = some b) (hB : lookB key L = some (ty, cs)) (hd : denL ι cs = some vs) (hL' : delB key L = some L')
  (hk : G b = none → (C.S0 b ∨ C.w0.heap.size ≤ b) → X C k E ι L' (G.add b (.cells vs.toArray ty (0, 0)))) : X C k E ι L G := by
 intro a w g1 g2 g3 g4
 obtain ⟨Ss, ho, hS⟩ := g4.own
 obtain ⟨S, Ss', b', hb', hh, hSb, hm, ho', hT⟩ := owns_delB hd ho hB hL'
 rw [hj] at hb'; cases hb'
 obtain ⟨h0, h1, h2⟩ := SatW.lend (a := a) g4 ho hS hh hSb hm ho' hT
 exact hk h0 h1 a w (g1.mono (le_add h0)) g2 g3 h2
theorem SatW.back {w : World} {b : Nat} {o : Obj} (h : SatW C ι L G w) (hG : G b = some o) (hb : C.S0 b ∨ C.w0.heap.size ≤ b) {e : Ent} (he : ∀ S : Nat → Prop, (∀ x, S x ↔ x = b) → e.holds ι w S) : SatW C ι (e :: L) (G.del b) w := by
 obtain ⟨Ss, ho, hS⟩ := h.own
 refine ⟨h.os, h.tape, h.output, h.size, h.keep, fun x o' hx => ?_, (fun x => x = b) :: Ss, ⟨he _ fun x => Iff.rfl, ?_, ho⟩, ?_⟩
 ·unfold PH.del at hx
  split at hx
  ·cases hx
  ·exact h.emb x o' hx
 ·rintro T hT x rfl hx
  have := (hS T hT _ hx).1; rw [hG] at this; cases this
 ·intro T hT x hx
  rcases List.mem_cons.1 hT with rfl | hT
  ·subst hx
   exact ⟨by simp [PH.del], hb⟩
  ·obtain ⟨h1, h2⟩ := hS T hT x hx
   refine ⟨?_, h2⟩
   unfold PH.del
   split
   ·rfl
   ·exact h1
theorem DfsOk.del {ds : List Deferred} (h : DfsOk C G ds) {b : Nat} {vs : Array Value} {ty : Nat} {fr : Nat × Nat} (hG : G b = some (.cells vs ty fr)) : DfsOk C (G.del b) ds := by
 unfold DfsOk at h ⊢
 split at h
 ·exact h
 ·obtain ⟨Ds, h1, h2, h3⟩ := h
  refine ⟨Ds, h1, h2, fun D hD => ⟨(h3 D hD).1, ?_⟩⟩
  unfold PH.del
  rw [if_neg (by rintro rfl; rw [(h3 _ hD).2] at hG; cases hG)]
  exact (h3 D hD).2
theorem S_backB (key : Nat) {b ty : Nat} (cs : List Cel) {vs : List Value} (hG : G b = some (.cells vs.toArray ty (0, 0))) (hj : lookI key ι = some b) (hd : denL ι cs = some vs) (hb : C.S0 b ∨ C.w0.heap.size ≤ b)
  (hk : X C k E ι (.blk key ty cs :: L) (G.del b)) : X C k E ι L G := by
 intro a w g1 g2 g3 g4
 exact hk a w (g1.del hG) g2 g3 (g4.back hG hb fun S hS => ⟨b, vs, hj, hd, g4.emb _ _ hG, hS⟩)
theorem S_lendO (κ : Nat) {base e sz : Nat} {A : Option Addr} {n c : Nat} {xs : List Value} {L' : List Ent} (hL : getH κ L = some (rowO base e sz A n c xs)) (hL' : delH κ L = some L')
  (h0 : A = none → n = 0 → c = 0 → xs = [] → X C k E ι L' G)
  (hk : ∀ g off cur, A = some ⟨g, off, none⟩ → base ≤ g → n ≤ c → c ≤ maxLen → xs.length = n * sz → off + c * sz ≤ cur.size → (cur.toList.drop off).take xs.length = xs → G g = none → (C.S0 g ∨ C.w0.heap.size ≤ g) → gcells (G.add g (.cells cur e (0, 0))) ⟨g, off, none⟩ xs → X C k E ι L' (G.add g (.cells cur e (0, 0)))) : X C k E ι L G := by
 intro a w g1 g2 g3 g4
 obtain ⟨Ss, ho, hS⟩ := g4.own
 obtain ⟨S, Ss', hA, hm, ho', hT⟩ := owns_del ho hL hL'
 obtain ⟨q1, q2, q3, q4⟩ := hA
 rcases q4 with ⟨rfl, rfl, q4⟩ | ⟨g, off, cur, rfl, q0, q5, q6, q7, q8⟩
 ·obtain rfl : n = 0 := by omega
  exact h0 J J J (List.eq_nil_of_length_eq_zero (by simpa using q1)) a w g1 g2 g3 ⟨g4.os, g4.tape, g4.output, g4.size, g4.keep, g4.emb, Ss', ho', fun T hT' => hS T (hT T hT').1⟩
 ·obtain ⟨h0, h1, h2⟩ := SatW.lend (a := a) g4 ho hS q5 q8 hm ho' hT
  exact hk g off cur J q0 q3 q2 q1 q6 q7 h0 h1 (gcells_row (cur := cur) (e := e) (fr := (0, 0)) (by simp [PH.add]) xs off q7) a w (g1.mono (le_add h0)) g2 g3 h2
theorem S_backO (κ : Nat) {base e sz g off : Nat} {n c : Nat} {xs : List Value} {cur : Array Value} (hG : G g = some (.cells cur e (0, 0))) (hb : C.S0 g ∨ C.w0.heap.size ≤ g) (hbase : base ≤ g) (h1 : n ≤ c) (h2 : c ≤ maxLen) (h3 : xs.length = n * sz) (h4 : off + c * sz ≤ cur.size) (h5 : (cur.toList.drop off).take xs.length = xs)
  (hk : X C k E ι (.hp κ (rowO base e sz (some ⟨g, off, none⟩) n c xs) :: L) (G.del g)) : X C k E ι L G := by
 intro a w g1 g2 g3 g4
 exact hk a w (g1.del hG) g2 g3 (g4.back hG hb fun S hS => ⟨h3, h2, h1, .inr ⟨g, off, cur, J, hbase, g4.emb _ _ hG, h4, h5, hS⟩⟩)
theorem S_freezeR (κ : Nat) {base e sz : Nat} {A : Option Addr} {n c : Nat} {xs : List Value} {L' : List Ent} (hL : getH κ L = some (rowO base e sz A n c xs)) (hL' : delH κ L = some L') (hb0 : C.w0.heap.size ≤ base)
  (hk : ∀ G', PH.ext C.w0.heap.size G G' → n ≤ c → c ≤ maxLen → (n = 0 ∨ ∃ a, A = some a ∧ gcells (newp G G') a xs) → X C k E ι L' G') : X C k E ι L G := by
 refine S_lendO κ hL hL' (fun hA hn hc hx => ?_) (fun g off cur hA hbg hnc hcm hl hfit ht hG hb hcells => ?_)
 ·exact hk G XR (by omega) (by rw [hc]; simp [maxLen]) (.inl hn)
 ·refine hk _ ⟨le_add hG, fun b o hbo hn => ?_⟩ hnc hcm (.inr ⟨_, hA, ?_⟩)
  ·unfold PH.add at hbo
   split at hbo
   ·rename_i e'; subst e'; omega
   ·rw [hn] at hbo; cases hbo
  ·refine gcells_row (cur := cur) (e := e) (fr := (0, 0)) ?_ xs off ht
   simp [newp, hG, PH.add]
theorem S_blkO (key κ : Nat) {base b e sz n c o : Nat} {cs : List Cel} {vs xs : List Value} {L' : List Ent} (hj : lookI key ι = some b) (hB : lookB key L = some (e, cs)) (hd : denL ι cs = some vs) (hL' : delB key L = some L') (hbase : base ≤ b ∨ base = 0 ∨ (base = C.w0.heap.size ∧ ∀ x, ¬ C.S0 x))
  (hx : (vs.drop o).take (n * sz) = xs) (hl : xs.length = n * sz) (hnc : n ≤ c) (hcm : c ≤ maxLen) (hfit : o + c * sz ≤ vs.length)
  (hk : X C k E ι (.hp κ (rowO base e sz (some ⟨b, o, none⟩) n c xs) :: L') G) : X C k E ι L G := by
 intro a w g1 g2 g3 g4
 obtain ⟨Ss, ho, hS⟩ := g4.own
 obtain ⟨S, Ss', b', hb', hh, hSb, hm, ho', hT⟩ := owns_delB hd ho hB hL'
 rw [hj] at hb'; cases hb'
 have hbb : base ≤ b := by
  rcases hbase with h | h | ⟨h, h'⟩
  ·exact h
  ·omega
  ·rcases (hS S hm b ((hSb b).2 rfl)).2 with h2 | h2
   ·exact absurd h2 (h' b)
   ·omega
 refine hk a w g1 g2 g3 ⟨g4.os, g4.tape, g4.output, g4.size, g4.keep, g4.emb, S :: Ss', ⟨⟨hl, hcm, hnc, .inr ⟨b, o, vs.toArray, J, hbb, hh, by simpa using hfit, by rw [hl]; simpa using hx, hSb⟩⟩, fun T hT' x hx hx' => (hT T hT').2 x hx' hx, ho'⟩, ?_⟩
 intro T hT' x hx
 rcases List.mem_cons.1 hT' with rfl | hT'
 ·exact hS T hm x hx
 ·exact hS T (hT T hT').1 x hx
theorem S_rowB (κ key : Nat) {base e sz : Nat} {g : Nat} {n c : Nat} {xs : List Value} {L' : List Ent} (hL : getH κ L = some (rowO base e sz (some ⟨g, 0, none⟩) n c xs)) (hL' : delH κ L = some L') (hf : lookI key ι = none)
  (hk : ∀ sp, X C k E ((key, g) :: ι) (.blk key e (vL (xs ++ sp)) :: L') G) : X C k E ι L G := by
 intro a w g1 g2 g3 g4
 obtain ⟨Ss, ho, hS⟩ := g4.own
 obtain ⟨S, Ss', hA, hm, ho', hT⟩ := owns_del ho hL hL'
 obtain ⟨q1, q2, q3, q4⟩ := hA
 rcases q4 with ⟨q, _⟩ | ⟨g', off, cur, q, q0, q5, q6, q7, q8⟩
 ·cases q
 ·cases q
  have hcur : cur.toList = xs ++ cur.toList.drop xs.length := by
   rw [List.drop_zero] at q7
   conv => lhs; rw [← List.take_append_drop xs.length cur.toList, q7]
  refine hk (cur.toList.drop xs.length) a w g1 g2 (g3.ids hf) ⟨g4.os, g4.tape, g4.output, g4.size, g4.keep, g4.emb, S :: Ss', ⟨⟨g, cur.toList, by simp [lookI], ?_, by simpa using q5, q8⟩, fun T hT' x hx hx' => (hT T hT').2 x hx' hx, owns_ids ho' hf⟩, ?_⟩
  ·rw [← hcur]; exact denL_vL _ _
  ·intro T hT' x hx
   rcases List.mem_cons.1 hT' with rfl | hT'
   ·exact hS T hm x hx
   ·exact hS T (hT T hT').1 x hx
theorem S_tailO {all : Array Oper} {l : List Oper} {T : Tab} (hT : tabOk C.P T) (κ : Nat) {d t e sz' sz : Nat} {os os' : List Nat} {tk : TK} {s : Operand} {ty : Nat} {pos : String} {af : Array Edge} {g : Option (Nat × Bool)} {base : Nat} {A : Option Addr} {n c : Nat} {xs : List Value} {L' : Option Addr → List Ent}
  (ht : lookT t T = some ⟨.slc e, sz', os'⟩) (he : lookT e T = some ⟨tk, sz, os⟩) (hg : guardOf all E g = .on) (hN : Nat.ble (d + 1) C.n = true) (hs : ev E s = some (.val (.slice A (n + 1) c)))
  (hL : getH κ L = some (rowO base e sz A (n + 1) c xs)) (hL' : ∀ A', setH κ (rowO base e sz A' n (c - 1) (xs.drop sz)) L = some (L' A'))
  (hk : ∀ A', X C (.ops all l :: k) ((d, .val (.slice A' n (c - 1))) :: E) ι (L' A') G) : X C (.ops all (⟨some d, .slice t s (some (.const (.int .i64 1))) none none, ty, pos, af, g⟩ :: l) :: k) E ι L G := by
 intro a w g1 g2 g3 g4
 have hdn : d < a.tmps.size := by rw [g2]; exact Nat.le_of_ble_eq_true hN
 have es := ev_sound g3 hs
 simp only [denO, Option.some.injEq] at es
 have hu := tyOk_slice (hT _ _ ht) rfl
 obtain ⟨S2, hA, hS2G, hturn⟩ := g4.turn hL
 obtain ⟨q1, q2, q3, q4⟩ := hA
 rcases q4 with ⟨_, q4, _⟩ | ⟨gb, off, cur, rfl, q0, q5, q6, q7, q8⟩
 ·omega
 obtain ⟨A', hA'⟩ : ∃ A' : Option Addr, A' = (if c = 1 then some ⟨gb, off, none⟩ else some ⟨gb, off + 1 * sz, none⟩) := ⟨_, rfl⟩
 have hrun : (execOp a.eval ⟨some d, .slice t s (some (.const (.int .i64 1))) none none, ty, pos, af, g⟩).run C.P w = .ok (.value (.slice A' n (c - 1))) w := by
  simp only [execOp, Option.map_some, Option.map_none, ← es]
  have : a.eval (.const (.int .i64 1)) = .int .i64 1 := rfl
  rw [this]
  have h1 : (1 : Int) ≤ (n : Int) + 1 := by omega
  simp only [Instr.sliceAt, Sem.run_bind, run_underlying hu, Result.andThen_ok]
  simp [Instr.slice, run_underlying hu, Instr.sliceBounds, Instr.sliceBound, asIntOf, tyOk_size (hT _ _ he), h1, hA', add_lit', eq_comm]
 refine wpE_val (guardOf_on g3 hg) (by intro c h; cases h) hrun ?_;refine hk A' _ _ g1 (by simp [Act.put, g2]) (g3.put hdn J) ?_
 have hlen : xs.length = n * sz + sz := by rw [q1, Nat.succ_mul]
 refine hturn _ _ G w S2 (hL' A') ⟨by rw [List.length_drop, hlen]; omega, by omega, by omega, .inr ?_⟩ g4.emb XR (fun b hb => ⟨hS2G b hb, .inl hb⟩) rfl rfl rfl (Nat.le_refl _) fun _ _ _ => rfl
 have hc1 : 1 ≤ c := by omega
 by_cases hc : c = 1
 ·subst hc
  obtain rfl : n = 0 := by omega
  have hd0 : xs.drop sz = [] := by rw [List.drop_eq_nil_iff]; omega
  refine ⟨gb, off, cur, by rw [hA', if_pos J], q0, q5, by omega, by rw [hd0]; simp, q8⟩
 ·refine ⟨gb, off + 1 * sz, cur, by rw [hA', if_neg hc], q0, q5, ?_, ?_, q8⟩
  ·have : c * sz = (c - 1) * sz + sz := by rw [← Nat.succ_mul]; congr 1; omega
   omega
  ·have h2 : (List.drop (off + 1 * sz) cur.toList) = (cur.toList.drop off).drop sz := by rw [List.drop_drop]; congr 1; omega
   rw [h2, List.length_drop]
   conv => rhs; rw [← q7]
   rw [List.drop_take]
end
end
section
def Res (C : Ctx) (fn : Func) (E : Env) (ι : Ids) (L : List Ent) (G : PH) (v : Value) : Prop := ∀ a w, AgE ι E a → SatW C ι L G w → (results fn a.tmps).run C.P w = .ok v w
section
variable {C : Ctx} {fn : Func} {E : Env} {ι : Ids} {L : List Ent} {G : PH} {T : Tab}
theorem res_load (hT : tabOk C.P T) {t ty : Nat} {s : Sym} {v : Value} (h : pureOp T E L (.load ty (.tmp t)) = some s) (hv : denO ι s = some v) {a : Act} {w : World} (hE : AgE ι E a) (hw : SatW C ι L G w) : ∃ ad, a.tmps[t]?.getD undef = .pointer (some ad) ∧ (loadVar ty ad).run C.P w = .ok v w := by
 obtain ⟨Ss, ho, _⟩ := hw.own
 obtain ⟨v', hv', hr⟩ := pureOp_sound hT hE ho h none 0 "" #[] none
 rw [hv] at hv'; cases hv'
 have hp : ∃ ad, a.eval (.tmp t) = .pointer (some ad) := by
  simp only [pureOp] at h
  split at h
  ·rename_i k o hx
   have ex := ev_sound hE hx
   simp only [denO] at ex
   split at ex
   ·simp only [Option.some.injEq] at ex; exact ⟨_, ex.symm⟩
   ·cases ex
  ·cases h
 obtain ⟨ad, had⟩ := hp
 refine ⟨ad, by rw [← Array.getD_eq_getD_getElem?]; exact had, ?_⟩
 simp only [execOp, had] at hr
 simp [Instr.loadAt, Instr.sureAddr] at hr
 cases hq : (loadVar ty ad).run C.P w with
 | ok u w' => rw [hq] at hr; simpa using hr
 | halt x w' => rw [hq] at hr; simp at hr
theorem res_tmp {t : Nat} {s : Sym} {v : Value} (hl : look t E = some s) (hv : denO ι s = some v) {a : Act} (hE : AgE ι E a) : a.tmps[t]?.getD undef = v := by
 obtain ⟨u, hu, ht⟩ := hE t s hl
 rw [hv] at hu; cases hu
 simp [ht]
theorem Res.t0 (hr : fn.results = #[]) : Res C fn E ι L G (.tuple #[]) := fun a w _ _ => by simp [results, hr]
theorem Res.t1 {t : Nat} {s : Sym} {v : Value} (hr : fn.results = #[.tmp t]) (hl : look t E = some s) (hv : denO ι s = some v) : Res C fn E ι L G v := fun a w hE _ => by
 simp [results, hr, res_tmp hl hv hE]
theorem Res.t2 {t t' : Nat} {s s' : Sym} {v v' : Value} (hr : fn.results = #[.tmp t, .tmp t']) (hl : look t E = some s) (hv : denO ι s = some v) (hl' : look t' E = some s') (hv' : denO ι s' = some v') : Res C fn E ι L G (.tuple #[v, v']) := fun a w hE _ => by
 simp [results, hr, res_tmp hl hv hE, res_tmp hl' hv' hE]
theorem Res.c1 (hT : tabOk C.P T) {t ty : Nat} {s : Sym} {v : Value} (hr : fn.results = #[.cell t ty]) (h : pureOp T E L (.load ty (.tmp t)) = some s) (hv : denO ι s = some v) : Res C fn E ι L G v := fun a w hE hw => by
 obtain ⟨ad, h0, h1⟩ := res_load hT h hv hE hw
 simp [results, hr, asAddr, h0, h1]
theorem Res.c2 (hT : tabOk C.P T) {t ty t' : Nat} {s s' : Sym} {v v' : Value} (hr : fn.results = #[.cell t ty, .tmp t']) (h : pureOp T E L (.load ty (.tmp t)) = some s) (hv : denO ι s = some v) (hl' : look t' E = some s') (hv' : denO ι s' = some v') : Res C fn E ι L G (.tuple #[v, v']) := fun a w hE hw => by
 obtain ⟨ad, h0, h1⟩ := res_load hT h hv hE hw
 simp [results, hr, asAddr, h0, h1, res_tmp hl' hv' hE]
theorem Res.c3 (hT : tabOk C.P T) {t ty t' t'' : Nat} {s s' s'' : Sym} {v v' v'' : Value} (hr : fn.results = #[.cell t ty, .tmp t', .tmp t'']) (h : pureOp T E L (.load ty (.tmp t)) = some s) (hv : denO ι s = some v) (hl' : look t' E = some s') (hv' : denO ι s' = some v')
  (hl'' : look t'' E = some s'') (hv'' : denO ι s'' = some v'') : Res C fn E ι L G (.tuple #[v, v', v'']) := fun a w hE hw => by
 obtain ⟨ad, h0, h1⟩ := res_load hT h hv hE hw
 simp [results, hr, asAddr, h0, h1, res_tmp hl' hv' hE, res_tmp hl'' hv'' hE]
end
section
variable {P : Program} {fn : Func} {R : Ending → World → Prop} {n : Nat} {G0 G : PH} {w0 : World} {S0 : Nat → Prop} {k : List It} {E : Env} {ι : Ids} {L : List Ent} {v : Value}
theorem S_retR {C : Ctx} (hQ : C.Q = bodyPost C.P fn R ∧ C.ms = false) (hr : Res C fn E ι L G v) (h : ∀ w, SatW C ι L G w → R (.returned v) w) : X C (.code .ret :: k) E ι L G := by
 intro a w h1 h2 h3 h4
 refine wpE_ret (wpE_out k ?_)
 rw [hQ.1]
 exact ⟨h1.eq hQ.2, v, hr a w h3 h4, h w h4⟩
theorem S_endR {C : Ctx} (hQ : C.Q = bodyPost C.P fn R ∧ C.ms = false) (hr : Res C fn E ι L G v) (h : ∀ w, SatW C ι L G w → R (.returned v) w) : X C [] E ι L G := by
 intro a w h1 h2 h3 h4
 show C.Q .normal a w
 rw [hQ.1]
 exact ⟨h1.eq hQ.2, v, hr a w h3 h4, h w h4⟩
theorem S_retp {Post : Value → PH → Prop} (hr : Res (PC P n fn G0 Post w0) fn E ι L G v) (hx : PH.ext w0.heap.size G0 G) (hp : Post v G) : X (PC P n fn G0 Post w0) (.code .ret :: k) E ι L G :=
 S_retR ⟨rfl, rfl⟩ hr fun w hw => hw.pureR hx hp
theorem S_retm (κ : Nat) {Post : Value → PH → HP → Prop} {A' : HP} (hr : Res (MC P n fn G0 Post w0 S0) fn E ι L G v) (hL : getH κ L = some A') (hx : PH.ext w0.heap.size G0 G) (hp : Post v G A') : X (MC P n fn G0 Post w0 S0) (.code .ret :: k) E ι L G :=
 S_retR ⟨rfl, rfl⟩ hr fun w hw => hw.modR hL hx hp
theorem S_endm (κ : Nat) {Post : Value → PH → HP → Prop} {A' : HP} (hr : Res (MC P n fn G0 Post w0 S0) fn E ι L G v) (hL : getH κ L = some A') (hx : PH.ext w0.heap.size G0 G) (hp : Post v G A') : X (MC P n fn G0 Post w0 S0) [] E ι L G :=
 S_endR ⟨rfl, rfl⟩ hr fun w hw => hw.modR hL hx hp
end
section
variable {P : Program} {fn : Func} {n : Nat} {G0 G : PH} {Post : Value → PH → HP → Prop} {w0 : World} {S0 : Nat → Prop} {k : List It} {E : Env} {ι ι1 : Ids} {L L1 L2 Ls : List Ent} {v : Value} {p : Ids → List Ent → Prop}
theorem SatW.packed {C : Ctx} {w : World} (κ : Nat) (h4 : SatW C ι L G w) (ks : List Nat) (hL : pickE ks L = some (L1, L2)) (hs : subL ι ι1 L1 Ls) (hp : p ι1 Ls) : SatW C ι (.hp κ (packHP p) :: L2) G w := by
 obtain ⟨Ss, ho, hS⟩ := h4.own
 obtain ⟨Sx, Sr, g1, g2, g3, g4⟩ := pickE_sound hL ho
 obtain ⟨Ss', ho', hsub⟩ := subL_sound hs g1
 refine ⟨h4.os, h4.tape, h4.output, h4.size, h4.keep, h4.emb, (fun x => ∃ T ∈ Ss', T x) :: Sr, ⟨⟨ι1, Ls, Ss', hp, ho', fun x => Iff.rfl⟩, ?_, g2⟩, ?_⟩
 ·rintro T hT b ⟨U, hU, hb⟩ hb'
  exact g3 U (hsub U hU) T hT b hb hb'
 ·intro T hT b hb
  rcases List.mem_cons.1 hT with rfl | hT
  ·obtain ⟨U, hU, hb⟩ := hb
   exact hS U ((g4 U).1 (.inl (hsub U hU))) b hb
  ·exact hS T ((g4 T).1 (.inr hT)) b hb
theorem RK (ks : List Nat) (hr : Res (MC P n fn G0 Post w0 S0) fn E ι L G v) (hp : Post v G (packHP p)) (hpp : p ι1 Ls) (hL : pickE ks L = some (L1, L2)) (hs : subL ι ι1 L1 Ls) (hx : PH.ext w0.heap.size G0 G) : X (MC P n fn G0 Post w0 S0) (.code .ret :: k) E ι L G :=
 S_retR ⟨rfl, rfl⟩ hr fun w hw => (hw.packed 0 ks hL hs hpp).modR (κ := 0) rfl hx hp
theorem EK (ks : List Nat) (hr : Res (MC P n fn G0 Post w0 S0) fn E ι L G v) (hp : Post v G (packHP p)) (hpp : p ι1 Ls) (hL : pickE ks L = some (L1, L2)) (hs : subL ι ι1 L1 Ls) (hx : PH.ext w0.heap.size G0 G) : X (MC P n fn G0 Post w0 S0) [] E ι L G :=
 S_endR ⟨rfl, rfl⟩ hr fun w hw => (hw.packed 0 ks hL hs hpp).modR (κ := 0) rfl hx hp
end
section
variable {C : Ctx} {k : List It} {E : Env} {ι ι1 : Ids} {L L1 L2 Ls : List Ent} {G : PH} {all : Array Oper} {l : List Oper} {p : Ids → List Ent → Prop}
theorem S_callPk (κ : Nat) (ks : List Nat) {d f : Nat} {xs : Array Operand} {ats : Array TypeId} {ty : Nat} {pos : String} {af : Array Edge} {g : Option (Nat × Bool)} {vs : List Value} {Post : Value → PH → HP → Prop} (hcf : ∀ args w, (callFunc f args).run C.P w = .ok (.enter f args) w)
  (hc : Mod C.P f vs G (packHP p) Post) (hpp : p ι1 Ls) (hL : pickE ks L = some (L1, L2)) (hs : subL ι ι1 L1 Ls) (hg : guardOf all E g = .on) (hN : Nat.ble (d + 1) C.n = true) (hxs : evs ι E xs.toList = some vs)
  (hk : ∀ v G' A', Post v G' A' → PH.ext C.w0.heap.size G G' → X C (.ops all l :: k) ((d, .val v) :: E) ι (.hp κ A' :: L2) G') : X C (.ops all (⟨some d, .call ⟨.value (.func f), xs, ats⟩, ty, pos, af, g⟩ :: l) :: k) E ι L G :=
 S_pack κ ks hL hs hpp (S_callM (L' := fun A' => .hp κ A' :: L2) κ hcf hc hg hN hxs (by simp [getH]) (fun A' => by simp [setH]) hk)
theorem S_invokePk (κ : Nat) (ks : List Nat) {d f t : Nat} {x : Operand} {name : String} {rv : Value} {xs : Array Operand} {ats : Array TypeId} {ty : Nat} {pos : String} {af : Array Edge} {g : Option (Nat × Bool)} {vs : List Value} {Post : Value → PH → HP → Prop}
  (hcm : ∀ args w, (callMethod (.iface t rv) name args).run C.P w = .ok (.enter f (#[rv] ++ args)) w) (hc : Mod C.P f (rv :: vs) G (packHP p) Post) (hpp : p ι1 Ls) (hL : pickE ks L = some (L1, L2)) (hs : subL ι ι1 L1 Ls) (hx : ev E x = some (.val (.iface t rv)))
  (hg : guardOf all E g = .on) (hN : Nat.ble (d + 1) C.n = true) (hxs : evs ι E xs.toList = some vs)
  (hk : ∀ v G' A', Post v G' A' → PH.ext C.w0.heap.size G G' → X C (.ops all l :: k) ((d, .val v) :: E) ι (.hp κ A' :: L2) G') : X C (.ops all (⟨some d, .call ⟨.invoke x name, xs, ats⟩, ty, pos, af, g⟩ :: l) :: k) E ι L G :=
 S_pack κ ks hL hs hpp (S_invokeM (L' := fun A' => .hp κ A' :: L2) κ hx hcm hc hg hN hxs (by simp [getH]) (fun A' => by simp [setH]) hk)
end
theorem len1 {α : Type} {l : List α} (h : l.length = 1) : ∃ a, l = [a] := by
 match l, h with
 | [a], _ => exact ⟨a, rfl⟩
theorem len2 {α : Type} {l : List α} (h : l.length = 2) : ∃ a b, l = [a, b] := by
 match l, h with
 | [a, b], _ => exact ⟨a, b, rfl⟩
theorem len3 {α : Type} {l : List α} (h : l.length = 3) : ∃ a b c, l = [a, b, c] := by
 match l, h with
 | [a, b, c], _ => exact ⟨a, b, c, rfl⟩
end
end Go.Proofs.YtcbdilccmjpnbaaGreat
