/- Walks of the program's functions, one after the other (part 1); without conditions of their own. -/
import Derived.Test.YtblildkhbkmmdaaGreatDoorWAM0
import Derived.Great.BuildSlice
import Derived.KernelRfl
import Derived.Laws.MakeOwn
import Derived.Laws.Tables
import Derived.Maps.AppendAt
import Derived.Orders
import Derived.OrdersIn
import Derived.Test.YtblildkhbkmmdaaGreatDoorProg
set_option linter.unusedVariables false
set_option linter.unusedSimpArgs false
set_option maxRecDepth 100000
set_option maxHeartbeats 4000000
open Go.RowKit
namespace Go.Proofs.YtblildkhbkmmdaaGreatDoor
section
def getH : Nat → List Ent → Option HP
 | _, [] => none
 | κ, .hp j A :: L => if κ = j then some A else getH κ L
 | κ, .blk _ _ _ :: L => getH κ L
def setH (κ : Nat) (A : HP) : List Ent → Option (List Ent)
 | [] => none
 | .hp j B :: L => if κ = j then some (.hp j A :: L) else match setH κ A L with
  | some r => some (.hp j B :: r)
  | none => none
 | .blk j t cs :: L => match setH κ A L with
  | some r => some (.blk j t cs :: r)
  | none => none
def delH (κ : Nat) : List Ent → Option (List Ent)
 | [] => none
 | .hp j B :: L => if κ = j then some L else match delH κ L with
  | some r => some (.hp j B :: r)
  | none => none
 | .blk j t cs :: L => match delH κ L with
  | some r => some (.blk j t cs :: r)
  | none => none
theorem owns_split {ι : Ids} {w : World} {κ : Nat} {A : HP} : ∀ {L : List Ent} {Ss : List (Nat → Prop)}, owns ι w L Ss → getH κ L = some A →
  ∃ S, A.holds w S ∧ S ∈ Ss ∧ ∀ (A' : HP) (L' : List Ent), setH κ A' L = some L' → ∀ (w' : World) (S' : Nat → Prop) (B : Nat → Prop), A'.holds w' S' → (∀ x, ¬ B x → w'.heap[x]? = w.heap[x]?) →
   (∀ T ∈ Ss, ∀ x, S' x → T x → S x) →
   (∀ T ∈ Ss, ∀ x, T x → ¬ S x → ¬ B x) → ∃ Ss', owns ι w' L' Ss' ∧ (∀ T ∈ Ss', T ∈ Ss ∨ T = S') := by
 intro L
 induction L with
 | nil => intro Ss _ h; cases h
 | cons e L ih =>
  intro Ss ho hg
  cases Ss with
  | nil => simp [owns] at ho
  | cons S0 Ss =>
   obtain ⟨h1, h2, h3⟩ := ho
   have fin : getH κ L = some A → (∀ A' L', setH κ A' (e :: L) = some L' → ∃ L1, setH κ A' L = some L1 ∧ L' = e :: L1) → ∃ S, A.holds w S ∧ S ∈ S0 :: Ss ∧ ∀ (A' : HP) (L' : List Ent), setH κ A' (e :: L) = some L' → ∀ (w' : World) (S' : Nat → Prop) (B : Nat → Prop), A'.holds w' S' → (∀ x, ¬ B x → w'.heap[x]? = w.heap[x]?) →
     (∀ T ∈ S0 :: Ss, ∀ x, S' x → T x → S x) → (∀ T ∈ S0 :: Ss, ∀ x, T x → ¬ S x → ¬ B x) → ∃ Ss', owns ι w' L' Ss' ∧ (∀ T ∈ Ss', T ∈ S0 :: Ss ∨ T = S') := by
    intro hg1 hstep
    obtain ⟨S, hA, hm, hk⟩ := ih h3 hg1
    refine ⟨S, hA, List.mem_cons_of_mem _ hm, fun A' L' hs w' S' B hA' hB hS' hTS => ?_⟩
    obtain ⟨L1, hs1, rfl⟩ := hstep A' L' hs
    obtain ⟨Ss', ho', hm'⟩ := hk A' L1 hs1 w' S' B hA' hB (fun T hT' => hS' T (List.mem_cons_of_mem _ hT')) (fun T hT' => hTS T (List.mem_cons_of_mem _ hT'))
    have hS0 : ∀ x, S0 x → ¬ S x := fun x hx hx' => h2 S hm x hx hx'
    have h1' : e.holds ι w' S0 := by
     cases e with
     | blk j ty cs =>
      obtain ⟨c, vs, hc, hdv, hh', hSc⟩ := h1
      have hc0 := (hSc c).2 rfl
      exact ⟨c, vs, hc, hdv, by rw [hB c (hTS S0 (List.mem_cons_self ..) c hc0 (hS0 c hc0))]; exact hh', hSc⟩
     | hp j D => exact D.loc _ _ _ h1 fun x hx => hB x (hTS S0 (List.mem_cons_self ..) x hx (hS0 x hx))
    refine ⟨S0 :: Ss', ⟨h1', ?_, ho'⟩, ?_⟩
    ·intro T hT' x hx hx'
     rcases hm' T hT' with hT'' | rfl
     ·exact h2 T hT'' x hx hx'
     ·exact hS0 x hx (hS' S0 (List.mem_cons_self ..) x hx' hx)
    ·intro T hT'
     rcases List.mem_cons.1 hT' with rfl | hT'
     ·exact .inl (List.mem_cons_self ..)
     ·rcases hm' T hT' with h | h
      ·exact .inl (List.mem_cons_of_mem _ h)
      ·exact .inr h
   cases e with
   | blk j t cs =>
    simp only [getH] at hg
    refine fin hg fun A' L' hs => ?_
    simp only [setH] at hs
    split at hs
    ·rename_i r hr; cases hs; exact ⟨r, hr, J⟩
    ·cases hs
   | hp j D =>
    simp only [getH] at hg
    split at hg
    ·rename_i e'; subst e'
     cases hg
     refine ⟨S0, h1, List.mem_cons_self .., fun A' L' hs w' S' B hA' hB hS' hTS => ?_⟩
     simp only [setH, if_true, Option.some.injEq] at hs
     subst hs
     refine ⟨S' :: Ss, ⟨hA', ?_, ?_⟩, ?_⟩
     ·intro T hT' x hx hx'
      exact h2 T hT' x (hS' T (List.mem_cons_of_mem _ hT') x hx hx') hx'
     ·refine owns_far h3 B hB fun T hT' x hx => hTS T (List.mem_cons_of_mem _ hT') x hx fun hx' => h2 T hT' x hx' hx
     ·intro T hT'
      rcases List.mem_cons.1 hT' with rfl | hT'
      ·exact .inr J
      ·exact .inl (List.mem_cons_of_mem _ hT')
    ·rename_i e'
     refine fin hg fun A' L' hs => ?_
     simp only [setH, if_neg e'] at hs
     split at hs
     ·rename_i r hr; cases hs; exact ⟨r, hr, J⟩
     ·cases hs
theorem SatW.turn {C : Ctx} {ι : Ids} {L : List Ent} {G : PH} {w : World} (h : SatW C ι L G w) {κ : Nat} {A : HP} (hg : getH κ L = some A) :
  ∃ S, A.holds w S ∧ (∀ b, S b → G b = none) ∧ ∀ (A' : HP) (L' : List Ent) (G' : PH) (w' : World) (S' : Nat → Prop), setH κ A' L = some L' → A'.holds w' S' → Emb G' w' → PH.ext w.heap.size G G' → (∀ b, S' b → G' b = none ∧ (S b ∨ w.heap.size ≤ b)) →
   w'.os = w.os → w'.tape = w.tape → w'.output = w.output → w.heap.size ≤ w'.heap.size → (∀ b, b < w.heap.size → ¬ S b → w'.heap[b]? = w.heap[b]?) → SatW C ι L' G' w' := by
 obtain ⟨Ss, ho, hS⟩ := h.own
 obtain ⟨S, hA, hm, hk⟩ := owns_split ho hg
 refine ⟨S, hA, fun b hb => (hS S hm b hb).1, fun A' L' G' w' S' hs hA' hemb hext hS' e1 e2 e3 e4 hkeep => ?_⟩
 have hlt := owns_lt ho
 obtain ⟨Ss', ho', hm'⟩ := hk A' L' hs w' S' (fun x => S x ∨ w.heap.size ≤ x) hA' (fun x hx => hkeep x (by omega) (fun h => hx (.inl h))) (fun T hT x hx hx' => by
   rcases (hS' x hx).2 with h1 | h1
   ·exact h1
   ·have := hlt T hT x hx'; omega) (fun T hT x hx hn => by
   rintro (hx' | hx')
   ·exact hn hx'
   ·have := hlt T hT x hx; omega)
 refine ⟨e1.trans h.os, e2.trans h.tape, e3.trans h.output, Nat.le_trans h.size e4, ?_, hemb, Ss', ho', ?_⟩
 ·intro b hb hn
  rw [hkeep b (Nat.lt_of_lt_of_le hb h.size) (fun hSb => by
   rcases (hS S hm b hSb).2 with h1 | h1
   ·exact hn h1
   ·omega)]
  exact h.keep b hb hn
 ·intro T hT b hb
  rcases hm' T hT with hT' | rfl
  ·obtain ⟨g1, g2⟩ := hS T hT' b hb
   refine ⟨?_, g2⟩
   cases hq : G' b with
   | none => rfl
   | some o =>
    have := hext.new b o hq g1
    have := hlt T hT' b hb
    omega
  ·obtain ⟨g1, g2⟩ := hS' b hb
   refine ⟨g1, ?_⟩
   rcases g2 with g2 | g2
   ·exact (hS S hm b g2).2
   ·exact .inr (Nat.le_trans h.size g2)
section
variable {C : Ctx} {k : List It} {E : Env} {ι : Ids} {L : List Ent} {G : PH} {all : Array Oper} {l : List Oper}
theorem S_buildSlice {d t e m : Nat} {parts : Array (Nat × Operand)} {ty : Nat} {pos : String} {af : Array Edge} {g : Option (Nat × Bool)} {cs : List Cel} (hg : guardOf all E g = .on) (hN : Nat.ble (d + 1) C.n = true) (hd : lookI d ι = none)
  (hr : ∀ a w, AgE ι E a → ∃ vs, denL ι cs = some vs ∧ (Instr.buildSlice t m (parts.map fun (i, x) => (i, a.eval x))).run C.P w = .ok (.slice (some ⟨w.heap.size, 0, none⟩) m m) (w.alloc (.cells vs.toArray e)))
  (hk : ∀ b, X C (.ops all l :: k) ((d, .slc d 0 m m) :: E) ((d, b) :: ι) (.blk d e cs :: L) G) : X C (.ops all (⟨some d, .buildSlice t m parts, ty, pos, af, g⟩ :: l) :: k) E ι L G := by
 intro a w h1 h2 h3 h4
 obtain ⟨vs, hvs, hr⟩ := hr a w h3
 have hrun : (execOp a.eval ⟨some d, .buildSlice t m parts, ty, pos, af, g⟩).run C.P w = .ok (.value (.slice (some ⟨w.heap.size, 0, none⟩) m m)) (w.alloc (.cells vs.toArray e)) := by
  simp only [execOp]; simp [hr]
 refine wpE_val (guardOf_on h3 hg) (by intro c h; cases h) hrun ?_
 have hdn : d < a.tmps.size := by rw [h2]; exact Nat.le_of_ble_eq_true hN
 exact hk w.heap.size _ _ h1 (by simp [Act.put, h2]) ((h3.ids hd).put hdn (by simp [denO, lookI])) (h4.alloc hd cs hvs)
def PH.add (G : PH) (g : Nat) (o : Obj) : PH := fun b => if b = g then some o else G b
theorem owns_del {ι : Ids} {w : World} {κ : Nat} {A : HP} : ∀ {L L' : List Ent} {Ss : List (Nat → Prop)}, owns ι w L Ss → getH κ L = some A → delH κ L = some L' →
  ∃ S Ss', A.holds w S ∧ S ∈ Ss ∧ owns ι w L' Ss' ∧ ∀ T ∈ Ss', T ∈ Ss ∧ ∀ x, T x → ¬ S x := by
 intro L
 induction L with
 | nil => intro L' Ss _ h; cases h
 | cons e L ih =>
  intro L' Ss ho hg hs
  cases Ss with
  | nil => simp [owns] at ho
  | cons S0 Ss =>
   obtain ⟨h1, h2, h3⟩ := ho
   have fin : ∀ (L1 : List Ent), getH κ L = some A → delH κ L = some L1 → L' = e :: L1 → ∃ S Ss', A.holds w S ∧ S ∈ S0 :: Ss ∧ owns ι w L' Ss' ∧ ∀ T ∈ Ss', T ∈ S0 :: Ss ∧ ∀ x, T x → ¬ S x := by
    rintro L1 hg1 hs1 rfl
    obtain ⟨S, Ss', hA, hm, ho', hT⟩ := ih h3 hg1 hs1
    refine ⟨S, S0 :: Ss', hA, List.mem_cons_of_mem _ hm, ⟨h1, fun T hT' x hx hx' => h2 T (hT T hT').1 x hx hx', ho'⟩, ?_⟩
    intro T hT'
    rcases List.mem_cons.1 hT' with rfl | hT'
    ·exact ⟨List.mem_cons_self .., fun x hx hx' => h2 S hm x hx hx'⟩
    ·exact ⟨List.mem_cons_of_mem _ (hT T hT').1, (hT T hT').2⟩
   cases e with
   | blk j t cs =>
    simp only [getH] at hg
    simp only [delH] at hs
    split at hs
    ·rename_i r hr; cases hs; exact fin r hg hr J
    ·cases hs
   | hp j D =>
    simp only [getH] at hg
    simp only [delH] at hs
    split at hg
    ·rename_i e'; subst e'
     rw [if_pos rfl] at hs
     cases hg; cases hs
     exact ⟨S0, Ss, h1, List.mem_cons_self .., h3, fun T hT => ⟨List.mem_cons_of_mem _ hT, fun x hx hx' => h2 T hT x hx' hx⟩⟩
    ·rename_i e'
     rw [if_neg e'] at hs
     split at hs
     ·rename_i r hr; cases hs; exact fin r hg hr J
     ·cases hs
theorem gcells_row {G : PH} {g : Nat} {cur : Array Value} {e : Nat} {fr : Nat × Nat} (h : G g = some (.cells cur e fr)) : ∀ (xs : List Value) (o : Nat), (cur.toList.drop o).take xs.length = xs → gcells G ⟨g, o, none⟩ xs := by
 intro xs
 induction xs with
 | nil => intro o _; trivial
 | cons x xs ih =>
  intro o ho
  have hx : cur.toList[o]? = some x := by
   have := congrArg (fun l => l[0]?) ho
   simpa [List.getElem?_take] using this
  have hadd : (⟨g, o, none⟩ : Addr).add 1 = ⟨g, o + 1, none⟩ := by unfold Addr.add; split <;> simp_all
  refine ⟨?_, ?_⟩
  ·simp [gcell, h]; simpa using hx
  ·rw [hadd]
   refine ih (o + 1) ?_
   have := congrArg List.tail ho
   rw [List.drop_eq_getElem_cons (by have := (List.getElem?_eq_some_iff.1 hx).1; exact this)] at this
   simpa using this
theorem S_callM (κ : Nat) {A : HP} {L' : HP → List Ent} {d f : Nat} {xs : Array Operand} {ats : Array TypeId} {ty : Nat} {pos : String} {af : Array Edge} {g : Option (Nat × Bool)} {vs : List Value} {Post : Value → PH → HP → Prop} (hcf : ∀ args w, (callFunc f args).run C.P w = .ok (.enter f args) w)
  (hc : Mod C.P f vs G A Post) (hg : guardOf all E g = .on) (hN : Nat.ble (d + 1) C.n = true) (hxs : evs ι E xs.toList = some vs) (hL : getH κ L = some A) (hL' : ∀ A', setH κ A' L = some (L' A'))
  (hk : ∀ v G' A', Post v G' A' → PH.ext C.w0.heap.size G G' → X C (.ops all l :: k) ((d, .val v) :: E) ι (L' A') G') : X C (.ops all (⟨some d, .call ⟨.value (.func f), xs, ats⟩, ty, pos, af, g⟩ :: l) :: k) E ι L G := by
 intro a w h1 h2 h3 h4
 have hdn : d < a.tmps.size := by rw [h2]; exact Nat.le_of_ble_eq_true hN
 obtain ⟨S, hA, hSG, hturn⟩ := h4.turn hL
 have hcc := hc w S h4.emb hA hSG
 refine wpE_call (f := f) (cap := #[]) (vs := vs) (guardOf_on h3 hg) J (evs_sound h3 hxs) hcf (R := fun v w' => ∃ G' A', Post v G' A' ∧ PH.ext C.w0.heap.size G G' ∧ SatW C ι (L' A') G' w') ?_ ?_
 ·simp only [List.append_nil, List.toList_toArray]
  refine hcc.mono ?_;rintro e w' ⟨v, G', A', S', rfl, hp, hA', hext, hemb, hS', e1, e2, e3, e4, hkeep⟩
  refine ⟨v, J, G', A', hp, hext.mono h4.size, ?_⟩
  exact hturn A' _ G' w' S' (hL' A') hA' hemb hext hS' e1 e2 e3 e4 hkeep
 ·rintro v w' ⟨G', A', hp, hext, hsat⟩
  exact hk v G' A' hp hext _ _ (h1.mono hext.le) (by simp [Act.put, h2]) (h3.put hdn J) hsat
end
end
section
def strN : List Nat → Option (List Nat)
 | [] => some []
 | a :: l => match strN l with
  | some r => some (a :: r)
  | none => none
theorem strN_eq : ∀ {l r : List Nat}, strN l = some r → l = r
 | [], r, h => by cases h; rfl
 | a :: l, r, h => by
  simp only [strN] at h
  split at h
  ·rename_i q hq; cases h; rw [strN_eq hq]
  ·cases h
def strE : Env → Option Env
 | [] => some []
 | (i, s) :: l => match strE l with
  | some r => some ((i, s) :: r)
  | none => none
theorem strE_eq : ∀ {l r : Env}, strE l = some r → l = r
 | [], r, h => by cases h; rfl
 | (i, s) :: l, r, h => by
  simp only [strE] at h
  split at h
  ·rename_i q hq; cases h; rw [strE_eq hq]
  ·cases h
def edgesA (o : Oper) : List Nat := (o.after.toList.filter (Region.binds .any)).map (·.on)
def regOk (ks : List Nat) (all : Array Oper) : Bool :=
 (List.range all.size).all fun i => match all[i]? with
  | some o => (edgesA o).all (fun e => decide (e < i)) && (match o.op with | .select _ _ => false | .defer _ => false | _ => true) &&
   (List.range all.size).all fun j => match all[j]? with
    | some o' => (match o'.dst with
     | some t => (ks.contains t || !(o.looksAt all).contains t || (edgesA o).contains j) && (decide (i = j) || decide (o.dst ≠ some t))
     | none => true)
    | none => true
  | none => false
structure Pd where
 i : Nat
 d : Nat
 sv : Option (Sym × Value)
def penv : List Pd → Env
 | [] => []
 | p :: l => match p.sv with
  | some (s, _) => (p.d, s) :: penv l
  | none => penv l
def Exd (p : Pd) (a : Act) : Prop := ∀ s v, p.sv = some (s, v) → a.tmps[p.d]? = some v
structure PdOk (C : Ctx) (ks : List Nat) (all : Array Oper) (E : Env) (ι : Ids) (L : List Ent) (G : PH) (pend : List Pd) (p : Pd) : Prop where
 ex : ∃ o, all[p.i]? = some o ∧ o.dst = some p.d ∧ p.d < C.n ∧ look p.d E = none ∧ p.d ∉ ks ∧
  match p.sv with
  | some (s, v) => denO ι s = some v ∧ guardOf all (penv pend ++ E) o.guard = .on ∧ ∀ a w, AgE ι (penv pend ++ E) a → SatW C ι L G w → (execOp a.eval o).run C.P w = .ok (.value v) w
  | none => guardOf all (penv pend ++ E) o.guard = .off
def cntF (listed : Array Bool) : Nat := listed.toList.count false
def DR (C : Ctx) (all : Array Oper) (k : List It) (R : List Nat) (pend : List Pd) (a : Act) (w : World) : Prop :=
 ∀ fuel (listed : Array Bool), listed.size = all.size → (∀ i : Nat, listed[i]? = some false → i ∈ R ∨ ∃ p ∈ pend, p.i = i) → (∀ i ∈ R, listed[i]? = some false) → (∀ p ∈ pend, listed[p.i]? = some true → Exd p a) → cntF listed ≤ fuel →
  wpAnyIn (FW C.r) 0 C.P .any all (wpE C k) fuel listed a w
theorem look_append {i : Nat} {A B : Env} : look i (A ++ B) = match look i A with | some s => some s | none => look i B := by
 induction A with
 | nil => rfl
 | cons x A ih =>
  obtain ⟨j, s⟩ := x
  simp only [List.cons_append, look]
  split
  ·rfl
  ·exact ih
theorem look_penv {i : Nat} {s : Sym} {pend : List Pd} (h : look i (penv pend) = some s) : ∃ p ∈ pend, ∃ v, p.d = i ∧ p.sv = some (s, v) := by
 induction pend with
 | nil => cases h
 | cons p l ih =>
  simp only [penv] at h
  split at h
  ·rename_i s' v hsv
   simp only [look] at h
   split at h
   ·rename_i e; cases h; exact ⟨p, List.mem_cons_self .., v, e.symm, hsv⟩
   ·obtain ⟨q, hq, h'⟩ := ih h; exact ⟨q, List.mem_cons_of_mem _ hq, h'⟩
  ·obtain ⟨q, hq, h'⟩ := ih h; exact ⟨q, List.mem_cons_of_mem _ hq, h'⟩
theorem regOk_at {ks : List Nat} {all : Array Oper} (h : regOk ks all = true) {i : Nat} {o : Oper} (hi : all[i]? = some o) : (∀ e ∈ edgesA o, e < i) ∧ (∀ cs b, o.op ≠ .select cs b) ∧ (∀ c, o.op ≠ .defer c) ∧
  ∀ j o' t, all[j]? = some o' → o'.dst = some t → (t ∉ ks → t ∈ o.looksAt all → j ∈ edgesA o) ∧ (i ≠ j → o.dst ≠ some t) := by
 have hlt := (Array.getElem?_eq_some_iff.1 hi).1
 have h1 := List.all_eq_true.1 h i (List.mem_range.2 hlt)
 rw [hi] at h1
 simp only [Bool.and_eq_true] at h1
 obtain ⟨⟨h2, h3⟩, h4⟩ := h1
 refine ⟨fun e he => by simpa using List.all_eq_true.1 h2 e he, ?_, ?_, ?_⟩
 ·intro cs b e; rw [e] at h3; cases h3
 ·intro c e; rw [e] at h3; cases h3
 ·intro j o' t hj ht
  have hjl := (Array.getElem?_eq_some_iff.1 hj).1
  have h5 := List.all_eq_true.1 h4 j (List.mem_range.2 hjl)
  rw [hj] at h5
  simp only [ht, Bool.and_eq_true, Bool.or_eq_true, Bool.not_eq_true', decide_eq_true_eq] at h5
  refine ⟨fun hks hm => ?_, fun hne => ?_⟩
  ·rcases h5.1 with (h6 | h6) | h6
   ·exact absurd (by simpa using h6) hks
   ·have : (o.looksAt all).contains t = true := by simpa using hm
    rw [this] at h6; cases h6
   ·simpa using h6
  ·rcases h5.2 with h6 | h6
   ·exact absurd h6 hne
   ·exact h6
theorem ready_mem {ops : Array Oper} {listed : Array Bool} (hs : listed.size = ops.size) {i : Nat} (h : i ∈ Region.ready .any ops listed) : ∃ o, ops[i]? = some o ∧ listed[i]? = some false ∧ ∀ e ∈ edgesA o, listed[e]? = some true := by
 unfold Region.ready at h
 rw [List.mem_filter] at h
 obtain ⟨h1, h2⟩ := h
 have hlt : i < ops.size := List.mem_range.1 h1
 simp only [Bool.and_eq_true, Bool.not_eq_true'] at h2
 obtain ⟨h3, h4⟩ := h2
 refine ⟨ops[i], Array.getElem?_eq_getElem hlt, ?_, ?_⟩
 ·rw [Array.getElem?_eq_getElem (by omega)]
  simp only [Array.getD_eq_getD_getElem?, Array.getElem?_eq_getElem (show i < listed.size by omega), Option.getD_some] at h3
  rw [h3]
 ·intro e he
  unfold edgesA at he
  obtain ⟨x, hx, rfl⟩ := List.mem_map.1 he
  obtain ⟨hx1, hx2⟩ := List.mem_filter.1 hx
  rw [Array.getElem?_eq_getElem hlt] at h4
  simp only [Option.map_some, Option.getD_some, Array.all_eq_true_iff_forall_mem] at h4
  have := h4 x (by simpa using hx1)
  rw [hx2] at this
  simp only [Bool.not_true, Bool.false_or, Array.getD_eq_getD_getElem?] at this
  cases hq : listed[x.on]? with
  | none => rw [hq] at this; cases this
  | some b => rw [hq] at this; simp at this; rw [this]
theorem ready_ne {ks : List Nat} {ops : Array Oper} {listed : Array Bool} (hok : regOk ks ops = true) (hs : listed.size = ops.size) (h : Region.ready .any ops listed = []) : ∀ i : Nat, listed[i]? ≠ some false := by
 intro i
 induction i using Nat.strongRecOn with
 | _ i ih =>
  intro hi
  have hlt : i < ops.size := by rw [← hs]; exact (Array.getElem?_eq_some_iff.1 hi).1
  have : i ∈ Region.ready .any ops listed := by
   unfold Region.ready
   rw [List.mem_filter]
   refine ⟨List.mem_range.2 hlt, ?_⟩
   simp only [Bool.and_eq_true, Bool.not_eq_true', Array.getElem?_eq_getElem hlt, Option.map_some, Option.getD_some, Array.getD_eq_getD_getElem?, hi]
   refine ⟨trivial, ?_⟩
   rw [Array.all_eq_true_iff_forall_mem]
   intro x hx
   cases hb : Region.binds .any x with
   | false => rfl
   | true =>
    simp only [Bool.not_true, Bool.false_or]
    have hlt' := (regOk_at hok (Array.getElem?_eq_getElem hlt)).1 x.on (by
     unfold edgesA
     exact List.mem_map.2 ⟨x, List.mem_filter.2 ⟨by simpa using hx, hb⟩, J⟩)
    have := ih x.on hlt'
    have hx2 : x.on < listed.size := by omega
    rw [Array.getElem?_eq_getElem hx2] at this ⊢
    simp at this ⊢
    exact this
  rw [h] at this
  cases this
theorem count_set_false : ∀ (l : List Bool) (i : Nat), l[i]? = some false → (l.set i true).count false + 1 = l.count false := by
 intro l
 induction l with
 | nil => intro i h; simp at h
 | cons x l ih =>
  intro i h
  cases i with
  | zero => simp at h; subst h; simp
  | succ i =>
   have := ih i (by simpa using h)
   simp only [List.set_cons_succ, List.count_cons]
   omega
theorem cntF_set {listed : Array Bool} {i : Nat} (h : listed[i]? = some false) : cntF (listed.setIfInBounds i true) + 1 = cntF listed := by
 unfold cntF
 simp only [Array.toList_setIfInBounds]
 exact count_set_false _ _ (by simpa using h)
theorem wpIn_put {F : Fence} {n : Nat} {P : Program} {o : Oper} {a : Act} {w : World} {K : Act → World → Prop} {Q Q' : Exit → Act → World → Prop} (hnd : ∀ c, o.op ≠ .defer c)
  (hQ : ∀ e a w, e ≠ .normal → Q e a w → Q' e a w) {K' : Act → World → Prop} (hK : ∀ a' v w', a'.tmps = (a.put o.dst v).tmps → K a' w' → K' a' w') (h : o.wpIn F n P a w K Q) : o.wpIn F n P a w K' Q' := by
 obtain ⟨h1, h2⟩ := h
 refine ⟨h1, ?_⟩
 have hlet : LetsOut Q → LetsOut Q' := fun ⟨a, w, q⟩ => ⟨a, w, hQ _ _ _ (by simp) q⟩
 rw [Oper.semAt_eq _ _ _ hnd] at h2 ⊢
 generalize hr : (execOp a.eval o).run P w = r at h2 ⊢
 cases r with
 | ok nx w' =>
  cases nx <;> simp only [Oper.uponIn] at h2 ⊢ <;> first
   | exact hK _ _ _ J h2
   | exact hK _ undef _ (by cases o.dst <;> rfl) h2
   | exact ⟨h2.1, CallsIn.mono h2.2 fun e w'' he => by cases e <;> first | exact hK _ _ _ J he | exact hQ _ _ _ (by simp) he | exact hlet he⟩
   | exact ⟨h2.1, RowsIn.mono h2.2 fun v w'' he => hK _ _ _ J he⟩
   | exact ⟨h2.1, RoundIn.mono h2.2 fun e w'' he => by cases e <;> first | exact hK _ _ _ J he | exact hQ _ _ _ (by simp) he | exact hlet he⟩
   | exact h2
 | halt x w' => cases x <;> simp only [Oper.uponIn] at h2 ⊢ <;> first | exact hQ _ _ _ (by simp) h2 | exact h2
def full (ι : Ids) (E : Env) (a : Act) : Act := { a with tmps := Array.ofFn (n := a.tmps.size) fun i => match look i E with | some s => (denO ι s).getD undef | none => a.tmps[i] }
theorem full_get (ι : Ids) (E : Env) (a : Act) (t : Nat) (ht : t < a.tmps.size) : (full ι E a).tmps[t]? = some (match look t E with | some s => (denO ι s).getD undef | none => a.tmps[t]) := by
 simp [full, ht]
def dropPd (js : List Nat) (pend : List Pd) : List Pd := pend.filter fun p => !js.contains p.i
def takePd (js : List Nat) (pend : List Pd) : List Pd := pend.filter fun p => js.contains p.i
theorem DR_core {C : Ctx} {ks : List Nat} {all : Array Oper} {k : List It} {E : Env} {ι : Ids} {L : List Ent} {G : PH} (hok : regOk ks all = true) {R : List Nat} {pend : List Pd}
  (hp : ∀ p ∈ pend, PdOk C ks all E ι L G pend p) (hdis : ∀ p ∈ pend, p.i ∉ R)
  (hdone : R = [] → X C k (penv pend ++ E) ι L G)
  (hstep : ∀ j ∈ R, ∀ o, all[j]? = some o → (∀ e ∈ edgesA o, e ∉ R) → X C (.ops all [o] :: .stop (DR C all k (R.filter (· ≠ j)) (dropPd (edgesA o) pend)) :: k) (penv (takePd (edgesA o) pend) ++ E) ι L G) :
  X C (.stop (DR C all k R pend) :: k) E ι L G := by
 intro a w h1 h2 h3 h4
 show DR C all k R pend a w
 have hpl : ∀ q ∈ pend, q.i < all.size := fun q hq => by
  obtain ⟨o', ho', _⟩ := (hp q hq).ex
  exact (Array.getElem?_eq_some_iff.1 ho').1
 have hlast : ∀ (a : Act) (listed : Array Bool), DfsOk C G a.defers → a.tmps.size = C.n → AgE ι E a → listed.size = all.size → (∀ i : Nat, listed[i]? ≠ some false) → (∀ i ∈ R, listed[i]? = some false) → (∀ p ∈ pend, listed[p.i]? = some true → Exd p a) → wpE C k .normal a w := by
  intro a listed g1 g2 g3 hsz hall hR hex
  have hRn : R = [] := by
   cases hq : R with
   | nil => rfl
   | cons j l => exact absurd (hR j (by rw [hq]; exact List.mem_cons_self ..)) (hall j)
  refine hdone hRn a w g1 g2 ?_ h4
  intro t s hts
  rw [look_append] at hts
  split at hts
  ·rename_i s' hs'
   cases hts
   obtain ⟨q, hq, v, hqd, hqs⟩ := look_penv hs'
   obtain ⟨o', ho', hd', hlt', hfr, hks, hsv⟩ := (hp q hq).ex
   rw [hqs] at hsv
   refine ⟨v, hsv.1, ?_⟩
   rw [← hqd]
   refine hex q hq ?_ s v hqs
   have hlt := hpl q hq
   have hne := hall q.i
   rw [Array.getElem?_eq_getElem (by omega)] at hne ⊢
   cases hb : listed[q.i] with
   | true => rfl
   | false => rw [hb] at hne; exact absurd J hne
  ·exact g3 t s hts
 intro fuel
 induction fuel generalizing a with
 | zero =>
  intro listed hsz hrem hR hex hc
  have hall : ∀ i : Nat, listed[i]? ≠ some false := by
   intro i hi
   have := cntF_set hi
   omega
  refine ⟨?_, ?_⟩
  ·cases hq : Region.ready .any all listed with
   | nil => rfl
   | cons i l =>
    obtain ⟨o, _, hi, _⟩ := ready_mem hsz (by rw [hq]; exact List.mem_cons_self ..)
    exact absurd hi (hall i)
  ·exact hlast a listed h1 h2 h3 hsz hall hR hex
 | succ fuel ih =>
  intro listed hsz hrem hR hex hc
  refine ⟨?_, ?_⟩
  ·intro hr
   exact hlast a listed h1 h2 h3 hsz (ready_ne hok hsz hr) hR hex
  ·intro i hi
   obtain ⟨o, ho, hl, hed⟩ := ready_mem hsz hi
   obtain ⟨hacy, hnsel, hnd, hssa⟩ := regOk_at hok ho
   unfold wpOpIn
   rw [ho]
   dsimp only
   rcases hrem i hl with hiR | ⟨p, hpm, hpi⟩
   ·-- one that is not pure
    have hx := hstep i hiR o ho (fun e he heR => by have := hed e he; rw [hR e heR] at this; cases this)
    have hag : AgE ι (penv (takePd (edgesA o) pend) ++ E) a := by
     intro t s hts
     rw [look_append] at hts
     split at hts
     ·rename_i s' hs'
      cases hts
      obtain ⟨q, hq, v, hqd, hqs⟩ := look_penv hs'
      unfold takePd at hq
      obtain ⟨hq1, hq2⟩ := List.mem_filter.1 hq
      have hqe : q.i ∈ edgesA o := by simpa using hq2
      obtain ⟨o', ho', hd', hlt', hfr, hks, hsv⟩ := (hp q hq1).ex
      rw [hqs] at hsv
      refine ⟨v, hsv.1, ?_⟩
      rw [← hqd]
      exact hex q hq1 (hed q.i hqe) s v hqs
     ·exact h3 t s hts
    have hw := hx a w h1 h2 hag h4
    have hw' : wpListIn (FW C.r) 0 C.P all (wpE C (.stop (DR C all k (R.filter (· ≠ i)) (dropPd (edgesA o) pend)) :: k)) [o] a w := hw
    unfold wpListIn at hw'
    have hfin : ∀ a' w', (∃ v, a'.tmps = (a.put o.dst v).tmps) → DR C all k (R.filter (· ≠ i)) (dropPd (edgesA o) pend) a' w' → wpAnyIn (FW C.r) 0 C.P .any all (wpE C k) fuel (listed.setIfInBounds i true) a' w' := by
     rintro a' w' ⟨v, ha'⟩ hdr
     have hget : ∀ m, (listed.setIfInBounds i true)[m]? = if m = i then (if i < listed.size then some true else none) else listed[m]? := by
      intro m
      rw [Array.getElem?_setIfInBounds]
      by_cases e : m = i
      ·subst e; simp
      ·rw [if_neg (fun h => e h.symm), if_neg e]
     refine hdr fuel _ (by simp [hsz]) ?_ ?_ ?_ ?_
     ·intro m hm
      rw [hget] at hm
      split at hm
      ·split at hm <;> cases hm
      ·rename_i hmi
       rcases hrem m hm with h' | ⟨q, hq, hqm⟩
       ·exact .inl (List.mem_filter.2 ⟨h', by simpa using hmi⟩)
       ·refine .inr ⟨q, List.mem_filter.2 ⟨hq, ?_⟩, hqm⟩
        simp only [Bool.not_eq_true']
        cases hc' : (edgesA o).contains q.i with
        | false => rfl
        | true =>
         have := hed q.i (by simpa using hc')
         rw [hqm, hm] at this; cases this
     ·intro m hm
      obtain ⟨hm1, hm2⟩ := List.mem_filter.1 hm
      rw [hget, if_neg (by simpa using hm2)]
      exact hR m hm1
     ·intro q hq hql s v' hqs
      unfold dropPd at hq
      obtain ⟨hq1, _⟩ := List.mem_filter.1 hq
      have hqi : q.i ≠ i := fun e => hdis q hq1 (e ▸ hiR)
      rw [hget, if_neg hqi] at hql
      have hold := hex q hq1 hql s v' hqs
      obtain ⟨o', ho', hd', hlt', hfr, hks, hsv⟩ := (hp q hq1).ex
      rw [ha']
      unfold Act.put
      split
      ·rename_i d hd
       simp only [Array.getElem?_setIfInBounds]
       rw [if_neg (by
        rintro rfl
        exact (hssa q.i o' q.d ho' hd').2 (fun e => hqi e.symm) hd)]
       exact hold
      ·exact hold
     ·have := cntF_set hl; omega
    split at hw'
    ·rename_i hwant
     rw [if_pos hwant]
     refine wpIn_put hnd ?_ ?_ hw'
     ·intro e a' w' hne q
      cases e with
      | normal => exact absurd rfl hne
      | _ => exact q
     ·intro a' v w' ha' hk'
      exact hfin a' w' ⟨v, ha'⟩ hk'
    ·rename_i hwant
     rw [if_neg hwant]
     exact ⟨fun _ _ => trivial, hfin _ w ⟨undef, J⟩ hw'.2⟩
   ·-- one that is pure
    subst hpi
    obtain ⟨o', ho', hd, hlt, hfr, hks, hsv⟩ := (hp p hpm).ex
    rw [ho] at ho'; cases ho'
    have hfull : AgE ι (penv pend ++ E) (full ι (penv pend ++ E) a) := by
     intro t s hts
     have hkey : ∃ v, denO ι s = some v ∧ t < a.tmps.size := by
      have hts' := hts
      rw [look_append] at hts'
      split at hts'
      ·rename_i s' hs'
       cases hts'
       obtain ⟨q, hq, v, hqd, hqs⟩ := look_penv hs'
       obtain ⟨oq, hoq, hdq, hltq, hfrq, hksq, hsvq⟩ := (hp q hq).ex
       rw [hqs] at hsvq
       exact ⟨v, hsvq.1, by rw [h2, ← hqd]; exact hltq⟩
      ·obtain ⟨v, hv, ht⟩ := h3 t s hts'
       exact ⟨v, hv, (Array.getElem?_eq_some_iff.1 ht).1⟩
     obtain ⟨v, hv, hlt'⟩ := hkey
     refine ⟨v, hv, ?_⟩
     rw [full_get ι _ a t hlt', hts]
     simp [hv]
    have hsame : ∀ t ∈ o.looksAt all, (full ι (penv pend ++ E) a).tmps[t]? = a.tmps[t]? := by
     intro t ht
     rcases Nat.lt_or_ge t a.tmps.size with hlt' | hge
     ·rw [full_get ι _ a t hlt', Array.getElem?_eq_getElem hlt']
      split
      ·rename_i s hts
       rw [look_append] at hts
       split at hts
       ·rename_i s' hs'
        cases hts
        obtain ⟨q, hq, v, hqd, hqs⟩ := look_penv hs'
        obtain ⟨oq, hoq, hdq, hltq, hfrq, hksq, hsvq⟩ := (hp q hq).ex
        rw [hqs] at hsvq
        have hqe := (hssa q.i oq t hoq (by rw [hdq, hqd])).1 (hqd ▸ hksq) ht
        have hv := hex q hq (hed q.i hqe) s v hqs
        rw [hqd, Array.getElem?_eq_getElem hlt'] at hv
        rw [hsvq.1]
        simpa using hv.symm
       ·obtain ⟨v, hv, hv'⟩ := h3 t s hts
        rw [Array.getElem?_eq_getElem hlt'] at hv'
        rw [hv]
        simpa using hv'.symm
      ·rfl
     ·have e1 : a.tmps[t]? = none := Array.getElem?_eq_none hge
      have e2 : (full ι (penv pend ++ E) a).tmps[t]? = none := Array.getElem?_eq_none (by simpa [full] using hge)
      rw [e1, e2]
    have hexec : execOp (full ι (penv pend ++ E) a).eval o = execOp a.eval o := by
     refine execOp_congr o hnsel fun x hx => ?_
     cases x with
     | tmp t =>
      have : t ∈ o.looksAt all := by
       unfold Oper.looksAt
       refine List.mem_append_left _ ?_
       rw [List.mem_filterMap]
       exact ⟨.tmp t, by simpa using hx, J⟩
      simp only [Act.eval, Array.getD_eq_getD_getElem?, hsame t this]
     | _ => rfl
    have hwanted : Region.wanted o (yielded all a.tmps) = Region.wanted o (yielded all (full ι (penv pend ++ E) a).tmps) := by
     unfold Region.wanted
     cases hg : o.guard with
     | none => rfl
     | some x =>
      obtain ⟨j, b⟩ := x
      have : yielded all a.tmps j = yielded all (full ι (penv pend ++ E) a).tmps j := by
       unfold yielded
       cases hj : (all[j]?).bind (·.dst) with
       | none => rfl
       | some t =>
        have : t ∈ o.looksAt all := by
         unfold Oper.looksAt
         refine List.mem_append_right _ ?_
         simp [hg, hj]
        simp only [Option.bind_some, hsame t this]
      dsimp only
      rw [this]
    have hgo : ∀ v, (∀ q ∈ pend, q.i = p.i → ∀ s v', q.sv = some (s, v') → v' = v) → wpAnyIn (FW C.r) 0 C.P .any all (wpE C k) fuel (listed.setIfInBounds p.i true) (a.put o.dst v) w := by
     intro v huniq
     have hget : ∀ m, (listed.setIfInBounds p.i true)[m]? = if m = p.i then (if p.i < listed.size then some true else none) else listed[m]? := by
      intro m
      rw [Array.getElem?_setIfInBounds]
      by_cases e : m = p.i
      ·subst e; simp
      ·rw [if_neg (fun h => e h.symm), if_neg e]
     refine ih (a.put o.dst v) ?_ ?_ ?_ _ (by simp [hsz]) ?_ ?_ ?_ ?_
     ·rw [hd]; exact h1
     ·rw [hd]; simp [Act.put, h2]
     ·exact h3.put_undef (fun t ht => by rw [hd] at ht; cases ht; exact hfr)
     ·intro m hm
      rw [hget] at hm
      split at hm
      ·split at hm <;> cases hm
      ·exact hrem m hm
     ·intro m hm
      rw [hget, if_neg (fun e => hdis p hpm (by rw [← e]; exact hm))]
      exact hR m hm
     ·intro q hq hql s v' hqs
      obtain ⟨oq, hoq, hdq, hltq, hfrq, hksq, hsvq⟩ := (hp q hq).ex
      by_cases e : q.i = p.i
      ·have := huniq q hq e s v' hqs
       subst this
       rw [e, ho] at hoq; cases hoq
       have hdd : q.d = p.d := by rw [hd] at hdq; injection hdq with h; exact h.symm
       rw [hd, hdd]
       simp only [Act.put, Array.getElem?_setIfInBounds]
       simp [h2, hlt]
      ·rw [hget, if_neg e] at hql
       have hold := hex q hq hql s v' hqs
       rw [hd]
       simp only [Act.put, Array.getElem?_setIfInBounds]
       rw [if_neg (by
        intro e'
        exact (hssa q.i oq q.d hoq hdq).2 (fun e2 => e e2.symm) (by rw [hd, e']))]
       exact hold
     ·have := cntF_set hl; omega
    cases hsv' : p.sv with
    | none =>
     rw [hsv'] at hsv
     have hoff := guardOf_off hfull hsv
     rw [← hwanted] at hoff
     rw [if_neg (by simp [hoff])]
     refine ⟨fun _ _ => trivial, hgo undef fun q hq e s v' hqs => ?_⟩
     obtain ⟨oq, hoq, hdq, hltq, hfrq, hksq, hsvq⟩ := (hp q hq).ex
     rw [e, ho] at hoq; cases hoq
     rw [hqs] at hsvq
     rw [hsvq.2.1] at hsv; cases hsv
    | some x =>
     obtain ⟨s, v⟩ := x
     rw [hsv'] at hsv
     obtain ⟨hv, hon, hrun⟩ := hsv
     have hon' := guardOf_on hfull hon
     rw [← hwanted] at hon'
     rw [if_pos hon']
     refine ⟨fun _ _ => trivial, ?_⟩
     have hr := hrun _ w hfull h4
     rw [hexec] at hr
     rw [Oper.semAt_eq _ _ _ hnd, hr]
     refine hgo v fun q hq e s' v' hqs => ?_;obtain ⟨oq, hoq, hdq, hltq, hfrq, hksq, hsvq⟩ := (hp q hq).ex
     rw [e, ho] at hoq; cases hoq
     rw [hqs] at hsvq
     have hr' := hsvq.2.2 _ w hfull h4
     rw [hexec, hr] at hr'
     injection hr' with hr' _
     injection hr' with hr'
     exact hr'.symm
def D (C : Ctx) (ks : List Nat) (all : Array Oper) (k : List It) (R : List Nat) (pend : List Pd) (E : Env) (ι : Ids) (L : List Ent) (G : PH) : Prop :=
 regOk ks all = true → (∀ p ∈ pend, PdOk C ks all E ι L G pend p) → (∀ p ∈ pend, p.i ∉ R) → X C (.stop (DR C all k R pend) :: k) E ι L G
def dropE (ds : List Nat) : Env → Env
 | [] => []
 | (i, s) :: E => match memN i ds with
  | true => dropE ds E
  | false => (i, s) :: dropE ds E
theorem memN_false {i : Nat} {l : List Nat} (h : memN i l = false) : i ∉ l := by
 induction l with
 | nil => simp
 | cons j l ih =>
  simp only [memN] at h
  split at h
  ·cases h
  ·rename_i hb
   have hne : i ≠ j := fun e => by subst e; simp at hb
   simp only [List.mem_cons, not_or]
   exact ⟨hne, ih h⟩
theorem look_dropE {ds : List Nat} {E : Env} {i : Nat} {s : Sym} (h : look i (dropE ds E) = some s) : look i E = some s ∧ i ∉ ds := by
 induction E with
 | nil => cases h
 | cons x E ih =>
  obtain ⟨j, s'⟩ := x
  simp only [dropE] at h
  split at h
  ·rename_i hm
   obtain ⟨h1, h2⟩ := ih h
   by_cases e : i = j
   ·subst e; exact absurd (memN_eq hm) h2
   ·exact ⟨by simp only [look, if_neg e]; exact h1, h2⟩
  ·rename_i hm
   simp only [look] at h ⊢
   split
   ·rename_i e; rw [if_pos e] at h; subst e; exact ⟨h, memN_false hm⟩
   ·rename_i e; rw [if_neg e] at h; exact ih h
def strictDsts : List Oper → List Nat
 | [] => []
 | o :: l => match o.dst with
  | some d => d :: strictDsts l
  | none => strictDsts l
def upto : Nat → List Nat
 | 0 => []
 | n + 1 => upto n ++ [n]
theorem mem_upto {n i : Nat} : i ∈ upto n ↔ i < n := by
 induction n with
 | zero => simp [upto]
 | succ n ih => simp only [upto, List.mem_append, ih, List.mem_singleton]; omega
theorem SatW.drew {C : Ctx} {ι : Ids} {L : List Ent} {G : PH} {w : World} (h : SatW C ι L G w) (n : Nat) : SatW C ι L G { w with drawn := n } := by
 obtain ⟨Ss, ho, hS⟩ := h.own
 refine ⟨h.os, h.tape, h.output, h.size, h.keep, h.emb, Ss, owns_far ho (fun _ => False) (fun _ _ => J) (fun _ _ _ _ h => h), hS⟩
section
variable {C : Ctx} {ks : List Nat} {all : Array Oper} {k : List It} {E : Env} {ι : Ids} {L : List Ent} {G : PH} {R : List Nat} {pend : List Pd}
theorem D_start {id : Nat} {ops : Array Oper} {ds : List Nat} {E' : Env} (hm : C.P.follows .mixedOrders = true) {U : List Nat} (hn : strN (upto ops.size) = some U) (hds : strN (strictDsts ops.toList) = some ds) (hE : strE (dropE ds E) = some E') (hok : regOk [] ops = true) (h : D C [] ops k U [] E' ι L G) : X C (.code (.region id ops true) :: k) E ι L G := by
 intro a w h1 h2 h3 h4
 have hE := strE_eq hE
 have hn := strN_eq hn
 have hx := h hok (fun p hp => by cases hp) (fun p hp => by cases hp) a { w with drawn := w.drawn + 1 } h1 h2 (by
  intro i s hi
  rw [← hE] at hi
  exact h3 i s (look_dropE hi).1) (h4.drew _)
 refine wpIn_region_any hm ?_;refine hx ops.size (Array.replicate ops.size false) (by simp) ?_ ?_ ?_ ?_
 ·intro i hi
  left
  rw [← hn, mem_upto]
  have := (Array.getElem?_eq_some_iff.1 hi).1
  simpa using this
 ·intro i hi
  rw [← hn, mem_upto] at hi
  simp [hi]
 ·intro p hp; cases hp
 ·simp [cntF]
def minusN : List Nat → List Nat → List Nat
 | [], _ => []
 | i :: l, ks => match memN i ks with
  | true => minusN l ks
  | false => i :: minusN l ks
theorem D_startK (ks : List Nat) {id : Nat} {ops : Array Oper} {ds : List Nat} {E' : Env} (hm : C.P.follows .mixedOrders = true) {U : List Nat} (hn : strN (upto ops.size) = some U) (hds : strN (minusN (strictDsts ops.toList) ks) = some ds) (hE : strE (dropE ds E) = some E') (hok : regOk ks ops = true) (h : D C ks ops k U [] E' ι L G) : X C (.code (.region id ops true) :: k) E ι L G := by
 intro a w h1 h2 h3 h4
 have hE := strE_eq hE
 have hn := strN_eq hn
 have hx := h hok (fun p hp => by cases hp) (fun p hp => by cases hp) a { w with drawn := w.drawn + 1 } h1 h2 (by
  intro i s hi
  rw [← hE] at hi
  exact h3 i s (look_dropE hi).1) (h4.drew _)
 refine wpIn_region_any hm ?_;refine hx ops.size (Array.replicate ops.size false) (by simp) ?_ ?_ ?_ ?_
 ·intro i hi
  left
  rw [← hn, mem_upto]
  have := (Array.getElem?_eq_some_iff.1 hi).1
  simpa using this
 ·intro i hi
  rw [← hn, mem_upto] at hi
  simp [hi]
 ·intro p hp; cases hp
 ·simp [cntF]
theorem DD (h : X C k (penv pend ++ E) ι L G) : D C ks all k [] pend E ι L G :=
 fun hok hp hd => DR_core hok hp hd (fun _ => h) (fun j hj => by cases hj)
theorem D_take (i : Nat) {o : Oper} {d : Nat} {s : Sym} {v : Value} (hks : d ∉ ks) (hi : i ∈ R) (ho : all[i]? = some o) (hd : o.dst = some d) (hN : d < C.n) (hf : look d E = none) (hg : guardOf all (penv pend ++ E) o.guard = .on) (hfp : look d (penv pend) = none)
  (hs : denO ι s = some v) (hr : ∀ a w, AgE ι (penv pend ++ E) a → SatW C ι L G w → (execOp a.eval o).run C.P w = .ok (.value v) w)
  (h : D C ks all k (R.filter (· ≠ i)) (⟨i, d, some (s, v)⟩ :: pend) E ι L G) : D C ks all k R pend E ι L G := by
 intro hok hp hdis
 have hnone : look d (penv pend ++ E) = none := by rw [look_append, hfp]; exact hf
 have hmono : ∀ t s', look t (penv pend ++ E) = some s' → look t (penv (⟨i, d, some (s, v)⟩ :: pend) ++ E) = some s' := by
  intro t s' ht
  have hne : t ≠ d := fun e => by rw [e, hnone] at ht; cases ht
  simp only [penv, List.cons_append, look, if_neg hne]
  exact ht
 have hag : ∀ a, AgE ι (penv (⟨i, d, some (s, v)⟩ :: pend) ++ E) a → AgE ι (penv pend ++ E) a := fun a ha t s' ht => ha t s' (hmono t s' ht)
 have hgd : ∀ (g : Option (Nat × Bool)) (r : Gd), r ≠ .open_ → guardOf all (penv pend ++ E) g = r → guardOf all (penv (⟨i, d, some (s, v)⟩ :: pend) ++ E) g = r :=
  fun g r hr hg => guardOf_mono (fun i s _ h => hmono i s h) hr hg
 have hx := h hok ?_ ?_
 ·intro a w h1 h2 h3 h4
  have hdr : DR C all k (R.filter (· ≠ i)) (⟨i, d, some (s, v)⟩ :: pend) a w := hx a w h1 h2 h3 h4
  show DR C all k R pend a w
  intro fuel listed hsz hrem hR hex hc
  refine hdr fuel listed hsz ?_ ?_ ?_ hc
  ·intro m hm
   rcases hrem m hm with h' | ⟨q, hq, hqm⟩
   ·by_cases e : m = i
    ·exact .inr ⟨_, List.mem_cons_self .., e.symm⟩
    ·exact .inl (List.mem_filter.2 ⟨h', by simpa using e⟩)
   ·exact .inr ⟨q, List.mem_cons_of_mem _ hq, hqm⟩
  ·intro m hm
   exact hR m (List.mem_filter.1 hm).1
  ·intro q hq hql
   rcases List.mem_cons.1 hq with rfl | hq
   ·have := hR i hi
    dsimp only at hql
    rw [this] at hql; cases hql
   ·exact hex q hq hql
 ·intro q hq
  rcases List.mem_cons.1 hq with rfl | hq
  ·exact ⟨o, ho, hd, hN, hf, hks, hs, hgd _ _ (by simp) hg, fun a w ha hw => hr a w (hag a ha) hw⟩
  ·obtain ⟨o', ho', hd', hlt', hfr, hks, hsv⟩ := (hp q hq).ex
   refine ⟨o', ho', hd', hlt', hfr, hks, ?_⟩
   cases hqs : q.sv with
   | none => rw [hqs] at hsv; exact hgd _ _ (by simp) hsv
   | some y =>
    obtain ⟨s', v'⟩ := y
    rw [hqs] at hsv
    exact ⟨hsv.1, hgd _ _ (by simp) hsv.2.1, fun a w ha hw => hsv.2.2 a w (hag a ha) hw⟩
 ·intro q hq hqR
  rcases List.mem_cons.1 hq with rfl | hq
  ·have := (List.mem_filter.1 hqR).2; simp at this
  ·exact hdis q hq (List.mem_filter.1 hqR).1
end
end
section
def strP : List Pd → Option (List Pd)
  | [] => some []
  | p :: l => match strP l with
    | some r => some (p :: r)
    | none => none
theorem strP_eq : ∀ {l r : List Pd}, strP l = some r → l = r
  | [], r, h => by cases h; rfl
  | p :: l, r, h => by
    simp only [strP] at h
    split at h
    · rename_i q hq; cases h; rw [strP_eq hq]
    · cases h
def nthOp : Nat → List Oper → Option Oper
  | _, [] => none
  | 0, o :: _ => some o
  | n + 1, _ :: l => nthOp n l
theorem nthOp_eq {n : Nat} {l : List Oper} {o : Oper} (h : nthOp n l = some o) : l[n]? = some o := by
  induction n generalizing l with
  | zero => cases l <;> simp_all [nthOp]
  | succ n ih =>
    cases l with
    | nil => simp [nthOp] at h
    | cons x l => simp only [nthOp] at h; simpa using ih h
def clearOf (R : List Nat) : List Edge → Bool
  | [] => true
  | e :: l => match Region.binds .any e with
    | true => match memN e.on R with
      | true => false
      | false => clearOf R l
    | false => clearOf R l
theorem clearOf_eq {R : List Nat} {l : List Edge} (h : clearOf R l = false) : ∃ e ∈ l, Region.binds .any e = true ∧ e.on ∈ R := by
  induction l with
  | nil => cases h
  | cons e l ih =>
    simp only [clearOf] at h
    split at h
    · rename_i hb
      split at h
      · rename_i hm; exact ⟨e, List.mem_cons_self .., hb, memN_eq hm⟩
      · obtain ⟨e', h1, h2⟩ := ih h; exact ⟨e', List.mem_cons_of_mem _ h1, h2⟩
    · obtain ⟨e', h1, h2⟩ := ih h; exact ⟨e', List.mem_cons_of_mem _ h1, h2⟩
def dadv (ks : List Nat) (T : Tab) (N : Nat) (ι : Ids) (all : Array Oper) (L : List Ent) (E : Env) : List Nat → List Nat → List Pd → List Nat × List Pd
  | [], kept, pend => (kept, pend)
  | i :: R, kept, pend =>
    match nthOp i all.toList with
    | none => dadv ks T N ι all L E R (i :: kept) pend
    | some o => match clearOf kept o.after.toList with
      | false => dadv ks T N ι all L E R (i :: kept) pend
      | true => match o.dst with
        | none => dadv ks T N ι all L E R (i :: kept) pend
        | some d => match Nat.ble (d + 1) N with
          | false => dadv ks T N ι all L E R (i :: kept) pend
          | true => match look d E with
            | some _ => dadv ks T N ι all L E R (i :: kept) pend
            | none => match look d (penv pend) with
              | some _ => dadv ks T N ι all L E R (i :: kept) pend
              | none => match memN d ks with
               | true => dadv ks T N ι all L E R (i :: kept) pend
               | false => match guardOf all (penv pend ++ E) o.guard with
                | .on => match pureOp T (penv pend ++ E) L o.op with
                  | none => dadv ks T N ι all L E R (i :: kept) pend
                  | some s => match denO ι s with
                    | none => dadv ks T N ι all L E R (i :: kept) pend
                    | some v => dadv ks T N ι all L E R kept (⟨i, d, some (s, v)⟩ :: pend)
                | .off => dadv ks T N ι all L E R kept (⟨i, d, none⟩ :: pend)
                | .open_ => dadv ks T N ι all L E R (i :: kept) pend
section
variable {C : Ctx} {ks : List Nat} {all : Array Oper} {k : List It} {E : Env} {ι : Ids} {L : List Ent} {G : PH} {R : List Nat} {pend : List Pd}
theorem D_mem {R' : List Nat} (h : ∀ j, j ∈ R ↔ j ∈ R') (hx : D C ks all k R' pend E ι L G) : D C ks all k R pend E ι L G := by
  intro hok hp hdis
  have := hx hok hp (fun p hpm hR => hdis p hpm ((h _).2 hR))
  intro a w h1 h2 h3 h4
  have hdr : DR C all k R' pend a w := this a w h1 h2 h3 h4
  show DR C all k R pend a w
  intro fuel listed hsz hrem hR hex hc
  exact hdr fuel listed hsz (fun i hi => (hrem i hi).imp (h i).1 id) (fun i hi => hR i ((h i).2 hi)) hex hc
theorem D_takeOff (i : Nat) {o : Oper} {d : Nat} (hks : d ∉ ks) (ho : nthOp i all.toList = some o) (hi : i ∈ R) (hd : o.dst = some d) (hN : Nat.ble (d + 1) C.n = true) (hf : look d E = none) (hg : guardOf all (penv pend ++ E) o.guard = .off)
    (h : D C ks all k (R.filter (· ≠ i)) (⟨i, d, none⟩ :: pend) E ι L G) : D C ks all k R pend E ι L G := by
  intro hok hp hdis
  have hx := h hok ?_ ?_
  · intro a w h1 h2 h3 h4
    have hdr : DR C all k (R.filter (· ≠ i)) (⟨i, d, none⟩ :: pend) a w := hx a w h1 h2 h3 h4
    show DR C all k R pend a w
    intro fuel listed hsz hrem hR hex hc
    refine hdr fuel listed hsz ?_ ?_ ?_ hc
    · intro m hm
      rcases hrem m hm with h' | ⟨q, hq, hqm⟩
      · by_cases e : m = i
        · exact .inr ⟨_, List.mem_cons_self .., e.symm⟩
        · exact .inl (List.mem_filter.2 ⟨h', by simpa using e⟩)
      · exact .inr ⟨q, List.mem_cons_of_mem _ hq, hqm⟩
    · intro m hm
      exact hR m (List.mem_filter.1 hm).1
    · intro q hq hql
      rcases List.mem_cons.1 hq with rfl | hq
      · intro s v hsv; cases hsv
      · exact hex q hq hql
  · intro q hq
    rcases List.mem_cons.1 hq with rfl | hq
    · exact ⟨o, by simpa using nthOp_eq ho, hd, Nat.le_of_ble_eq_true hN, hf, hks, hg⟩
    · exact ⟨(hp q hq).ex⟩
  · intro q hq hqR
    rcases List.mem_cons.1 hq with rfl | hq
    · have := (List.mem_filter.1 hqR).2; simp at this
    · exact hdis q hq (List.mem_filter.1 hqR).1
def rev2 : List Nat → List Nat → List Nat
  | [], r => r
  | i :: l, r => rev2 l (i :: r)
theorem mem_rev2 {j : Nat} : ∀ {l r : List Nat}, j ∈ rev2 l r ↔ j ∈ l ∨ j ∈ r := by
  intro l
  induction l with
  | nil => intro r; simp [rev2]
  | cons i l ih =>
    intro r
    simp only [rev2, ih, List.mem_cons]
    constructor
    · rintro (h | h | h)
      · exact .inl (.inr h)
      · exact .inl (.inl h)
      · exact .inr h
    · rintro ((h | h) | h)
      · exact .inr (.inl h)
      · exact .inl h
      · exact .inr (.inr h)
theorem D_adv {T : Tab} (hT : tabOk C.P T) {R1 R' : List Nat} {pend' : List Pd} (hn : R.Nodup) (ha : dadv ks T C.n ι all L E R [] pend = (R1, pend')) (hv : strN (rev2 R1 []) = some R') (hx0 : D C ks all k R' pend' E ι L G) : D C ks all k R pend E ι L G := by
  have hx : D C ks all k R1 pend' E ι L G := D_mem (fun j => by rw [← strN_eq hv, mem_rev2]; simp) hx0
  have key : ∀ (R kept : List Nat) (pend : List Pd), (R ++ kept).Nodup → dadv ks T C.n ι all L E R kept pend = (R1, pend') → D C ks all k (R ++ kept) pend E ι L G := by
    intro R
    induction R with
    | nil => intro kept pend hn ha; simp only [dadv] at ha; cases ha; exact hx
    | cons i R ih =>
      intro kept pend hn ha
      have hmove : ∀ j, j ∈ (i :: R) ++ kept ↔ j ∈ R ++ (i :: kept) := by
        intro j; simp only [List.cons_append, List.mem_cons, List.mem_append]; constructor <;> (rintro (h | h | h) <;> simp [h])
      have hn' : (R ++ (i :: kept)).Nodup := by
        rw [List.nodup_append] at hn ⊢
        obtain ⟨h2, h3, h4⟩ := hn
        obtain ⟨h5, h6⟩ := List.nodup_cons.1 h2
        refine ⟨h6, List.nodup_cons.2 ⟨fun hm => h4 i (List.mem_cons_self ..) i hm J, h3⟩, ?_⟩
        intro x hx y hy
        rcases List.mem_cons.1 hy with rfl | hy
        · rintro rfl; exact h5 hx
        · exact h4 x (List.mem_cons_of_mem _ hx) y hy
      have stay : dadv ks T C.n ι all L E R (i :: kept) pend = (R1, pend') → D C ks all k ((i :: R) ++ kept) pend E ι L G := fun h => D_mem hmove (ih _ _ hn' h)
      simp only [dadv] at ha
      split at ha
      · exact stay ha
      · rename_i o ho
        split at ha
        · exact stay ha
        · split at ha
          · exact stay ha
          · rename_i d hd
            split at ha
            · exact stay ha
            · rename_i hle
              split at ha
              · exact stay ha
              · rename_i hfr
                split at ha
                · exact stay ha
                · rename_i hfp
                  split at ha
                  next => exact stay ha
                  rename_i hks
                  split at ha
                  · rename_i hg
                    split at ha
                    · exact stay ha
                    · rename_i s hs
                      split at ha
                      · exact stay ha
                      · rename_i v hv
                        have hn0 : (i :: (R ++ kept)).Nodup := by simpa only [List.cons_append] using hn
                        have hi : i ∉ R ++ kept := (List.nodup_cons.1 hn0).1
                        have hn2 : (R ++ kept).Nodup := (List.nodup_cons.1 hn0).2
                        have ho' : all[i]? = some o := by simpa using nthOp_eq ho
                        refine D_take i (memN_false hks) (o := o) (d := d) (s := s) (v := v) (by simp) ho' hd (Nat.le_of_ble_eq_true hle) hfr hg hfp hv ?_ ?_
                        · intro a w hag hw
                          obtain ⟨Ss, hown, _⟩ := hw.own
                          obtain ⟨dst, op, ty, pos, af, g⟩ := o
                          simp only at hd hs
                          subst hd
                          obtain ⟨v', hv', hr⟩ := pureOp_sound hT hag hown hs (some d) ty pos af g
                          rw [hv] at hv'; cases hv'
                          exact hr
                        · refine D_mem (R' := R ++ kept) ?_ (ih _ _ hn2 ha)
                          intro j
                          simp only [List.cons_append, List.mem_filter, List.mem_cons, decide_eq_true_eq]
                          constructor
                          · rintro ⟨h1 | h1, h2⟩
                            · exact absurd h1 (by simpa using h2)
                            · exact h1
                          · intro h1
                            refine ⟨.inr h1, ?_⟩
                            simp only [ne_eq, decide_not, Bool.not_eq_true', decide_eq_false_iff_not]
                            rintro rfl
                            exact hi h1
                  · rename_i hg
                    have hn0 : (i :: (R ++ kept)).Nodup := by simpa only [List.cons_append] using hn
                    have hi : i ∉ R ++ kept := (List.nodup_cons.1 hn0).1
                    have hn2 : (R ++ kept).Nodup := (List.nodup_cons.1 hn0).2
                    refine D_takeOff i (memN_false hks) ho (by simp) hd hle hfr hg ?_;refine D_mem (R' := R ++ kept) ?_ (ih _ _ hn2 ha)
                    intro j
                    simp only [List.cons_append, List.mem_filter, List.mem_cons, decide_eq_true_eq]
                    constructor
                    · rintro ⟨h1 | h1, h2⟩
                      · exact absurd h1 (by simpa using h2)
                      · exact h1
                    · intro h1
                      refine ⟨.inr h1, ?_⟩
                      simp only [ne_eq, decide_not, Bool.not_eq_true', decide_eq_false_iff_not]
                      rintro rfl
                      exact hi h1
                  · exact stay ha
  have := key R [] pend (by simpa using hn) ha
  simpa using this
def soleB (all : Array Oper) (R : List Nat) (j : Nat) : List Nat → Bool
  | [] => true
  | i :: l => match Nat.beq i j with
    | true => soleB all R j l
    | false => match nthOp i all.toList with
      | some o => match clearOf R o.after.toList with
        | true => false
        | false => soleB all R j l
      | none => false
theorem soleB_eq {j : Nat} : ∀ {l : List Nat}, soleB all R j l = true → ∀ i ∈ l, ∀ o, all[i]? = some o → (∀ e ∈ edgesA o, e ∉ R) → i = j := by
  intro l
  induction l with
  | nil => intro _ i hi; cases hi
  | cons x l ih =>
    intro h i hi o ho he
    simp only [soleB] at h
    split at h
    · rename_i hb
      rcases List.mem_cons.1 hi with rfl | hi
      · exact Nat.eq_of_beq_eq_true hb
      · exact ih h i hi o ho he
    · split at h
      · rename_i o' ho'
        split at h
        · cases h
        · rename_i hc
          rcases List.mem_cons.1 hi with rfl | hi
          · have ho'' : all[i]? = some o' := by simpa using nthOp_eq ho'
            rw [ho] at ho''; cases ho''
            obtain ⟨e, h1, h2, h3⟩ := clearOf_eq hc
            exact absurd h3 (he e.on (List.mem_map.2 ⟨e, List.mem_filter.2 ⟨h1, h2⟩, J⟩))
          · exact ih h i hi o ho he
      · cases h
def remN (j : Nat) : List Nat → List Nat
  | [] => []
  | i :: l => match Nat.beq i j with
    | true => remN j l
    | false => i :: remN j l
theorem remN_eq (j : Nat) (l : List Nat) : remN j l = l.filter (· ≠ j) := by
  induction l with
  | nil => rfl
  | cons i l ih =>
    simp only [remN]
    split
    · rename_i hb
      have : i = j := Nat.eq_of_beq_eq_true hb
      subst this
      rw [List.filter_cons_of_neg (by simp)]; exact ih
    · rename_i hb
      have : i ≠ j := fun e => by subst e; simp at hb
      rw [List.filter_cons_of_pos (by simpa using this), ih]
def edgeN : List Edge → List Nat
  | [] => []
  | e :: l => match Region.binds .any e with
    | true => e.on :: edgeN l
    | false => edgeN l
theorem edgeN_eq (o : Oper) : edgeN o.after.toList = edgesA o := by
  unfold edgesA
  generalize o.after.toList = l
  induction l with
  | nil => rfl
  | cons e l ih =>
    simp only [edgeN]
    split
    · rename_i hb; rw [List.filter_cons_of_pos hb, List.map_cons, ih]
    · rename_i hb; rw [List.filter_cons_of_neg (by simp [hb]), ih]
def takeP (js : List Nat) : List Pd → List Pd
  | [] => []
  | p :: l => match memN p.i js with
    | true => p :: takeP js l
    | false => takeP js l
def dropP (js : List Nat) : List Pd → List Pd
  | [] => []
  | p :: l => match memN p.i js with
    | true => dropP js l
    | false => p :: dropP js l
theorem memN_contains (i : Nat) (js : List Nat) : memN i js = js.contains i := by
  cases h : memN i js with
  | true => have := memN_eq h; simp [this]
  | false => have := memN_false h; simp [this]
theorem takeP_eq (js : List Nat) (l : List Pd) : takeP js l = takePd js l := by
  induction l with
  | nil => rfl
  | cons p l ih =>
    unfold takePd at ih ⊢
    simp only [takeP, List.filter_cons, memN_contains]
    cases js.contains p.i <;> simp [ih]
theorem dropP_eq (js : List Nat) (l : List Pd) : dropP js l = dropPd js l := by
  induction l with
  | nil => rfl
  | cons p l ih =>
    unfold dropPd at ih ⊢
    simp only [dropP, List.filter_cons, memN_contains]
    cases js.contains p.i <;> simp [ih]
def Nx (C : Ctx) (ks : List Nat) (all : Array Oper) (k : List It) (R : List Nat) (pend : List Pd) (E : Env) (ι : Ids) (L : List Ent) (G : PH) (j : Nat) : Prop :=
  regOk ks all = true → (∀ p ∈ pend, PdOk C ks all E ι L G pend p) → (∀ p ∈ pend, p.i ∉ R) → ∀ o, all[j]? = some o → X C (.ops all [o] :: .stop (DR C all k (R.filter (· ≠ j)) (dropPd (edgesA o) pend)) :: k) (penv (takePd (edgesA o) pend) ++ E) ι L G
theorem N_eff (j : Nat) {o : Oper} {R' : List Nat} {pend' : List Pd} {E' : Env} (ho : nthOp j all.toList = some o) (hR : strN (remN j R) = some R') (hp' : strP (dropP (edgeN o.after.toList) pend) = some pend') (hE : strE (penv (takeP (edgeN o.after.toList) pend) ++ E) = some E')
    (hx : regOk ks all = true → (∀ p ∈ pend, PdOk C ks all E ι L G pend p) → (∀ p ∈ pend, p.i ∉ R) → X C (.ops all [o] :: .stop (DR C all k R' pend') :: k) E' ι L G) : Nx C ks all k R pend E ι L G j := by
  intro hok hp hdis o' ho'
  have : all[j]? = some o := by simpa using nthOp_eq ho
  rw [this] at ho'; cases ho'
  have hE := strE_eq hE
  have hp' := strP_eq hp'
  have hR := strN_eq hR
  rw [edgeN_eq] at hp' hE
  rw [takeP_eq] at hE
  rw [dropP_eq] at hp'
  rw [remN_eq] at hR
  rw [hR, hp', hE]
  exact hx hok hp hdis
theorem D_sole (j : Nat) (hs : soleB all R j R = true) (hm : memN j R = true) (h : Nx C ks all k R pend E ι L G j) : D C ks all k R pend E ι L G := by
  intro hok hp hdis
  refine DR_core hok hp hdis (fun h => by subst h; simp [memN] at hm) ?_
  intro i hi o' ho' he
  have hij := soleB_eq hs i hi o' ho' he
  subst hij
  exact h hok hp hdis o' ho'
def sole2 (all : Array Oper) (R : List Nat) (j j' : Nat) : List Nat → Bool
  | [] => true
  | i :: l => match Nat.beq i j with
    | true => sole2 all R j j' l
    | false => match Nat.beq i j' with
      | true => sole2 all R j j' l
      | false => match nthOp i all.toList with
        | some o => match clearOf R o.after.toList with
          | true => false
          | false => sole2 all R j j' l
        | none => false
theorem sole2_eq {j j' : Nat} : ∀ {l : List Nat}, sole2 all R j j' l = true → ∀ i ∈ l, ∀ o, all[i]? = some o → (∀ e ∈ edgesA o, e ∉ R) → i = j ∨ i = j' := by
  intro l
  induction l with
  | nil => intro _ i hi; cases hi
  | cons x l ih =>
    intro h i hi o ho he
    simp only [sole2] at h
    split at h
    · rename_i hb
      rcases List.mem_cons.1 hi with rfl | hi
      · exact .inl (Nat.eq_of_beq_eq_true hb)
      · exact ih h i hi o ho he
    · split at h
      · rename_i hb
        rcases List.mem_cons.1 hi with rfl | hi
        · exact .inr (Nat.eq_of_beq_eq_true hb)
        · exact ih h i hi o ho he
      · split at h
        · rename_i o' ho'
          split at h
          · cases h
          · rename_i hc
            rcases List.mem_cons.1 hi with rfl | hi
            · have ho'' : all[i]? = some o' := by simpa using nthOp_eq ho'
              rw [ho] at ho''; cases ho''
              obtain ⟨e, h1, h2, h3⟩ := clearOf_eq hc
              exact absurd h3 (he e.on (List.mem_map.2 ⟨e, List.mem_filter.2 ⟨h1, h2⟩, J⟩))
            · exact ih h i hi o ho he
        · cases h
theorem D_or (j j' : Nat) (hs : sole2 all R j j' R = true) (hm : memN j R = true) (h : Nx C ks all k R pend E ι L G j) (h' : Nx C ks all k R pend E ι L G j') : D C ks all k R pend E ι L G := by
  intro hok hp hdis
  refine DR_core hok hp hdis (fun h => by subst h; simp [memN] at hm) ?_
  intro i hi o' ho' he
  rcases sole2_eq hs i hi o' ho' he with rfl | rfl
  · exact h hok hp hdis o' ho'
  · exact h' hok hp hdis o' ho'
end
end
section
def Vl (C : Ctx) (ι : Ids) (E : Env) (L : List Ent) (G : PH) (o : Oper) (v : Value) : Prop := ∀ a w, AgE ι E a → SatW C ι L G w → (execOp a.eval o).run C.P w = .ok (.value v) w
section
variable {C : Ctx} {E : Env} {ι : Ids} {L : List Ent} {G : PH} {d : Option Nat} {ty : Nat} {pos : String} {af : Array Edge} {g : Option (Nat × Bool)}
theorem V_add {x y : Operand} {t t' : Nat} {p q : Int} (hx : ev E x = some (.val (.int .i64 p))) (hy : ev E y = some (.val (.int .i64 q))) (hb : -9223372036854775808 ≤ p + q ∧ p + q ≤ 9223372036854775807) : Vl C ι E L G ⟨d, .binOp .add t x y t', ty, pos, af, g⟩ (.int .i64 (p + q)) := by
 intro a w hE _
 have ex := ev_sound hE hx
 have ey := ev_sound hE hy
 simp only [denO, Option.some.injEq] at ex ey
 simp only [execOp, ← ex, ← ey]
 have hwr : IntKind.i64.wrap (p + q) = p + q := by rw [IntKind.wrap_i64]; omega
 simp [eqGuard, binOp, Op.intArith, hwr]
def w64 (n : Int) : Int := IntKind.i64.wrap n
theorem w64_eq {n : Int} (h : -9223372036854775808 ≤ n ∧ n ≤ 9223372036854775807) : w64 n = n := by unfold w64; rw [IntKind.wrap_i64]; omega
theorem w64_l (a b : Int) : w64 (w64 a + b) = w64 (a + b) := by unfold w64; simp only [IntKind.wrap_i64]; omega
theorem w64_r (a b : Int) : w64 (a + w64 b) = w64 (a + b) := by unfold w64; simp only [IntKind.wrap_i64]; omega
theorem V_addW {x y : Operand} {t t' : Nat} {p q : Int} (hx : ev E x = some (.val (.int .i64 p))) (hy : ev E y = some (.val (.int .i64 q))) : Vl C ι E L G ⟨d, .binOp .add t x y t', ty, pos, af, g⟩ (.int .i64 (w64 (p + q))) := by
 intro a w hE _
 have ex := ev_sound hE hx
 have ey := ev_sound hE hy
 simp only [denO, Option.some.injEq] at ex ey
 simp only [execOp, ← ex, ← ey]
 simp [eqGuard, binOp, Op.intArith, w64]
theorem V_sub {x y : Operand} {t t' : Nat} {p q : Int} (hx : ev E x = some (.val (.int .i64 p))) (hy : ev E y = some (.val (.int .i64 q))) (hb : -9223372036854775808 ≤ p - q ∧ p - q ≤ 9223372036854775807) : Vl C ι E L G ⟨d, .binOp .sub t x y t', ty, pos, af, g⟩ (.int .i64 (p - q)) := by
 intro a w hE _
 have ex := ev_sound hE hx
 have ey := ev_sound hE hy
 simp only [denO, Option.some.injEq] at ex ey
 simp only [execOp, ← ex, ← ey]
 have hwr : IntKind.i64.wrap (p - q) = p - q := by rw [IntKind.wrap_i64]; omega
 simp [eqGuard, binOp, Op.intArith, hwr]
theorem V_mul {x y : Operand} {t t' : Nat} {p q : Int} (hx : ev E x = some (.val (.int .i64 p))) (hy : ev E y = some (.val (.int .i64 q))) (hb : -9223372036854775808 ≤ p * q ∧ p * q ≤ 9223372036854775807) : Vl C ι E L G ⟨d, .binOp .mul t x y t', ty, pos, af, g⟩ (.int .i64 (p * q)) := by
 intro a w hE _
 have ex := ev_sound hE hx
 have ey := ev_sound hE hy
 simp only [denO, Option.some.injEq] at ex ey
 simp only [execOp, ← ex, ← ey]
 have hwr : IntKind.i64.wrap (p * q) = p * q := by rw [IntKind.wrap_i64]; omega
 simp [eqGuard, binOp, Op.intArith, hwr]
theorem V_index {T : Tab} (hT : tabOk C.P T) {t e : Nat} {sz sz' : Nat} {os os' : List Nat} {tk : TK} {x y : Operand} {ad : Addr} {n c : Nat} {i : Int}
  (hx : ev E x = some (.val (.slice (some ad) n c))) (hy : ev E y = some (.val (.int .i64 i))) (ht : lookT t T = some ⟨.slc e, sz', os'⟩) (he : lookT e T = some ⟨tk, sz, os⟩) (h0 : 0 ≤ i) (h1 : i < n) : Vl C ι E L G ⟨d, .indexAddr t x y, ty, pos, af, g⟩ (.pointer (some (ad.add (i.toNat * sz)))) := by
 intro a w hE _
 have ex := ev_sound hE hx
 have ey := ev_sound hE hy
 simp only [denO, Option.some.injEq] at ex ey
 have hu := tyOk_slice (hT _ _ ht) rfl
 simp only [execOp, ← ex, ← ey]
 simp [Instr.indexAt, run_underlying hu, asIntOf, h0, h1, tyOk_size (hT _ _ he)]
theorem V_load {T : Tab} (hT : tabOk C.P T) {t : Nat} {i : TyI} {x : Operand} {ad : Addr} {v : Value} (hx : ev E x = some (.val (.pointer (some ad)))) (ht : lookT t T = some i) (hk0 : i.k.isAgg = false) (hc : gcell G ad = some v) : Vl C ι E L G ⟨d, .load t x, ty, pos, af, g⟩ v := by
 intro a w hE hw
 have ex := ev_sound hE hx
 simp only [denO, Option.some.injEq] at ex
 simp only [execOp, ← ex]
 simp [Instr.loadAt, loadVar, Instr.sureAddr, tyOk_agg (hT _ _ ht), hk0, gcell_emb hw.emb hc]
theorem V_loadA {T : Tab} (hT : tabOk C.P T) {t m : Nat} {os : List Nat} {x : Operand} {ad : Addr} {cs : List Value} (hx : ev E x = some (.val (.pointer (some ad)))) (ht : lookT t T = some ⟨.agg, m, os⟩) (hl : cs.length = m) (hc : gcells G ad cs) : Vl C ι E L G ⟨d, .load t x, ty, pos, af, g⟩ (.agg cs.toArray) := by
 intro a w hE hw
 have ex := ev_sound hE hx
 simp only [denO, Option.some.injEq] at ex
 have hcs := run_loadCells_list (P := C.P) (w := w) ad cs (fun j v hj => gcell_emb hw.emb (gcells_at hc j v hj))
 rw [hl] at hcs
 simp only [execOp, ← ex]
 simp [Instr.loadAt, loadVar, Instr.sureAddr, tyOk_agg (hT _ _ ht), tyOk_size (hT _ _ ht), TK.isAgg, hcs]
end
section
variable {C : Ctx} {ks : List Nat} {all : Array Oper} {k : List It} {E : Env} {ι : Ids} {L : List Ent} {G : PH} {R : List Nat} {pend : List Pd}
theorem D_val (i : Nat) {o : Oper} {d : Nat} {v : Value} {R' : List Nat} (ho : nthOp i all.toList = some o) (hm : memN i R = true) (hd : o.dst = some d) (hks : memN d ks = false) (hN : Nat.ble (d + 1) C.n = true) (hf : look d E = none) (hfp : look d (penv pend) = none) (hg : guardOf all (penv pend ++ E) o.guard = .on) (hR : strN (remN i R) = some R')
  (hr : Vl C ι (penv pend ++ E) L G o v) (h : D C ks all k R' (⟨i, d, some (.val v, v)⟩ :: pend) E ι L G) : D C ks all k R pend E ι L G := by
 refine D_take i (memN_false hks) (memN_eq hm) (by simpa using nthOp_eq ho) hd (Nat.le_of_ble_eq_true hN) hf hg hfp (s := .val v) J hr ?_
 rw [← remN_eq, strN_eq hR]; exact h
end
section
variable {C : Ctx} {ks : List Nat} {all : Array Oper} {k : List It} {E : Env} {ι : Ids} {L : List Ent} {G : PH} {R : List Nat} {pend : List Pd}
theorem PdOk.up {pend' : List Pd} {E' : Env} {ι' : Ids} {L' : List Ent} {G' : PH} {p : Pd} (h : PdOk C ks all E ι L G pend p) (hlit : ∀ i s, Lk s → look i (penv pend ++ E) = some s → look i (penv pend' ++ E') = some s)
  (hag : ∀ a, AgE ι' (penv pend' ++ E') a → AgE ι (penv pend ++ E) a) (hfr : look p.d E' = none) (hden : ∀ s v, denO ι s = some v → denO ι' s = some v) (hsat : ∀ w, SatW C ι' L' G' w → SatW C ι L G w) : PdOk C ks all E' ι' L' G' pend' p := by
 obtain ⟨o, ho, hd, hlt, hf, hks, hsv⟩ := h.ex
 refine ⟨o, ho, hd, hlt, hfr, hks, ?_⟩
 cases hq : p.sv with
 | none => rw [hq] at hsv; exact guardOf_mono hlit (by simp) hsv
 | some x =>
  obtain ⟨s, v⟩ := x
  rw [hq] at hsv
  exact ⟨hden _ _ hsv.1, guardOf_mono hlit (by simp) hsv.2.1, fun a w ha hw => hsv.2.2 a w (hag a ha) (hsat w hw)⟩
def slots : List Pd → List Nat
 | [] => []
 | p :: l => p.d :: slots l
def nodupB : List Nat → Bool
 | [] => true
 | i :: l => match memN i l with
  | true => false
  | false => nodupB l
theorem look_split {js : List Nat} : ∀ {l : List Pd}, nodupB (slots l) = true → ∀ i s, look i (penv l) = some s → look i (penv (dropPd js l)) = some s ∨ (look i (penv (dropPd js l)) = none ∧ look i (penv (takePd js l)) = some s) := by
 intro l
 induction l with
 | nil => intro _ i s h; cases h
 | cons p l ih =>
  intro hn i s h
  simp only [slots, nodupB] at hn
  split at hn
  ·cases hn
  ·rename_i hm
   have hpn : ∀ q ∈ l, q.d ≠ p.d := by
    intro q hq e
    have : p.d ∈ slots l := by
     clear hn hm ih h
     induction l with
     | nil => cases hq
     | cons r l ih =>
      simp only [slots, List.mem_cons]
      rcases List.mem_cons.1 hq with rfl | hq
      ·exact .inl e.symm
      ·exact .inr (ih hq)
    exact memN_false hm this
   have hnone : look p.d (penv (dropPd js l)) = none := by
    cases hq : look p.d (penv (dropPd js l)) with
    | none => rfl
    | some s' =>
     obtain ⟨q, hq1, v, hq2, _⟩ := look_penv hq
     exact absurd hq2 (hpn q (List.mem_filter.1 hq1).1)
   unfold dropPd takePd at ih ⊢
   simp only [List.filter_cons]
   cases hc : js.contains p.i with
   | true =>
    simp only [Bool.not_true, Bool.false_eq_true, if_false, if_true]
    cases hsv : p.sv with
    | none =>
     simp only [penv, hsv] at h ⊢
     exact ih hn i s h
    | some x =>
     simp only [penv, hsv, look] at h ⊢
     split at h
     ·rename_i e
      subst e
      exact .inr ⟨hnone, by rw [if_pos J]; exact h⟩
     ·rename_i e
      rw [if_neg e]
      exact ih hn i s h
   | false =>
    simp only [Bool.not_false, Bool.false_eq_true, if_false, if_true]
    cases hsv : p.sv with
    | none =>
     simp only [penv, hsv] at h ⊢
     exact ih hn i s h
    | some x =>
     simp only [penv, hsv, look] at h ⊢
     split at h
     ·rename_i e; exact .inl (by rw [if_pos e]; exact h)
     ·rename_i e
      rw [if_neg e]
      exact ih hn i s h
theorem penv_none {i : Nat} {l : List Pd} (h : ∀ q ∈ l, q.d ≠ i) : look i (penv l) = none := by
 cases hq : look i (penv l) with
 | none => rfl
 | some s =>
  obtain ⟨q, hq1, v, hq2, _⟩ := look_penv hq
  exact absurd hq2 (h q hq1)
theorem penv_none' {i : Nat} {l : List Pd} {f : Pd → Bool} (h : look i (penv l) = none) : look i (penv (l.filter f)) = none := by
 cases hq : look i (penv (l.filter f)) with
 | none => rfl
 | some s =>
  obtain ⟨q, hq1, v, hq2, hq3⟩ := look_penv hq
  exfalso
  have hqm := (List.mem_filter.1 hq1).1
  clear hq1 hq
  induction l with
  | nil => cases hqm
  | cons r l ih =>
   cases hrs : r.sv with
   | none =>
    simp only [penv, hrs] at h
    rcases List.mem_cons.1 hqm with rfl | hqm
    ·rw [hrs] at hq3; cases hq3
    ·exact ih h hqm
   | some y =>
    simp only [penv, hrs, look] at h
    split at h
    ·cases h
    ·rename_i e
     rcases List.mem_cons.1 hqm with rfl | hqm
     ·exact absurd hq2.symm e
     ·exact ih h hqm
theorem slots_mem {p : Pd} {l : List Pd} (h : p ∈ l) : p.d ∈ slots l := by
 induction l with
 | nil => cases h
 | cons r l ih =>
  simp only [slots, List.mem_cons]
  rcases List.mem_cons.1 h with rfl | h
  ·exact .inl J
  ·exact .inr (ih h)
theorem nodupB_eq {l : List Pd} (h : nodupB (slots l) = true) {p q : Pd} (hp : p ∈ l) (hq : q ∈ l) (hd : p.d = q.d) : p = q := by
 induction l with
 | nil => cases hp
 | cons r l ih =>
  simp only [slots, nodupB] at h
  split at h
  ·cases h
  ·rename_i hm
   have hn := memN_false hm
   rcases List.mem_cons.1 hp with e1 | hp1 <;> rcases List.mem_cons.1 hq with e2 | hq1
   ·exact e1.trans e2.symm
   ·exact absurd (by rw [← e1, hd]; exact slots_mem hq1) hn
   ·exact absurd (by rw [← e2, ← hd]; exact slots_mem hp1) hn
   ·exact ih h hp1 hq1
theorem N_step (j : Nat) {o : Oper} {d : Nat} {R' : List Nat} {pend' : List Pd} {E' : Env} (ho : nthOp j all.toList = some o) (hd : o.dst = some d) (hm : memN j R = true) (hR : strN (remN j R) = some R') (hp' : strP (dropP (edgeN o.after.toList) pend) = some pend') (hE : strE (penv (takeP (edgeN o.after.toList) pend) ++ E) = some E')
  (hnd : nodupB (slots pend) = true) (hf : look d E = none)
  (hx : (∀ (x : Sym) (ι' : Ids) (L' : List Ent) (G' : PH), (∀ s v, denO ι s = some v → denO ι' s = some v) → (∀ a, AgE ι' (penv pend ++ E) a → AgE ι (penv pend ++ E) a) → (∀ w, SatW C ι' L' G' w → SatW C ι L G w) → D C ks all k R' pend' ((d, x) :: E') ι' L' G' → X C (.stop (DR C all k R' pend') :: k) ((d, x) :: E') ι' L' G') →
   X C (.ops all [o] :: .stop (DR C all k R' pend') :: k) E' ι L G) : Nx C ks all k R pend E ι L G j := by
 have hjR := memN_eq hm
 have hj : all[j]? = some o := by simpa using nthOp_eq ho
 refine N_eff j ho hR hp' hE fun hok hp hdis => hx ?_
 intro x ι' L' G' hden hag hsat h
 have hE := strE_eq hE
 have hp' := strP_eq hp'
 have hR := strN_eq hR
 rw [edgeN_eq] at hp' hE
 rw [takeP_eq] at hE
 rw [dropP_eq] at hp'
 rw [remN_eq] at hR
 subst hp' hE hR
 have hpd : ∀ q ∈ pend, q.d ≠ d := by
  intro q hq e
  obtain ⟨oq, hoq, hdq, _⟩ := (hp q hq).ex
  exact ((regOk_at hok hj).2.2.2 q.i oq d hoq (by rw [hdq, e])).2 (fun e' => hdis q hq (e' ▸ hjR)) hd
 have hfp := penv_none hpd
 have hincl : ∀ i s, look i (penv pend ++ E) = some s → look i (penv (dropPd (edgesA o) pend) ++ ((d, x) :: (penv (takePd (edgesA o) pend) ++ E))) = some s := by
  intro i s hi
  have hid : i ≠ d := by
   rintro rfl
   rw [look_append, hfp, hf] at hi; cases hi
  rw [look_append] at hi ⊢
  split at hi
  ·rename_i s' hs'
   cases hi
   rcases look_split (js := edgesA o) hnd i s hs' with h1 | ⟨h1, h2⟩
   ·rw [h1]
   ·rw [h1]
    simp only [look, if_neg hid]
    rw [look_append, h2]
  ·rename_i hn
   have h1 : look i (penv (dropPd (edgesA o) pend)) = none := penv_none' hn
   have h2 : look i (penv (takePd (edgesA o) pend)) = none := penv_none' hn
   rw [h1]
   simp only [look, if_neg hid]
   rw [look_append, h2]
   exact hi
 refine h hok ?_ ?_
 ·intro p hpm
  have hpm' := (List.mem_filter.1 hpm).1
  refine (hp p hpm').up (fun i s _ hi => hincl i s hi) (fun a ha => hag a ?_) ?_ hden hsat
  ·intro i s hi
   exact ha i s (hincl i s hi)
  ·have hne : p.d ≠ d := hpd p hpm'
   simp only [look, if_neg hne]
   rw [look_append]
   have h1 : look p.d (penv (takePd (edgesA o) pend)) = none := by
    refine penv_none fun q hq e => ?_;obtain ⟨hq1, hq2⟩ := List.mem_filter.1 hq
    have := nodupB_eq hnd hq1 hpm' e
    subst this
    have h3 := (List.mem_filter.1 hpm).2
    simp [hq2] at h3
    simp_all
   rw [h1]
   obtain ⟨_, _, _, _, h4, _⟩ := (hp p hpm').ex
   exact h4
 ·intro p hpm hR
  exact hdis p (List.mem_filter.1 hpm).1 (List.mem_filter.1 hR).1
end
end
section
theorem SatW.leG {C : Ctx} {ι : Ids} {L : List Ent} {G G' : PH} {w : World} (hl : G.le G') (h : SatW C ι L G' w) : SatW C ι L G w := by
  obtain ⟨Ss, ho, hS⟩ := h.own
  refine ⟨h.os, h.tape, h.output, h.size, h.keep, fun b o hb => h.emb b o (hl b o hb), Ss, ho, fun S hm b hb => ?_⟩
  obtain ⟨h1, h2⟩ := hS S hm b hb
  refine ⟨?_, h2⟩
  cases hq : G b with
  | none => rfl
  | some o => rw [hl b o hq] at h1; cases h1
def rechk (ks : List Nat) (T : Tab) (N : Nat) (ι : Ids) (all : Array Oper) (L : List Ent) (F E : Env) : List Pd → Option (List Pd)
  | [] => some []
  | p :: l => match nthOp p.i all.toList with
    | none => none
    | some o => match o.dst with
      | none => none
      | some d => match Nat.ble (d + 1) N with
        | false => none
        | true => match look d E with
          | some _ => none
          | none => match memN d ks with
           | true => none
           | false => match guardOf all F o.guard with
            | .on => match pureOp T F L o.op with
              | none => none
              | some s => match denO ι s with
                | none => none
                | some v => match rechk ks T N ι all L F E l with
                  | none => none
                  | some l' => some (⟨p.i, d, some (s, v)⟩ :: l')
            | .off => match rechk ks T N ι all L F E l with
              | none => none
              | some l' => some (⟨p.i, d, none⟩ :: l')
            | .open_ => none
section
variable {C : Ctx} {ks : List Nat} {all : Array Oper} {k : List It} {E : Env} {ι : Ids} {L : List Ent} {G : PH} {R : List Nat} {pend : List Pd}
theorem rechk_sound {T : Tab} (hT : tabOk C.P T) {pend0 : List Pd} (h0 : pend0 = pend) : ∀ (l l' : List Pd), rechk ks T C.n ι all L (penv pend0 ++ E) E l = some l' → ∀ p ∈ l', PdOk C ks all E ι L G pend p := by
  subst h0
  intro l
  induction l with
  | nil => intro l' h p hp; simp only [rechk] at h; cases h; cases hp
  | cons q l ih =>
    intro l' h p hp
    simp only [rechk] at h
    split at h
    · cases h
    · rename_i o ho
      split at h
      · cases h
      · rename_i d hd
        split at h
        · cases h
        · rename_i hN
          split at h
          · cases h
          · rename_i hf
            split at h
            next => cases h
            rename_i hks
            split at h
            · rename_i hg
              split at h
              · cases h
              · rename_i s hs
                split at h
                · cases h
                · rename_i v hv
                  split at h
                  · cases h
                  · rename_i l1 hl1
                    cases h
                    rcases List.mem_cons.1 hp with rfl | hp
                    · refine ⟨o, by simpa using nthOp_eq ho, hd, Nat.le_of_ble_eq_true hN, hf, memN_false hks, hv, hg, ?_⟩
                      intro a w hag hw
                      obtain ⟨Ss, hown, _⟩ := hw.own
                      obtain ⟨dst, op, ty, pos, af, g⟩ := o
                      simp only at hd hs
                      subst hd
                      obtain ⟨v', hv', hr⟩ := pureOp_sound hT hag hown hs (some d) ty pos af g
                      rw [hv] at hv'; cases hv'
                      exact hr
                    · exact ih _ hl1 p hp
            · rename_i hg
              split at h
              · cases h
              · rename_i l1 hl1
                cases h
                rcases List.mem_cons.1 hp with rfl | hp
                · exact ⟨o, by simpa using nthOp_eq ho, hd, Nat.le_of_ble_eq_true hN, hf, memN_false hks, hg⟩
                · exact ih _ hl1 p hp
            · cases h
theorem N_call (j : Nat) {d f : Nat} {xs : Array Operand} {ats : Array TypeId} {ty : Nat} {pos : String} {af : Array Edge} {g : Option (Nat × Bool)} {vs : List Value} {Post : Value → PH → Prop} {R' : List Nat} {pend' : List Pd} {E' : Env}
    (hcf : ∀ args w, (callFunc f args).run C.P w = .ok (.enter f args) w) (hc : Pure C.P f vs G Post)
    (ho : nthOp j all.toList = some ⟨some d, .call ⟨.value (.func f), xs, ats⟩, ty, pos, af, g⟩) (hm : memN j R = true) (hR : strN (remN j R) = some R') (hp' : strP (dropP (edgeN af.toList) pend) = some pend') (hE : strE (penv (takeP (edgeN af.toList) pend) ++ E) = some E')
    (hnd : nodupB (slots pend) = true) (hf : look d E = none) (hg : guardOf all E' g = .on) (hN : Nat.ble (d + 1) C.n = true) (hxs : evs ι E' xs.toList = some vs)
    (hk : ∀ v G', Post v G' → PH.ext C.w0.heap.size G G' → D C ks all k R' pend' ((d, .val v) :: E') ι L G') : Nx C ks all k R pend E ι L G j := by
  refine N_step j ho J hm hR hp' hE hnd hf fun back => ?_;refine S_call hcf hc hg hN hxs fun v G' hp hext => ?_
  intro a w h1 h2 h3 h4
  refine wpE_nil (back (.val v) ι L G' (fun _ _ h => h) (fun a h => h) (fun w hw => hw.leG hext.le) (hk v G' hp hext) a w h1 h2 h3 h4)
theorem N_store {T : Tab} (hT : tabOk C.P T) (j : Nat) {o : Oper} {R' : List Nat} {pend' : List Pd} {E' : Env} {L' : List Ent} (ho : nthOp j all.toList = some o) (hd : o.dst = none) (hm : memN j R = true) (hR : strN (remN j R) = some R') (hp' : strP (dropP (edgeN o.after.toList) pend) = some pend') (hE : strE (penv (takeP (edgeN o.after.toList) pend) ++ E) = some E')
    (hg : guardOf all E' o.guard = .on) (hst : storeOp T E' ι L o.op = some L') (hrc : rechk ks T C.n ι all L' (penv pend' ++ E') E' pend' = some pend') (h : D C ks all k R' pend' E' ι L' G) : Nx C ks all k R pend E ι L G j := by
  have hjR := memN_eq hm
  refine N_eff j ho hR hp' hE fun hok hp hdis => ?_
  intro a w h1 h2 h3 h4
  obtain ⟨dst, op, ty, pos, af, g⟩ := o
  simp only at hd hst
  subst hd
  obtain ⟨w', hr, hw'⟩ := storeOp_sound hT h3 h4 hst ty pos af g
  refine wpE_skipv (guardOf_on h3 hg) (by rintro c rfl; simp [storeOp] at hst) hr ?_;refine wpE_nil (h hok (rechk_sound hT J _ _ hrc) ?_ _ _ h1 h2 h3 hw')
  intro p hpm hR'
  have hp' := strP_eq hp'
  have hR := strN_eq hR
  rw [dropP_eq] at hp'
  rw [remN_eq] at hR
  subst hp' hR
  exact hdis p (List.mem_filter.1 hpm).1 (List.mem_filter.1 hR').1
theorem N_assign {T : Tab} (hT : tabOk C.P T) (j : Nat) {o : Oper} {d : Nat} {s : Sym} {R' : List Nat} {pend' : List Pd} {E' : Env} (ho : nthOp j all.toList = some o) (hd : o.dst = some d) (hm : memN j R = true) (hR : strN (remN j R) = some R') (hp' : strP (dropP (edgeN o.after.toList) pend) = some pend') (hE : strE (penv (takeP (edgeN o.after.toList) pend) ++ E) = some E')
    (hg : guardOf all E' o.guard = .on) (hN : Nat.ble (d + 1) C.n = true) (hst : pureOp T E' L o.op = some s) (hrc : rechk ks T C.n ι all L (penv pend' ++ ((d, s) :: E')) ((d, s) :: E') pend' = some pend') (h : D C ks all k R' pend' ((d, s) :: E') ι L G) : Nx C ks all k R pend E ι L G j := by
  have hjR := memN_eq hm
  refine N_eff j ho hR hp' hE fun hok hp hdis => ?_
  intro a w h1 h2 h3 h4
  obtain ⟨dst, op, ty, pos, af, g⟩ := o
  simp only at hd hst
  subst hd
  obtain ⟨Ss, hown, _⟩ := h4.own
  obtain ⟨v', hv', hr⟩ := pureOp_sound hT h3 hown hst (some d) ty pos af g
  refine wpE_val (guardOf_on h3 hg) (pureOp_nd hst) hr ?_
  have hdn : d < a.tmps.size := by rw [h2]; exact Nat.le_of_ble_eq_true hN
  refine wpE_nil (h hok (rechk_sound hT J _ _ hrc) ?_ _ _ h1 (by simp [Act.put, h2]) (h3.put hdn hv') h4)
  intro p hpm hR'
  have hp' := strP_eq hp'
  have hR := strN_eq hR
  rw [dropP_eq] at hp'
  rw [remN_eq] at hR
  subst hp' hR
  exact hdis p (List.mem_filter.1 hpm).1 (List.mem_filter.1 hR').1
def closedE (ι : Ids) : Env → Bool
  | [] => true
  | (_, s) :: E => match denO ι s with
    | some _ => closedE ι E
    | none => false
theorem closedE_at {ι : Ids} {E : Env} (h : closedE ι E = true) {i : Nat} {s : Sym} (hi : look i E = some s) : ∃ v, denO ι s = some v := by
  induction E with
  | nil => cases hi
  | cons x E ih =>
    obtain ⟨j, t⟩ := x
    simp only [closedE] at h
    split at h
    · rename_i v hv
      simp only [look] at hi
      split at hi
      · cases hi; exact ⟨v, hv⟩
      · exact ih h hi
    · cases h
def closedL (ι : Ids) : List Ent → Bool
  | [] => true
  | .blk _ _ cs :: L => match denL ι cs with
    | some _ => closedL ι L
    | none => false
  | .hp _ _ :: L => closedL ι L
theorem owns_unid {w : World} {d b : Nat} (hd0 : lookI d ι = none) : ∀ {L : List Ent} {Ss : List (Nat → Prop)}, closedL ι L = true → owns ((d, b) :: ι) w L Ss → (∀ S ∈ Ss, ¬ S b) → owns ι w L Ss := by
  intro L
  induction L with
  | nil => intro Ss _ h _; cases Ss with
    | nil => trivial
    | cons => simp [owns] at h
  | cons e L ih =>
    intro Ss hcl h hn
    cases Ss with
    | nil => simp [owns] at h
    | cons S Ss =>
      obtain ⟨h1, h2, h3⟩ := h
      cases e with
      | hp k A => exact ⟨h1, h2, ih hcl h3 fun T hT => hn T (List.mem_cons_of_mem _ hT)⟩
      | blk k t cs =>
        simp only [closedL] at hcl
        split at hcl
        · rename_i us hus
          refine ⟨?_, h2, ih hcl h3 fun T hT => hn T (List.mem_cons_of_mem _ hT)⟩
          obtain ⟨b', vs, hb', hdv, hh, hS⟩ := h1
          rw [denL_ids hus hd0] at hdv
          cases hdv
          refine ⟨b', us, ?_, hus, hh, hS⟩
          simp only [lookI] at hb'
          split at hb'
          · cases hb'
            exact absurd ((hS b).2 J) (hn S (List.mem_cons_self ..))
          · exact hb'
        · cases hcl
theorem SatW.unalloc {w : World} {d t b : Nat} {cs : List Cel} (hd0 : lookI d ι = none) (hcl : closedL ι L = true) (h : SatW C ((d, b) :: ι) (.blk d t cs :: L) G w) : SatW C ι L G w := by
  obtain ⟨Ss, ho, hS⟩ := h.own
  cases Ss with
  | nil => simp [owns] at ho
  | cons S Ss =>
    obtain ⟨⟨b', vs, hb', _, _, hSb⟩, h2, h3⟩ := ho
    simp only [lookI, if_true, Option.some.injEq] at hb'
    subst hb'
    exact ⟨h.os, h.tape, h.output, h.size, h.keep, h.emb, Ss, owns_unid hd0 hcl h3 fun T hT hTb => h2 T hT b ((hSb b).2 J) hTb, fun T hT => hS T (List.mem_cons_of_mem _ hT)⟩
theorem N_new (j : Nat) {o : Oper} {d t : Nat} {cs : List Cel} {x : Nat → Sym} {R' : List Nat} {pend' : List Pd} {E' : Env} (ho : nthOp j all.toList = some o) (hd : o.dst = some d) (hm : memN j R = true) (hR : strN (remN j R) = some R') (hp' : strP (dropP (edgeN o.after.toList) pend) = some pend') (hE : strE (penv (takeP (edgeN o.after.toList) pend) ++ E) = some E')
    (hnd : nodupB (slots pend) = true) (hf : look d E = none) (hd0 : lookI d ι = none) (hcl : closedE ι (penv pend ++ E) = true) (hclL : closedL ι L = true)
    (hx : (∀ b, X C (.ops all [] :: .stop (DR C all k R' pend') :: k) ((d, x b) :: E') ((d, b) :: ι) (.blk d t cs :: L) G) → X C (.ops all [o] :: .stop (DR C all k R' pend') :: k) E' ι L G)
    (h : ∀ b, D C ks all k R' pend' ((d, x b) :: E') ((d, b) :: ι) (.blk d t cs :: L) G) : Nx C ks all k R pend E ι L G j := by
  refine N_step j ho hd hm hR hp' hE hnd hf fun back => hx fun b => ?_
  intro a w h1 h2 h3 h4
  refine wpE_nil (back (x b) _ _ G (fun s v hs => denO_ids hs hd0) ?_ (fun w hw => hw.unalloc hd0 hclL) (h b) a w h1 h2 h3 h4)
  intro a ha i s hi
  obtain ⟨v, hv⟩ := closedE_at hcl hi
  obtain ⟨v', hv', hl⟩ := ha i s hi
  rw [denO_ids hv hd0] at hv'
  cases hv'
  exact ⟨v, hv, hl⟩
end
end
section
section
variable {C : Ctx} {E : Env} {ι : Ids} {L : List Ent} {G : PH} {d : Option Nat} {ty : Nat} {pos : String} {af : Array Edge} {g : Option (Nat × Bool)}
end
def seqP (sz : Nat) : Nat → Nat → List (Nat × Nat)
 | 0, _ => []
 | m + 1, o => (o, sz) :: seqP sz m (o + sz)
theorem seqP_at {sz m o i : Nat} {x : Nat × Nat} (h : (seqP sz m o)[i]? = some x) : x = (o + i * sz, sz) := by
 induction m generalizing o i with
 | zero => simp [seqP] at h
 | succ m ih =>
  cases i with
  | zero => simp [seqP] at h; simp [← h]
  | succ i =>
   have := ih (by simpa [seqP] using h)
   rw [this]; congr 1
   rw [Nat.succ_mul]; omega
def repL : Nat → List Value → List Value
 | 0, _ => []
 | m + 1, zs => zs ++ repL m zs
theorem repL_length (m : Nat) (zs : List Value) : (repL m zs).length = m * zs.length := by
 induction m with
 | zero => simp [repL]
 | succ m ih => simp [repL, ih, Nat.succ_mul]; omega
theorem repL_at {m : Nat} {zs : List Value} {i : Nat} (h : i < m * zs.length) : (repL m zs)[i]? = some (zs[i % zs.length]!) := by
 induction m generalizing i with
 | zero => simp at h
 | succ m ih =>
  have hpos : 0 < zs.length := by
   rcases Nat.eq_zero_or_pos zs.length with h0 | h0
   ·rw [h0] at h; simp at h
   ·exact h0
  simp only [repL]
  rcases Nat.lt_or_ge i zs.length with hi | hi
  ·rw [List.getElem?_append_left hi, Nat.mod_eq_of_lt hi]
   simp [hi]
  ·rw [List.getElem?_append_right hi, ih (by rw [Nat.succ_mul] at h; omega), Nat.mod_eq_sub_mod hi]
theorem rep_range (m : Nat) (zs : List Value) : (Array.range (m * zs.length)).map (zs.toArray[· % zs.toArray.size]!) = (repL m zs).toArray := by
 apply Array.toList_inj.1
 apply List.ext_getElem?
 intro i
 simp only [Array.toList_map, Array.toList_range, List.getElem?_map, List.size_toArray]
 rcases Nat.lt_or_ge i (m * zs.length) with h | h
 ·rw [List.getElem?_range h, repL_at h]; simp
 ·rw [List.getElem?_eq_none (by simpa using h), List.getElem?_eq_none (by rw [repL_length]; exact h)]; rfl
section
variable {C : Ctx} {k : List It} {E : Env} {ι : Ids} {L : List Ent} {G : PH} {all : Array Oper} {l : List Oper}
theorem S_slice {T : Tab} {Z : ZTab} (hT : tabOk C.P T) (hZ : zOk C.P Z) {d t e m sz sz' : Nat} {os os' : List Nat} {tk : TK} {z : ZI} {parts : Array (Nat × Operand)} {ty : Nat} {pos : String} {af : Array Edge} {g : Option (Nat × Bool)} {cs : List Cel}
  (ht : lookT t T = some ⟨.slc e, sz', os'⟩) (he : lookT e T = some ⟨tk, sz, os⟩) (hz : lookZ e Z = some z) (hl : z.zs.length = sz) (hsm : m * sz ≤ 16777216) (hpos : 0 < m * sz)
  (hg : guardOf all E g = .on) (hN : Nat.ble (d + 1) C.n = true) (hd : lookI d ι = none) (hf : fillS (seqP sz m 0) E (vL (repL m z.zs)) parts.toList = some cs)
  (hk : ∀ b, X C (.ops all l :: k) ((d, .slc d 0 m m) :: E) ((d, b) :: ι) (.blk d e cs :: L) G) : X C (.ops all (⟨some d, .buildSlice t m parts, ty, pos, af, g⟩ :: l) :: k) E ι L G := by
 refine S_buildSlice hg hN hd ?_ hk
 intro a w hE
 obtain ⟨inf, v, hi, hv, hb, hc, _⟩ := viewZ_eq (hZ _ _ hz)
 obtain ⟨dsc, inf', hu, hi', hk', hsize, _⟩ := tyOk_parts (hT _ _ he)
 rw [hi] at hi'; cases hi'
 have hus := tyOk_slice (hT _ _ ht) rfl
 obtain ⟨vs', hv1, hv2⟩ := fillS_sound (ι := ι) hE (pl := seqP sz m 0) (place := fun i => some (i * sz, sz)) (by intro i x hx; rw [seqP_at hx]; simp) hf (denL_vL ι (repL m z.zs))
 refine ⟨vs', hv1, run_buildSlice w t e m _ vs'.toArray inf v hus hi hv (by rw [hsize]; simp; omega) (by rw [hsize]; simp only; omega) ?_⟩
 rw [hsize, hc]
 simp only
 rw [← hl] at hv2 ⊢
 rw [rep_range, Array.toList_map]
 exact hv2
theorem S_make {T : Tab} {Z : ZTab} (hT : tabOk C.P T) (hZ : zOk C.P Z) {d t e sz sz' : Nat} {os os' : List Nat} {tk : TK} {z : ZI} {x y : Operand} {n : Nat} {ty : Nat} {pos : String} {af : Array Edge} {g : Option (Nat × Bool)}
  (ht : lookT t T = some ⟨.slc e, sz', os'⟩) (he : lookT e T = some ⟨tk, sz, os⟩) (hz : lookZ e Z = some z) (hl : z.zs.length = sz) (hx : ev E x = some (.val (.int .i64 n))) (hy : ev E y = some (.val (.int .i64 n))) (hbytes : z.b * n ≤ 281474976710656) (h63 : n ≤ 9223372036854775807)
  (hg : guardOf all E g = .on) (hN : Nat.ble (d + 1) C.n = true) (hd : lookI d ι = none)
  (hk : ∀ b, X C (.ops all l :: k) ((d, .slc d 0 n n) :: E) ((d, b) :: ι) (.blk d e (vL (repL n z.zs)) :: L) G) : X C (.ops all (⟨some d, .makeSlice t x y, ty, pos, af, g⟩ :: l) :: k) E ι L G := by
 intro a w h1 h2 h3 h4
 obtain ⟨inf, v, hi, hv, hb, hc, _⟩ := viewZ_eq (hZ _ _ hz)
 obtain ⟨dsc, inf', hu, hi', hk', hsize, _⟩ := tyOk_parts (hT _ _ he)
 rw [hi] at hi'; cases hi'
 have hus := tyOk_slice (hT _ _ ht) rfl
 have ex := ev_sound h3 hx
 have ey := ev_sound h3 hy
 simp only [denO, Option.some.injEq] at ex ey
 have hb' : (inf.bytes : Int) * (n : Int) ≤ 281474976710656 := by
  rw [hb, ← Int.natCast_mul]; omega
 have hr := run_make (P := C.P) w t e inf v hus hi hv .i64 .i64 n n (by omega) (Int.le_refl _) hb' (by omega)
 simp only [Int.toNat_natCast] at hr
 have hcells : madeCells v.cells (n * inf.size) = (repL n z.zs).toArray := by
  rw [hc, hsize]
  simp only
  rw [← hl, ← rep_range]
  rfl
 rw [hcells] at hr
 have hrun : (execOp a.eval ⟨some d, .makeSlice t x y, ty, pos, af, g⟩).run C.P w = .ok (.value (.slice (some ⟨w.heap.size, 0, none⟩) n n)) (w.alloc (.cells (repL n z.zs).toArray e)) := by
  simp only [execOp, ← ex, ← ey]; simp [hr]
 refine wpE_val (guardOf_on h3 hg) (by intro c h; cases h) hrun ?_
 have hdn : d < a.tmps.size := by rw [h2]; exact Nat.le_of_ble_eq_true hN
 exact hk w.heap.size _ _ h1 (by simp [Act.put, h2]) ((h3.ids hd).put hdn (by simp [denO, lookI])) (h4.alloc hd _ (denL_vL ι _))
theorem AZ {Z : ZTab} (hZ : zOk C.P Z) {d t : Nat} {z : ZI} {ty : Nat} {pos : String} {af : Array Edge} {g : Option (Nat × Bool)} (hz : lookZ t Z = some z) (hg : guardOf all E g = .on) (hN : Nat.ble (d + 1) C.n = true) (hd : lookI d ι = none)
  (hk : ∀ b, X C (.ops all l :: k) ((d, .ptr d 0) :: E) ((d, b) :: ι) (.blk d t (vL z.zs) :: L) G) : X C (.ops all (⟨some d, .alloc t, ty, pos, af, g⟩ :: l) :: k) E ι L G := by
 obtain ⟨inf, v, hi, hv, hb, hc, _⟩ := viewZ_eq (hZ _ _ hz)
 exact S_alloc (z := v) (fun w => by simp [zeroValue, typeInfo, hi, hv]) hc hg hN hd hk
end
end
section
def ZT : ZTab := [(3, ⟨8, [.int .i64 0], []⟩),
 (4, ⟨1, [.bool false], []⟩),
 (79, ⟨80, [.int .i64 0, .int .i64 0, .int .i64 0, .int .i64 0, .slice none 0 0, .slice none 0 0], [1, 1, 1, 1, 1, 1]⟩),
 (50, ⟨24, [.slice none 0 0], []⟩),
 (41, ⟨24, [.slice none 0 0], []⟩),
 (1, ⟨8, [.nilFunc], []⟩),
 (2, ⟨8, [.int .i64 0], []⟩),
 (5, ⟨1, [.int .u8 0], []⟩),
 (9, ⟨16, [.string ByteArray.empty], []⟩),
 (12, ⟨8, [.int .u64 0], []⟩),
 (13, ⟨24, [.string ByteArray.empty, .int .u64 0], [1, 1]⟩),
 (20, ⟨16, [.nilIface], []⟩),
 (21, ⟨4, [.int .i32 0], []⟩),
 (22, ⟨24, [.slice none 0 0], []⟩),
 (23, ⟨24, [.slice none 0 0], []⟩),
 (24, ⟨8, [.nilFunc], []⟩),
 (25, ⟨8, [.nilFunc], []⟩),
 (27, ⟨8, [.nilFunc], []⟩),
 (28, ⟨8, [.nilFunc], []⟩),
 (29, ⟨8, [.nilFunc], []⟩),
 (30, ⟨8, [.nilFunc], []⟩),
 (31, ⟨8, [.nilFunc], []⟩),
 (32, ⟨32, [.int .i64 0, .int .i64 0, .int .i64 0, .int .i64 0], [1, 1, 1, 1]⟩),
 (33, ⟨32, [.int .i64 0, .int .i64 0, .int .i64 0, .int .i64 0], [1, 1, 1, 1]⟩),
 (34, ⟨8, [.nilFunc], []⟩),
 (35, ⟨24, [.slice none 0 0], []⟩),
 (36, ⟨8, [.nilFunc], []⟩),
 (38, ⟨8, [.nilFunc], []⟩),
 (40, ⟨8, [.nilFunc], []⟩),
 (42, ⟨8, [.nilFunc], []⟩),
 (43, ⟨8, [.nilFunc], []⟩),
 (44, ⟨8, [.nilFunc], []⟩),
 (46, ⟨8, [.nilFunc], []⟩),
 (47, ⟨8, [.pointer none], []⟩),
 (48, ⟨8, [.nilFunc], []⟩),
 (49, ⟨8, [.nilFunc], []⟩),
 (51, ⟨8, [.nilFunc], []⟩),
 (52, ⟨8, [.nilFunc], []⟩),
 (53, ⟨8, [.nilFunc], []⟩),
 (54, ⟨8, [.nilFunc], []⟩),
 (55, ⟨8, [.nilFunc], []⟩),
 (56, ⟨8, [.nilFunc], []⟩),
 (57, ⟨40, [.string ByteArray.empty, .int .i64 0, .int .i64 0, .bool false, .bool false], [1, 1, 1, 1, 1]⟩),
 (58, ⟨40, [.string ByteArray.empty, .int .i64 0, .int .i64 0, .bool false, .bool false], [1, 1, 1, 1, 1]⟩),
 (59, ⟨8, [.map none], []⟩),
 (60, ⟨8, [.nilFunc], []⟩),
 (61, ⟨24, [.slice none 0 0], []⟩),
 (62, ⟨8, [.nilFunc], []⟩),
 (63, ⟨8, [.nilFunc], []⟩),
 (64, ⟨16, [.nilIface], []⟩),
 (67, ⟨8, [.nilFunc], []⟩),
 (68, ⟨8, [.pointer none], []⟩),
 (69, ⟨24, [.slice none 0 0], []⟩),
 (71, ⟨8, [.nilFunc], []⟩),
 (72, ⟨8, [.nilFunc], []⟩),
 (73, ⟨8, [.nilFunc], []⟩),
 (75, ⟨8, [.nilFunc], []⟩),
 (76, ⟨8, [.nilFunc], []⟩),
 (77, ⟨8, [.nilFunc], []⟩),
 (78, ⟨80, [.int .i64 0, .int .i64 0, .int .i64 0, .int .i64 0, .slice none 0 0, .slice none 0 0], [1, 1, 1, 1, 1, 1]⟩),
 (80, ⟨8, [.nilFunc], []⟩),
 (81, ⟨8, [.nilFunc], []⟩),
 (82, ⟨32, [.slice none 0 0, .int .i64 0], [1, 1]⟩),
 (83, ⟨32, [.slice none 0 0, .int .i64 0], [1, 1]⟩),
 (84, ⟨8, [.nilFunc], []⟩),
 (85, ⟨8, [.nilFunc], []⟩),
 (86, ⟨8, [.nilFunc], []⟩),
 (87, ⟨8, [.nilFunc], []⟩),
 (88, ⟨8, [.nilFunc], []⟩),
 (89, ⟨8, [.pointer none], []⟩),
 (90, ⟨32, [.pointer none, .slice none 0 0], [1, 1]⟩),
 (91, ⟨32, [.pointer none, .slice none 0 0], [1, 1]⟩),
 (92, ⟨8, [.nilFunc], []⟩),
 (93, ⟨8, [.nilFunc], []⟩),
 (94, ⟨8, [.nilFunc], []⟩),
 (95, ⟨8, [.nilFunc], []⟩),
 (96, ⟨8, [.int .u64 0], []⟩),
 (98, ⟨8, [.nilFunc], []⟩),
 (99, ⟨8, [.nilFunc], []⟩),
 (100, ⟨8, [.nilFunc], []⟩),
 (101, ⟨8, [.nilFunc], []⟩),
 (102, ⟨8, [.nilFunc], []⟩),
 (103, ⟨8, [.nilFunc], []⟩),
 (104, ⟨8, [.pointer none], []⟩),
 (105, ⟨8, [.nilFunc], []⟩),
 (107, ⟨8, [.nilFunc], []⟩),
 (108, ⟨8, [.nilFunc], []⟩),
 (111, ⟨8, [.nilFunc], []⟩),
 (112, ⟨8, [.pointer none], []⟩),
 (113, ⟨8, [.nilFunc], []⟩),
 (114, ⟨8, [.nilFunc], []⟩),
 (115, ⟨4, [.int .u32 0], []⟩),
 (117, ⟨8, [.nilFunc], []⟩),
 (118, ⟨8, [.int .u64 0], []⟩),
 (120, ⟨8, [.nilFunc], []⟩),
 (121, ⟨8, [.nilFunc], []⟩),
 (122, ⟨24, [.int .u8 0, .int .u8 0, .int .u8 0, .int .u8 0, .int .u8 0, .int .u8 0, .int .u8 0, .int .u8 0, .int .u8 0, .int .u8 0, .int .u8 0, .int .u8 0, .int .u8 0, .int .u8 0, .int .u8 0, .int .u8 0, .int .u8 0, .int .u8 0, .int .u8 0, .int .u8 0, .int .u8 0, .int .u8 0, .int .u8 0, .int .u8 0], []⟩),
 (123, ⟨8, [.nilFunc], []⟩),
 (124, ⟨8, [.nilFunc], []⟩),
 (126, ⟨8, [.nilFunc], []⟩),
 (128, ⟨8, [.nilFunc], []⟩),
 (129, ⟨8, [.nilFunc], []⟩),
 (131, ⟨8, [.nilFunc], []⟩),
 (132, ⟨8, [.nilFunc], []⟩),
 (133, ⟨48, [.string ByteArray.empty, .string ByteArray.empty, .nilIface], [1, 1, 1]⟩),
 (134, ⟨48, [.string ByteArray.empty, .string ByteArray.empty, .nilIface], [1, 1, 1]⟩),
 (135, ⟨8, [.nilFunc], []⟩),
 (136, ⟨8, [.nilFunc], []⟩),
 (137, ⟨160, [.int .u64 0, .int .u64 0, .int .u64 0, .int .u64 0, .int .u64 0, .int .u64 0, .int .u64 0, .int .u64 0, .int .u64 0, .int .u64 0, .int .u64 0, .int .u64 0, .int .u64 0, .int .u64 0, .int .u64 0, .int .u64 0, .int .u64 0, .int .u64 0, .int .u64 0, .int .u64 0], []⟩),
 (139, ⟨8, [.nilFunc], []⟩),
 (141, ⟨2, [.int .u8 0, .int .u8 0], [1, 1]⟩),
 (142, ⟨2, [.int .u8 0, .int .u8 0], [1, 1]⟩),
 (143, ⟨32, [.int .u8 0, .int .u8 0, .int .u8 0, .int .u8 0, .int .u8 0, .int .u8 0, .int .u8 0, .int .u8 0, .int .u8 0, .int .u8 0, .int .u8 0, .int .u8 0, .int .u8 0, .int .u8 0, .int .u8 0, .int .u8 0, .int .u8 0, .int .u8 0, .int .u8 0, .int .u8 0, .int .u8 0, .int .u8 0, .int .u8 0, .int .u8 0, .int .u8 0, .int .u8 0, .int .u8 0, .int .u8 0, .int .u8 0, .int .u8 0, .int .u8 0, .int .u8 0], []⟩),
 (144, ⟨8, [.nilFunc], []⟩),
 (145, ⟨8, [.nilFunc], []⟩),
 (146, ⟨8, [.nilFunc], []⟩),
 (147, ⟨8, [.pointer none], []⟩),
 (148, ⟨16, [.string ByteArray.empty], [1]⟩),
 (149, ⟨16, [.string ByteArray.empty], [1]⟩),
 (150, ⟨8, [.nilFunc], []⟩),
 (151, ⟨32, [.int .u8 0, .int .u8 0, .int .u8 0, .int .u8 0, .int .u8 0, .int .u8 0, .int .u8 0, .int .u8 0, .int .u8 0, .int .u8 0, .int .u8 0, .int .u8 0, .int .u8 0, .int .u8 0, .int .u8 0, .int .u8 0, .int .u8 0, .int .u8 0, .int .u8 0, .int .u8 0, .int .u8 0, .int .u8 0, .int .u8 0, .int .u8 0, .int .u8 0, .int .u8 0, .int .u8 0, .int .u8 0, .int .u8 0, .int .u8 0, .int .u8 0, .int .u8 0], []⟩),
 (158, ⟨8, [.nilFunc], []⟩),
 (161, ⟨8, [.nilFunc], []⟩),
 (166, ⟨8, [.nilFunc], []⟩)]
theorem ZT_ok : zOk Tryz.prog ZT := zOk_of (by kernel_rfl)
def TT : Tab := ⟨[(3, ⟨.sc, 1, []⟩),
 (4, ⟨.sc, 1, []⟩),
 (79, ⟨.agg, 6, [0, 1, 2, 3, 4, 5]⟩),
 (50, ⟨.slc 79, 1, []⟩),
 (41, ⟨.slc 3, 1, []⟩),
 (1, ⟨.sc, 1, []⟩),
 (2, ⟨.sc, 1, []⟩),
 (5, ⟨.sc, 1, []⟩),
 (9, ⟨.str, 1, []⟩),
 (12, ⟨.sc, 1, []⟩),
 (13, ⟨.agg, 2, [0, 1]⟩),
 (20, ⟨.sc, 1, []⟩),
 (21, ⟨.sc, 1, []⟩),
 (22, ⟨.slc 5, 1, []⟩),
 (23, ⟨.slc 33, 1, []⟩),
 (24, ⟨.sc, 1, []⟩),
 (25, ⟨.sc, 1, []⟩),
 (27, ⟨.sc, 1, []⟩),
 (28, ⟨.sc, 1, []⟩),
 (29, ⟨.sc, 1, []⟩),
 (30, ⟨.sc, 1, []⟩),
 (31, ⟨.sc, 1, []⟩),
 (32, ⟨.agg, 4, [0, 1, 2, 3]⟩),
 (33, ⟨.agg, 4, [0, 1, 2, 3]⟩),
 (34, ⟨.sc, 1, []⟩),
 (35, ⟨.slc 9, 1, []⟩),
 (36, ⟨.sc, 1, []⟩),
 (38, ⟨.sc, 1, []⟩),
 (40, ⟨.sc, 1, []⟩),
 (42, ⟨.sc, 1, []⟩),
 (43, ⟨.sc, 1, []⟩),
 (44, ⟨.sc, 1, []⟩),
 (46, ⟨.sc, 1, []⟩),
 (47, ⟨.sc, 1, []⟩),
 (48, ⟨.sc, 1, []⟩),
 (49, ⟨.sc, 1, []⟩),
 (51, ⟨.sc, 1, []⟩),
 (52, ⟨.sc, 1, []⟩),
 (53, ⟨.sc, 1, []⟩),
 (54, ⟨.sc, 1, []⟩),
 (55, ⟨.sc, 1, []⟩),
 (56, ⟨.sc, 1, []⟩),
 (57, ⟨.agg, 5, [0, 1, 2, 3, 4]⟩),
 (58, ⟨.agg, 5, [0, 1, 2, 3, 4]⟩),
 (59, ⟨.sc, 1, []⟩),
 (60, ⟨.sc, 1, []⟩),
 (61, ⟨.slc 4, 1, []⟩),
 (62, ⟨.sc, 1, []⟩),
 (63, ⟨.sc, 1, []⟩),
 (64, ⟨.sc, 1, []⟩),
 (67, ⟨.sc, 1, []⟩),
 (68, ⟨.sc, 1, []⟩),
 (69, ⟨.slc 68, 1, []⟩),
 (71, ⟨.sc, 1, []⟩),
 (72, ⟨.sc, 1, []⟩),
 (73, ⟨.sc, 1, []⟩),
 (75, ⟨.sc, 1, []⟩),
 (76, ⟨.sc, 1, []⟩),
 (77, ⟨.sc, 1, []⟩),
 (78, ⟨.agg, 6, [0, 1, 2, 3, 4, 5]⟩),
 (80, ⟨.sc, 1, []⟩),
 (81, ⟨.sc, 1, []⟩),
 (82, ⟨.agg, 2, [0, 1]⟩),
 (83, ⟨.agg, 2, [0, 1]⟩),
 (84, ⟨.sc, 1, []⟩),
 (85, ⟨.sc, 1, []⟩),
 (86, ⟨.sc, 1, []⟩),
 (87, ⟨.sc, 1, []⟩),
 (88, ⟨.sc, 1, []⟩),
 (89, ⟨.sc, 1, []⟩),
 (90, ⟨.agg, 2, [0, 1]⟩),
 (91, ⟨.agg, 2, [0, 1]⟩),
 (92, ⟨.sc, 1, []⟩),
 (93, ⟨.sc, 1, []⟩),
 (94, ⟨.sc, 1, []⟩),
 (95, ⟨.sc, 1, []⟩),
 (96, ⟨.sc, 1, []⟩),
 (98, ⟨.sc, 1, []⟩),
 (99, ⟨.sc, 1, []⟩),
 (100, ⟨.sc, 1, []⟩),
 (101, ⟨.sc, 1, []⟩),
 (102, ⟨.sc, 1, []⟩),
 (103, ⟨.sc, 1, []⟩),
 (104, ⟨.sc, 1, []⟩),
 (105, ⟨.sc, 1, []⟩),
 (107, ⟨.sc, 1, []⟩),
 (108, ⟨.sc, 1, []⟩),
 (111, ⟨.sc, 1, []⟩),
 (112, ⟨.sc, 1, []⟩),
 (113, ⟨.sc, 1, []⟩),
 (114, ⟨.sc, 1, []⟩),
 (115, ⟨.sc, 1, []⟩),
 (117, ⟨.sc, 1, []⟩),
 (118, ⟨.sc, 1, []⟩),
 (120, ⟨.sc, 1, []⟩),
 (121, ⟨.sc, 1, []⟩),
 (122, ⟨.arr 24 5, 24, []⟩),
 (123, ⟨.sc, 1, []⟩),
 (124, ⟨.sc, 1, []⟩),
 (126, ⟨.sc, 1, []⟩),
 (128, ⟨.sc, 1, []⟩),
 (129, ⟨.sc, 1, []⟩),
 (131, ⟨.sc, 1, []⟩),
 (132, ⟨.sc, 1, []⟩),
 (133, ⟨.agg, 3, [0, 1, 2]⟩),
 (134, ⟨.agg, 3, [0, 1, 2]⟩),
 (135, ⟨.sc, 1, []⟩),
 (136, ⟨.sc, 1, []⟩),
 (137, ⟨.arr 20 118, 20, []⟩),
 (138, ⟨.arr 65 5, 65, []⟩),
 (139, ⟨.sc, 1, []⟩),
 (140, ⟨.arr 256 5, 256, []⟩),
 (141, ⟨.agg, 2, [0, 1]⟩),
 (142, ⟨.agg, 2, [0, 1]⟩),
 (143, ⟨.arr 16 142, 32, []⟩),
 (144, ⟨.sc, 1, []⟩),
 (145, ⟨.sc, 1, []⟩),
 (146, ⟨.sc, 1, []⟩),
 (147, ⟨.sc, 1, []⟩),
 (148, ⟨.agg, 1, [0]⟩),
 (149, ⟨.agg, 1, [0]⟩),
 (150, ⟨.sc, 1, []⟩),
 (151, ⟨.arr 32 5, 32, []⟩),
 (152, ⟨.arr 64 5, 64, []⟩),
 (158, ⟨.sc, 1, []⟩),
 (161, ⟨.sc, 1, []⟩),
 (166, ⟨.sc, 1, []⟩)], ZT⟩
theorem Tk : tabOk Tryz.prog TT := tabOk_of (by kernel_rfl) ZT_ok
theorem MO : Tryz.prog.follows .mixedOrders = true := by kernel_rfl
inductive Stm where
 | mk (kind a b n : Int) (body els : List Stm)
def Stm.kind : Stm → Int | .mk k _ _ _ _ _ => k
def Stm.a : Stm → Int | .mk _ a _ _ _ _ => a
def Stm.b : Stm → Int | .mk _ _ b _ _ _ => b
def Stm.n : Stm → Int | .mk _ _ _ n _ _ => n
def Stm.body : Stm → List Stm | .mk _ _ _ _ x _ => x
def Stm.els : Stm → List Stm | .mk _ _ _ _ _ y => y
def I64 (n : Int) : Prop := -9223372036854775808 ≤ n ∧ n ≤ 9223372036854775807
def Sl (G : PH) (row : Addr → Prop) (n : Nat) (v : Value) : Prop :=
 ∃ A c, v = .slice A n c ∧ n ≤ 1000000000 ∧ n ≤ c ∧ c ≤ maxLen ∧ (n = 0 ∨ ∃ ad, A = some ad ∧ row ad)
mutual
/-- the six cells of a statement -/
def Stm.rep (G : PH) : Stm → List Value → Prop
 | .mk k a b n x y, cs => ∃ vx vy, cs = [.int .i64 k, .int .i64 a, .int .i64 b, .int .i64 n, vx, vy] ∧ I64 k ∧ I64 a ∧ I64 b ∧ I64 n ∧ Sl G (Stm.row G x) x.length vx ∧ Sl G (Stm.row G y) y.length vy
def Stm.row (G : PH) : List Stm → Addr → Prop
 | [], _ => True
 | s :: r, ad => (∃ cs, gcells G ad cs ∧ Stm.rep G s cs) ∧ Stm.row G r (ad.add 6)
end
section
variable {C : Ctx} {ks : List Nat} {all : Array Oper} {k : List It} {E : Env} {ι : Ids} {L : List Ent} {G : PH} {R : List Nat} {pend : List Pd}
theorem Va {N : Nat} {k' : List It} {E' : Env} {L' : List Ent} (hN : C.n = N) (h : adv TT N ι 1000 k E L = (k', E', L')) (hx : X C k' E' ι L' G) (hT : tabOk C.P TT := by exact Tk) : X C k E ι L G := S_adv hT hN 1000 h hx
theorem Da {R1 R' : List Nat} {pend' : List Pd} (ha : dadv ks TT C.n ι all L E R [] pend = (R1, pend')) (hv : strN (rev2 R1 []) = some R') (hx : D C ks all k R' pend' E ι L G) (hT : tabOk C.P TT := by exact Tk) (hn : R.Nodup := by decide) : D C ks all k R pend E ι L G := D_adv hT hn ha hv hx
theorem Ds {id : Nat} {ops : Array Oper} {dl : List Nat} {E' : Env} {U : List Nat} (hn : strN (upto ops.size) = some U) (hds : strN (strictDsts ops.toList) = some dl) (hE : strE (dropE dl E) = some E') (h : D C [] ops k U [] E' ι L G) (hm : C.P.follows .mixedOrders = true := by exact MO) (hok : regOk [] ops = true := by kernel_rfl) : X C (.code (.region id ops true) :: k) E ι L G := D_start hm hn hds hE hok h
theorem Ns (j : Nat) {o : Oper} {R' : List Nat} {pend' : List Pd} {E' : Env} {L' : List Ent} (h1 : soleB all R j R = true) (h2 : memN j R = true) (ho : nthOp j all.toList = some o) (hd : o.dst = none) (hR : strN (remN j R) = some R') (hp' : strP (dropP (edgeN o.after.toList) pend) = some pend') (hE : strE (penv (takeP (edgeN o.after.toList) pend) ++ E) = some E') (hg : guardOf all E' o.guard = .on) (hst : storeOp TT E' ι L o.op = some L') (h : D C ks all k R' pend' E' ι L' G) (hT : tabOk C.P TT := by exact Tk) (hrc : rechk ks TT C.n ι all L' (penv pend' ++ E') E' pend' = some pend' := by kernel_rfl) : D C ks all k R pend E ι L G := D_sole j h1 h2 (N_store hT j ho hd h2 hR hp' hE hg hst hrc h)
end
end
section
section
variable {α : Type}
def Rw (G : PH) (sz : Nat) (rep : α → List Value → Prop) : List α → Addr → Prop
 | [], _ => True
 | x :: r, ad => (∃ cs, gcells G ad cs ∧ rep x cs) ∧ Rw G sz rep r (ad.add sz)
def Cs (sz : Nat) (rep : α → List Value → Prop) : List α → List Value → Prop
 | [], xs => xs = []
 | x :: r, xs => ∃ cs ys, xs = cs ++ ys ∧ cs.length = sz ∧ rep x cs ∧ Cs sz rep r ys
def Sr (G : PH) (sz : Nat) (rep : α → List Value → Prop) (L : List α) (v : Value) : Prop := Sl G (Rw G sz rep L) L.length v
variable {G G' : PH} {sz : Nat} {rep rep' : α → List Value → Prop}
theorem Rw_mono (hl : G.le G') {L : List α} (hr : ∀ x ∈ L, ∀ cs, rep x cs → rep' x cs) {ad : Addr} (h : Rw G sz rep L ad) : Rw G' sz rep' L ad := by
 induction L generalizing ad with
 | nil => trivial
 | cons x L ih =>
  obtain ⟨⟨cs, h1, h2⟩, h3⟩ := h
  exact ⟨⟨cs, gcells_le hl h1, hr x (List.mem_cons_self ..) cs h2⟩, ih (fun y hy => hr y (List.mem_cons_of_mem _ hy)) h3⟩
theorem Cs_mono {L : List α} (hr : ∀ x ∈ L, ∀ cs, rep x cs → rep' x cs) {xs : List Value} (h : Cs sz rep L xs) : Cs sz rep' L xs := by
 induction L generalizing xs with
 | nil => exact h
 | cons x L ih =>
  obtain ⟨cs, ys, h1, h2, h3, h4⟩ := h
  exact ⟨cs, ys, h1, h2, hr x (List.mem_cons_self ..) cs h3, ih (fun y hy => hr y (List.mem_cons_of_mem _ hy)) h4⟩
theorem Sr_mono (hl : G.le G') {L : List α} (hr : ∀ x ∈ L, ∀ cs, rep x cs → rep' x cs) {v : Value} (h : Sr G sz rep L v) : Sr G' sz rep' L v := by
 obtain ⟨A, c, h1, h2, h3, h4, h5⟩ := h
 refine ⟨A, c, h1, h2, h3, h4, ?_⟩
 rcases h5 with h5 | ⟨ad, h5, h6⟩
 ·exact .inl h5
 ·exact .inr ⟨ad, h5, Rw_mono hl hr h6⟩
theorem Cs_append {L : List α} {xs : List Value} (h : Cs sz rep L xs) {x : α} {cs : List Value} (hx : rep x cs) (hc : cs.length = sz) : Cs sz rep (L ++ [x]) (xs ++ cs) := by
 induction L generalizing xs with
 | nil => cases h; exact ⟨cs, [], by simp, hc, hx, J⟩
 | cons y L ih =>
  obtain ⟨ds, ys, rfl, h2, h3, h4⟩ := h
  exact ⟨ds, ys ++ cs, by simp, h2, h3, ih h4⟩
theorem Cs_length {L : List α} {xs : List Value} (h : Cs sz rep L xs) : xs.length = L.length * sz := by
 induction L generalizing xs with
 | nil => cases h; simp
 | cons y L ih =>
  obtain ⟨ds, ys, rfl, h2, h3, h4⟩ := h
  simp only [List.length_append, h2, ih h4, List.length_cons, Nat.succ_mul]; omega
theorem gcells_append {ad : Addr} {cs ys : List Value} (h : gcells G ad (cs ++ ys)) : gcells G ad cs ∧ gcells G (ad.add cs.length) ys := by
 induction cs generalizing ad with
 | nil => exact ⟨trivial, by rw [List.length_nil, add_zero']; exact h⟩
 | cons c cs ih =>
  obtain ⟨h1, h2⟩ := h
  obtain ⟨h3, h4⟩ := ih h2
  rw [add_add'] at h4
  exact ⟨⟨h1, h3⟩, by rw [List.length_cons, Nat.add_comm]; exact h4⟩
theorem Rw_of {L : List α} {xs : List Value} (h : Cs sz rep L xs) {ad : Addr} (hg : gcells G ad xs) : Rw G sz rep L ad := by
 induction L generalizing xs ad with
 | nil => trivial
 | cons y L ih =>
  obtain ⟨ds, ys, rfl, h2, h3, h4⟩ := h
  obtain ⟨h5, h6⟩ := gcells_append hg
  rw [h2] at h6
  exact ⟨⟨ds, h5, h3⟩, ih h4 h6⟩
theorem Rw_at {L : List α} {ad : Addr} (h : Rw G sz rep L ad) {k : Nat} (hk : k < L.length) : ∃ cs, gcells G (ad.add (k * sz)) cs ∧ rep L[k] cs := by
 induction L generalizing ad k with
 | nil => simp at hk
 | cons s r ih =>
  obtain ⟨h1, h2⟩ := h
  cases k with
  | zero => simpa [add_zero'] using h1
  | succ k =>
   obtain ⟨cs, h3, h4⟩ := ih h2 (k := k) (by simpa using hk)
   rw [add_add'] at h3
   exact ⟨cs, by rw [show (k + 1) * sz = sz + k * sz by rw [Nat.succ_mul]; omega]; exact h3, by simpa using h4⟩
theorem Sr_nil {L : List α} (h : L = []) : Sr G sz rep L (.slice none 0 0) := by
 subst h
 exact ⟨none, 0, J, by simp, by simp, by decide, .inl J⟩
theorem Sr_at {L : List α} {A : Option Addr} {n c : Nat} (h : Sr G sz rep L (.slice A n c)) {k : Nat} (hk : k < L.length) : ∃ ad cs, A = some ad ∧ gcells G (ad.add (k * sz)) cs ∧ rep L[k] cs := by
 obtain ⟨A', c', e, _, _, _, h5⟩ := h
 cases e
 rcases h5 with h5 | ⟨ad, rfl, h6⟩
 ·omega
 ·obtain ⟨cs, h7, h8⟩ := Rw_at h6 hk
  exact ⟨ad, cs, J, h7, h8⟩
end
theorem Stm.row_eq {G : PH} : ∀ (L : List Stm) (ad : Addr), Stm.row G L ad ↔ Rw G 6 (Stm.rep G) L ad
 | [], _ => by simp [Stm.row, Rw]
 | s :: L, ad => by simp only [Stm.row, Rw, Stm.row_eq L]
theorem Stm.rep_iff {G : PH} {k a b n : Int} {x y : List Stm} {cs : List Value} : Stm.rep G (.mk k a b n x y) cs ↔ ∃ vx vy, cs = [.int .i64 k, .int .i64 a, .int .i64 b, .int .i64 n, vx, vy] ∧ I64 k ∧ I64 a ∧ I64 b ∧ I64 n ∧ Sr G 6 (Stm.rep G) x vx ∧ Sr G 6 (Stm.rep G) y vy := by
 have e : ∀ L : List Stm, Stm.row G L = Rw G 6 (Stm.rep G) L := fun L => funext fun ad => propext (Stm.row_eq L ad)
 simp only [Stm.rep, Sr, e]
theorem Stm.rep_len {G : PH} {s : Stm} {cs : List Value} (h : Stm.rep G s cs) : cs.length = 6 := by
 cases s
 obtain ⟨vx, vy, e, _⟩ := Stm.rep_iff.1 h
 simp [e]
mutual
theorem Stm.rep_le {G G' : PH} (hl : G.le G') : ∀ (s : Stm) (cs : List Value), Stm.rep G s cs → Stm.rep G' s cs
 | .mk k a b n x y, cs, h => by
  obtain ⟨vx, vy, e, h1, h2, h3, h4, h5, h6⟩ := Stm.rep_iff.1 h
  exact Stm.rep_iff.2 ⟨vx, vy, e, h1, h2, h3, h4, Sr_mono hl (Stm.reps_le hl x) h5, Sr_mono hl (Stm.reps_le hl y) h6⟩
theorem Stm.reps_le {G G' : PH} (hl : G.le G') : ∀ (L : List Stm), ∀ s ∈ L, ∀ cs, Stm.rep G s cs → Stm.rep G' s cs
 | [], s, hs, _, _ => by cases hs
 | t :: L, s, hs, cs, h => by
  rcases List.mem_cons.1 hs with e | hs'
  ·rw [e] at h ⊢; exact Stm.rep_le hl t cs h
  ·exact Stm.reps_le hl L s hs' cs h
end
abbrev Sts (G : PH) (L : List Stm) (v : Value) : Prop := Sr G 6 (Stm.rep G) L v
theorem Sts_le {G G' : PH} (hl : G.le G') {L : List Stm} {v : Value} (h : Sts G L v) : Sts G' L v := Sr_mono hl (Stm.reps_le hl L) h
theorem Sts_Sl {G : PH} {L : List Stm} {v : Value} : Sts G L v ↔ Sl G (Stm.row G L) L.length v := by
 have e : ∀ L : List Stm, Stm.row G L = Rw G 6 (Stm.rep G) L := fun L => funext fun ad => propext (Stm.row_eq L ad)
 simp only [Sr, e]
def intRep (n : Int) (cs : List Value) : Prop := cs = [.int .i64 n] ∧ I64 n
abbrev Ints (G : PH) (L : List Int) (v : Value) : Prop := Sr G 1 intRep L v
theorem Ints_le {G G' : PH} (hl : G.le G') {L : List Int} {v : Value} (h : Ints G L v) : Ints G' L v := Sr_mono hl (fun _ _ _ h => h) h
end
section
def intC : List Int → List Value
 | [] => []
 | n :: l => .int .i64 n :: intC l
theorem intC_length : ∀ l : List Int, (intC l).length = l.length
 | [] => rfl
 | _ :: l => by simp [intC, intC_length l]
theorem intC_append : ∀ l l' : List Int, intC (l ++ l') = intC l ++ intC l'
 | [], _ => rfl
 | n :: l, l' => by simp [intC, intC_append l l']
end
end Go.Proofs.YtblildkhbkmmdaaGreatDoor
