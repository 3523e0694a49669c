/- Walks of the program's functions, one after the other (part 2); without conditions of their own. -/
import Derived.Test.YtblildkhbkmmdaaGreatDoorWAM1
import Derived.Lib.AppendZeros
import Derived.MapKept
import Derived.RangeFuncFrom
import Derived.RangeFuncLeaves
set_option linter.unusedVariables false
set_option linter.unusedSimpArgs false
set_option maxRecDepth 100000
set_option maxHeartbeats 4000000
open Go.RowKit
namespace Go.Proofs.YtblildkhbkmmdaaGreatDoor
section
def objHP (b : Nat) (o : Obj) : HP where
 holds w S := w.heap[b]? = some o ∧ ∀ x, S x ↔ x = b
 loc w w' S h hs := ⟨by rw [hs b ((h.2 b).2 rfl)]; exact h.1, h.2⟩
 lt w S h x hx := by rw [(h.2 x).1 hx]; exact (Array.getElem?_eq_some_iff.1 h.1).1
theorem SatW.allocH {C : Ctx} {ι : Ids} {L : List Ent} {G : PH} {w : World} (h : SatW C ι L G w) (κ : Nat) (o : Obj) : SatW C ι (.hp κ (objHP w.heap.size o) :: L) G (w.alloc o) := by
 obtain ⟨Ss, ho, hS⟩ := h.own
 have hold : ∀ x, x ≠ w.heap.size → (w.alloc o).heap[x]? = w.heap[x]? := by
  intro x hx
  show (w.heap.push _)[x]? = _
  rw [Array.getElem?_push, if_neg hx]
 have hlt := owns_lt ho
 refine ⟨h.os, h.tape, h.output, by have := h.size; simp; omega, ?_, ?_, (fun x => x = w.heap.size) :: Ss, ⟨⟨heap_alloc_new w _, fun x => Iff.rfl⟩, ?_, ?_⟩, ?_⟩
 ·intro x hx hn
  rw [hold x (by have := h.size; omega)]
  exact h.keep x hx hn
 ·intro x o hx
  have := h.emb x o hx
  rw [hold x (by have := (Array.getElem?_eq_some_iff.1 this).1; omega)]
  exact this
 ·rintro T hT b rfl hb
  have := hlt T hT _ hb
  omega
 ·exact owns_far ho (· = w.heap.size) hold fun T hT x hx e => by have := hlt T hT x hx; omega
 ·intro S hS' b hb
  rcases List.mem_cons.1 hS' with rfl | hS'
  ·refine ⟨?_, .inr (by have := h.size; omega)⟩
   cases hG : G b with
   | none => rfl
   | some o => have := (Array.getElem?_eq_some_iff.1 (h.emb b o hG)).1; omega
  ·exact hS S hS' b hb
def delB (k : Nat) : List Ent → Option (List Ent)
 | [] => none
 | .blk j t cs :: L => if k = j then some L else match delB k L with
  | some r => some (.blk j t cs :: r)
  | none => none
 | .hp j A :: L => match delB k L with
  | some r => some (.hp j A :: r)
  | none => none
theorem owns_delB {ι : Ids} {w : World} {key ty : Nat} {cs : List Cel} {vs : List Value} (hd : denL ι cs = some vs) : ∀ {L L' : List Ent} {Ss : List (Nat → Prop)}, owns ι w L Ss → lookB key L = some (ty, cs) → delB key L = some L' →
  ∃ S Ss' b, lookI key ι = some b ∧ w.heap[b]? = some (.cells vs.toArray ty (0, 0)) ∧ (∀ x, S x ↔ x = b) ∧ S ∈ Ss ∧ owns ι w L' Ss' ∧ ∀ T ∈ Ss', T ∈ Ss ∧ ∀ x, T x → ¬ S x := by
 intro L
 induction L with
 | nil => intro L' Ss _ h; cases h
 | cons e L ih =>
  intro L' Ss ho hg hs
  cases Ss with
  | nil => simp [owns] at ho
  | cons S0 Ss =>
   obtain ⟨h1, h2, h3⟩ := ho
   have fin : ∀ (L1 : List Ent), lookB key L = some (ty, cs) → delB key L = some L1 → L' = e :: L1 →
     ∃ S Ss' b, lookI key ι = some b ∧ w.heap[b]? = some (.cells vs.toArray ty (0, 0)) ∧ (∀ x, S x ↔ x = b) ∧ S ∈ S0 :: Ss ∧ owns ι w L' Ss' ∧ ∀ T ∈ Ss', T ∈ S0 :: Ss ∧ ∀ x, T x → ¬ S x := by
    rintro L1 hg1 hs1 rfl
    obtain ⟨S, Ss', b, hb, hh, hSb, hm, ho', hT⟩ := ih h3 hg1 hs1
    refine ⟨S, S0 :: Ss', b, hb, hh, hSb, List.mem_cons_of_mem _ hm, ⟨h1, fun T hT' x hx hx' => h2 T (hT T hT').1 x hx hx', ho'⟩, ?_⟩
    intro T hT'
    rcases List.mem_cons.1 hT' with rfl | hT'
    ·exact ⟨List.mem_cons_self .., fun x hx hx' => h2 S hm x hx hx'⟩
    ·exact ⟨List.mem_cons_of_mem _ (hT T hT').1, (hT T hT').2⟩
   cases e with
   | hp j A =>
    simp only [lookB] at hg
    simp only [delB] at hs
    split at hs
    ·rename_i r hr; cases hs; exact fin r hg hr J
    ·cases hs
   | blk j t ds =>
    simp only [lookB] at hg
    simp only [delB] at hs
    split at hg
    ·rename_i e'; subst e'
     rw [if_pos rfl] at hs
     cases hg; cases hs
     obtain ⟨b, us, hb, hdu, hh, hSb⟩ := h1
     rw [hd] at hdu; cases hdu
     exact ⟨S0, Ss, b, hb, hh, hSb, List.mem_cons_self .., h3, fun T hT => ⟨List.mem_cons_of_mem _ hT, fun x hx hx' => h2 T hT x hx' hx⟩⟩
    ·rename_i e'
     rw [if_neg e'] at hs
     split at hs
     ·rename_i r hr; cases hs; exact fin r hg hr J
     ·cases hs
section
variable {C : Ctx} {k : List It} {E : Env} {ι : Ids} {L : List Ent} {G : PH} {all : Array Oper} {l : List Oper}
theorem freeze_core {a : Act} {w : World} {L' : List Ent} {b : Nat} {o : Obj} {S : Nat → Prop} {Ss Ss' : List (Nat → Prop)} (h : SatW C ι L G w) (ho : owns ι w L Ss) (hS : ∀ S ∈ Ss, ∀ b, S b → G b = none ∧ (C.S0 b ∨ C.w0.heap.size ≤ b)) (hh : w.heap[b]? = some o) (hSb : ∀ x, S x ↔ x = b) (hm : S ∈ Ss) (ho' : owns ι w L' Ss') (hT : ∀ T ∈ Ss', T ∈ Ss ∧ ∀ x, T x → ¬ S x) (hS0 : ∀ b, ¬ C.S0 b) :
  PH.ext C.w0.heap.size G (G.add b o) ∧ SatW C ι L' (G.add b o) w := by
 have hGb : G b = none ∧ (C.S0 b ∨ C.w0.heap.size ≤ b) := hS S hm b ((hSb b).2 rfl)
 refine ⟨⟨fun x o' hx => ?_, fun x o' hx hn => ?_⟩, h.os, h.tape, h.output, h.size, h.keep, ?_, Ss', ho', ?_⟩
 ·unfold PH.add
  rw [if_neg (by rintro rfl; rw [hGb.1] at hx; cases hx)]
  exact hx
 ·unfold PH.add at hx
  split at hx
  ·rename_i e
   rcases hGb.2 with h2 | h2
   ·exact absurd h2 (hS0 b)
   ·omega
  ·rw [hn] at hx; cases hx
 ·intro x o' hx
  unfold PH.add at hx
  split at hx
  ·rename_i e; subst e; cases hx; exact hh
  ·exact h.emb x o' hx
 ·intro T hT' x hx
  obtain ⟨h1, h2⟩ := hT T hT'
  obtain ⟨h3, h4⟩ := hS T h1 x hx
  refine ⟨?_, h4⟩
  unfold PH.add
  rw [if_neg (fun e => h2 x hx ((hSb x).2 e))]
  exact h3
theorem S_freezeO (κ : Nat) {b : Nat} {o : Obj} {L' : List Ent} (hL : getH κ L = some (objHP b o)) (hL' : delH κ L = some L') (hS0 : ∀ b, ¬ C.S0 b) (hk : PH.ext C.w0.heap.size G (G.add b o) → X C k E ι L' (G.add b o)) : X C k E ι L G := by
 intro a w g1 g2 g3 g4
 obtain ⟨Ss, ho, hS⟩ := g4.own
 obtain ⟨S, Ss', hA, hm, ho', hT⟩ := owns_del ho hL hL'
 obtain ⟨h1, h2⟩ := freeze_core (a := a) g4 ho hS hA.1 hA.2 hm ho' hT hS0
 exact hk h1 a w (g1.mono h1.le) g2 g3 h2
theorem PH.add_self (G : PH) (b : Nat) (o : Obj) : G.add b o b = some o := by simp [PH.add]
theorem S_makeMap (κ : Nat) {d t : Nat} {ty : Nat} {pos : String} {af : Array Edge} {g : Option (Nat × Bool)} (hg : guardOf all E g = .on) (hN : Nat.ble (d + 1) C.n = true)
  (hk : ∀ b, X C (.ops all l :: k) ((d, .val (.map (some b))) :: E) ι (.hp κ (objHP b (.map #[] 0)) :: L) G) : X C (.ops all (⟨some d, .makeMap t none, ty, pos, af, g⟩ :: l) :: k) E ι L G := by
 intro a w h1 h2 h3 h4
 have hrun : (execOp a.eval ⟨some d, .makeMap t none, ty, pos, af, g⟩).run C.P w = .ok (.value (.map (some w.heap.size))) (w.alloc (.map #[] 0)) := by
  simp only [execOp]; simp [Instr.makeMap]
 refine wpE_val (guardOf_on h3 hg) (by intro c h; cases h) hrun ?_
 have hdn : d < a.tmps.size := by rw [h2]; exact Nat.le_of_ble_eq_true hN
 exact hk w.heap.size _ _ h1 (by simp [Act.put, h2]) (h3.put hdn J) (h4.allocH κ _)
def newI (x : Int) : List MapEntry → Bool
 | [] => true
 | e :: es => match e.key with
  | .int .i64 y => !decide (x = y) && newI x es
  | _ => false
def findI (x : Int) : List MapEntry → Option Value
 | [] => none
 | e :: es => match e.key with
  | .int .i64 y => if x = y then some e.val else findI x es
  | _ => none
def setO (w : World) (b : Nat) (o : Obj) : World := { w with heap := w.heap.setIfInBounds b o }
theorem setO_same {w : World} {b : Nat} {o : Obj} (hb : w.heap[b]? = some o) (o' : Obj) : (setO w b o').heap[b]? = some o' := by
 have := (Array.getElem?_eq_some_iff.1 hb).1
 simp [setO, this]
theorem setO_other {w : World} {b x : Nat} (o' : Obj) (hne : x ≠ b) : (setO w b o').heap[x]? = w.heap[x]? := by
 simp only [setO, Array.getElem?_setIfInBounds]
 rw [if_neg (fun e => hne e.symm)]
theorem findNow_new {x : Int} : ∀ {es : List MapEntry} {i : Nat}, newI x es = true → Instr.findNow (.int .i64) (.int .i64 x) es i = some none := by
 intro es
 induction es with
 | nil => intro i _; rfl
 | cons e es ih =>
  intro i h
  obtain ⟨key, val, born⟩ := e
  simp only [newI] at h
  split at h
  ·rename_i y
   simp only [Bool.and_eq_true, Bool.not_eq_true', decide_eq_false_iff_not] at h
   simp only [Instr.findNow, Instr.sameNow]
   have : (x == y) = false := by simpa using h.1
   simp only [this]
   exact ih h.2
  ·cases h
theorem findNow_find {x : Int} : ∀ {es : List MapEntry} {i : Nat}, (∀ e ∈ es, ∃ y, e.key = .int .i64 y) → ∃ r, Instr.findNow (.int .i64) (.int .i64 x) es i = some r ∧ r.map (·.2) = findI x es := by
 intro es
 induction es with
 | nil => intro i _; exact ⟨none, J, J⟩
 | cons e es ih =>
  intro i h
  obtain ⟨y, hy⟩ := h e (List.mem_cons_self ..)
  obtain ⟨key, val, born⟩ := e
  simp only at hy
  subst hy
  simp only [Instr.findNow, Instr.sameNow, findI]
  by_cases hxy : x = y
  ·subst hxy
   simp
  ·have : (x == y) = false := by simpa using hxy
   simp only [this, if_neg hxy]
   exact ih fun e he => h e (List.mem_cons_of_mem _ he)
theorem S_insert (κ : Nat) {t kt et b clock : Nat} {m x v : Operand} {key : Int} {es : Array MapEntry} {val : Value} {ty : Nat} {pos : String} {af : Array Edge} {g : Option (Nat × Bool)} {L' : List Ent}
  (hu : C.P.underlying t = some (.map kt et)) (hk' : C.P.underlying kt = some (.int .i64)) (hg : guardOf all E g = .on) (hm : ev E m = some (.val (.map (some b)))) (hx : ev E x = some (.val (.int .i64 key))) (hv : ev E v = some (.val val))
  (hL : getH κ L = some (objHP b (.map es clock))) (hnew : newI key es.toList = true) (hL' : setH κ (objHP b (.map (es.push { key := .int .i64 key, val := val, born := clock }) (clock + 1))) L = some L')
  (hk : X C (.ops all l :: k) E ι L' G) : X C (.ops all (⟨none, .insert t m x v, ty, pos, af, g⟩ :: l) :: k) E ι L G := by
 intro a w h1 h2 h3 h4
 have em := ev_sound h3 hm
 have ex := ev_sound h3 hx
 have evv := ev_sound h3 hv
 simp only [denO, Option.some.injEq] at em ex evv
 obtain ⟨S, hA, hSG, hturn⟩ := h4.turn hL
 have hb := hA.1
 have hr : (Instr.mapUpdate t (.map (some b)) (.int .i64 key) val).run C.P w = .ok () (setO w b (.map (es.push { key := .int .i64 key, val := val, born := clock }) (clock + 1))) := by
  have hc := MapKept.run_checkKey (P := C.P) (w := w) (k := .int .i64 key) hk' (by simp [MapKept.IsKey]) false 9999
  have hf := MapKept.run_findKey (P := C.P) (w := w) hk' (findNow_new (i := 0) hnew)
  simp [Instr.mapUpdate, run_underlying hu, MapKept.run_getObj_map hb, hc, hf, MapKept.run_setObj_map _ hb, Result.andThen, setO]
 have hrun : (execOp a.eval ⟨none, .insert t m x v, ty, pos, af, g⟩).run C.P w = .ok .skip (setO w b (.map (es.push { key := .int .i64 key, val := val, born := clock }) (clock + 1))) := by
  simp only [execOp, ← em, ← ex, ← evv]; simp [hr]
 refine wpE_skipv (guardOf_on h3 hg) (by intro c h; cases h) hrun ?_;refine hk _ _ h1 h2 h3 (hturn _ _ G _ S hL' ⟨setO_same hb _, hA.2⟩ ?_ XR (fun x hx => ⟨hSG x hx, .inl hx⟩) J J J (by simp [setO]) ?_)
 ·intro x o hxo
  rw [setO_other _ (by rintro rfl; have := hSG x ((hA.2 x).2 rfl); rw [this] at hxo; cases hxo)]
  exact h4.emb x o hxo
 ·intro x hx hn
  exact setO_other _ (fun e => hn ((hA.2 x).2 e))
theorem V_lookup {Z : ZTab} (hZ : zOk C.P Z) {t kt et b clock : Nat} {z : ZI} {zv : Value} {m x : Operand} {key : Int} {es : Array MapEntry} {d : Option Nat} {ty : Nat} {pos : String} {af : Array Edge} {g : Option (Nat × Bool)}
  (hu : C.P.underlying t = some (.map kt et)) (hk' : C.P.underlying kt = some (.int .i64)) (hm : ev E m = some (.val (.map (some b)))) (hx : ev E x = some (.val (.int .i64 key))) (hz : ∀ w, (zeroValue et).run C.P w = .ok zv w) (hb : G b = some (.map es clock)) (hkeys : ∀ e ∈ es.toList, ∃ y, e.key = .int .i64 y) :
  Vl C ι E L G ⟨d, .lookup t m x true, ty, pos, af, g⟩ (.tuple #[(findI key es.toList).getD zv, .bool (findI key es.toList).isSome]) := by
 intro a w hE hw
 have em := ev_sound hE hm
 have ex := ev_sound hE hx
 simp only [denO, Option.some.injEq] at em ex
 have hb' := hw.emb _ _ hb
 have hc := MapKept.run_checkKey (P := C.P) (w := w) (k := .int .i64 key) hk' (by simp [MapKept.IsKey]) es.isEmpty 9999
 obtain ⟨r, hr1, hr2⟩ := findNow_find (x := key) (i := 0) hkeys
 have hf := MapKept.run_findKey (P := C.P) (w := w) hk' hr1
 simp only [execOp, ← em, ← ex]
 rw [← hr2]
 cases r with
 | none => simp [Instr.lookup, run_underlying hu, MapKept.run_getObj_map hb', hc, hf, hz, Result.andThen]
 | some p => simp [Instr.lookup, run_underlying hu, MapKept.run_getObj_map hb', hc, hf, Result.andThen]
theorem V_lookupS {t kt et b clock : Nat} {u : Value} {m x : Operand} {key : Int} {es : Array MapEntry} {d : Option Nat} {ty : Nat} {pos : String} {af : Array Edge} {g : Option (Nat × Bool)}
  (hu : C.P.underlying t = some (.map kt et)) (hk' : C.P.underlying kt = some (.int .i64)) (hb : G b = some (.map es clock)) (hkeys : ∀ e ∈ es.toList, ∃ y, e.key = .int .i64 y) (hf : findI key es.toList = some u) (hm : ev E m = some (.val (.map (some b)))) (hx : ev E x = some (.val (.int .i64 key))) :
  Vl C ι E L G ⟨d, .lookup t m x true, ty, pos, af, g⟩ (.tuple #[u, .bool true]) := by
 intro a w hE hw
 have em := ev_sound hE hm
 have ex := ev_sound hE hx
 simp only [denO, Option.some.injEq] at em ex
 have hb' := hw.emb _ _ hb
 have hc := MapKept.run_checkKey (P := C.P) (w := w) (k := .int .i64 key) hk' (by simp [MapKept.IsKey]) es.isEmpty 9999
 obtain ⟨r, hr1, hr2⟩ := findNow_find (x := key) (i := 0) hkeys
 have hf' := MapKept.run_findKey (P := C.P) (w := w) hk' hr1
 rw [hf] at hr2
 simp only [execOp, ← em, ← ex]
 cases r with
 | none => cases hr2
 | some p =>
  simp only [Option.map_some, Option.some.injEq] at hr2
  simp [Instr.lookup, run_underlying hu, MapKept.run_getObj_map hb', hc, hf', hr2, Result.andThen]
theorem V_lookupN {Z : ZTab} (hZ : zOk C.P Z) {t kt et b clock : Nat} {z : ZI} {m x : Operand} {key : Int} {es : Array MapEntry} {d : Option Nat} {ty : Nat} {pos : String} {af : Array Edge} {g : Option (Nat × Bool)}
  (hu : C.P.underlying t = some (.map kt et)) (hk' : C.P.underlying kt = some (.int .i64)) (hb : G b = some (.map es clock)) (hkeys : ∀ e ∈ es.toList, ∃ y, e.key = .int .i64 y) (hf : findI key es.toList = none) (hm : ev E m = some (.val (.map (some b)))) (hx : ev E x = some (.val (.int .i64 key))) (hz : ∀ w, (zeroValue et).run C.P w = .ok (.agg z.zs.toArray) w) :
  Vl C ι E L G ⟨d, .lookup t m x true, ty, pos, af, g⟩ (.tuple #[.agg z.zs.toArray, .bool false]) := by
 have := V_lookup (d := d) (ty := ty) (pos := pos) (af := af) (g := g) (ι := ι) (L := L) hZ (z := z) hu hk' hm hx hz hb hkeys
 rw [hf] at this
 exact this
theorem S_valV {d : Nat} {op : Op} {ty : Nat} {pos : String} {af : Array Edge} {g : Option (Nat × Bool)} {v : Value} (hg : guardOf all E g = .on) (hnd : (match op with | .defer _ => false | _ => true) = true) (hN : Nat.ble (d + 1) C.n = true) (hr : Vl C ι E L G ⟨some d, op, ty, pos, af, g⟩ v)
  (hx : X C (.ops all l :: k) ((d, .val v) :: E) ι L G) : X C (.ops all (⟨some d, op, ty, pos, af, g⟩ :: l) :: k) E ι L G :=
 S_val hg (by rintro c rfl; cases hnd) hN hr hx
end
theorem Pure.drop {P : Program} {f : FuncId} {vs : List Value} {G : PH} {Post : Value → PH → Prop} {Post' : Value → Prop} (h : Pure P f vs G Post) (hp : ∀ v G', Post v G' → Post' v) : Pure P f vs G fun v G' => Post' v ∧ G' = G :=
 fun w hw => (h w hw).mono fun e w' ⟨v, G', h1, h2, h3, h4, h5⟩ => ⟨v, G, h1, ⟨hp v G' h2, rfl⟩, PH.ext.refl _ _, fun b o hb => h4 b o (h3.le b o hb), h5⟩
end
section
structure Frm (S : Nat → Prop) (W W' : World) : Prop where
 os : W'.os = W.os
 tape : W'.tape = W.tape
 output : W'.output = W.output
 size : W.heap.size ≤ W'.heap.size
 keep : ∀ b, b < W.heap.size → ¬ S b → W'.heap[b]? = W.heap[b]?
theorem Frm.refl (S : Nat → Prop) (W : World) : Frm S W W := ⟨rfl, rfl, rfl, Nat.le_refl _, fun _ _ _ => rfl⟩
def YieldR (W : World) (S : Nat → Prop) (A Ax : HP) (e : Ending) (W' : World) : Prop :=
 ∃ S', (∀ b, S' b → S b ∨ W.heap.size ≤ b) ∧ Frm S W W' ∧ ((e = .returned (.bool true) ∧ A.holds W' S') ∨ (e = .returned (.bool false) ∧ Ax.holds W' S'))
def RCx (C : Ctx) (l : Nat) (Q : Exit → Act → World → Prop) (W : World) (S : Nat → Prop) : Ctx := ⟨C.P, some l, C.n, Q, W, S, false⟩
section
variable {C : Ctx} {E : Env} {ι ι' : Ids} {L Ln Lr : List Ent} {G : PH} {l : Nat} {W : World} {S : Nat → Prop} {k : List It}
end
theorem SatW.round {C : Ctx} {ι : Ids} {L : List Ent} {G : PH} {W : World} {Ss : List (Nat → Prop)} {l : Nat} {Q : Exit → Act → World → Prop} (ho : owns ι W L Ss) (hG : ∀ T ∈ Ss, ∀ b, T b → G b = none) (hE : Emb G W) : SatW (RCx C l Q W (fun x => ∃ T ∈ Ss, T x)) ι L G W :=
 ⟨rfl, rfl, rfl, Nat.le_refl _, fun _ _ _ => rfl, hE, Ss, ho, fun T hT b hb => ⟨hG T hT b hb, .inl ⟨T, hT, hb⟩⟩⟩
section
variable {C : Ctx} {k : List It} {E : Env} {ι : Ids} {L : List Ent} {G : PH}
end
end
section
def MC (P : Program) (n : Nat) (fn : Func) (G : PH) (Post : Value → PH → HP → Prop) (w : World) (S : Nat → Prop) : Ctx := ⟨P, none, n, bodyPost P fn (ModR G w S Post), w, S, false⟩
theorem Mod.intro {P : Program} {f : FuncId} {fn : Func} {c : Code} {vs : List Value} {G : PH} {A : HP} {Post : Value → PH → HP → Prop} {n : Nat} (hf : P.funcs[f]? = some fn) (hn : fn.ntmps = n) (hb : fn.body = some c) (hle : Nat.ble vs.length n = true)
  (hx : ∀ w S, X (MC P n fn G Post w S) [.code c] (envOf 0 vs) [] [.hp 1 A] G) : Mod P f vs G A Post := by
 intro w S hw hA hS
 refine Enter (ι := []) (L := [.hp 1 A]) (G := G) (S0 := S) hf hb hn hle ?_ (hx w S)
 refine ⟨rfl, rfl, rfl, Nat.le_refl _, fun _ _ _ => rfl, hw, [S], ⟨hA, ⟨fun T hT => (by cases hT), trivial⟩⟩, ?_⟩
 intro T hT b hb
 rw [List.mem_singleton.1 hT] at hb
 exact ⟨hS b hb, .inl hb⟩
section
variable {P : Program} {fn : Func} {n : Nat} {G0 G : PH} {Post : Value → PH → HP → Prop} {w0 : World} {S0 : Nat → Prop} {k : List It} {E : Env} {ι : Ids} {L : List Ent}
theorem SatW.modR {w : World} (h : SatW (MC P n fn G0 Post w0 S0) ι L G w) {κ : Nat} {A' : HP} (hL : getH κ L = some A') (hx : PH.ext w0.heap.size G0 G) {v : Value} (hp : Post v G A') : ModR G0 w0 S0 Post (.returned v) w := by
 obtain ⟨Ss, ho, hS⟩ := h.own
 obtain ⟨S, hA, hm, _⟩ := owns_split ho hL
 exact ⟨v, G, A', S, rfl, hp, hA, hx, h.emb, fun b hb => hS S hm b hb, h.os, h.tape, h.output, h.size, h.keep⟩
end
def packHP (p : Ids → List Ent → Prop) : HP where
 holds w S := ∃ ι L Ss, p ι L ∧ owns ι w L Ss ∧ ∀ x, S x ↔ ∃ T ∈ Ss, T x
 loc w w' S h hs := by
  obtain ⟨ι, L, Ss, hp, ho, hS⟩ := h
  exact ⟨ι, L, Ss, hp, owns_far ho (fun x => ¬ S x) (fun x hx => hs x (Classical.not_not.1 hx)) (fun T hT x hx hn => hn ((hS x).2 ⟨T, hT, hx⟩)), hS⟩
 lt w S h x hx := by
  obtain ⟨ι, L, Ss, hp, ho, hS⟩ := h
  obtain ⟨T, hT, hTx⟩ := (hS x).1 hx
  exact owns_lt ho T hT x hTx
def freshB : List Nat → Ids → Bool
 | [], _ => true
 | k :: ks, ι => match lookI k ι with
  | some _ => false
  | none => freshB ks ι
theorem lookI_append {k : Nat} {ι0 ι : Ids} : lookI k (ι0 ++ ι) = (match lookI k ι0 with | some b => some b | none => lookI k ι) := by
 induction ι0 with
 | nil => rfl
 | cons x l ih =>
  obtain ⟨j, b⟩ := x
  simp only [List.cons_append, lookI]
  split
  ·rfl
  ·exact ih
theorem freshB_eq {ks : List Nat} {ι : Ids} (h : freshB ks ι = true) : ∀ k ∈ ks, lookI k ι = none := by
 induction ks with
 | nil => intro k hk; cases hk
 | cons j ks ih =>
  simp only [freshB] at h
  split at h
  ·cases h
  ·rename_i hj
   intro k hk
   rcases List.mem_cons.1 hk with rfl | hk
   ·exact hj
   ·exact ih h k hk
def IdsLe (ι ι' : Ids) : Prop := ∀ k b, lookI k ι = some b → lookI k ι' = some b
theorem denC_le {ι ι' : Ids} (hl : IdsLe ι ι') {c : Cel} {v : Value} (h : denC ι c = some v) : denC ι' c = some v := by
 cases c with
 | v x => exact h
 | p k o => simp only [denC] at h ⊢; split at h <;> rename_i hk; rw [hl _ _ hk]; exact h; cases h
 | s k o n m => simp only [denC] at h ⊢; split at h <;> rename_i hk; rw [hl _ _ hk]; exact h; cases h
theorem denL_le {ι ι' : Ids} (hl : IdsLe ι ι') {l : List Cel} {vs : List Value} (h : denL ι l = some vs) : denL ι' l = some vs := by
 induction l generalizing vs with
 | nil => exact h
 | cons c l ih =>
  obtain ⟨v, r, rfl, h1, h2⟩ := denL_cons h
  simp [denL, denC_le hl h1, ih h2]
theorem denO_le {ι ι' : Ids} (hl : IdsLe ι ι') {s : Sym} {v : Value} (h : denO ι s = some v) : denO ι' s = some v := by
 cases s with
 | val x => exact h
 | lit x => exact h
 | ptr k o => simp only [denO] at h ⊢; split at h <;> rename_i hk; rw [hl _ _ hk]; exact h; cases h
 | slc k o n m => simp only [denO] at h ⊢; split at h <;> rename_i hk; rw [hl _ _ hk]; exact h; cases h
 | agg l => simp only [denO] at h ⊢; split at h <;> rename_i hk; rw [denL_le hl hk]; exact h; cases h
theorem owns_le {ι ι' : Ids} (hl : IdsLe ι ι') {w : World} {L : List Ent} {Ss : List (Nat → Prop)} (ho : owns ι w L Ss) : owns ι' w L Ss := by
 induction L generalizing Ss with
 | nil => cases Ss with
  | nil => trivial
  | cons => simp [owns] at ho
 | cons e L ih =>
  cases Ss with
  | nil => simp [owns] at ho
  | cons S Ss =>
   obtain ⟨h1, h2, h3⟩ := ho
   refine ⟨?_, h2, ih h3⟩
   cases e with
   | blk j ty cs =>
    obtain ⟨c, vs, hc, hdv, hh, hS⟩ := h1
    exact ⟨c, vs, hl _ _ hc, denL_le hl hdv, hh, hS⟩
   | hp j A => exact h1
theorem AgE.idsLe {ι ι' : Ids} (hl : IdsLe ι ι') {E : Env} {a : Act} (h : AgE ι E a) : AgE ι' E a := by
 intro i s hi
 obtain ⟨v, hv, ht⟩ := h i s hi
 exact ⟨v, denO_le hl hv, ht⟩
theorem IdsLe.left (ι0 ι : Ids) : IdsLe ι0 (ι0 ++ ι) := by
 intro k b h
 rw [lookI_append, h]
theorem IdsLe.right {ι0 ι : Ids} (hf : ∀ k ∈ ι0.map (·.1), lookI k ι = none) : IdsLe ι (ι0 ++ ι) := by
 intro k b h
 rw [lookI_append]
 split
 ·rename_i c hc
  have : k ∈ ι0.map (·.1) := by
   clear h hf
   induction ι0 with
   | nil => cases hc
   | cons x l ih =>
    obtain ⟨j, b'⟩ := x
    simp only [lookI] at hc
    split at hc
    ·rename_i e; subst e; exact List.mem_cons_self ..
    ·exact List.mem_cons_of_mem _ (ih hc)
  rw [hf k this] at h; cases h
 ·exact h
theorem owns_app {ι : Ids} {w : World} : ∀ {L L' : List Ent} {Ss Ss' : List (Nat → Prop)}, owns ι w L Ss → owns ι w L' Ss' → (∀ S ∈ Ss, ∀ T ∈ Ss', ∀ b, S b → T b → False) → owns ι w (L ++ L') (Ss ++ Ss')
 | [], _, [], _, _, h', _ => h'
 | [], _, _ :: _, _, h, _, _ => by simp [owns] at h
 | e :: L, _, [], _, h, _, _ => by simp [owns] at h
 | e :: L, L', S :: Ss, Ss', h, h', hd => by
  obtain ⟨h1, h2, h3⟩ := h
  refine ⟨h1, ?_, owns_app h3 h' fun T hT => hd T (List.mem_cons_of_mem _ hT)⟩
  intro T hT b hb hb'
  rcases List.mem_append.1 hT with hT | hT
  ·exact h2 T hT b hb hb'
  ·exact hd S (List.mem_cons_self ..) T hT b hb hb'
def pickB (k : Nat) : List Ent → Option (Ent × List Ent)
 | [] => none
 | e :: L => match Nat.beq e.key k with
  | true => some (e, L)
  | false => match pickB k L with
   | some (x, r) => some (x, e :: r)
   | none => none
def pickE : List Nat → List Ent → Option (List Ent × List Ent)
 | [], L => some ([], L)
 | k :: ks, L => match pickB k L with
  | some (x, r) => match pickE ks r with
   | some (xs, r') => some (x :: xs, r')
   | none => none
  | none => none
theorem pickB_sound {ι : Ids} {w : World} {k : Nat} : ∀ {L r : List Ent} {x : Ent} {Ss : List (Nat → Prop)}, pickB k L = some (x, r) → owns ι w L Ss → ∃ S Ss', owns ι w (x :: r) (S :: Ss') ∧ ∀ T, T ∈ S :: Ss' ↔ T ∈ Ss
 | [], r, x, Ss, h, _ => by cases h
 | e :: L, r, x, Ss, h, ho => by
  cases Ss with
  | nil => simp [owns] at ho
  | cons S Ss =>
   simp only [pickB] at h
   split at h
   ·cases h; exact ⟨S, Ss, ho, fun T => Iff.rfl⟩
   ·split at h
    ·rename_i y q hq
     cases h
     obtain ⟨h1, h2, h3⟩ := ho
     obtain ⟨S', Ss', ⟨g1, g2, g3⟩, hmem⟩ := pickB_sound hq h3
     refine ⟨S', S :: Ss', ⟨g1, ?_, h1, ?_, g3⟩, ?_⟩
     ·intro T hT b hb hb'
      rcases List.mem_cons.1 hT with rfl | hT
      ·exact h2 S' ((hmem S').1 (List.mem_cons_self ..)) b hb' hb
      ·exact g2 T hT b hb hb'
     ·intro T hT
      exact h2 T ((hmem T).1 (List.mem_cons_of_mem _ hT))
     ·intro T
      simp only [List.mem_cons]
      have := hmem T
      simp only [List.mem_cons] at this
      rw [← this]
      constructor
      ·rintro (h | h | h); exact .inr (.inl h); exact .inl h; exact .inr (.inr h)
      ·rintro (h | h | h); exact .inr (.inl h); exact .inl h; exact .inr (.inr h)
    ·cases h
theorem pickE_sound {ι : Ids} {w : World} : ∀ {ks : List Nat} {L xs r : List Ent} {Ss : List (Nat → Prop)}, pickE ks L = some (xs, r) → owns ι w L Ss →
  ∃ Sx Sr, owns ι w xs Sx ∧ owns ι w r Sr ∧ (∀ S ∈ Sx, ∀ T ∈ Sr, ∀ b, S b → T b → False) ∧ (∀ T, T ∈ Sx ∨ T ∈ Sr ↔ T ∈ Ss)
 | [], L, xs, r, Ss, h, ho => by
  cases h
  exact ⟨[], Ss, trivial, ho, fun S hS => absurd hS (by simp), fun T => by simp⟩
 | k :: ks, L, xs, r, Ss, h, ho => by
  simp only [pickE] at h
  split at h
  ·rename_i x q hq
   split at h
   ·rename_i ys r' hr
    cases h
    obtain ⟨S, Ss', ⟨h1, h2, h3⟩, hmem⟩ := pickB_sound hq ho
    obtain ⟨Sx, Sr, g1, g2, g3, g4⟩ := pickE_sound hr h3
    refine ⟨S :: Sx, Sr, ⟨h1, fun T hT => h2 T ((g4 T).1 (.inl hT)), g1⟩, g2, ?_, ?_⟩
    ·intro U hU T hT b hb hb'
     rcases List.mem_cons.1 hU with rfl | hU
     ·exact h2 T ((g4 T).1 (.inr hT)) b hb hb'
     ·exact g3 U hU T hT b hb hb'
    ·intro T
     rw [← hmem T, List.mem_cons, List.mem_cons, ← g4 T, or_assoc]
   ·cases h
  ·cases h
section
variable {C : Ctx} {k : List It} {E : Env} {ι : Ids} {L : List Ent} {G : PH}
theorem S_unpack (κ : Nat) {p : Ids → List Ent → Prop} {L' : List Ent} (ks : List Nat) (hL : getH κ L = some (packHP p)) (hL' : delH κ L = some L') (hks : ∀ ι0 L0, p ι0 L0 → ι0.map (·.1) = ks) (hf : freshB ks ι = true)
  (hk : ∀ ι0 L0, p ι0 L0 → X C k E (ι0 ++ ι) (L0 ++ L') G) : X C k E ι L G := by
 intro a w h1 h2 h3 h4
 obtain ⟨Ss, ho, hS⟩ := h4.own
 obtain ⟨S, Ss', hA, hm, ho', hT⟩ := owns_del ho hL hL'
 obtain ⟨ι0, L0, Ss0, hp, ho0, hS0⟩ := hA
 have hr : IdsLe ι (ι0 ++ ι) := IdsLe.right (by rw [hks _ _ hp]; exact freshB_eq hf)
 refine hk ι0 L0 hp a w h1 h2 (h3.idsLe hr) ⟨h4.os, h4.tape, h4.output, h4.size, h4.keep, h4.emb, Ss0 ++ Ss', owns_app (owns_le (IdsLe.left ι0 ι) ho0) (owns_le hr ho') ?_, ?_⟩
 ·intro T hT0 U hU b hb hb'
  exact (hT U hU).2 b hb' ((hS0 b).2 ⟨T, hT0, hb⟩)
 ·intro T hT0 b hb
  rcases List.mem_append.1 hT0 with hT0 | hT0
  ·exact hS S hm b ((hS0 b).2 ⟨T, hT0, hb⟩)
  ·exact hS T (hT T hT0).1 b hb
theorem S_reE (d : Nat) (s' : Sym) {s : Sym} (hl : look d E = some s) (hd : denO ι s = denO ι s') (hk : X C k ((d, s') :: E) ι L G) : X C k E ι L G := by
 intro a w h1 h2 h3 h4
 refine hk a w h1 h2 ?_ h4
 intro i t hi
 simp only [look] at hi
 split at hi
 ·rename_i e; subst e; cases hi
  obtain ⟨v, hv, ht⟩ := h3 _ _ hl
  exact ⟨v, hd ▸ hv, ht⟩
 ·exact h3 i t hi
end
section
variable {C : Ctx} {k : List It} {E : Env} {ι : Ids} {L : List Ent} {G : PH}
end
section
variable {C : Ctx} {k : List It} {E : Env} {ι : Ids} {L : List Ent} {G : PH} {all : Array Oper} {l : List Oper}
end
section
variable {C : Ctx} {ks : List Nat} {all : Array Oper} {k : List It} {E : Env} {ι : Ids} {L : List Ent} {G : PH} {R : List Nat} {pend : List Pd}
theorem N_turn {T : Tab} (hT : tabOk C.P T) (j : Nat) {o : Oper} {R' : List Nat} {pend' : List Pd} {E' : Env} (ho : nthOp j all.toList = some o) (hR : strN (remN j R) = some R') (hp' : strP (dropP (edgeN o.after.toList) pend) = some pend') (hE : strE (penv (takeP (edgeN o.after.toList) pend) ++ E) = some E')
  (hx : (∀ (E'' : Env) (ι' : Ids) (L' : List Ent) (G' : PH), rechk ks T C.n ι' all L' (penv pend' ++ E'') E'' pend' = some pend' → D C ks all k R' pend' E'' ι' L' G' → X C (.ops all [] :: .stop (DR C all k R' pend') :: k) E'' ι' L' G') →
   X C (.ops all [o] :: .stop (DR C all k R' pend') :: k) E' ι L G) : Nx C ks all k R pend E ι L G j := by
 refine N_eff j ho hR hp' hE fun hok hp hdis => hx fun E'' ι' L' G' hrc h => ?_
 intro a w h1 h2 h3 h4
 refine wpE_nil (h hok (rechk_sound hT J _ _ hrc) ?_ _ _ h1 h2 h3 h4)
 intro p hpm hR'
 have hp' := strP_eq hp'
 have hR := strN_eq hR
 rw [dropP_eq] at hp'
 rw [remN_eq] at hR
 subst hp' hR
 exact hdis p (List.mem_filter.1 hpm).1 (List.mem_filter.1 hR').1
end
section
variable {C : Ctx} {ks : List Nat} {all : Array Oper} {k : List It} {E : Env} {ι : Ids} {L : List Ent} {G : PH} {R : List Nat} {pend : List Pd}
theorem Nt (j : Nat) {o : Oper} {R' : List Nat} {pend' : List Pd} {E' : Env} (h1 : soleB all R j R = true) (h2 : memN j R = true) (ho : nthOp j all.toList = some o) (hR : strN (remN j R) = some R') (hp' : strP (dropP (edgeN o.after.toList) pend) = some pend') (hE : strE (penv (takeP (edgeN o.after.toList) pend) ++ E) = some E')
  (hx : (∀ (E'' : Env) (ι' : Ids) (L' : List Ent) (G' : PH), rechk ks TT C.n ι' all L' (penv pend' ++ E'') E'' pend' = some pend' → D C ks all k R' pend' E'' ι' L' G' → X C (.ops all [] :: .stop (DR C all k R' pend') :: k) E'' ι' L' G') →
      X C (.ops all [o] :: .stop (DR C all k R' pend') :: k) E' ι L G) (hT : tabOk C.P TT := by exact Tk) : D C ks all k R pend E ι L G := D_sole j h1 h2 (N_turn hT j ho hR hp' hE hx)
end
end
section
def rowO (base e size : Nat) (A : Option Addr) (n c : Nat) (xs : List Value) : HP where
 holds w S := xs.length = n * size ∧ c ≤ maxLen ∧ n ≤ c ∧ ((A = none ∧ c = 0 ∧ ∀ b, ¬ S b) ∨ ∃ g off cur, A = some ⟨g, off, none⟩ ∧ base ≤ g ∧ w.heap[g]? = some (.cells cur e (0, 0)) ∧ off + c * size ≤ cur.size ∧ (cur.toList.drop off).take xs.length = xs ∧ ∀ b, S b ↔ b = g)
 loc w w' S h hs := by
  obtain ⟨h1, h2, h3, h4⟩ := h
  refine ⟨h1, h2, h3, ?_⟩
  rcases h4 with h4 | ⟨g, off, cur, q1, q0, q2, q3, q4, q5⟩
  ·exact .inl h4
  ·exact .inr ⟨g, off, cur, q1, q0, by rw [hs g ((q5 g).2 J)]; exact q2, q3, q4, q5⟩
 lt w S h b hb := by
  obtain ⟨h1, h2, h3, h4⟩ := h
  rcases h4 with h4 | ⟨g, off, cur, q1, q0, q2, q3, q4, q5⟩
  ·exact absurd hb (h4.2.2 b)
  ·rw [(q5 b).1 hb]; exact (Array.getElem?_eq_some_iff.1 q2).1
theorem add_lit' (g off n : Nat) : (⟨g, off, none⟩ : Addr).add n = ⟨g, off + n, none⟩ := by unfold Addr.add; split <;> simp_all
theorem cells_at {w : World} {g off e : Nat} {cur : Array Value} {xs : List Value} (hg : w.heap[g]? = some (.cells cur e (0, 0))) (ht : (cur.toList.drop off).take xs.length = xs) : ∀ j u, xs[j]? = some u → w.cell? ((⟨g, off, none⟩ : Addr).add j) = some u := by
 intro j u hj
 rw [add_lit']
 simp only [World.cell?, hg]
 rw [← ht] at hj
 rw [List.getElem?_take] at hj
 split at hj
 ·simpa using hj
 ·cases hj
def SrcOk (w : World) (sz : Nat) (v : Value) (m : Nat) (news : List Value) : Prop :=
 news.length = m * sz ∧ ∃ A c, v = .slice A m c ∧ (m = 0 ∨ ∃ a, A = some a ∧ ∀ j u, news[j]? = some u → w.cell? (a.add j) = some u)
theorem run_appendO {P : Program} (w : World) (base t ty e : Nat) (i : TypeInfo) (z : Value) (sz : Nat) (ht : P.underlying t = some (.slice e)) (hi : P.info? e = some i) (hz : i.zero = some z) (hsz : i.size = sz) (hzs : z.cells.size = sz) (hpos : 0 < sz)
  {A : Option Addr} {n c : Nat} {xs : List Value} {S : Nat → Prop} (hA : (rowO base e sz A n c xs).holds w S) {v : Value} {m : Nat} {news : List Value} (hs : SrcOk w sz v m news) (h1 : ∀ u ∈ news, u.oneCell' = true)
  (h63 : n + m ≤ maxLen) (hby : (n + m) * i.bytes ≤ 140737488355328) (hbase : base ≤ w.heap.size) :
  ∃ A' c' w' S', (Builtin.append_ #[t, t] ty #[.slice A n c, v]).run P w = .ok (.slice A' (n + m) c') w' ∧ (rowO base e sz A' (n + m) c' (xs ++ news)).holds w' S' ∧ (∀ b, S' b → S b ∨ b = w.heap.size) ∧
   w'.os = w.os ∧ w'.tape = w.tape ∧ w'.output = w.output ∧ w.heap.size ≤ w'.heap.size ∧ (∀ b, b < w.heap.size → ¬ S b → w'.heap[b]? = w.heap[b]?) ∧ (A' = A ∨ ∃ g, A' = some ⟨g, 0, none⟩) := by
 obtain ⟨hl, A2, c2, rfl, hsrc⟩ := hs
 obtain ⟨hxl, hcm, hnc, hcase⟩ := hA
 have hsmall : n + m ≤ 9223372036854775807 := by simp only [maxLen] at h63; omega
 rcases hsrc with rfl | ⟨a, rfl, hnews⟩
 ·-- nothing is appended
  have hn : news = [] := List.eq_nil_of_length_eq_zero (by simpa using hl)
  subst hn
  refine ⟨A, c, w, S, ?_, by simp only [Nat.add_zero, List.append_nil]; exact ⟨hxl, hcm, hnc, hcase⟩, fun b hb => .inl hb, rfl, rfl, rfl, Nat.le_refl _, fun _ _ _ => rfl, .inl rfl⟩
  have hf : ∀ w, (Builtin.firstCells i.size 0 (.slice A2 0 c2)).run P w = .ok #[] w := by
   intro w
   cases A2 with
   | none => exact run_firstCells_none (P := P) w i.size 0 0 c2
   | some a => exact run_firstCells_some (P := P) w i.size 0 a 0 c2 [] (by simp) (by simp)
  rcases hcase with ⟨rfl, rfl, _⟩ | ⟨g, off, cur, rfl, _, hg, hfit, _, _⟩
  ·obtain rfl : n = 0 := by omega
   simp [Builtin.append_, run_underlying ht, sizeOf, typeInfo, hi, Builtin.lenOf, hf]
  ·have hst : ∀ a, (storeCells a []).run P w = .ok () w := fun a => by simp [storeCells]
   simp [Builtin.append_, run_underlying ht, sizeOf, typeInfo, hi, Builtin.lenOf, hnc, hf, hst]
 ·subst hsz
  by_cases hm : m = 0
  ·subst hm
   have hn : news = [] := List.eq_nil_of_length_eq_zero (by simpa using hl)
   subst hn
   refine ⟨A, c, w, S, ?_, by simp only [Nat.add_zero, List.append_nil]; exact ⟨hxl, hcm, hnc, hcase⟩, fun b hb => .inl hb, rfl, rfl, rfl, Nat.le_refl _, fun _ _ _ => rfl, .inl rfl⟩
   have hf : ∀ w, (Builtin.firstCells i.size 0 (.slice (some a) 0 c2)).run P w = .ok #[] w := fun w => run_firstCells_some (P := P) w i.size 0 a 0 c2 [] (by simp) (by simp)
   rcases hcase with ⟨rfl, rfl, _⟩ | ⟨g, off, cur, rfl, _, hg, hfit, _, _⟩
   ·obtain rfl : n = 0 := by omega
    simp [Builtin.append_, run_underlying ht, sizeOf, typeInfo, hi, Builtin.lenOf, hf]
   ·have hst : ∀ a, (storeCells a []).run P w = .ok () w := fun a => by simp [storeCells]
    simp [Builtin.append_, run_underlying ht, sizeOf, typeInfo, hi, Builtin.lenOf, hnc, hf, hst]
  ·have grown : ∀ (old : Nat), (rowO base e i.size (some ⟨w.heap.size, 0, none⟩) (n + m) (grownCap w (n + m) old e) (xs ++ news)).holds (w.drew.alloc (.cells (xs.toArray ++ news.toArray ++ Builtin.zeroCells z.cells (grownCap w (n + m) old e - (n + m))) e)) (fun b => b = w.heap.size) := by
    intro old
    have hge := grownCap_ge w (n + m) old e
    have hcm' : grownCap w (n + m) old e ≤ maxLen := grownCap_le_maxLen w (n + m) old e h63
    refine ⟨by rw [List.length_append, hxl, hl, Nat.add_mul], hcm', hge, .inr ⟨_, 0, _, rfl, hbase, heap_alloc_new w.drew _, ?_, ?_, fun b => Iff.rfl⟩⟩
    ·simp only [Array.size_append, List.size_toArray, size_zeroCells, hzs, hxl, hl, ← Nat.add_mul]
     rw [Nat.zero_add]
     exact Nat.mul_le_mul_right _ (by omega)
    ·simp only [Array.toList_append, List.drop_zero]
     exact List.take_left
   have hold : ∀ old b, b < w.heap.size → (w.drew.alloc (.cells (xs.toArray ++ news.toArray ++ Builtin.zeroCells z.cells (grownCap w (n + m) old e - (n + m))) e)).heap[b]? = w.heap[b]? := fun old b hb => heap_alloc_old w.drew _ hb
   rcases hcase with ⟨rfl, rfl, hS⟩ | ⟨g, off, cur, rfl, hbg, hg, hfit, htake, hS⟩
   ·obtain rfl : n = 0 := by omega
    have hx : xs = [] := List.eq_nil_of_length_eq_zero (by simpa using hxl)
    subst hx
    have hr := run_append_nil (P := P) w t ty e i z ht hi hz a m c2 news hl hnews (by omega) (by omega) (by have hb := hby; simp only [Nat.zero_add] at hb; omega)
    have hgr := grown 0
    simp only [Nat.zero_add, List.nil_append, Array.empty_append] at hgr ⊢
    have hold0 := hold 0
    simp only [Nat.zero_add, List.nil_append, Array.empty_append] at hold0
    exact ⟨_, _, _, _, hr, hgr, fun b hb => .inr hb, rfl, rfl, rfl, by simp, fun b hb _ => hold0 b hb, .inr ⟨_, rfl⟩⟩
   ·by_cases hroom : n + m ≤ c
    ·have hf := run_firstCells_some (P := P) w i.size m a m c2 news hl hnews
     have hlen : off + n * i.size + news.length ≤ cur.size := by
      rw [hl, Nat.add_assoc, ← Nat.add_mul]
      exact Nat.le_trans (Nat.add_le_add_left (Nat.mul_le_mul_right _ hroom) _) hfit
     have hst := run_storeCells_at P g (off + n * i.size) e news 0 cur w hg (by simpa using hlen) h1
     simp only [Nat.add_zero] at hst
     refine ⟨some ⟨g, off, none⟩, c, w.setRow g (cur.toList.take (off + n * i.size) ++ news ++ cur.toList.drop (off + n * i.size + news.length)).toArray, S, ?_, ⟨by rw [List.length_append, hxl, hl, Nat.add_mul], hcm, hroom, .inr ⟨g, off, _, rfl, hbg, setRow_heap w g cur _ e _ hg, ?_, ?_, hS⟩⟩, fun b hb => .inl hb, rfl, rfl, rfl, by simp, fun b _ hb => setRow_other w g b _ (fun e => hb ((hS b).2 e)), .inl rfl⟩
     ·simp [Builtin.append_, run_underlying ht, sizeOf, typeInfo, hi, Builtin.lenOf, hroom, hf, add_lit', hst]
     ·simp only [List.size_toArray, List.length_append, List.length_take, List.length_drop, Array.length_toList]
      omega
     ·have hlc : off + n * i.size ≤ cur.toList.length := by rw [Array.length_toList]; omega
      have e1 : List.take (off + n * i.size) cur.toList = List.take off cur.toList ++ xs := by
       rw [List.take_add, ← hxl, htake]
      show (List.drop off (List.take (off + n * i.size) cur.toList ++ news ++ List.drop (off + n * i.size + news.length) cur.toList)).take (xs ++ news).length = xs ++ news
      rw [e1]
      have hoff : (List.take off cur.toList).length = off := by rw [List.length_take]; omega
      rw [List.append_assoc, List.append_assoc]
      have hd : List.drop off (List.take off cur.toList ++ (xs ++ (news ++ List.drop (off + n * i.size + news.length) cur.toList))) = xs ++ (news ++ List.drop (off + n * i.size + news.length) cur.toList) := by
       have := List.drop_left (l₁ := List.take off cur.toList) (l₂ := xs ++ (news ++ List.drop (off + n * i.size + news.length) cur.toList))
       rw [hoff] at this
       exact this
      rw [hd, ← List.append_assoc]
      exact List.take_left
    ·have holds : ∀ j u, xs[j]? = some u → w.cell? ((⟨g, off, none⟩ : Addr).add j) = some u := cells_at hg htake
     have hr := run_append_grow (P := P) w t ty e i z ht hi hz ⟨g, off, none⟩ n c xs hxl holds a m c2 news hl hnews (by omega) (by omega) (growslice_fits (by omega) hby)
     exact ⟨_, _, _, _, hr, grown c, fun b hb => .inr hb, rfl, rfl, rfl, by simp, fun b hb _ => hold c b hb, .inr ⟨_, rfl⟩⟩
section
variable {C : Ctx} {k : List It} {E : Env} {ι : Ids} {L : List Ent} {G : PH} {all : Array Oper} {l : List Oper}
theorem S_appOz {T : Tab} (hT : tabOk C.P T) (κ : Nat) {d t e sz' sz : Nat} {os os' : List Nat} {tk : TK} {zi : ZI} {s x : Operand} {sx : Sym} {ty : Nat} {pos : String} {af : Array Edge} {g : Option (Nat × Bool)} {base : Nat} {A : Option Addr} {vx : Value} {n m c : Nat} {xs news : List Value} {L' : Option Addr → Nat → List Ent}
  (ht : lookT t T = some ⟨.slc e, sz', os'⟩) (he : lookT e T = some ⟨tk, sz, os⟩) (hz : lookZ e T.zs = some zi) (hzs : zi.zs.length = sz) (hsz : Nat.ble 1 sz = true)
  (hg : guardOf all E g = .on) (hN : Nat.ble (d + 1) C.n = true) (hs : ev E s = some (.val (.slice A n c))) (hx : ev E x = some sx) (hdx : denO ι sx = some vx)
  (hL : getH κ L = some (rowO base e sz A n c xs)) (hL' : ∀ A' c', setH κ (rowO base e sz A' (n + m) c' (xs ++ news)) L = some (L' A' c'))
  (hsrc : ∀ w, SatW C ι L G w → SrcOk w sz vx m news) (h1 : ∀ u ∈ news, u.oneCell' = true) (hby : (n + m) * zi.b ≤ 140737488355328) (h63 : n + m ≤ maxLen) (hbase : base ≤ C.w0.heap.size)
  (hk : ∀ A' c', (A' = A ∨ ∃ g, A' = some ⟨g, 0, none⟩) → X C (.ops all l :: k) ((d, .val (.slice A' (n + m) c')) :: E) ι (L' A' c') G) : X C (.ops all (⟨some d, .call ⟨.builtin .append, #[s, x], #[t, t]⟩, ty, pos, af, g⟩ :: l) :: k) E ι L G := by
 intro a w g1 g2 g3 g4
 have hdn : d < a.tmps.size := by rw [g2]; exact Nat.le_of_ble_eq_true hN
 have es := ev_sound g3 hs
 have ex := ev_sound g3 hx
 rw [hdx] at ex
 simp only [denO, Option.some.injEq] at es ex
 have hu := tyOk_slice (hT _ _ ht) rfl
 obtain ⟨dsc, inf, _, hi, _, hsize, _⟩ := tyOk_parts (hT _ _ he)
 obtain ⟨inf', vz, hi', hv, hb, hc, _⟩ := viewZ_eq (hT.z _ _ hz)
 rw [hi] at hi'; cases hi'
 obtain ⟨S2, hA, hS2G, hturn⟩ := g4.turn hL
 obtain ⟨A', c', w', S', hr, hA', hS', q1, q2, q3, q4, q5, q6⟩ := run_appendO (P := C.P) w base t ty e inf vz sz hu hi hv hsize (by rw [hc]; simpa using hzs) (Nat.le_of_ble_eq_true hsz) hA (hsrc w g4) h1 h63 (by rw [hb]; exact hby) (Nat.le_trans hbase g4.size)
 have hrun : (execOp a.eval ⟨some d, .call ⟨.builtin .append, #[s, x], #[t, t]⟩, ty, pos, af, g⟩).run C.P w = .ok (.value (.slice A' (n + m) c')) w' := by
  simp only [execOp, resolve, invoke, List.map_toArray, List.map_cons, List.map_nil, ← es, ← ex]
  simp [builtin, hr]
 refine wpE_val (guardOf_on g3 hg) (by intro c h; cases h) hrun ?_;refine hk A' c' q6 _ _ g1 (by simp [Act.put, g2]) (g3.put hdn J) ?_
 have hGlt : ∀ b o, G b = some o → b < w.heap.size := fun b o hb => (Array.getElem?_eq_some_iff.1 (g4.emb b o hb)).1
 refine hturn _ _ G w' S' (hL' A' c') hA' ?_ XR ?_ q1 q2 q3 q4 q5
 ·intro b o hb
  rw [q5 b (hGlt b o hb) (fun h => by rw [hS2G b h] at hb; cases hb)]
  exact g4.emb b o hb
 ·intro b hb
  rcases hS' b hb with h | h
  ·exact ⟨hS2G b h, .inl h⟩
  ·subst h
   refine ⟨?_, .inr (Nat.le_refl _)⟩
   cases hq : G w.heap.size with
   | none => rfl
   | some o => have := hGlt _ _ hq; omega
theorem S_appO {T : Tab} (hT : tabOk C.P T) (κ : Nat) {d t e sz' sz : Nat} {os os' : List Nat} {tk : TK} {zi : ZI} {s x : Operand} {sx : Sym} {ty : Nat} {pos : String} {af : Array Edge} {g : Option (Nat × Bool)} {base : Nat} {A : Option Addr} {vx : Value} {n m c : Nat} {xs news : List Value} {L' : Option Addr → Nat → List Ent}
  (ht : lookT t T = some ⟨.slc e, sz', os'⟩) (he : lookT e T = some ⟨tk, sz, os⟩) (hz : lookZ e T.zs = some zi) (hzs : zi.zs.length = sz) (hsz : Nat.ble 1 sz = true)
  (hg : guardOf all E g = .on) (hN : Nat.ble (d + 1) C.n = true) (hs : ev E s = some (.val (.slice A n c))) (hx : ev E x = some sx) (hdx : denO ι sx = some vx)
  (hL : getH κ L = some (rowO base e sz A n c xs)) (hL' : ∀ A' c', setH κ (rowO base e sz A' (n + m) c' (xs ++ news)) L = some (L' A' c'))
  (hsrc : ∀ w, SatW C ι L G w → SrcOk w sz vx m news) (h1 : ∀ u ∈ news, u.oneCell' = true) (hby : (n + m) * zi.b ≤ 140737488355328) (h63 : n + m ≤ maxLen) (hbase : base ≤ C.w0.heap.size)
  (hk : ∀ A' c', X C (.ops all l :: k) ((d, .val (.slice A' (n + m) c')) :: E) ι (L' A' c') G) : X C (.ops all (⟨some d, .call ⟨.builtin .append, #[s, x], #[t, t]⟩, ty, pos, af, g⟩ :: l) :: k) E ι L G :=
 S_appOz hT κ ht he hz hzs hsz hg hN hs hx hdx hL hL' hsrc h1 hby h63 hbase fun A' c' _ => hk A' c'
theorem src_blk (j : Nat) {o ty b m c sz : Nat} {ns : List Cel} {cs : List Value} (hB : lookB j L = some (ty, ns)) (hd : denL ι ns = some cs) (hb : lookI j ι = some b) {news : List Value} (hn : (cs.drop o).take (m * sz) = news) (hl : news.length = m * sz) :
  ∀ w, SatW C ι L G w → SrcOk w sz (.slice (some ⟨b, o, none⟩) m c) m news := by
 intro w hw
 refine ⟨hl, some ⟨b, o, none⟩, c, J, .inr ⟨_, J, ?_⟩⟩
 obtain ⟨Ss, ho, _⟩ := hw.own
 obtain ⟨b', vs, hb', hdv, hh⟩ := owns_blk ho hB
 rw [hb] at hb'; cases hb'
 rw [hd] at hdv; cases hdv
 refine cells_at hh ?_
 rw [hl]; simpa using hn
theorem src_G {A : Option Addr} {m c sz : Nat} {news : List Value} (hl : news.length = m * sz) (h : m = 0 ∨ ∃ a, A = some a ∧ gcells G a news) : ∀ w, SatW C ι L G w → SrcOk w sz (.slice A m c) m news := by
 intro w hw
 refine ⟨hl, A, c, J, ?_⟩
 rcases h with h | ⟨a, h1, h2⟩
 ·exact .inl h
 ·exact .inr ⟨a, h1, fun j u hj => gcell_emb hw.emb (gcells_at h2 j u hj)⟩
theorem S_nilO (κ : Nat) {base e size : Nat} (hx : X C k E ι (.hp κ (rowO base e size none 0 0 []) :: L) G) : X C k E ι L G := by
 intro a w h1 h2 h3 h4
 refine hx a w h1 h2 h3 ?_;obtain ⟨Ss, ho, hS⟩ := h4.own
 refine ⟨h4.os, h4.tape, h4.output, h4.size, h4.keep, h4.emb, (fun _ => False) :: Ss, ⟨⟨by simp, by simp [maxLen], Nat.le_refl _, .inl ⟨rfl, rfl, fun _ h => h⟩⟩, fun T _ b hb => hb.elim, ho⟩, ?_⟩
 intro T hT b hb
 rcases List.mem_cons.1 hT with rfl | hT
 ·exact hb.elim
 ·exact hS T hT b hb
theorem S_emptyOz {T : Tab} (hT : tabOk C.P T) (κ : Nat) {d t e sz sz' : Nat} {os os' : List Nat} {tk : TK} {ty : Nat} {pos : String} {af : Array Edge} {g : Option (Nat × Bool)} (ht : lookT t T = some ⟨.slc e, sz', os'⟩) (he : lookT e T = some ⟨tk, sz, os⟩)
  (hg : guardOf all E g = .on) (hN : Nat.ble (d + 1) C.n = true)
  (hk : ∀ A, (∃ g, A = some ⟨g, 0, none⟩) → X C (.ops all l :: k) ((d, .val (.slice A 0 0)) :: E) ι (.hp κ (rowO C.w0.heap.size e sz A 0 0 []) :: L) G) : X C (.ops all (⟨some d, .buildSlice t 0 #[], ty, pos, af, g⟩ :: l) :: k) E ι L G := by
 intro a w h1 h2 h3 h4
 have hus := tyOk_slice (hT _ _ ht) rfl
 have hrun : (execOp a.eval ⟨some d, .buildSlice t 0 #[], ty, pos, af, g⟩).run C.P w = .ok (.value (.slice (some ⟨w.heap.size, 0, none⟩) 0 0)) (w.alloc (.cells #[] e)) := by
  simp only [execOp]
  have hr0 : Array.range 0 = #[] := by apply Array.toList_inj.1; simp
  simp [Instr.buildSlice, run_underlying hus, tyOk_size (hT _ _ he), Instr.fill, newRow, hr0]
 refine wpE_val (guardOf_on h3 hg) (by intro c h; cases h) hrun ?_
 have hdn : d < a.tmps.size := by rw [h2]; exact Nat.le_of_ble_eq_true hN
 refine hk _ ⟨_, J⟩ _ _ h1 (by simp [Act.put, h2]) (h3.put hdn J) ?_;obtain ⟨Ss, ho, hS⟩ := (h4.allocH κ (.cells #[] e)).own
 have hal := h4.allocH κ (.cells #[] e)
 cases Ss with
 | nil => simp [owns] at ho
 | cons S Ss =>
  obtain ⟨hA, hd, hr⟩ := ho
  exact ⟨hal.os, hal.tape, hal.output, hal.size, hal.keep, hal.emb, S :: Ss, ⟨⟨by simp, by simp [maxLen], Nat.le_refl _, .inr ⟨_, 0, #[], J, h4.size, hA.1, by simp, by simp, hA.2⟩⟩, hd, hr⟩, hS⟩
theorem S_emptyO {T : Tab} (hT : tabOk C.P T) (κ : Nat) {d t e sz sz' : Nat} {os os' : List Nat} {tk : TK} {ty : Nat} {pos : String} {af : Array Edge} {g : Option (Nat × Bool)} (ht : lookT t T = some ⟨.slc e, sz', os'⟩) (he : lookT e T = some ⟨tk, sz, os⟩)
  (hg : guardOf all E g = .on) (hN : Nat.ble (d + 1) C.n = true)
  (hk : ∀ A, X C (.ops all l :: k) ((d, .val (.slice A 0 0)) :: E) ι (.hp κ (rowO C.w0.heap.size e sz A 0 0 []) :: L) G) : X C (.ops all (⟨some d, .buildSlice t 0 #[], ty, pos, af, g⟩ :: l) :: k) E ι L G :=
 S_emptyOz hT κ ht he hg hN fun A _ => hk A
theorem S_someO (κ : Nat) {base e sz : Nat} {A : Option Addr} {n c : Nat} {xs : List Value} (hL : getH κ L = some (rowO base e sz A n c xs)) (hn : 0 < c) (hk : ∀ g off, A = some ⟨g, off, none⟩ → X C k E ι L G) : X C k E ι L G := by
 intro a w h1 h2 h3 h4
 obtain ⟨Ss, ho, _⟩ := h4.own
 obtain ⟨S, ⟨q1, q2, q3, q4⟩, _⟩ := owns_split ho hL
 rcases q4 with ⟨_, q4, _⟩ | ⟨g, off, cur, rfl, _⟩
 ·omega
 ·exact hk g off J a w h1 h2 h3 h4
theorem S_capO (κ : Nat) {base e sz : Nat} {A : Option Addr} {n c : Nat} {xs : List Value} (hL : getH κ L = some (rowO base e sz A n c xs)) (hk : n ≤ c → c ≤ maxLen → xs.length = n * sz → X C k E ι L G) : X C k E ι L G := by
 intro a w h1 h2 h3 h4
 obtain ⟨Ss, ho, _⟩ := h4.own
 obtain ⟨S, ⟨q1, q2, q3, q4⟩, _⟩ := owns_split ho hL
 exact hk q3 q2 q1 a w h1 h2 h3 h4
end
theorem V_loadR {C : Ctx} {ι : Ids} {E : Env} {L : List Ent} {G : PH} {d : Option Nat} {ty : Nat} {pos : String} {af : Array Edge} {g : Option (Nat × Bool)} {T : Tab} (hT : tabOk C.P T) (κ : Nat) {t : Nat} {i : TyI} {x : Operand} {gb off o : Nat} {v : Value} {base e sz : Nat} {n c : Nat} {xs : List Value}
  (hL : getH κ L = some (rowO base e sz (some ⟨gb, off, none⟩) n c xs)) (hx : ev E x = some (.val (.pointer (some ⟨gb, off + o, none⟩)))) (ht : lookT t T = some i) (hk0 : i.k.isAgg = false) (hc : xs[o]? = some v) : Vl C ι E L G ⟨d, .load t x, ty, pos, af, g⟩ v := by
 intro a w hE hw
 obtain ⟨Ss, ho, _⟩ := hw.own
 obtain ⟨S, ⟨q1, q2, q3, q4⟩, _⟩ := owns_split ho hL
 have ex := ev_sound hE hx
 simp only [denO, Option.some.injEq] at ex
 rcases q4 with ⟨q4, _⟩ | ⟨g', off', cur, q, _, q5, q6, q7, q8⟩
 ·cases q4
 ·cases q
  have := cells_at q5 q7 o v hc
  rw [add_lit'] at this
  simp only [execOp, ← ex]
  simp [Instr.loadAt, loadVar, Instr.sureAddr, tyOk_agg (hT _ _ ht), hk0, this]
def PH.del (G : PH) (g : Nat) : PH := fun b => if b = g then none else G b
def newp (G G' : PH) : PH := fun b => match G b with
 | some _ => none
 | none => G' b
theorem newp_le (G G' : PH) : (newp G G').le G' := by
 intro b o h
 unfold newp at h
 split at h
 ·cases h
 ·exact h
theorem newp_mono {G G1 G2 : PH} (h : G.le G1) (h12 : G1.le G2) : (newp G1 G2).le (newp G G2) := by
 intro b o hb
 unfold newp at hb ⊢
 split at hb
 ·cases hb
 ·rename_i hn
  split
  ·rename_i x hx; rw [h b x hx] at hn; cases hn
  ·exact hb
theorem PH.ext.del {B : Nat} {G G2 : PH} {g : Nat} {o : Obj} (hg : G g = none) (h : PH.ext B (G.add g o) G2) : PH.ext B G (G2.del g) := by
 refine ⟨fun b o' hb => ?_, fun b o' hb hn => ?_⟩
 ·unfold PH.del
  rw [if_neg (by rintro rfl; rw [hg] at hb; cases hb)]
  refine h.le b o' ?_
  unfold PH.add
  rw [if_neg (by rintro rfl; rw [hg] at hb; cases hb)]
  exact hb
 ·unfold PH.del at hb
  split at hb
  ·cases hb
  ·rename_i hne
   refine h.new b o' hb ?_
   unfold PH.add
   rw [if_neg hne]; exact hn
section
variable {C : Ctx} {k : List It} {E : Env} {ι : Ids} {L : List Ent} {G : PH}
theorem SatW.lend {a : Act} {w : World} {L' : List Ent} {b : Nat} {o : Obj} {S : Nat → Prop} {Ss Ss' : List (Nat → Prop)} (h : SatW C ι L G w) (ho : owns ι w L Ss) (hS : ∀ S ∈ Ss, ∀ b, S b → G b = none ∧ (C.S0 b ∨ C.w0.heap.size ≤ b)) (hh : w.heap[b]? = some o) (hSb : ∀ x, S x ↔ x = b) (hm : S ∈ Ss) (ho' : owns ι w L' Ss') (hT : ∀ T ∈ Ss', T ∈ Ss ∧ ∀ x, T x → ¬ S x) :
  G b = none ∧ (C.S0 b ∨ C.w0.heap.size ≤ b) ∧ SatW C ι L' (G.add b o) w := by
 have hGb := hS S hm b ((hSb b).2 rfl)
 refine ⟨hGb.1, hGb.2, h.os, h.tape, h.output, h.size, h.keep, ?_, Ss', ho', ?_⟩
 ·intro x o' hx
  unfold PH.add at hx
  split at hx
  ·rename_i e; subst e; cases hx; exact hh
  ·exact h.emb x o' hx
 ·intro T hT' x hx
  obtain ⟨h1, h2⟩ := hT T hT'
  obtain ⟨h3, h4⟩ := hS T h1 x hx
  refine ⟨?_, h4⟩
  unfold PH.add
  rw [if_neg (fun e => h2 x hx ((hSb x).2 e))]
  exact h3
theorem le_add {G : PH} {b : Nat} {o : Obj} (h : G b = none) : G.le (G.add b o) := by
 intro x o' hx
 unfold PH.add
 rw [if_neg (by rintro rfl; rw [h] at hx; cases hx)]
 exact hx
theorem S_lendB (key : Nat) {b ty : Nat} {cs : List Cel} {vs : List Value} {L' : List Ent} (hj : lookI key ι = some b) (hB : lookB key L = some (ty, cs)) (hd : denL ι cs = some vs) (hL' : delB key L = some L')
  (hk : G b = none → (C.S0 b ∨ C.w0.heap.size ≤ b) → X C k E ι L' (G.add b (.cells vs.toArray ty (0, 0)))) : X C k E ι L G := by
 intro a w g1 g2 g3 g4
 obtain ⟨Ss, ho, hS⟩ := g4.own
 obtain ⟨S, Ss', b', hb', hh, hSb, hm, ho', hT⟩ := owns_delB hd ho hB hL'
 rw [hj] at hb'; cases hb'
 obtain ⟨h0, h1, h2⟩ := SatW.lend (a := a) g4 ho hS hh hSb hm ho' hT
 exact hk h0 h1 a w (g1.mono (le_add h0)) g2 g3 h2
theorem SatW.back {w : World} {b : Nat} {o : Obj} (h : SatW C ι L G w) (hG : G b = some o) (hb : C.S0 b ∨ C.w0.heap.size ≤ b) {e : Ent} (he : ∀ S : Nat → Prop, (∀ x, S x ↔ x = b) → e.holds ι w S) : SatW C ι (e :: L) (G.del b) w := by
 obtain ⟨Ss, ho, hS⟩ := h.own
 refine ⟨h.os, h.tape, h.output, h.size, h.keep, fun x o' hx => ?_, (fun x => x = b) :: Ss, ⟨he _ fun x => Iff.rfl, ?_, ho⟩, ?_⟩
 ·unfold PH.del at hx
  split at hx
  ·cases hx
  ·exact h.emb x o' hx
 ·rintro T hT x rfl hx
  have := (hS T hT _ hx).1; rw [hG] at this; cases this
 ·intro T hT x hx
  rcases List.mem_cons.1 hT with rfl | hT
  ·subst hx
   exact ⟨by simp [PH.del], hb⟩
  ·obtain ⟨h1, h2⟩ := hS T hT x hx
   refine ⟨?_, h2⟩
   unfold PH.del
   split
   ·rfl
   ·exact h1
theorem DfsOk.del {ds : List Deferred} (h : DfsOk C G ds) {b : Nat} {vs : Array Value} {ty : Nat} {fr : Nat × Nat} (hG : G b = some (.cells vs ty fr)) : DfsOk C (G.del b) ds := by
 unfold DfsOk at h ⊢
 split at h
 ·exact h
 ·obtain ⟨Ds, h1, h2, h3⟩ := h
  refine ⟨Ds, h1, h2, fun D hD => ⟨(h3 D hD).1, ?_⟩⟩
  unfold PH.del
  rw [if_neg (by rintro rfl; rw [(h3 _ hD).2] at hG; cases hG)]
  exact (h3 D hD).2
theorem S_lendO (κ : Nat) {base e sz : Nat} {A : Option Addr} {n c : Nat} {xs : List Value} {L' : List Ent} (hL : getH κ L = some (rowO base e sz A n c xs)) (hL' : delH κ L = some L')
  (h0 : A = none → n = 0 → c = 0 → xs = [] → X C k E ι L' G)
  (hk : ∀ g off cur, A = some ⟨g, off, none⟩ → base ≤ g → n ≤ c → c ≤ maxLen → xs.length = n * sz → off + c * sz ≤ cur.size → (cur.toList.drop off).take xs.length = xs → G g = none → (C.S0 g ∨ C.w0.heap.size ≤ g) → gcells (G.add g (.cells cur e (0, 0))) ⟨g, off, none⟩ xs → X C k E ι L' (G.add g (.cells cur e (0, 0)))) : X C k E ι L G := by
 intro a w g1 g2 g3 g4
 obtain ⟨Ss, ho, hS⟩ := g4.own
 obtain ⟨S, Ss', hA, hm, ho', hT⟩ := owns_del ho hL hL'
 obtain ⟨q1, q2, q3, q4⟩ := hA
 rcases q4 with ⟨rfl, rfl, q4⟩ | ⟨g, off, cur, rfl, q0, q5, q6, q7, q8⟩
 ·obtain rfl : n = 0 := by omega
  exact h0 J J J (List.eq_nil_of_length_eq_zero (by simpa using q1)) a w g1 g2 g3 ⟨g4.os, g4.tape, g4.output, g4.size, g4.keep, g4.emb, Ss', ho', fun T hT' => hS T (hT T hT').1⟩
 ·obtain ⟨h0, h1, h2⟩ := SatW.lend (a := a) g4 ho hS q5 q8 hm ho' hT
  exact hk g off cur J q0 q3 q2 q1 q6 q7 h0 h1 (gcells_row (cur := cur) (e := e) (fr := (0, 0)) (by simp [PH.add]) xs off q7) a w (g1.mono (le_add h0)) g2 g3 h2
theorem S_freezeR (κ : Nat) {base e sz : Nat} {A : Option Addr} {n c : Nat} {xs : List Value} {L' : List Ent} (hL : getH κ L = some (rowO base e sz A n c xs)) (hL' : delH κ L = some L') (hb0 : C.w0.heap.size ≤ base)
  (hk : ∀ G', PH.ext C.w0.heap.size G G' → n ≤ c → c ≤ maxLen → (n = 0 ∨ ∃ a, A = some a ∧ gcells (newp G G') a xs) → X C k E ι L' G') : X C k E ι L G := by
 refine S_lendO κ hL hL' (fun hA hn hc hx => ?_) (fun g off cur hA hbg hnc hcm hl hfit ht hG hb hcells => ?_)
 ·exact hk G XR (by omega) (by rw [hc]; simp [maxLen]) (.inl hn)
 ·refine hk _ ⟨le_add hG, fun b o hbo hn => ?_⟩ hnc hcm (.inr ⟨_, hA, ?_⟩)
  ·unfold PH.add at hbo
   split at hbo
   ·rename_i e'; subst e'; omega
   ·rw [hn] at hbo; cases hbo
  ·refine gcells_row (cur := cur) (e := e) (fr := (0, 0)) ?_ xs off ht
   simp [newp, hG, PH.add]
theorem S_blkO (key κ : Nat) {base b e sz n c o : Nat} {cs : List Cel} {vs xs : List Value} {L' : List Ent} (hj : lookI key ι = some b) (hB : lookB key L = some (e, cs)) (hd : denL ι cs = some vs) (hL' : delB key L = some L') (hbase : base ≤ b ∨ base = 0 ∨ (base = C.w0.heap.size ∧ ∀ x, ¬ C.S0 x))
  (hx : (vs.drop o).take (n * sz) = xs) (hl : xs.length = n * sz) (hnc : n ≤ c) (hcm : c ≤ maxLen) (hfit : o + c * sz ≤ vs.length)
  (hk : X C k E ι (.hp κ (rowO base e sz (some ⟨b, o, none⟩) n c xs) :: L') G) : X C k E ι L G := by
 intro a w g1 g2 g3 g4
 obtain ⟨Ss, ho, hS⟩ := g4.own
 obtain ⟨S, Ss', b', hb', hh, hSb, hm, ho', hT⟩ := owns_delB hd ho hB hL'
 rw [hj] at hb'; cases hb'
 have hbb : base ≤ b := by
  rcases hbase with h | h | ⟨h, h'⟩
  ·exact h
  ·omega
  ·rcases (hS S hm b ((hSb b).2 rfl)).2 with h2 | h2
   ·exact absurd h2 (h' b)
   ·omega
 refine hk a w g1 g2 g3 ⟨g4.os, g4.tape, g4.output, g4.size, g4.keep, g4.emb, S :: Ss', ⟨⟨hl, hcm, hnc, .inr ⟨b, o, vs.toArray, J, hbb, hh, by simpa using hfit, by rw [hl]; simpa using hx, hSb⟩⟩, fun T hT' x hx hx' => (hT T hT').2 x hx' hx, ho'⟩, ?_⟩
 intro T hT' x hx
 rcases List.mem_cons.1 hT' with rfl | hT'
 ·exact hS T hm x hx
 ·exact hS T (hT T hT').1 x hx
theorem S_tailO {all : Array Oper} {l : List Oper} {T : Tab} (hT : tabOk C.P T) (κ : Nat) {d t e sz' sz : Nat} {os os' : List Nat} {tk : TK} {s : Operand} {ty : Nat} {pos : String} {af : Array Edge} {g : Option (Nat × Bool)} {base : Nat} {A : Option Addr} {n c : Nat} {xs : List Value} {L' : Option Addr → List Ent}
  (ht : lookT t T = some ⟨.slc e, sz', os'⟩) (he : lookT e T = some ⟨tk, sz, os⟩) (hg : guardOf all E g = .on) (hN : Nat.ble (d + 1) C.n = true) (hs : ev E s = some (.val (.slice A (n + 1) c)))
  (hL : getH κ L = some (rowO base e sz A (n + 1) c xs)) (hL' : ∀ A', setH κ (rowO base e sz A' n (c - 1) (xs.drop sz)) L = some (L' A'))
  (hk : ∀ A', X C (.ops all l :: k) ((d, .val (.slice A' n (c - 1))) :: E) ι (L' A') G) : X C (.ops all (⟨some d, .slice t s (some (.const (.int .i64 1))) none none, ty, pos, af, g⟩ :: l) :: k) E ι L G := by
 intro a w g1 g2 g3 g4
 have hdn : d < a.tmps.size := by rw [g2]; exact Nat.le_of_ble_eq_true hN
 have es := ev_sound g3 hs
 simp only [denO, Option.some.injEq] at es
 have hu := tyOk_slice (hT _ _ ht) rfl
 obtain ⟨S2, hA, hS2G, hturn⟩ := g4.turn hL
 obtain ⟨q1, q2, q3, q4⟩ := hA
 rcases q4 with ⟨_, q4, _⟩ | ⟨gb, off, cur, rfl, q0, q5, q6, q7, q8⟩
 ·omega
 obtain ⟨A', hA'⟩ : ∃ A' : Option Addr, A' = (if c = 1 then some ⟨gb, off, none⟩ else some ⟨gb, off + 1 * sz, none⟩) := ⟨_, rfl⟩
 have hrun : (execOp a.eval ⟨some d, .slice t s (some (.const (.int .i64 1))) none none, ty, pos, af, g⟩).run C.P w = .ok (.value (.slice A' n (c - 1))) w := by
  simp only [execOp, Option.map_some, Option.map_none, ← es]
  have : a.eval (.const (.int .i64 1)) = .int .i64 1 := rfl
  rw [this]
  have h1 : (1 : Int) ≤ (n : Int) + 1 := by omega
  simp only [Instr.sliceAt, Sem.run_bind, run_underlying hu, Result.andThen_ok]
  simp [Instr.slice, run_underlying hu, Instr.sliceBounds, Instr.sliceBound, asIntOf, tyOk_size (hT _ _ he), h1, hA', add_lit', eq_comm]
 refine wpE_val (guardOf_on g3 hg) (by intro c h; cases h) hrun ?_;refine hk A' _ _ g1 (by simp [Act.put, g2]) (g3.put hdn J) ?_
 have hlen : xs.length = n * sz + sz := by rw [q1, Nat.succ_mul]
 refine hturn _ _ G w S2 (hL' A') ⟨by rw [List.length_drop, hlen]; omega, by omega, by omega, .inr ?_⟩ g4.emb XR (fun b hb => ⟨hS2G b hb, .inl hb⟩) rfl rfl rfl (Nat.le_refl _) fun _ _ _ => rfl
 have hc1 : 1 ≤ c := by omega
 by_cases hc : c = 1
 ·subst hc
  obtain rfl : n = 0 := by omega
  have hd0 : xs.drop sz = [] := by rw [List.drop_eq_nil_iff]; omega
  refine ⟨gb, off, cur, by rw [hA', if_pos J], q0, q5, by omega, by rw [hd0]; simp, q8⟩
 ·refine ⟨gb, off + 1 * sz, cur, by rw [hA', if_neg hc], q0, q5, ?_, ?_, q8⟩
  ·have : c * sz = (c - 1) * sz + sz := by rw [← Nat.succ_mul]; congr 1; omega
   omega
  ·have h2 : (List.drop (off + 1 * sz) cur.toList) = (cur.toList.drop off).drop sz := by rw [List.drop_drop]; congr 1; omega
   rw [h2, List.length_drop]
   conv => rhs; rw [← q7]
   rw [List.drop_take]
end
end
section
def Res (C : Ctx) (fn : Func) (E : Env) (ι : Ids) (L : List Ent) (G : PH) (v : Value) : Prop := ∀ a w, AgE ι E a → SatW C ι L G w → (results fn a.tmps).run C.P w = .ok v w
section
variable {C : Ctx} {fn : Func} {E : Env} {ι : Ids} {L : List Ent} {G : PH} {T : Tab}
theorem res_load (hT : tabOk C.P T) {t ty : Nat} {s : Sym} {v : Value} (h : pureOp T E L (.load ty (.tmp t)) = some s) (hv : denO ι s = some v) {a : Act} {w : World} (hE : AgE ι E a) (hw : SatW C ι L G w) : ∃ ad, a.tmps[t]?.getD undef = .pointer (some ad) ∧ (loadVar ty ad).run C.P w = .ok v w := by
 obtain ⟨Ss, ho, _⟩ := hw.own
 obtain ⟨v', hv', hr⟩ := pureOp_sound hT hE ho h none 0 "" #[] none
 rw [hv] at hv'; cases hv'
 have hp : ∃ ad, a.eval (.tmp t) = .pointer (some ad) := by
  simp only [pureOp] at h
  split at h
  ·rename_i k o hx
   have ex := ev_sound hE hx
   simp only [denO] at ex
   split at ex
   ·simp only [Option.some.injEq] at ex; exact ⟨_, ex.symm⟩
   ·cases ex
  ·cases h
 obtain ⟨ad, had⟩ := hp
 refine ⟨ad, by rw [← Array.getD_eq_getD_getElem?]; exact had, ?_⟩
 simp only [execOp, had] at hr
 simp [Instr.loadAt, Instr.sureAddr] at hr
 cases hq : (loadVar ty ad).run C.P w with
 | ok u w' => rw [hq] at hr; simpa using hr
 | halt x w' => rw [hq] at hr; simp at hr
theorem res_tmp {t : Nat} {s : Sym} {v : Value} (hl : look t E = some s) (hv : denO ι s = some v) {a : Act} (hE : AgE ι E a) : a.tmps[t]?.getD undef = v := by
 obtain ⟨u, hu, ht⟩ := hE t s hl
 rw [hv] at hu; cases hu
 simp [ht]
theorem Res.t0 (hr : fn.results = #[]) : Res C fn E ι L G (.tuple #[]) := fun a w _ _ => by simp [results, hr]
theorem Res.t1 {t : Nat} {s : Sym} {v : Value} (hr : fn.results = #[.tmp t]) (hl : look t E = some s) (hv : denO ι s = some v) : Res C fn E ι L G v := fun a w hE _ => by
 simp [results, hr, res_tmp hl hv hE]
theorem Res.t2 {t t' : Nat} {s s' : Sym} {v v' : Value} (hr : fn.results = #[.tmp t, .tmp t']) (hl : look t E = some s) (hv : denO ι s = some v) (hl' : look t' E = some s') (hv' : denO ι s' = some v') : Res C fn E ι L G (.tuple #[v, v']) := fun a w hE _ => by
 simp [results, hr, res_tmp hl hv hE, res_tmp hl' hv' hE]
theorem Res.c1 (hT : tabOk C.P T) {t ty : Nat} {s : Sym} {v : Value} (hr : fn.results = #[.cell t ty]) (h : pureOp T E L (.load ty (.tmp t)) = some s) (hv : denO ι s = some v) : Res C fn E ι L G v := fun a w hE hw => by
 obtain ⟨ad, h0, h1⟩ := res_load hT h hv hE hw
 simp [results, hr, asAddr, h0, h1]
theorem Res.c2 (hT : tabOk C.P T) {t ty t' : Nat} {s s' : Sym} {v v' : Value} (hr : fn.results = #[.cell t ty, .tmp t']) (h : pureOp T E L (.load ty (.tmp t)) = some s) (hv : denO ι s = some v) (hl' : look t' E = some s') (hv' : denO ι s' = some v') : Res C fn E ι L G (.tuple #[v, v']) := fun a w hE hw => by
 obtain ⟨ad, h0, h1⟩ := res_load hT h hv hE hw
 simp [results, hr, asAddr, h0, h1, res_tmp hl' hv' hE]
theorem Res.c3 (hT : tabOk C.P T) {t ty t' t'' : Nat} {s s' s'' : Sym} {v v' v'' : Value} (hr : fn.results = #[.cell t ty, .tmp t', .tmp t'']) (h : pureOp T E L (.load ty (.tmp t)) = some s) (hv : denO ι s = some v) (hl' : look t' E = some s') (hv' : denO ι s' = some v')
  (hl'' : look t'' E = some s'') (hv'' : denO ι s'' = some v'') : Res C fn E ι L G (.tuple #[v, v', v'']) := fun a w hE hw => by
 obtain ⟨ad, h0, h1⟩ := res_load hT h hv hE hw
 simp [results, hr, asAddr, h0, h1, res_tmp hl' hv' hE, res_tmp hl'' hv'' hE]
end
section
variable {P : Program} {fn : Func} {R : Ending → World → Prop} {n : Nat} {G0 G : PH} {w0 : World} {S0 : Nat → Prop} {k : List It} {E : Env} {ι : Ids} {L : List Ent} {v : Value}
theorem S_retR {C : Ctx} (hQ : C.Q = bodyPost C.P fn R ∧ C.ms = false) (hr : Res C fn E ι L G v) (h : ∀ w, SatW C ι L G w → R (.returned v) w) : X C (.code .ret :: k) E ι L G := by
 intro a w h1 h2 h3 h4
 refine wpE_ret (wpE_out k ?_)
 rw [hQ.1]
 exact ⟨h1.eq hQ.2, v, hr a w h3 h4, h w h4⟩
theorem S_retp {Post : Value → PH → Prop} (hr : Res (PC P n fn G0 Post w0) fn E ι L G v) (hx : PH.ext w0.heap.size G0 G) (hp : Post v G) : X (PC P n fn G0 Post w0) (.code .ret :: k) E ι L G :=
 S_retR ⟨rfl, rfl⟩ hr fun w hw => hw.pureR hx hp
theorem S_retm (κ : Nat) {Post : Value → PH → HP → Prop} {A' : HP} (hr : Res (MC P n fn G0 Post w0 S0) fn E ι L G v) (hL : getH κ L = some A') (hx : PH.ext w0.heap.size G0 G) (hp : Post v G A') : X (MC P n fn G0 Post w0 S0) (.code .ret :: k) E ι L G :=
 S_retR ⟨rfl, rfl⟩ hr fun w hw => hw.modR hL hx hp
end
section
variable {P : Program} {fn : Func} {n : Nat} {G0 G : PH} {Post : Value → PH → HP → Prop} {w0 : World} {S0 : Nat → Prop} {k : List It} {E : Env} {ι ι1 : Ids} {L L1 L2 Ls : List Ent} {v : Value} {p : Ids → List Ent → Prop}
theorem SatW.packed {C : Ctx} {w : World} (κ : Nat) (h4 : SatW C ι L G w) (ks : List Nat) (hL : pickE ks L = some (L1, L2)) (hs : subL ι ι1 L1 Ls) (hp : p ι1 Ls) : SatW C ι (.hp κ (packHP p) :: L2) G w := by
 obtain ⟨Ss, ho, hS⟩ := h4.own
 obtain ⟨Sx, Sr, g1, g2, g3, g4⟩ := pickE_sound hL ho
 obtain ⟨Ss', ho', hsub⟩ := subL_sound hs g1
 refine ⟨h4.os, h4.tape, h4.output, h4.size, h4.keep, h4.emb, (fun x => ∃ T ∈ Ss', T x) :: Sr, ⟨⟨ι1, Ls, Ss', hp, ho', fun x => Iff.rfl⟩, ?_, g2⟩, ?_⟩
 ·rintro T hT b ⟨U, hU, hb⟩ hb'
  exact g3 U (hsub U hU) T hT b hb hb'
 ·intro T hT b hb
  rcases List.mem_cons.1 hT with rfl | hT
  ·obtain ⟨U, hU, hb⟩ := hb
   exact hS U ((g4 U).1 (.inl (hsub U hU))) b hb
  ·exact hS T ((g4 T).1 (.inr hT)) b hb
theorem RK (ks : List Nat) (hr : Res (MC P n fn G0 Post w0 S0) fn E ι L G v) (hp : Post v G (packHP p)) (hpp : p ι1 Ls) (hL : pickE ks L = some (L1, L2)) (hs : subL ι ι1 L1 Ls) (hx : PH.ext w0.heap.size G0 G) : X (MC P n fn G0 Post w0 S0) (.code .ret :: k) E ι L G :=
 S_retR ⟨rfl, rfl⟩ hr fun w hw => (hw.packed 0 ks hL hs hpp).modR (κ := 0) rfl hx hp
end
section
variable {C : Ctx} {k : List It} {E : Env} {ι ι1 : Ids} {L L1 L2 Ls : List Ent} {G : PH} {all : Array Oper} {l : List Oper} {p : Ids → List Ent → Prop}
end
theorem len1 {α : Type} {l : List α} (h : l.length = 1) : ∃ a, l = [a] := by
 match l, h with
 | [a], _ => exact ⟨a, rfl⟩
end
section
section
variable {C : Ctx} {E : Env} {ι : Ids} {L : List Ent} {G : PH} {d : Option Nat} {ty : Nat} {pos : String} {af : Array Edge} {g : Option (Nat × Bool)}
theorem V_slice1 {T : Tab} (hT : tabOk C.P T) {t e sz sz' : Nat} {os os' : List Nat} {tk : TK} {x : Operand} {A : Option Addr} {n c : Nat} (ht : lookT t T = some ⟨.slc e, sz', os'⟩) (he : lookT e T = some ⟨tk, sz, os⟩) (hx : ev E x = some (.val (.slice A (n + 1) c))) :
  Vl C ι E L G ⟨d, .slice t x (some (.const (.int .i64 1))) none none, ty, pos, af, g⟩ (.slice (if c = 1 then A else A.map (·.add (1 * sz))) n (c - 1)) := by
 intro a w hE hw
 have ex := ev_sound hE hx
 simp only [denO, Option.some.injEq] at ex
 have hu := tyOk_slice (hT _ _ ht) rfl
 simp only [execOp, Option.map_some, Option.map_none, ← ex]
 have : a.eval (.const (.int .i64 1)) = .int .i64 1 := rfl
 rw [this]
 have h1 : (1 : Int) ≤ (n : Int) + 1 := by omega
 simp only [Instr.sliceAt, Sem.run_bind, run_underlying hu, Result.andThen_ok]
 simp [Instr.slice, run_underlying hu, Instr.sliceBounds, Instr.sliceBound, asIntOf, tyOk_size (hT _ _ he), h1]
end
def emptyHP : HP := packHP fun ι L => ι = [] ∧ L = []
def newHP (B : Nat) (A : HP) : HP where
 holds w S := A.holds w S ∧ ∀ b, S b → B ≤ b
 loc w w' S h hs := ⟨A.loc w w' S h.1 hs, h.2⟩
 lt w S h := A.lt w S h.1
theorem emptyHP_none {w : World} {S : Nat → Prop} (h : emptyHP.holds w S) : ∀ b, ¬ S b := by
 obtain ⟨ι, L, Ss, ⟨rfl, rfl⟩, ho, hS⟩ := h
 intro b hb
 obtain ⟨T, hT, _⟩ := (hS b).1 hb
 cases Ss with
 | nil => cases hT
 | cons => simp [owns] at ho
theorem emptyHP_holds (w : World) : emptyHP.holds w (fun _ => False) := ⟨[], [], [], ⟨rfl, rfl⟩, trivial, fun x => ⟨fun h => h.elim, fun ⟨T, hT, _⟩ => by cases hT⟩⟩
theorem S_callN {C : Ctx} {k : List It} {E : Env} {ι : Ids} {L : List Ent} {G : PH} {all : Array Oper} {l : List Oper} (κ : Nat) {d f : Nat} {xs : Array Operand} {ats : Array TypeId} {ty : Nat} {pos : String} {af : Array Edge} {g : Option (Nat × Bool)} {vs : List Value} {Post : Value → PH → HP → Prop} (hcf : ∀ args w, (callFunc f args).run C.P w = .ok (.enter f args) w)
  (hc : Mod C.P f vs G emptyHP Post) (hg : guardOf all E g = .on) (hN : Nat.ble (d + 1) C.n = true) (hxs : evs ι E xs.toList = some vs)
  (hk : ∀ v G' A', Post v G' A' → PH.ext C.w0.heap.size G G' → X C (.ops all l :: k) ((d, .val v) :: E) ι (.hp κ (newHP C.w0.heap.size A') :: L) G') : X C (.ops all (⟨some d, .call ⟨.value (.func f), xs, ats⟩, ty, pos, af, g⟩ :: l) :: k) E ι L G := by
 intro a w h1 h2 h3 h4
 have hdn : d < a.tmps.size := by rw [h2]; exact Nat.le_of_ble_eq_true hN
 have hcc := hc w (fun _ => False) h4.emb (emptyHP_holds w) (fun _ h => h.elim)
 refine wpE_call (f := f) (cap := #[]) (vs := vs) (guardOf_on h3 hg) J (evs_sound h3 hxs) hcf (R := fun v w' => ∃ G' A', Post v G' A' ∧ PH.ext C.w0.heap.size G G' ∧ SatW C ι (.hp κ (newHP C.w0.heap.size A') :: L) G' w') ?_ ?_
 ·simp only [List.append_nil, List.toList_toArray]
  refine hcc.mono ?_;rintro e w' ⟨v, G', A', S', rfl, hp, hA', hext, hemb, hS', e1, e2, e3, e4, hkeep⟩
  refine ⟨v, J, G', A', hp, hext.mono h4.size, ?_⟩
  obtain ⟨Ss, ho, hS⟩ := h4.own
  have hlt := owns_lt ho
  have hge : ∀ b, S' b → w.heap.size ≤ b := fun b hb => (hS' b hb).2.resolve_left id
  have hk' : ∀ b, b < w.heap.size → w'.heap[b]? = w.heap[b]? := fun b hb => hkeep b hb id
  refine ⟨e1.trans h4.os, e2.trans h4.tape, e3.trans h4.output, Nat.le_trans h4.size e4, fun b hb hn => ?_, hemb, S' :: Ss, ⟨⟨hA', fun b hb => Nat.le_trans h4.size (hge b hb)⟩, fun T hT b hb hb' => ?_, owns_far ho (fun b => w.heap.size ≤ b) (fun x hx => hk' x (by omega)) (fun T hT x hx => by have := hlt T hT x hx; omega)⟩, ?_⟩
  ·have := h4.size
   rw [hk' b (by omega)]; exact h4.keep b hb hn
  ·have := hlt T hT b hb'; have := hge b hb; omega
  ·intro T hT b hb
   rcases List.mem_cons.1 hT with rfl | hT
   ·exact ⟨(hS' b hb).1, .inr (Nat.le_trans h4.size (hge b hb))⟩
   ·refine ⟨?_, (hS T hT b hb).2⟩
    cases hq : G' b with
    | none => rfl
    | some o => have := hext.new b o hq (hS T hT b hb).1; have := hlt T hT b hb; omega
 ·rintro v w' ⟨G', A', hp, hext, hsat⟩
  exact hk v G' A' hp hext _ _ (h1.mono hext.le) (by simp [Act.put, h2]) (h3.put hdn J) hsat
theorem S_newRow {C : Ctx} {k : List It} {E : Env} {ι : Ids} {L : List Ent} {G : PH} (κ : Nat) {B base e sz : Nat} {A : Option Addr} {n c : Nat} {xs : List Value} {L' : List Ent} (hL : getH κ L = some (newHP B (rowO base e sz A n c xs))) (hL' : setH κ (rowO B e sz A n c xs) L = some L') (hx : X C k E ι L' G) : X C k E ι L G := by
 intro a w h1 h2 h3 h4
 refine hx a w h1 h2 h3 ?_;obtain ⟨S, ⟨hA, hB⟩, hSG, hturn⟩ := h4.turn hL
 refine hturn _ _ G w S hL' ?_ h4.emb XR (fun b hb => ⟨hSG b hb, .inl hb⟩) J J J (Nat.le_refl _) fun _ _ _ => J
 obtain ⟨q1, q2, q3, q4⟩ := hA
 refine ⟨q1, q2, q3, ?_⟩
 rcases q4 with q4 | ⟨g, off, cur, rfl, q0, q5, q6, q7, q8⟩
 ·exact .inl q4
 ·exact .inr ⟨g, off, cur, J, hB g ((q8 g).2 J), q5, q6, q7, q8⟩
end
section
def Sx (G : PH) (sz : Nat) (v : Value) (n : Nat) (xs : List Value) : Prop :=
 ∃ A c, v = .slice A n c ∧ n ≤ 1000000000 ∧ n ≤ c ∧ c ≤ maxLen ∧ xs.length = n * sz ∧ (n = 0 ∨ ∃ a, A = some a ∧ gcells G a xs)
section
variable {α : Type} {G : PH} {sz : Nat} {rep : α → List Value → Prop}
theorem gcells_app {ad : Addr} : ∀ {cs ys : List Value}, gcells G ad cs → gcells G (ad.add cs.length) ys → gcells G ad (cs ++ ys) := by
 intro cs
 induction cs generalizing ad with
 | nil => intro ys _ h; rw [List.length_nil, add_zero'] at h; exact h
 | cons c cs ih =>
  intro ys h h'
  refine ⟨h.1, ih h.2 ?_⟩
  rw [add_add', Nat.add_comm]; exact h'
theorem Rw_cells (hr : ∀ x cs, rep x cs → cs.length = sz) : ∀ {L : List α} {ad : Addr}, Rw G sz rep L ad → ∃ xs, gcells G ad xs ∧ Cs sz rep L xs := by
 intro L
 induction L with
 | nil => intro ad _; exact ⟨[], trivial, J⟩
 | cons x L ih =>
  rintro ad ⟨⟨cs, h1, h2⟩, h3⟩
  obtain ⟨ys, h4, h5⟩ := ih h3
  have hl := hr x cs h2
  exact ⟨cs ++ ys, gcells_app h1 (by rw [hl]; exact h4), cs, ys, J, hl, h2, h5⟩
theorem Sr_Sx (hr : ∀ x cs, rep x cs → cs.length = sz) {L : List α} {v : Value} (h : Sr G sz rep L v) : ∃ xs, Sx G sz v L.length xs ∧ Cs sz rep L xs := by
 obtain ⟨A, c, h1, h2, h3, h4, h5⟩ := h
 by_cases hn : L.length = 0
 ·have : L = [] := List.eq_nil_of_length_eq_zero hn
  subst this
  exact ⟨[], ⟨A, c, h1, h2, h3, h4, by simp, .inl J⟩, J⟩
 ·rcases h5 with h5 | ⟨ad, h5, h6⟩
  ·exact absurd h5 hn
  ·obtain ⟨xs, h7, h8⟩ := Rw_cells hr h6
   exact ⟨xs, ⟨A, c, h1, h2, h3, h4, Cs_length h8, .inr ⟨ad, h5, h7⟩⟩, h8⟩
theorem Sx_Sr {L : List α} {v : Value} {n : Nat} {xs : List Value} (h : Sx G sz v n xs) (hn : n = L.length) (hc : Cs sz rep L xs) : Sr G sz rep L v := by
 subst hn
 obtain ⟨A, c, h1, h2, h3, h4, h5, h6⟩ := h
 refine ⟨A, c, h1, h2, h3, h4, ?_⟩
 rcases h6 with h6 | ⟨a, h6, h7⟩
 ·exact .inl h6
 ·exact .inr ⟨a, h6, Rw_of hc h7⟩
theorem Cs_one {L : List α} {xs : List Value} (h1 : ∀ x cs, rep x cs → ∀ u ∈ cs, u.oneCell' = true) (h : Cs sz rep L xs) : ∀ u ∈ xs, u.oneCell' = true := by
 induction L generalizing xs with
 | nil => cases h; intro u hu; cases hu
 | cons x L ih =>
  obtain ⟨cs, ys, rfl, _, h3, h4⟩ := h
  intro u hu
  rcases List.mem_append.1 hu with hu | hu
  ·exact h1 x cs h3 u hu
  ·exact ih h4 u hu
end
theorem Stm.rep_one {G : PH} (s : Stm) (cs : List Value) (h : Stm.rep G s cs) : ∀ u ∈ cs, u.oneCell' = true := by
 cases s
 obtain ⟨vx, vy, rfl, _, _, _, _, ⟨Ax, cx, rfl, _⟩, ⟨Ay, cy, rfl, _⟩⟩ := Stm.rep_iff.1 h
 intro u hu
 simp at hu
 rcases hu with rfl | rfl | rfl | rfl | rfl | rfl <;> rfl
theorem Sx_Ints {G : PH} {l : List Int} {v : Value} {n : Nat} (h : Sx G 1 v n (intC l)) (hn : n = l.length) (hi : ∀ n ∈ l, I64 n) : Ints G l v := by
 refine Sx_Sr h hn ?_
 clear h hn
 induction l with
 | nil => rfl
 | cons n l ih => exact ⟨[.int .i64 n], intC l, rfl, rfl, ⟨rfl, hi n (List.mem_cons_self ..)⟩, ih fun m hm => hi m (List.mem_cons_of_mem _ hm)⟩
theorem intC_snoc (l : List Int) (a : Int) : intC l ++ [.int .i64 a] = intC (l ++ [a]) := by simp [intC_append, intC]
section
variable {C : Ctx} {k : List It} {E : Env} {ι : Ids} {L : List Ent} {G : PH} {all : Array Oper} {l : List Oper}
end
end
section
attribute [local irreducible] X Pure Mod
section
variable {C : Ctx} {ι : Ids} {E : Env} {L : List Ent} {G : PH} {d : Option Nat} {ty : Nat} {pos : String} {af : Array Edge} {g : Option (Nat × Bool)}
theorem V_rem {x y : Operand} {t t' : Nat} {p q : Int} (hx : ev E x = some (.val (.int .i64 p))) (hy : ev E y = some (.val (.int .i64 q))) (hp : 0 ≤ p) (hq : 0 < q) : Vl C ι E L G ⟨d, .binOp .rem t x y t', ty, pos, af, g⟩ (.int .i64 (p % q)) := by
 intro a w hE _
 have ex := ev_sound hE hx
 have ey := ev_sound hE hy
 simp only [denO, Option.some.injEq] at ex ey
 simp only [execOp, ← ex, ← ey]
 have hne : ¬ q = 0 := by omega
 simp [eqGuard, binOp, Op.intDiv, hne, Int.tmod_eq_emod_of_nonneg hp]
theorem V_quo {x y : Operand} {t t' : Nat} {p q : Int} (hx : ev E x = some (.val (.int .i64 p))) (hy : ev E y = some (.val (.int .i64 q))) (hp : 0 ≤ p) (hp' : p ≤ 9223372036854775807) (hq : 0 < q) : Vl C ι E L G ⟨d, .binOp .quo t x y t', ty, pos, af, g⟩ (.int .i64 (p / q)) := by
 intro a w hE _
 have ex := ev_sound hE hx
 have ey := ev_sound hE hy
 simp only [denO, Option.some.injEq] at ex ey
 simp only [execOp, ← ex, ← ey]
 have hne : ¬ q = 0 := by omega
 have h1 : 0 ≤ p / q := Int.ediv_nonneg hp (by omega)
 have h2 : p / q ≤ p := Int.ediv_le_self _ hp
 have hwr : IntKind.i64.wrap (p / q) = p / q := by rw [IntKind.wrap_i64]; omega
 simp [eqGuard, binOp, Op.intDiv, hne, Int.tdiv_eq_ediv_of_nonneg hp, hwr]
theorem V_xor {x y : Operand} {t t' : Nat} {p q : Int} (hx : ev E x = some (.val (.int .i64 p))) (hy : ev E y = some (.val (.int .i64 q))) (hp : 0 ≤ p ∧ p ≤ 9223372036854775807) (hq : 0 ≤ q ∧ q ≤ 9223372036854775807) : Vl C ι E L G ⟨d, .binOp .xor t x y t', ty, pos, af, g⟩ (.int .i64 ((p.toNat ^^^ q.toNat : Nat) : Int)) := by
 intro a w hE _
 have ex := ev_sound hE hx
 have ey := ev_sound hE hy
 simp only [denO, Option.some.injEq] at ex ey
 simp only [execOp, ← ex, ← ey]
 obtain ⟨m, rfl⟩ := Int.eq_ofNat_of_zero_le hp.1
 obtain ⟨n, rfl⟩ := Int.eq_ofNat_of_zero_le hq.1
 have hm : m < 2 ^ 63 := by omega
 have hn : n < 2 ^ 63 := by omega
 have hx := Nat.xor_lt_two_pow hm hn
 have e1 : (BitVec.ofInt 64 (m : Int) ^^^ BitVec.ofInt 64 (n : Int)).toNat = m ^^^ n := by
  rw [BitVec.ofInt_natCast, BitVec.ofInt_natCast, BitVec.toNat_xor, BitVec.toNat_ofNat, BitVec.toNat_ofNat, Nat.mod_eq_of_lt (by omega), Nat.mod_eq_of_lt (by omega)]
 have hwr : IntKind.i64.wrap ((m ^^^ n : Nat) : Int) = ((m ^^^ n : Nat) : Int) := by rw [IntKind.wrap_i64]; omega
 have e2 : IntKind.i64.wrap ((BitVec.ofInt IntKind.i64.bits (m : Int) ^^^ BitVec.ofInt IntKind.i64.bits (n : Int)).toNat : Int) = ((m ^^^ n : Nat) : Int) := by
  show IntKind.i64.wrap ((BitVec.ofInt 64 (m : Int) ^^^ BitVec.ofInt 64 (n : Int)).toNat : Int) = _
  rw [e1, hwr]
 simp only [Int.toNat_natCast]
 simp [eqGuard, binOp, Op.intBits]
 exact e2
theorem V_conv {x : Operand} {t t' : Nat} {k k' : IntKind} {p : Int} (hx : ev E x = some (.val (.int k p))) (hu : C.P.underlying t = some (.int k)) (hu' : C.P.underlying t' = some (.int k')) (hp : k'.wrap p = p) : Vl C ι E L G ⟨d, .convert t t' x, ty, pos, af, g⟩ (.int k' p) := by
 intro a w hE _
 have ex := ev_sound hE hx
 simp only [denO, Option.some.injEq] at ex
 simp only [execOp, ← ex]
 simp [convert, run_underlying hu, run_underlying hu', Conv.intToInt, hp]
end
end
section
def pairHP (A B : HP) : HP where
 holds w S := ∃ S1 S2, A.holds w S1 ∧ B.holds w S2 ∧ (∀ b, S1 b → S2 b → False) ∧ ∀ b, S b ↔ S1 b ∨ S2 b
 loc w w' S h hs := by
  obtain ⟨S1, S2, h1, h2, h3, h4⟩ := h
  exact ⟨S1, S2, A.loc w w' S1 h1 (fun b hb => hs b ((h4 b).2 (.inl hb))), B.loc w w' S2 h2 (fun b hb => hs b ((h4 b).2 (.inr hb))), h3, h4⟩
 lt w S h b hb := by
  obtain ⟨S1, S2, h1, h2, h3, h4⟩ := h
  rcases (h4 b).1 hb with hb | hb
  ·exact A.lt w S1 h1 b hb
  ·exact B.lt w S2 h2 b hb
def Covers (A A' : HP) : Prop := ∀ w w' S S', A.holds w S → A'.holds w' S' → ∀ b, S b → S' b
theorem SatW.turn2 {C : Ctx} {ι : Ids} {L : List Ent} {G : PH} {w : World} (h : SatW C ι L G w) {κ : Nat} {A : HP} (hg : getH κ L = some A) :
  ∃ S, A.holds w S ∧ (∀ b, S b → G b = none) ∧ ∀ (κ' : Nat) (A' B' : HP) (L' : List Ent) (G' : PH) (w' : World) (S1 S2 : Nat → Prop), setH κ A' L = some L' → A'.holds w' S1 → B'.holds w' S2 → (∀ b, S1 b → S2 b → False) → Emb G' w' → PH.ext w.heap.size G G' → (∀ b, S1 b → G' b = none ∧ (S b ∨ w.heap.size ≤ b)) → (∀ b, S2 b → G' b = none ∧ w.heap.size ≤ b) →
   w'.os = w.os → w'.tape = w.tape → w'.output = w.output → w.heap.size ≤ w'.heap.size → (∀ b, b < w.heap.size → ¬ S b → w'.heap[b]? = w.heap[b]?) → SatW C ι (.hp κ' (newHP C.w0.heap.size B') :: L') G' w' := by
 obtain ⟨Ss, ho, hS⟩ := h.own
 obtain ⟨S, hA, hm, hk⟩ := owns_split ho hg
 refine ⟨S, hA, fun b hb => (hS S hm b hb).1, fun κ' A' B' L' G' w' S1 S2 hs hA' hB' hdis hemb hext hS1 hS2 e1 e2 e3 e4 hkeep => ?_⟩
 have hlt := owns_lt ho
 obtain ⟨Ss', ho', hm'⟩ := hk A' L' hs w' S1 (fun x => S x ∨ w.heap.size ≤ x) hA' (fun x hx => hkeep x (by omega) (fun h => hx (.inl h))) (fun T hT x hx hx' => by
   rcases (hS1 x hx).2 with h1 | h1
   ·exact h1
   ·have := hlt T hT x hx'; omega) (fun T hT x hx hn => by
   rintro (hx' | hx')
   ·exact hn hx'
   ·have := hlt T hT x hx; omega)
 have hsz := h.size
 refine ⟨e1.trans h.os, e2.trans h.tape, e3.trans h.output, Nat.le_trans h.size e4, ?_, hemb, S2 :: Ss', ⟨⟨hB', fun b hb => Nat.le_trans hsz (hS2 b hb).2⟩, fun T hT b hb hb' => ?_, ho'⟩, ?_⟩
 ·intro b hb hn
  rw [hkeep b (Nat.lt_of_lt_of_le hb h.size) (fun hSb => by
   rcases (hS S hm b hSb).2 with h1 | h1
   ·exact hn h1
   ·omega)]
  exact h.keep b hb hn
 ·rcases hm' T hT with hT' | rfl
  ·have := hlt T hT' b hb'
   have := (hS2 b hb).2
   omega
  ·exact hdis b hb' hb
 ·intro T hT b hb
  rcases List.mem_cons.1 hT with rfl | hT
  ·exact ⟨(hS2 b hb).1, .inr (Nat.le_trans hsz (hS2 b hb).2)⟩
  rcases hm' T hT with hT' | rfl
  ·obtain ⟨g1, g2⟩ := hS T hT' b hb
   refine ⟨?_, g2⟩
   cases hq : G' b with
   | none => rfl
   | some o =>
    have := hext.new b o hq g1
    have := hlt T hT' b hb
    omega
  ·obtain ⟨g1, g2⟩ := hS1 b hb
   refine ⟨g1, ?_⟩
   rcases g2 with g2 | g2
   ·exact (hS S hm b g2).2
   ·exact .inr (Nat.le_trans h.size g2)
section
variable {C : Ctx} {k : List It} {E : Env} {ι : Ids} {L : List Ent} {G : PH} {all : Array Oper} {l : List Oper}
theorem S_callPr (κ κ' : Nat) {A : HP} {d f : Nat} {xs : Array Operand} {ats : Array TypeId} {ty : Nat} {pos : String} {af : Array Edge} {g : Option (Nat × Bool)} {vs : List Value} {Post : Value → PH → HP → HP → Prop} {L' : HP → List Ent}
  (hcf : ∀ args w, (callFunc f args).run C.P w = .ok (.enter f args) w)
  (hc : Mod C.P f vs G A fun v G' R => ∃ A' B', R = pairHP A' B' ∧ Covers A A' ∧ Post v G' A' B') (hg : guardOf all E g = .on) (hN : Nat.ble (d + 1) C.n = true) (hxs : evs ι E xs.toList = some vs) (hL : getH κ L = some A) (hL' : ∀ A', setH κ A' L = some (L' A'))
  (hk : ∀ v G' A' B', Post v G' A' B' → PH.ext C.w0.heap.size G G' → X C (.ops all l :: k) ((d, .val v) :: E) ι (.hp κ' (newHP C.w0.heap.size B') :: L' A') G') : X C (.ops all (⟨some d, .call ⟨.value (.func f), xs, ats⟩, ty, pos, af, g⟩ :: l) :: k) E ι L G := by
 intro a w h1 h2 h3 h4
 have hdn : d < a.tmps.size := by rw [h2]; exact Nat.le_of_ble_eq_true hN
 obtain ⟨S, hA, hSG, hturn⟩ := h4.turn2 hL
 have hcc := hc w S h4.emb hA hSG
 refine wpE_call (f := f) (cap := #[]) (vs := vs) (guardOf_on h3 hg) J (evs_sound h3 hxs) hcf (R := fun v w' => ∃ G' A' B', Post v G' A' B' ∧ PH.ext C.w0.heap.size G G' ∧ SatW C ι (.hp κ' (newHP C.w0.heap.size B') :: L' A') G' w') ?_ ?_
 ·simp only [List.append_nil, List.toList_toArray]
  refine hcc.mono ?_;rintro e w' ⟨v, G', R, S', rfl, ⟨A', B', rfl, hcov, hp⟩, ⟨S1, S2, hA', hB', hdis, hS12⟩, hext, hemb, hS', e1, e2, e3, e4, hkeep⟩
  refine ⟨v, J, G', A', B', hp, hext.mono h4.size, ?_⟩
  refine hturn κ' A' B' _ G' w' S1 S2 (hL' A') hA' hB' hdis hemb hext (fun b hb => hS' b ((hS12 b).2 (.inl hb))) (fun b hb => ?_) e1 e2 e3 e4 hkeep
  obtain ⟨q1, q2⟩ := hS' b ((hS12 b).2 (.inr hb))
  exact ⟨q1, q2.resolve_left fun hSb => hdis b (hcov _ _ _ _ hA hA' b hSb) hb⟩
 ·rintro v w' ⟨G', A', B', hp, hext, hsat⟩
  exact hk v G' A' B' hp hext _ _ (h1.mono hext.le) (by simp [Act.put, h2]) (h3.put hdn J) hsat
end
section
variable {P : Program} {fn : Func} {n : Nat} {G0 G : PH} {w0 : World} {S0 : Nat → Prop} {k : List It} {E : Env} {ι : Ids} {L L1 : List Ent} {v : Value}
theorem SatW.pair {C : Ctx} {w : World} (κ κ' κ1 : Nat) (h4 : SatW C ι L G w) {A B : HP} {L2 : List Ent} (hL : getH κ L = some A) (hd : delH κ L = some L1) (hL1 : getH κ' L1 = some B) (hd1 : delH κ' L1 = some L2) : SatW C ι (.hp κ1 (pairHP A B) :: L2) G w := by
 obtain ⟨Ss, ho, hS⟩ := h4.own
 obtain ⟨S1, Ss1, hA, hm, ho1, hT1⟩ := owns_del ho hL hd
 obtain ⟨S2, Ss2, hB, hm2, ho2, hT2⟩ := owns_del ho1 hL1 hd1
 refine ⟨h4.os, h4.tape, h4.output, h4.size, h4.keep, h4.emb, (fun b => S1 b ∨ S2 b) :: Ss2, ⟨⟨S1, S2, hA, hB, fun b h1 h2 => (hT1 S2 hm2).2 b h2 h1, fun b => Iff.rfl⟩, ?_, ho2⟩, ?_⟩
 ·rintro T hT b (hb | hb) hb'
  ·exact (hT1 T (hT2 T hT).1).2 b hb' hb
  ·exact (hT2 T hT).2 b hb' hb
 ·intro T hT b hb
  rcases List.mem_cons.1 hT with rfl | hT
  ·rcases hb with hb | hb
   ·exact hS S1 hm b hb
   ·exact hS S2 (hT1 S2 hm2).1 b hb
  ·exact hS T (hT1 T (hT2 T hT).1).1 b hb
theorem S_pair {C : Ctx} (κ κ' κ1 : Nat) {A B : HP} {L2 : List Ent} (hL : getH κ L = some A) (hd : delH κ L = some L1) (hL1 : getH κ' L1 = some B) (hd1 : delH κ' L1 = some L2) (hk : X C k E ι (.hp κ1 (pairHP A B) :: L2) G) : X C k E ι L G :=
 fun a w h1 h2 h3 h4 => hk a w h1 h2 h3 (h4.pair κ κ' κ1 hL hd hL1 hd1)
end
section
variable {C : Ctx} {k : List It} {E : Env} {ι : Ids} {L : List Ent} {G : PH} {all : Array Oper} {l : List Oper}
theorem S_app1z {T : Tab} (hT : tabOk C.P T) (κ j : Nat) {base d t e sz' sz : Nat} {os os' : List Nat} {tk : TK} {zi : ZI} {s x : Operand} {ty ty' : Nat} {pos : String} {af : Array Edge} {g : Option (Nat × Bool)} {A : Option Addr} {n c b : Nat} {xs ns : List Value} {cs : List Cel} {L' : Option Addr → Nat → List Ent}
  (ht : lookT t T = some ⟨.slc e, sz', os'⟩) (he : lookT e T = some ⟨tk, sz, os⟩) (hz : lookZ e T.zs = some zi) (hzs : zi.zs.length = sz) (hzb : Nat.ble zi.b 1000 = true) (hsz : Nat.ble 1 sz = true)
  (hg : guardOf all E g = .on) (hN : Nat.ble (d + 1) C.n = true) (hs : ev E s = some (.val (.slice A n c))) (hx : ev E x = some (.slc j 0 1 1)) (hj : lookI j ι = some b) (hB : lookB j L = some (ty', cs)) (hcs : denL ι cs = some ns) (hns : ns.length = sz) (hone : ∀ u ∈ ns, u.oneCell' = true)
  (hL : getH κ L = some (rowO base e sz A n c xs)) (hL' : ∀ A' c', setH κ (rowO base e sz A' (n + 1) c' (xs ++ ns)) L = some (L' A' c')) (hlen : n ≤ 1000000000) (hbase : base ≤ C.w0.heap.size)
  (hk : ∀ A' c', (A' = A ∨ ∃ g, A' = some ⟨g, 0, none⟩) → X C (.ops all l :: k) ((d, .val (.slice A' (n + 1) c')) :: E) ι (L' A' c') G) : X C (.ops all (⟨some d, .call ⟨.builtin .append, #[s, x], #[t, t]⟩, ty, pos, af, g⟩ :: l) :: k) E ι L G := by
 have hzb' := Nat.le_of_ble_eq_true hzb
 have hby : (n + 1) * zi.b ≤ 140737488355328 := Nat.le_trans (Nat.mul_le_mul (by omega : n + 1 ≤ 1000000001) hzb') (by decide)
 refine S_appOz hT κ (news := ns) (m := 1) ht he hz hzs hsz hg hN hs hx (by rw [denO, hj]) hL (L' := L') hL' (src_blk j hB hcs hj (by simp [← hns]) (by simp [hns])) hone hby (by simp only [maxLen]; omega) hbase fun A' c' h => ?_;exact hk A' c' h
theorem S_app1 {T : Tab} (hT : tabOk C.P T) (κ j : Nat) {base d t e sz' sz : Nat} {os os' : List Nat} {tk : TK} {zi : ZI} {s x : Operand} {ty ty' : Nat} {pos : String} {af : Array Edge} {g : Option (Nat × Bool)} {A : Option Addr} {n c b : Nat} {xs ns : List Value} {cs : List Cel} {L' : Option Addr → Nat → List Ent}
  (ht : lookT t T = some ⟨.slc e, sz', os'⟩) (he : lookT e T = some ⟨tk, sz, os⟩) (hz : lookZ e T.zs = some zi) (hzs : zi.zs.length = sz) (hzb : Nat.ble zi.b 1000 = true) (hsz : Nat.ble 1 sz = true)
  (hg : guardOf all E g = .on) (hN : Nat.ble (d + 1) C.n = true) (hs : ev E s = some (.val (.slice A n c))) (hx : ev E x = some (.slc j 0 1 1)) (hj : lookI j ι = some b) (hB : lookB j L = some (ty', cs)) (hcs : denL ι cs = some ns) (hns : ns.length = sz) (hone : ∀ u ∈ ns, u.oneCell' = true)
  (hL : getH κ L = some (rowO base e sz A n c xs)) (hL' : ∀ A' c', setH κ (rowO base e sz A' (n + 1) c' (xs ++ ns)) L = some (L' A' c')) (hlen : n ≤ 1000000000) (hbase : base ≤ C.w0.heap.size)
  (hk : ∀ A' c', X C (.ops all l :: k) ((d, .val (.slice A' (n + 1) c')) :: E) ι (L' A' c') G) : X C (.ops all (⟨some d, .call ⟨.builtin .append, #[s, x], #[t, t]⟩, ty, pos, af, g⟩ :: l) :: k) E ι L G :=
 S_app1z hT κ j ht he hz hzs hzb hsz hg hN hs hx hj hB hcs hns hone hL hL' hlen hbase fun A' c' _ => hk A' c'
end
section
variable {C : Ctx} {k : List It} {E : Env} {ι : Ids} {L : List Ent} {G : PH} {all : Array Oper} {l : List Oper}
theorem S_buildSliceB {d t e m : Nat} {parts : Array (Nat × Operand)} {ty : Nat} {pos : String} {af : Array Edge} {g : Option (Nat × Bool)} {cs : List Cel} (hg : guardOf all E g = .on) (hN : Nat.ble (d + 1) C.n = true) (hd : lookI d ι = none)
  (hr : ∀ a w, AgE ι E a → ∃ vs, denL ι cs = some vs ∧ (Instr.buildSlice t m (parts.map fun (i, x) => (i, a.eval x))).run C.P w = .ok (.slice (some ⟨w.heap.size, 0, none⟩) m m) (w.alloc (.cells vs.toArray e)))
  (hk : ∀ b, C.w0.heap.size ≤ b → X C (.ops all l :: k) ((d, .slc d 0 m m) :: E) ((d, b) :: ι) (.blk d e cs :: L) G) : X C (.ops all (⟨some d, .buildSlice t m parts, ty, pos, af, g⟩ :: l) :: k) E ι L G := by
 intro a w h1 h2 h3 h4
 obtain ⟨vs, hvs, hr⟩ := hr a w h3
 have hrun : (execOp a.eval ⟨some d, .buildSlice t m parts, ty, pos, af, g⟩).run C.P w = .ok (.value (.slice (some ⟨w.heap.size, 0, none⟩) m m)) (w.alloc (.cells vs.toArray e)) := by
  simp only [execOp]; simp [hr]
 refine wpE_val (guardOf_on h3 hg) (by intro c h; cases h) hrun ?_
 have hdn : d < a.tmps.size := by rw [h2]; exact Nat.le_of_ble_eq_true hN
 exact hk w.heap.size h4.size _ _ h1 (by simp [Act.put, h2]) ((h3.ids hd).put hdn (by simp [denO, lookI])) (h4.alloc hd cs hvs)
theorem S_sliceB {T : Tab} {Z : ZTab} (hT : tabOk C.P T) (hZ : zOk C.P Z) {d t e m sz sz' : Nat} {os os' : List Nat} {tk : TK} {z : ZI} {parts : Array (Nat × Operand)} {ty : Nat} {pos : String} {af : Array Edge} {g : Option (Nat × Bool)} {cs : List Cel}
  (ht : lookT t T = some ⟨.slc e, sz', os'⟩) (he : lookT e T = some ⟨tk, sz, os⟩) (hz : lookZ e Z = some z) (hl : z.zs.length = sz) (hsm : m * sz ≤ 16777216) (hpos : 0 < m * sz)
  (hg : guardOf all E g = .on) (hN : Nat.ble (d + 1) C.n = true) (hd : lookI d ι = none) (hf : fillS (seqP sz m 0) E (vL (repL m z.zs)) parts.toList = some cs)
  (hk : ∀ b, C.w0.heap.size ≤ b → X C (.ops all l :: k) ((d, .slc d 0 m m) :: E) ((d, b) :: ι) (.blk d e cs :: L) G) : X C (.ops all (⟨some d, .buildSlice t m parts, ty, pos, af, g⟩ :: l) :: k) E ι L G := by
 refine S_buildSliceB hg hN hd ?_ hk
 intro a w hE
 obtain ⟨inf, v, hi, hv, hb, hc, _⟩ := viewZ_eq (hZ _ _ hz)
 obtain ⟨dsc, inf', hu, hi', hk', hsize, _⟩ := tyOk_parts (hT _ _ he)
 rw [hi] at hi'; cases hi'
 have hus := tyOk_slice (hT _ _ ht) rfl
 obtain ⟨vs', hv1, hv2⟩ := fillS_sound (ι := ι) hE (pl := seqP sz m 0) (place := fun i => some (i * sz, sz)) (by intro i x hx; rw [seqP_at hx]; simp) hf (denL_vL ι (repL m z.zs))
 refine ⟨vs', hv1, run_buildSlice w t e m _ vs'.toArray inf v hus hi hv (by rw [hsize]; simp; omega) (by rw [hsize]; simp only; omega) ?_⟩
 rw [hsize, hc]
 simp only
 rw [← hl] at hv2 ⊢
 rw [rep_range, Array.toList_map]
 exact hv2
theorem S_keepB (key : Nat) {b ty : Nat} {cs : List Cel} {vs : List Value} {L' : List Ent} (hj : lookI key ι = some b) (hB : lookB key L = some (ty, cs)) (hd : denL ι cs = some vs) (hL' : delB key L = some L') (hb0 : C.w0.heap.size ≤ b)
  (hk : PH.ext C.w0.heap.size G (G.add b (.cells vs.toArray ty (0, 0))) → X C k E ι L' (G.add b (.cells vs.toArray ty (0, 0)))) : X C k E ι L G := by
 refine S_lendB key hj hB hd hL' fun hG _ => hk ⟨le_add hG, fun x o hx hn => ?_⟩
 unfold PH.add at hx
 split at hx
 ·omega
 ·rw [hn] at hx; cases hx
theorem gcells_add {G : PH} {b ty : Nat} : ∀ {vs : List Value} {pre : List Value}, gcells (G.add b (.cells (pre ++ vs).toArray ty (0, 0))) ⟨b, pre.length, none⟩ vs
 | [], _ => trivial
 | v :: vs, pre => by
  refine ⟨?_, ?_⟩
  ·simp [gcell, PH.add]
  ·have := gcells_add (G := G) (b := b) (ty := ty) (vs := vs) (pre := pre ++ [v])
   rw [add_lit']
   simpa using this
theorem S_sliceG {T : Tab} {Z : ZTab} (hT : tabOk C.P T) (hZ : zOk C.P Z) {d t e m sz sz' : Nat} {os os' : List Nat} {tk : TK} {z : ZI} {parts : Array (Nat × Operand)} {ty : Nat} {pos : String} {af : Array Edge} {g : Option (Nat × Bool)} {cs : List Cel} {vs : List Value}
  (ht : lookT t T = some ⟨.slc e, sz', os'⟩) (he : lookT e T = some ⟨tk, sz, os⟩) (hz : lookZ e Z = some z) (hl : z.zs.length = sz) (hsm : m * sz ≤ 16777216) (hpos : 0 < m * sz)
  (hg : guardOf all E g = .on) (hN : Nat.ble (d + 1) C.n = true) (hd : lookI d ι = none) (hf : fillS (seqP sz m 0) E (vL (repL m z.zs)) parts.toList = some cs) (hcs : ∀ b, denL ((d, b) :: ι) cs = some vs)
  (hk : ∀ b G', PH.ext C.w0.heap.size G G' → gcells G' ⟨b, 0, none⟩ vs → X C (.ops all l :: k) ((d, .val (.slice (some ⟨b, 0, none⟩) m m)) :: E) ((d, b) :: ι) L G') : X C (.ops all (⟨some d, .buildSlice t m parts, ty, pos, af, g⟩ :: l) :: k) E ι L G := by
 refine S_sliceB hT hZ ht he hz hl hsm hpos hg hN hd hf fun b hb => ?_;refine S_keepB (L' := L) (ty := e) d (by simp [lookI]) (by simp [lookB]) (hcs b) (by simp [delB]) hb fun hext => ?_;refine S_reE (s := .slc d 0 m m) d (.val (.slice (some ⟨b, 0, none⟩) m m)) (by simp [look]) (by simp [denO, lookI]) ?_
 have hg0 := gcells_add (G := G) (b := b) (ty := e) (vs := vs) (pre := [])
 intro a w q1 q2 q3 q4
 refine hk b _ hext hg0 a w q1 q2 ?_ q4
 intro i s hi
 refine q3 i s ?_
 simp only [look] at hi ⊢
 split <;> simp_all
end
end
section
section
variable {C : Ctx} {k : List It} {E : Env} {ι : Ids} {L : List Ent} {G : PH} {all : Array Oper} {l : List Oper}
theorem set_mid {l : List Value} {o : Nat} {v : Value} (h : o < l.length) : l.take o ++ [v] ++ l.drop (o + 1) = l.set o v := by
 rw [List.set_eq_take_append_cons_drop, if_pos h]; simp
theorem S_storeO {T : Tab} (hT : tabOk C.P T) (κ : Nat) {base e sz t : Nat} {i : TyI} {x y : Operand} {s : Sym} {gb off o n c ty : Nat} {v : Value} {xs : List Value} {L' : List Ent} {pos : String} {af : Array Edge} {g : Option (Nat × Bool)} {ad : Addr}
  (hL : getH κ L = some (rowO base e sz (some ⟨gb, off, none⟩) n c xs)) (hL' : setH κ (rowO base e sz (some ⟨gb, off, none⟩) n c (xs.set o v)) L = some L')
  (hx : ev E x = some (.val (.pointer (some ad)))) (had : ad = ⟨gb, off + o, none⟩) (hy : ev E y = some s) (hys : denO ι s = some v) (hone : v.oneCell' = true) (ht : lookT t T = some i) (hsz : i.size = 1) (ho : o < xs.length) (hg : guardOf all E g = .on)
  (hk : X C (.ops all l :: k) E ι L' G) : X C (.ops all (⟨none, .store t x y, ty, pos, af, g⟩ :: l) :: k) E ι L G := by
 intro a w h1 h2 h3 h4
 obtain ⟨S, hA, hSG, hturn⟩ := h4.turn hL
 obtain ⟨q1, q2, q3, q4⟩ := hA
 rcases q4 with ⟨q, _⟩ | ⟨g', off', cur, q, q0, q5, q6, q7, q8⟩
 ·cases q
 cases q
 have ex := ev_sound h3 hx
 have ey := ev_sound h3 hy
 subst had
 rw [hys] at ey
 simp only [denO, Option.some.injEq] at ex ey
 have hfit : off + o + [v].length ≤ cur.toList.length := by
  have h6 : xs.length ≤ cur.toList.length - off := by
   have := congrArg List.length q7
   simp only [List.length_take, List.length_drop] at this
   omega
  simp only [List.length_singleton]
  omega
 obtain ⟨w', hr, hh', hoth, e1, e2, e3, e4⟩ := run_storeCells_blk (P := C.P) (w := w) (b := gb) (o := off + o) (ty := e) (cs := cur.toList) (vs := [v]) (by simpa using q5) hfit (by intro u hu; rw [List.mem_singleton.1 hu]; exact hone)
 have hrun : (execOp a.eval ⟨none, .store t x y, ty, pos, af, g⟩).run C.P w = .ok .skip w' := by
  have hcells : (a.eval y).cells = [v].toArray := by
   rw [← ey]; exact oneCell_of (P := C.P) hone
  simp only [execOp, ← ex]
  simp [Instr.storeAt, Instr.sureAddr, storeVar, tyOk_size (hT _ _ ht), hsz, hcells]
  rw [hr]
  try simp
 refine wpE_skipv (guardOf_on h3 hg) (by rintro c h; cases h) hrun ?_;refine hk _ _ h1 h2 h3 ?_;refine hturn _ _ G w' S hL' ?_ (fun b o' hb => ?_) XR (fun b hb => ⟨hSG b hb, .inl hb⟩) e1 e2 e3 (by rw [e4]; exact Nat.le_refl _) fun b _ hn => hoth b fun h => hn ((q8 b).2 h)
 ·refine ⟨by simpa using q1, q2, q3, .inr ⟨gb, off, _, J, q0, hh', ?_, ?_, q8⟩⟩
  ·simp at hfit ⊢; omega
  ·rw [List.length_singleton, set_mid (by simp at hfit ⊢; omega)]
   simp only [List.toList_toArray, List.length_set]
   rw [List.drop_set, if_neg (by omega), List.take_set, q7]
   congr 1
   omega
 ·rw [hoth b (by rintro rfl; have := hSG _ ((q8 _).2 rfl); rw [this] at hb; cases hb)]
  exact h4.emb b o' hb
end
theorem V_loadR' {C : Ctx} {ι : Ids} {E : Env} {L : List Ent} {G : PH} {d : Option Nat} {ty : Nat} {pos : String} {af : Array Edge} {g : Option (Nat × Bool)} {T : Tab} (hT : tabOk C.P T) (κ : Nat) {t : Nat} {i : TyI} {x : Operand} {gb off o : Nat} {v : Value} {base e sz : Nat} {n c : Nat} {xs : List Value} {ad : Addr}
  (hL : getH κ L = some (rowO base e sz (some ⟨gb, off, none⟩) n c xs)) (hx : ev E x = some (.val (.pointer (some ad)))) (had : ad = ⟨gb, off + o, none⟩) (ht : lookT t T = some i) (hk0 : i.k.isAgg = false) (hc : xs[o]? = some v) : Vl C ι E L G ⟨d, .load t x, ty, pos, af, g⟩ v := by
 subst had
 exact V_loadR hT κ hL hx ht hk0 hc
theorem Cs_at {α : Type} {sz : Nat} {rep : α → List Value → Prop} : ∀ {L : List α} {xs : List Value} {k : Nat} (h : Cs sz rep L xs) (hk : k < L.length), ∃ cs, (xs.drop (k * sz)).take sz = cs ∧ cs.length = sz ∧ rep L[k] cs ∧ ∀ f v x', f < sz → rep x' (cs.set f v) → Cs sz rep (L.set k x') (xs.set (k * sz + f) v)
 | [], _, _, _, hk => by simp at hk
 | x :: L, xs, 0, h, _ => by
  obtain ⟨cs, ys, rfl, h2, h3, h4⟩ := h
  refine ⟨cs, by simp [← h2], h2, h3, fun f v x' hf hx => ?_⟩
  rw [Nat.zero_mul, Nat.zero_add, List.set_append_left _ _ (by omega)]
  exact ⟨cs.set f v, ys, J, by simpa using h2, hx, h4⟩
 | x :: L, xs, k + 1, h, hk => by
  obtain ⟨cs, ys, rfl, h2, h3, h4⟩ := h
  obtain ⟨ds, e1, e2, e3, e4⟩ := Cs_at h4 (k := k) (by simpa using hk)
  refine ⟨ds, ?_, e2, by simpa using e3, fun f v x' hf hx => ?_⟩
  ·rw [Nat.succ_mul, Nat.add_comm, ← List.drop_drop, List.drop_left' h2]; exact e1
  ·rw [Nat.succ_mul, List.set_append_right _ _ (by rw [h2]; omega)]
   refine ⟨cs, _, J, h2, h3, ?_⟩
   have := e4 f v x' hf hx
   rw [show k * sz + sz + f - cs.length = k * sz + f by omega]
   exact this
end
section
section
variable {C : Ctx} {k : List It} {E : Env} {ι : Ids} {L : List Ent} {G : PH} {all : Array Oper} {l : List Oper}
end
end
section
section
variable {C : Ctx} {ks : List Nat} {all : Array Oper} {k : List It} {E : Env} {ι : Ids} {L : List Ent} {G : PH} {R : List Nat} {pend : List Pd}
def rdyL (all : Array Oper) (R : List Nat) : List Nat → Option (List Nat)
 | [] => some []
 | i :: l => match nthOp i all.toList with
  | some o => match clearOf R o.after.toList with
   | true => match rdyL all R l with
    | some r => some (i :: r)
    | none => none
   | false => rdyL all R l
  | none => none
theorem rdyL_sound : ∀ {l r : List Nat}, rdyL all R l = some r → ∀ i ∈ l, ∀ o, all[i]? = some o → (∀ e ∈ edgesA o, e ∉ R) → i ∈ r := by
 intro l
 induction l with
 | nil => intro r _ i hi; cases hi
 | cons x l ih =>
  intro r h i hi o ho he
  simp only [rdyL] at h
  split at h
  ·rename_i o' ho'
   split at h
   ·split at h
    ·rename_i r' hr'
     cases h
     rcases List.mem_cons.1 hi with rfl | hi
     ·exact List.mem_cons_self ..
     ·exact List.mem_cons_of_mem _ (ih hr' i hi o ho he)
    ·cases h
   ·rename_i hc
    rcases List.mem_cons.1 hi with rfl | hi
    ·have ho'' : all[i]? = some o' := by simpa using nthOp_eq ho'
     rw [ho] at ho''; cases ho''
     obtain ⟨e, h1, h2, h3⟩ := clearOf_eq hc
     exact absurd h3 (he e.on (List.mem_map.2 ⟨e, List.mem_filter.2 ⟨h1, h2⟩, J⟩))
    ·exact ih h i hi o ho he
  ·cases h
def AllN (P : Nat → Prop) : List Nat → Prop
 | [] => True
 | j :: l => P j ∧ AllN P l
theorem AllN_mem {P : Nat → Prop} : ∀ {l : List Nat}, AllN P l → ∀ j ∈ l, P j
 | [], _, j, hj => by cases hj
 | x :: l, h, j, hj => by
  rcases List.mem_cons.1 hj with rfl | hj
  ·exact h.1
  ·exact AllN_mem h.2 j hj
theorem D_list {j0 : Nat} {js : List Nat} (hs : rdyL all R R = some (j0 :: js)) (h : AllN (Nx C ks all k R pend E ι L G) (j0 :: js)) : D C ks all k R pend E ι L G := by
 intro hok hp hdis
 refine DR_core hok hp hdis (fun h => by subst h; cases hs) ?_
 intro i hi o' ho' he
 exact AllN_mem h i (rdyL_sound hs i hi o' ho' he) hok hp hdis o' ho'
end
section
variable {C : Ctx} {k : List It} {E : Env} {ι : Ids} {L : List Ent} {G : PH} {all : Array Oper} {l : List Oper}
theorem S_newHP (κ : Nat) {B : Nat} {A : HP} {L' : List Ent} (hL : getH κ L = some (newHP B A)) (hL' : setH κ A L = some L') (hk : X C k E ι L' G) : X C k E ι L G := by
 intro a w h1 h2 h3 h4
 refine hk a w h1 h2 h3 ?_;obtain ⟨S, ⟨hA, hB⟩, hSG, hturn⟩ := h4.turn hL
 exact hturn _ _ G w S hL' hA h4.emb XR (fun b hb => ⟨hSG b hb, .inl hb⟩) J J J (Nat.le_refl _) fun _ _ _ => J
end
section
variable {C : Ctx} {k : List It} {E : Env} {ι : Ids} {L : List Ent} {G : PH}
end
section
variable {C : Ctx} {ι : Ids} {E : Env} {L : List Ent} {G : PH} {d : Option Nat} {ty : Nat} {pos : String} {af : Array Edge} {g : Option (Nat × Bool)}
theorem V_sliceHi {T : Tab} (hT : tabOk C.P T) {t e sz sz' m : Nat} {os os' : List Nat} {tk : TK} {x : Operand} {A : Option Addr} {n c : Nat} (ht : lookT t T = some ⟨.slc e, sz', os'⟩) (he : lookT e T = some ⟨tk, sz, os⟩) (hx : ev E x = some (.val (.slice A n c))) (hm : m ≤ n) (hnc : n ≤ c) (hpos : 0 < c) :
  Vl C ι E L G ⟨d, .slice t x none (some (.const (.int .i64 (m : Nat)))) none, ty, pos, af, g⟩ (.slice (A.map (·.add 0)) m c) := by
 intro a w hE hw
 have ex := ev_sound hE hx
 simp only [denO, Option.some.injEq] at ex
 have hu := tyOk_slice (hT _ _ ht) rfl
 simp only [execOp, Option.map_some, Option.map_none, ← ex]
 have : a.eval (.const (.int .i64 (m : Nat))) = .int .i64 (m : Nat) := rfl
 rw [this]
 have h1 : (m : Int) ≤ (n : Int) := by omega
 have h2 : ¬ ((m : Int) < 0) := by omega
 have h3 : ¬ (c = 0) := by omega
 have h4 : (m : Int) ≤ (c : Int) := by omega
 simp only [Instr.sliceAt, Sem.run_bind, run_underlying hu, Result.andThen_ok]
 simp [Instr.slice, run_underlying hu, Instr.sliceBounds, Instr.sliceBound, asIntOf, tyOk_size (hT _ _ he), h1, h2, h3, h4]
 intro h5
 omega
end
end
section
attribute [local irreducible] X Pure Mod
def numOk (n : Int) : Bool := decide (-999 ≤ n) && decide (n ≤ 999)
theorem c_NumOk (n : Int) (G : PH) : Pure Tryz.prog 62 [.int .i64 n] G fun v G' => v = .bool (numOk n) ∧ G' = G := by
 refine Pure.intro Tryz.func62 Tryz.ntmps62 J J fun w => ?_;refine Va J J ?_;exact S_retP Tryz.results62 J J XR ⟨J, J⟩
def leafOk (k a b n room : Int) : Bool :=
 let reg := decide (0 ≤ a) && decide (a < 3)
 let two := decide (0 ≤ b) && decide (b < 3)
 if k = 1 then reg && decide (b = 0) && numOk n
 else if k = 2 then reg && two && decide (1 ≤ n) && decide (n ≤ 5)
 else if k = 3 then reg && decide (0 ≤ b) && decide (b < 3) && decide (n = 0)
 else if k = 4 then decide (0 ≤ a) && decide (a < 3) && two && decide (n = 0)
 else if k = 5 then reg && decide (b = 0) && decide (n = 0)
 else if k = 9 then decide (0 ≤ room) && decide (0 ≤ a) && decide (a < 2) && decide (b = 0) && decide (n = 0)
 else if k = 10 then decide (0 ≤ a) && decide (a < 2) && decide (b = 0) && decide (n = 0)
 else if k = 11 then decide (a = 0) && decide (b = 0) && decide (n = 0)
 else false
theorem c_l2Leaf (k a b n room : Int) (vx vy : Value) (G : PH) : Pure Tryz.prog 44 [.agg #[.int .i64 k, .int .i64 a, .int .i64 b, .int .i64 n, vx, vy], .int .i64 room] G fun v G' => v = .bool (leafOk k a b n room) ∧ G' = G := by
 refine Pure.intro Tryz.func44 Tryz.ntmps44 J J fun w => ?_;refine Va J J ?_
 repeat' (first
  | (refine S_condp J (fun h => ?_) (fun h => ?_) <;> refine Va J J ?_)
  | (refine S_box J J J J J fun b => ?_; refine Va J J ?_)
  | (refine S_guard J J (fun h => ?_) (fun h => ?_) <;> refine Va J J ?_)
  | (refine S_call Tryz.call62 (c_NumOk _ _) J J J ?_; rintro v G' ⟨rfl, rfl⟩ _; refine Va J J ?_)
  | (refine S_retP Tryz.results44 J J XR ⟨?_, J⟩))
 all_goals simp_all [leafOk]
end
section
attribute [local irreducible] X Pure Mod
theorem Stm.row_at {G : PH} {L : List Stm} {ad : Addr} (h : Stm.row G L ad) {k : Nat} (hk : k < L.length) : ∃ cs, gcells G (ad.add (k * 6)) cs ∧ Stm.rep G L[k] cs := by
 induction L generalizing ad k with
 | nil => simp at hk
 | cons s r ih =>
  obtain ⟨h1, h2⟩ := (show (∃ cs, gcells G ad cs ∧ Stm.rep G s cs) ∧ Stm.row G r (ad.add 6) from by simpa [Stm.row] using h)
  cases k with
  | zero => simpa [add_zero'] using h1
  | succ k =>
   obtain ⟨cs, h3, h4⟩ := ih h2 (k := k) (by simpa using hk)
   rw [add_add'] at h3
   exact ⟨cs, by rw [show (k + 1) * 6 = 6 + k * 6 by omega]; exact h3, by simpa using h4⟩
mutual
def stmtOk : Stm → Int → Int → Bool
 | .mk k a b n x y, deep, room =>
  if (decide (k ≠ 6) && decide (0 < y.length)) || decide (deep < 1) then false
  else if k = 6 ∨ k = 7 then decide (0 ≤ a) && decide (a < 3) && decide (b = 0) && decide (n = 0) && listOk x (deep - 1) room && listOk y (deep - 1) room
  else if k = 8 then decide (room < 0) && decide (0 ≤ a) && decide (a < 2) && decide (b = 0) && decide (n = 0) && listOk x (deep - 1) a
  else decide (x.length = 0) && leafOk k a b n room
def listOk : List Stm → Int → Int → Bool
 | [], _, _ => true
 | s :: r, deep, room => stmtOk s deep room && listOk r deep room
end
theorem listOk_all (L : List Stm) (d r : Int) : listOk L d r = L.all (stmtOk · d r) := by
 induction L with
 | nil => simp [listOk]
 | cons s L ih => simp [listOk, ih]
theorem listOk_false {L : List Stm} {d r : Int} {k : Nat} (hk : k < L.length) (h : stmtOk L[k] d r = false) : listOk L d r = false := by
 rw [listOk_all, List.all_eq_false]
 exact ⟨L[k], List.getElem_mem hk, by simp [h]⟩
theorem listOk_true {L : List Stm} {d r : Int} (h : ∀ k (hk : k < L.length), stmtOk L[k] d r = true) : listOk L d r = true := by
 rw [listOk_all, List.all_eq_true]
 intro s hs
 obtain ⟨k, hk, rfl⟩ := List.getElem_of_mem hs
 exact h k hk
theorem c_l2List_of (L : List Stm) (deep room : Int) (v : Value) (G : PH) (hL : Sl G (Stm.row G L) L.length v) (h1 : ∀ k (hk : k < L.length) cs, Stm.rep G L[k] cs → Pure Tryz.prog 81 [.agg cs.toArray, .int .i64 deep, .int .i64 room] G fun v G' => v = .bool (stmtOk L[k] deep room) ∧ G' = G) :
  Pure Tryz.prog 63 [v, .int .i64 deep, .int .i64 room] G fun v G' => v = .bool (listOk L deep room) ∧ G' = G := by
 obtain ⟨A, c, rfl, hn, hc1, hc2, hr⟩ := hL
 refine Pure.intro Tryz.func63 Tryz.ntmps63 J J fun w => ?_;refine Va J J ?_;refine S_loop (α := Nat) (fun k => k ≤ L.length ∧ ∀ j (hj : j < L.length), j < k → stmtOk L[j] deep room = true) (fun k => L.length - k) []
  (fun k => [(7, .val (.int .i64 k)), (0, .val (.slice A L.length c)), (1, .val (.int .i64 deep)), (2, .val (.int .i64 room))]) (fun _ => []) (fun _ => G) 0 ⟨Nat.zero_le _, fun j _ h => by omega⟩ rfl ⟨⟨_, rfl, rfl⟩, ⟨_, rfl, rfl⟩, ⟨_, rfl, rfl⟩, ⟨_, rfl, rfl⟩, trivial⟩ .nil ?_
 rintro k ⟨hk, hall⟩
 refine Va J J ?_
 refine S_condp J (fun h => ?_) (fun h => ?_) <;> refine Va J J ?_
 ·have hkl : k < L.length := by omega
  obtain ⟨ad, rfl, hrow⟩ : ∃ ad, A = some ad ∧ Stm.row G L ad := by
   rcases hr with h0 | h0
   ·omega
   ·exact h0
  obtain ⟨cs, hcs, hrep⟩ := Stm.row_at hrow hkl
  have hlen : cs.length = 6 := by
   cases hs : L[k]; rw [hs] at hrep; obtain ⟨vx, vy, e, _⟩ := (by simpa [Stm.rep] using hrep); simp [e]
  refine S_index Tk J J J J J J (by omega) (by omega) ?_;refine Va J J ?_;refine S_loadA Tk J J J J hlen hcs ?_;refine Va J J ?_;refine S_call Tryz.call81 (h1 k hkl cs hrep) J J J ?_;rintro v G' ⟨rfl, rfl⟩ _
  refine Va J J ?_
  refine S_cond J (fun h => ?_) (fun h => ?_) <;> refine Va J J ?_
  ·refine S_retP Tryz.results63 J J XR ⟨?_, J⟩
   rw [listOk_false hkl (by simpa using h)]
  ·refine S_add J J J J (by omega) ?_
   refine Va J J ?_;refine S_again (k + 1) ⟨by omega, fun j hj hjk => ?_⟩ (by omega) J ⟨⟨_, J, J⟩, ⟨_, J, J⟩, ⟨_, J, J⟩, ⟨_, J, J⟩, trivial⟩ .nil
   rcases Nat.lt_or_ge j k with h' | h'
   ·exact hall j hj h'
   ·obtain rfl : j = k := by omega
    simpa using h
 ·refine S_retP Tryz.results63 J J XR ⟨?_, J⟩
  rw [listOk_true fun j hj => hall j hj (by omega)]
end
section
attribute [local irreducible] X Pure Mod
def L2ok (L : List Stm) : Prop := ∀ (deep room : Int) (v : Value) (G : PH), I64 deep → Sts G L v → Pure Tryz.prog 63 [v, .int .i64 deep, .int .i64 room] G fun v G' => v = .bool (listOk L deep room) ∧ G' = G
theorem c_l2Stmt_of (s : Stm) (hx : L2ok s.body) (hy : L2ok s.els) (deep room : Int) (hd : I64 deep) (cs : List Value) (G : PH) (hs : Stm.rep G s cs) :
  Pure Tryz.prog 81 [.agg cs.toArray, .int .i64 deep, .int .i64 room] G fun v G' => v = .bool (stmtOk s deep room) ∧ G' = G := by
 obtain ⟨k, a, b, n, x, y⟩ := s
 obtain ⟨vx, vy, rfl, hk, ha, hb, hn, h1, h2⟩ := Stm.rep_iff.1 hs
 have gx := hx
 have gy := hy
 simp only [Stm.body, Stm.els] at gx gy
 obtain ⟨Ax, cx, rfl, _⟩ := id h1
 obtain ⟨Ay, cy, rfl, _⟩ := id h2
 unfold I64 at hd ha
 refine Pure.intro Tryz.func81 Tryz.ntmps81 J J fun w => ?_; refine Va J J ?_
 repeat' (first
  | (refine S_condp J (fun h => ?_) (fun h => ?_) <;> refine Va J J ?_) | (refine S_cond J (fun h => ?_) (fun h => ?_) <;> refine Va J J ?_) | (refine S_box J J J J J fun b => ?_; refine Va J J ?_) | (refine AZ ZT_ok J J J J fun b => ?_; refine Va J J ?_) | (refine S_guardp J J (fun h => ?_) (fun h => ?_) <;> refine Va J J ?_) | (refine S_guard J J (fun h => ?_) (fun h => ?_) <;> refine Va J J ?_)
  | (refine S_subI J J J J (by simp_all; omega) ?_; refine Va J J ?_)
  | (refine S_call Tryz.call63 (gx _ _ _ _ (by unfold I64; simp_all; omega) h1) rfl rfl rfl ?_; rintro v G' ⟨rfl, rfl⟩ _; refine Va J J ?_)
  | (refine S_call Tryz.call63 (gy _ _ _ _ (by unfold I64; simp_all; omega) h2) rfl rfl rfl ?_; rintro v G' ⟨rfl, rfl⟩ _; refine Va J J ?_)
  | (refine S_call Tryz.call44 (c_l2Leaf _ _ _ _ _ _ _ _) J J J ?_; rintro v G' ⟨rfl, rfl⟩ _; refine Va J J ?_)
  | (refine S_retP Tryz.results81 J J XR ⟨?_, J⟩))
 all_goals (try simp_all [stmtOk, Stm.body, Stm.els])
 all_goals (try omega)
end
section
attribute [local irreducible] X Pure Mod
theorem L2ok_of (L : List Stm) (h : ∀ k (hk : k < L.length), L2ok L[k].body ∧ L2ok L[k].els) : L2ok L := by
 intro deep room v G hd hv
 refine c_l2List_of L deep room v G (Sts_Sl.1 hv) fun k hk cs hs => ?_;exact c_l2Stmt_of L[k] (h k hk).1 (h k hk).2 deep room hd cs G hs
mutual
theorem L2ok_stm : ∀ (s : Stm), L2ok s.body ∧ L2ok s.els
 | .mk k a b n x y => ⟨L2ok_all x, L2ok_all y⟩
theorem L2ok_at : ∀ (L : List Stm) (k : Nat) (hk : k < L.length), L2ok L[k].body ∧ L2ok L[k].els
 | [], k, hk => absurd hk (by simp)
 | s :: L, 0, _ => L2ok_stm s
 | s :: L, k + 1, hk => L2ok_at L k (by simpa using hk)
theorem L2ok_all : ∀ (L : List Stm), L2ok L
 | L => L2ok_of L (L2ok_at L)
end
mutual
def manyS : Stm → Int → Int
 | .mk _ _ _ _ x y, d => 1 + many x (d - 1) + many y (d - 1)
def many : List Stm → Int → Int
 | [], _ => 0
 | s :: r, d => (if 0 < d then manyS s d else 0) + many r d
end
theorem many_append (L M : List Stm) (d : Int) : many (L ++ M) d = many L d + many M d := by
 induction L with
 | nil => simp [many]
 | cons s L ih => simp only [List.cons_append, many, ih]; omega
theorem many_zero (L : List Stm) {d : Int} (h : ¬ 0 < d) : many L d = 0 := by
 induction L with
 | nil => simp [many]
 | cons s L ih => simp only [many, ih, if_neg h]; omega
theorem manyS_eq (s : Stm) (d : Int) : manyS s d = 1 + many s.body (d - 1) + many s.els (d - 1) := by cases s; simp [manyS, Stm.body, Stm.els]
def L2many (L : List Stm) : Prop := ∀ (deep : Int) (v : Value) (G : PH), I64 deep → Sts G L v → Pure Tryz.prog 64 [v, .int .i64 deep] G fun v G' => v = .int .i64 (w64 (many L deep)) ∧ G' = G
theorem L2many_of (L : List Stm) (h : ∀ k (hk : k < L.length), L2many L[k].body ∧ L2many L[k].els) : L2many L := by
 intro deep v G hd hv
 obtain ⟨A, c, rfl, hn, hc1, hc2, hr⟩ := id hv
 unfold I64 at hd
 refine Pure.intro Tryz.func64 Tryz.ntmps64 J J fun w => ?_; refine Va J J ?_;refine S_loop (α := Nat) (fun k => k ≤ L.length) (fun k => L.length - k) []
  (fun k => [(6, .val (.int .i64 k)), (5, .val (.int .i64 (w64 (many (L.take k) deep)))), (0, .val (.slice A L.length c)), (1, .val (.int .i64 deep))]) (fun _ => []) (fun _ => G) 0 (Nat.zero_le _) rfl
  ⟨⟨_, rfl, rfl⟩, ⟨_, rfl, rfl⟩, ⟨_, rfl, rfl⟩, ⟨_, rfl, rfl⟩, trivial⟩ .nil ?_
 intro k hk
 refine Va J J ?_
 refine S_cond J (fun h0 => ?_) (fun h0 => ?_) <;> refine Va J J ?_
 ·obtain ⟨h1, h2⟩ : k < L.length ∧ 0 < deep := by simpa using h0
  have hkl : k < L.length := by omega
  obtain ⟨ad, cs, rfl, hcs1, hrep⟩ := Sr_at hv hkl
  obtain ⟨hbk, hek⟩ := h k hkl
  have hmk := manyS_eq L[k] deep
  rcases hs : L[k] with ⟨q1, q2, q3, q4, x, y⟩
  rw [hs] at hrep hbk hek hmk
  obtain ⟨vx, vy, rfl, i1, i2, i3, i4, hx, hy⟩ := Stm.rep_iff.1 hrep
  obtain ⟨Ax, cx, rfl, _⟩ := id hx
  obtain ⟨Ay, cy, rfl, _⟩ := id hy
  have hdx : I64 (deep - 1) := by unfold I64; omega
  refine D_startK [5] (by exact MO) J J J (by kernel_rfl) ?_;refine Da J J ?_;refine D_val 1 J J J J J J J J J (V_addW J J) ?_;refine D_val 4 J J J J J J J J J (V_index Tk J J J J (by omega) (by omega)) ?_;refine D_val 13 J J J J J J J J J (V_index Tk J J J J (by omega) (by omega)) ?_;refine D_val 8 J J J J J J J J J (V_sub J J (by omega)) ?_;refine D_val 17 J J J J J J J J J (V_sub J J (by omega)) ?_
  refine Da J J ?_;refine D_val 6 J J J J J J J J J (V_load Tk J J J (by simpa using gcells_at hcs1 4 _ J)) ?_;refine D_val 15 J J J J J J J J J (V_load Tk J J J (by simpa using gcells_at hcs1 5 _ J)) ?_;refine D_sole 9 J J (N_call 9 Tryz.call64 (hbk _ _ _ hdx hx) J J J J J J J J J J ?_)
  rintro v1 G1 ⟨rfl, rfl⟩ _
  refine D_val 10 J J J J J J J J J (V_addW J J) ?_;refine D_sole 18 J J (N_call 18 Tryz.call64 (hek _ _ _ hdx hy) J J J J J J J J J J ?_)
  rintro v1 G1 ⟨rfl, rfl⟩ _
  refine D_val 19 J J J J J J J J J (V_addW J J) ?_;refine D_sole 20 J J (N_assign Tk 20 J J J J J J J J J (by kernel_rfl) ?_)
  refine DD ?_;refine Va J J ?_;refine S_add J J J J (by omega) ?_;refine Va J J ?_;refine S_again (k + 1) (by omega) (by omega) J ⟨⟨_, J, J⟩, ⟨_, J, ?_⟩, ⟨_, J, J⟩, ⟨_, J, J⟩, trivial⟩ .nil
  simp only [denO]
  congr 2
  rw [List.take_succ_eq_append_getElem hkl, many_append, hs]
  simp only [many, if_pos h2, hmk, Stm.body, Stm.els, w64_l, w64_r]
  simp only [w64_l, w64_r, Int.add_assoc]
  simp only [Int.add_zero]
 ·refine S_retP Tryz.results64 J J XR ⟨?_, J⟩
  congr 2
  by_cases hd0 : 0 < deep
  ·have hk' : k = L.length := by
    rcases Nat.lt_or_ge k L.length with h1 | h1
    ·simp [hd0, h1] at h0
    ·omega
   rw [hk', List.take_length]
  ·rw [many_zero _ hd0, many_zero _ hd0]
mutual
theorem L2many_stm : ∀ (s : Stm), L2many s.body ∧ L2many s.els
 | .mk k a b n x y => ⟨L2many_all x, L2many_all y⟩
theorem L2many_at : ∀ (L : List Stm) (k : Nat) (hk : k < L.length), L2many L[k].body ∧ L2many L[k].els
 | [], k, hk => absurd hk (by simp)
 | s :: L, 0, _ => L2many_stm s
 | s :: L, k + 1, hk => L2many_at L k (by simpa using hk)
theorem L2many_all : ∀ (L : List Stm), L2many L
 | L => L2many_of L (L2many_at L)
end
def stmtsOk (L : List Stm) : Bool := listOk L 3 (-1) && decide (w64 (many L 3) ≤ 14)
theorem c_StmtsOk (L : List Stm) (v : Value) (G : PH) (hv : Sts G L v) : Pure Tryz.prog 47 [v] G fun v G' => v = .bool (stmtsOk L) ∧ G' = G := by
 obtain ⟨A, c, rfl, _⟩ := id hv
 have i3 : I64 3 := by unfold I64; omega
 refine Pure.intro Tryz.func47 Tryz.ntmps47 J J fun w => ?_; refine Va J J ?_;refine S_call Tryz.call63 (L2ok_all L _ _ _ _ i3 hv) J J J ?_;rintro v1 G1 ⟨rfl, rfl⟩ _
 refine Va J J ?_
 refine S_guard J J (fun h => ?_) (fun h => ?_) <;> refine Va J J ?_
 ·refine S_call Tryz.call64 (L2many_all L _ _ _ i3 hv) J J J ?_
  rintro v1 G1 ⟨rfl, rfl⟩ _
  refine Va J J ?_;refine S_retP Tryz.results47 J J XR ⟨?_, J⟩
  simp [stmtsOk, h]
 ·refine S_retP Tryz.results47 J J XR ⟨?_, J⟩
  simp [stmtsOk, h]
end
section
attribute [local irreducible] X Pure Mod
theorem ints_of {G : PH} {a : Addr} {l : List Int} {n c : Nat} (h : gcells G a (intC l)) (hn : n = l.length) (hc : n ≤ c) (hcm : c ≤ maxLen) (hb : n ≤ 1000000000) (hi : ∀ x ∈ l, I64 x) : Ints G l (.slice (some a) n c) :=
 Sx_Ints ⟨some a, c, rfl, hb, hc, hcm, by rw [intC_length, hn]; omega, .inr ⟨a, rfl, h⟩⟩ hn hi
theorem i64_small {l : List Int} (h : (l.all fun x => decide (-9223372036854775808 ≤ x ∧ x ≤ 9223372036854775807)) = true) : ∀ x ∈ l, I64 x := by
 intro x hx
 have := List.all_eq_true.1 h x hx
 simp only [decide_eq_true_eq] at this
 exact ⟨by omega, by omega⟩
theorem frz {α : Type} {G G' : PH} {sz : Nat} {rep : α → List Value → Prop} {L : List α} {A : Option Addr} {n c : Nat} {xs : List Value} (hcs : Cs sz rep L xs) (hn : n = L.length) (hb : n ≤ 1000000000) (hnc : n ≤ c) (hcm : c ≤ maxLen) (hcl : n = 0 ∨ ∃ a, A = some a ∧ gcells (newp G G') a xs) : Sr G' sz rep L (.slice A n c) := by
 subst hn
 refine Sx_Sr ⟨A, c, J, hb, hnc, hcm, Cs_length hcs, ?_⟩ J hcs
 rcases hcl with hcl | ⟨a, h1, h2⟩
 ·exact .inl hcl
 ·exact .inr ⟨a, h1, gcells_le (newp_le _ _) h2⟩
theorem six {cs : List Value} (h : cs.length = 6) : ∃ c0 c1 c2 c3 c4 c5, cs = [c0, c1, c2, c3, c4, c5] := by
 match cs, h with
 | [a0, a1, a2, a3, a4, a5], _ => exact ⟨a0, a1, a2, a3, a4, a5, rfl⟩
theorem Sr_tail {α : Type} {G : PH} {sz : Nat} {rep : α → List Value → Prop} {s : α} {r : List α} {A : Option Addr} {n c : Nat} (h : Sr G sz rep (s :: r) (.slice A n c)) {m : Nat} (hm : m = r.length) : Sr G sz rep r (.slice (if c = 1 then A else A.map (·.add (1 * sz))) m (c - 1)) := by
 subst hm
 obtain ⟨A', c', e, h1, h2, h3, h4⟩ := h
 cases e
 simp only [List.length_cons] at h1 h2 h4
 refine ⟨_, _, J, by omega, by omega, by omega, ?_⟩
 rcases h4 with h4 | ⟨ad, rfl, h5⟩
 ·omega
 ·by_cases hr : r.length = 0
  ·exact .inl hr
  ·right
   rw [if_neg (by omega)]
   exact ⟨_, J, by simpa using h5.2⟩
theorem Rw_take {α : Type} {G : PH} {sz : Nat} {rep : α → List Value → Prop} : ∀ {L : List α} {ad : Addr} (m : Nat), Rw G sz rep L ad → Rw G sz rep (L.take m) ad
 | [], _, m, h => by simpa using h
 | x :: L, _, 0, h => trivial
 | x :: L, _, m + 1, h => ⟨h.1, Rw_take m h.2⟩
theorem gcells_of {G : PH} {a : Addr} : ∀ {cs : List Value}, (∀ j v, cs[j]? = some v → gcell G (a.add j) = some v) → gcells G a cs := by
 intro cs
 induction cs generalizing a with
 | nil => intro _; trivial
 | cons v cs ih =>
  intro h
  refine ⟨by have := h 0 v J; rwa [add_zero'] at this, ih fun j u hj => ?_⟩
  rw [add_add', Nat.add_comm 1 j]
  exact h (j + 1) u (by simpa using hj)
theorem block_add' (x : Addr) (i : Nat) : (x.add i).block = x.block := by unfold Addr.add; split <;> rfl
end
section
attribute [local irreducible] X Pure Mod
theorem c_iNumOk (n : Int) (G : PH) : Pure Tryz.prog 39 [.int .i64 n] G fun v G' => v = .bool (numOk n) ∧ G' = G := by
 refine Pure.intro Tryz.func39 Tryz.ntmps39 J J fun w => ?_; refine Va J J ?_;exact S_retP Tryz.results39 J J XR ⟨J, J⟩
def opOk (n : Int) : Bool := decide (1 ≤ n) && decide (n ≤ 5)
theorem c_isOp (n : Int) (G : PH) : Pure Tryz.prog 40 [.int .i64 n] G fun v G' => v = .bool (opOk n) ∧ G' = G := by
 refine Pure.intro Tryz.func40 Tryz.ntmps40 J J fun w => ?_; refine Va J J ?_;exact S_retP Tryz.results40 J J XR ⟨J, J⟩
def fitsB (n l : Int) : Bool := decide (n = 0) || (decide (0 < n) && decide (n < l))
theorem c_fits (n l : Int) (G : PH) : Pure Tryz.prog 38 [.int .i64 n, .int .i64 l] G fun v G' => v = .bool (fitsB n l) ∧ G' = G := by
 refine Pure.intro Tryz.func38 Tryz.ntmps38 J J fun w => ?_; refine Va J J ?_
 repeat' (first
  | (refine S_condp J (fun h => ?_) (fun h => ?_) <;> refine Va J J ?_) | (refine S_cond J (fun h => ?_) (fun h => ?_) <;> refine Va J J ?_) | (refine S_box J J J J J fun b => ?_; refine Va J J ?_) | (refine AZ ZT_ok J J J J fun b => ?_; refine Va J J ?_) | (refine S_guardp J J (fun h => ?_) (fun h => ?_) <;> refine Va J J ?_) | (refine S_guard J J (fun h => ?_) (fun h => ?_) <;> refine Va J J ?_)
  | (refine S_retP Tryz.results38 J J XR ⟨?_, J⟩))
 all_goals (try simp_all [fitsB])
 all_goals (try omega)
theorem u_int : Tryz.prog.underlying 3 = some (.int .i64) := by kernel_rfl
theorem findI_none {x : Int} : ∀ {es : List MapEntry}, (∀ e ∈ es, ∃ y, e.key = .int .i64 y ∧ x ≠ y) → findI x es = none := by
 intro es
 induction es with
 | nil => intro _; rfl
 | cons e es ih =>
  intro h
  obtain ⟨y, hy, hne⟩ := h e (List.mem_cons_self ..)
  obtain ⟨key, val, born⟩ := e
  simp only at hy
  subst hy
  simp only [findI, if_neg hne]
  exact ih fun e he => h e (List.mem_cons_of_mem _ he)
end
end Go.Proofs.YtblildkhbkmmdaaGreatDoor
