/- Walks of the program's functions, one after the other (part 0); without conditions of their own. -/
import Derived.Below
import Derived.CallsIn
import Derived.Great.BuildSlice
import Derived.Laws.Rows
import Derived.Laws.Tables
import Derived.TacticsIn
import Derived.WalkKit
set_option linter.unusedVariables false
set_option linter.unusedSimpArgs false
set_option maxRecDepth 100000
set_option maxHeartbeats 4000000
open Go.RowKit
namespace Go.Proofs.YtblildkhbkmmdaaGreatDoor
section
theorem J.{u} {α : Sort u} {a : α} : a = a := rfl
def FW (r : Option Nat) : Fence := { Fence.wide with round := r }
theorem callsIn_FW {r : Option Nat} {n : Nat} {P : Program} {f : FuncId} {args : Array Value} {w : World} {R : Ending → World → Prop} : CallsIn (FW r) n P f args w R ↔ Calls P f args w R :=
 (callsIn_wide (n := n) : CallsIn Fence.wide n P f args w R ↔ _)
inductive Cel where
 | v (x : Value)
 | p (key off : Nat)
 | s (key off n c : Nat)
inductive Sym where
 | val (v : Value)
 | lit (b : Bool)
 | ptr (key off : Nat)
 | slc (key off n c : Nat)
 | agg (l : List Cel)
abbrev Env := List (Nat × Sym)
abbrev Ids := List (Nat × Nat)
def look : Nat → Env → Option Sym
 | _, [] => none
 | i, (j, s) :: E => if i = j then some s else look i E
def lookI : Nat → Ids → Option Nat
 | _, [] => none
 | i, (j, s) :: E => if i = j then some s else lookI i E
def denC (ι : Ids) : Cel → Option Value
 | .v x => some x
 | .p k o => match lookI k ι with
  | some b => some (.pointer (some ⟨b, o, none⟩))
  | none => none
 | .s k o n c => match lookI k ι with
  | some b => some (.slice (some ⟨b, o, none⟩) n c)
  | none => none
def denL (ι : Ids) : List Cel → Option (List Value)
 | [] => some []
 | c :: l => match denC ι c with
  | some v => match denL ι l with
   | some vs => some (v :: vs)
   | none => none
  | none => none
def denO (ι : Ids) : Sym → Option Value
 | .val v => some v
 | .lit b => some (.bool b)
 | .ptr k o => match lookI k ι with
  | some b => some (.pointer (some ⟨b, o, none⟩))
  | none => none
 | .slc k o n c => match lookI k ι with
  | some b => some (.slice (some ⟨b, o, none⟩) n c)
  | none => none
 | .agg l => match denL ι l with
  | some vs => some (.agg vs.toArray)
  | none => none
def vL : List Value → List Cel
 | [] => []
 | v :: l => .v v :: vL l
theorem denL_vL (ι : Ids) (l : List Value) : denL ι (vL l) = some l := by
 induction l with
 | nil => rfl
 | cons v l ih => simp [vL, denL, denC, ih]
theorem denL_cons {ι : Ids} {c : Cel} {l : List Cel} {vs : List Value} (h : denL ι (c :: l) = some vs) : ∃ v r, vs = v :: r ∧ denC ι c = some v ∧ denL ι l = some r := by
 simp only [denL] at h
 split at h
 ·rename_i v hv
  split at h
  ·rename_i r hr; cases h; exact ⟨v, r, J, hv, hr⟩
  ·cases h
 ·cases h
theorem denL_length {ι : Ids} : ∀ {l : List Cel} {vs : List Value}, denL ι l = some vs → vs.length = l.length
 | [], _, h => by cases h; rfl
 | c :: l, vs, h => by
  obtain ⟨v, r, rfl, _, h2⟩ := denL_cons h
  simp [denL_length h2]
theorem denL_append {ι : Ids} {l l' : List Cel} {vs vs' : List Value} (h : denL ι l = some vs) (h' : denL ι l' = some vs') : denL ι (l ++ l') = some (vs ++ vs') := by
 induction l generalizing vs with
 | nil => cases h; exact h'
 | cons c l ih =>
  obtain ⟨v, r, rfl, h1, h2⟩ := denL_cons h
  simp [denL, h1, ih h2]
theorem denL_drop {ι : Ids} {l : List Cel} {vs : List Value} (h : denL ι l = some vs) (n : Nat) : denL ι (l.drop n) = some (vs.drop n) := by
 induction l generalizing vs n with
 | nil => cases h; simp [denL]
 | cons c l ih =>
  obtain ⟨v, r, rfl, h1, h2⟩ := denL_cons h
  cases n with
  | zero => simpa using h
  | succ n => simpa using ih h2 n
theorem denL_take {ι : Ids} {l : List Cel} {vs : List Value} (h : denL ι l = some vs) (n : Nat) : denL ι (l.take n) = some (vs.take n) := by
 induction l generalizing vs n with
 | nil => cases h; simp [denL]
 | cons c l ih =>
  obtain ⟨v, r, rfl, h1, h2⟩ := denL_cons h
  cases n with
  | zero => simp [denL]
  | succ n => simp [denL, h1, ih h2 n]
theorem denL_at {ι : Ids} {l : List Cel} {vs : List Value} (h : denL ι l = some vs) {i : Nat} {c : Cel} (hc : l[i]? = some c) : ∃ v, denC ι c = some v ∧ vs[i]? = some v := by
 induction l generalizing vs i with
 | nil => simp at hc
 | cons d l ih =>
  obtain ⟨v, r, rfl, h1, h2⟩ := denL_cons h
  cases i with
  | zero => simp at hc; subst hc; exact ⟨v, h1, J⟩
  | succ i => simpa using ih h2 (by simpa using hc)
def ev (E : Env) : Operand → Option Sym
 | .tmp t => look t E
 | .const v => some (match v with | .bool b => .lit b | v => .val v)
 | .global g => some (.val (.pointer (some ⟨g, 0, none⟩)))
 | .func f => some (.val (.func (.func f) #[] #[]))
def AgE (ι : Ids) (E : Env) (a : Act) : Prop := ∀ i s, look i E = some s → ∃ v, denO ι s = some v ∧ a.tmps[i]? = some v
theorem ev_sound {ι : Ids} {E : Env} {a : Act} (h : AgE ι E a) {x : Operand} {s : Sym} (hx : ev E x = some s) : denO ι s = some (a.eval x) := by
 cases x with
 | tmp t =>
  obtain ⟨v, hv, ht⟩ := h t s hx
  rw [hv]
  simp only [Act.eval, Array.getD_eq_getD_getElem?]
  rw [ht]; rfl
 | const v =>
  simp only [ev, Option.some.injEq] at hx
  subst hx
  cases v <;> rfl
 | global g => simp only [ev, Option.some.injEq] at hx; subst hx; rfl
 | func f => simp only [ev, Option.some.injEq] at hx; subst hx; rfl
theorem AgE.put {ι : Ids} {E : Env} {a : Act} (h : AgE ι E a) {d : Nat} {s : Sym} {v : Value} (hd : d < a.tmps.size) (hs : denO ι s = some v) : AgE ι ((d, s) :: E) (a.put (some d) v) := by
 intro i s' hi
 simp only [look] at hi
 simp only [Act.put, Array.getElem?_setIfInBounds]
 by_cases e : i = d
 ·subst e
  simp only [if_true, Option.some.injEq] at hi
  subst hi
  exact ⟨v, hs, by simp [hd]⟩
 ·rw [if_neg e] at hi
  rw [if_neg (fun e' => e e'.symm)]
  exact h i s' hi
theorem AgE.put_undef {ι : Ids} {E : Env} {a : Act} (h : AgE ι E a) {d : Option Nat} {v : Value} (hd : ∀ t, d = some t → look t E = none) : AgE ι E (a.put d v) := by
 intro i s hi
 cases d with
 | none => exact h i s hi
 | some d =>
  simp only [Act.put, Array.getElem?_setIfInBounds]
  by_cases e : i = d
  ·subst e; rw [hd _ rfl] at hi; cases hi
  ·rw [if_neg (fun e' => e e'.symm)]; exact h i s hi
structure HP where
 holds : World → (Nat → Prop) → Prop
 loc : ∀ w w' S, holds w S → (∀ b, S b → w'.heap[b]? = w.heap[b]?) → holds w' S
 lt : ∀ w S, holds w S → ∀ b, S b → b < w.heap.size
inductive Ent where
 | blk (key ty : Nat) (cells : List Cel)
 | hp (key : Nat) (A : HP)
def Ent.holds (ι : Ids) (w : World) : Ent → (Nat → Prop) → Prop
 | .blk k ty cs, S => ∃ b vs, lookI k ι = some b ∧ denL ι cs = some vs ∧ w.heap[b]? = some (.cells vs.toArray ty (0, 0)) ∧ ∀ x, S x ↔ x = b
 | .hp _ A, S => A.holds w S
def Ent.key : Ent → Nat
 | .blk k _ _ => k
 | .hp k _ => k
abbrev PH := Nat → Option Obj
def Emb (G : PH) (w : World) : Prop := ∀ b o, G b = some o → w.heap[b]? = some o
def PH.le (G G' : PH) : Prop := ∀ b o, G b = some o → G' b = some o
theorem PH.le.refl (G : PH) : G.le G := fun _ _ h => h
theorem PH.le.trans {G G' G'' : PH} (h : G.le G') (h' : G'.le G'') : G.le G'' := fun b o hb => h' b o (h b o hb)
def owns (ι : Ids) (w : World) : List Ent → List (Nat → Prop) → Prop
 | [], [] => True
 | e :: L, S :: Ss => e.holds ι w S ∧ (∀ T ∈ Ss, ∀ b, S b → T b → False) ∧ owns ι w L Ss
 | _, _ => False
structure Ctx where
 P : Program
 r : Option Nat
 n : Nat
 Q : Exit → Act → World → Prop
 w0 : World
 S0 : Nat → Prop
 ms : Bool
structure SatW (C : Ctx) (ι : Ids) (L : List Ent) (G : PH) (w : World) : Prop where
 os : w.os = C.w0.os
 tape : w.tape = C.w0.tape
 output : w.output = C.w0.output
 size : C.w0.heap.size ≤ w.heap.size
 keep : ∀ b, b < C.w0.heap.size → ¬ C.S0 b → w.heap[b]? = C.w0.heap[b]?
 emb : Emb G w
 own : ∃ Ss, owns ι w L Ss ∧ ∀ S ∈ Ss, ∀ b, S b → G b = none ∧ (C.S0 b ∨ C.w0.heap.size ≤ b)
inductive It where
 | code (c : Code)
 | ops (all : Array Oper) (l : List Oper)
 | blk (id : Nat)
 | stop (I : Act → World → Prop)
def wpE (C : Ctx) : List It → Exit → Act → World → Prop
 | [], e, a, w => C.Q e a w
 | .code c :: k, .normal, a, w => c.wpIn (FW C.r) 0 C.P (wpE C k) a w
 | .ops all l :: k, .normal, a, w => wpListIn (FW C.r) 0 C.P all (wpE C k) l a w
 | .blk _ :: k, .normal, a, w => wpE C k .normal a w
 | .blk j :: k, .exit id, a, w => if id = j then wpE C k .normal a w else wpE C k (.exit id) a w
 | .stop I :: _, .normal, a, w => I a w
 | _ :: k, e, a, w => wpE C k e a w
def DfsOk (C : Ctx) (G : PH) (ds : List Deferred) : Prop :=
 match C.ms with
 | false => ds = []
 | true => ∃ Ds : List Nat, Ds.Nodup ∧ ds = Ds.map (fun D => { target := .collected D, args := #[] }) ∧ ∀ D ∈ Ds, C.w0.heap.size ≤ D ∧ G D = some (.deferred (some []))
theorem DfsOk.mono {C : Ctx} {G G' : PH} {ds : List Deferred} (h : DfsOk C G ds) (hl : G.le G') : DfsOk C G' ds := by
 unfold DfsOk at h ⊢
 split at h
 ·exact h
 ·obtain ⟨Ds, h1, h2, h3⟩ := h
  exact ⟨Ds, h1, h2, fun D hD => ⟨(h3 D hD).1, hl _ _ (h3 D hD).2⟩⟩
theorem DfsOk.nil {C : Ctx} {G : PH} : DfsOk C G [] := by
 unfold DfsOk
 split
 ·rfl
 ·exact ⟨[], List.nodup_nil, rfl, fun D hD => by cases hD⟩
theorem DfsOk.eq {C : Ctx} {G : PH} {ds : List Deferred} (h : DfsOk C G ds) (hm : C.ms = false) : ds = [] := by
 unfold DfsOk at h
 rw [hm] at h
 exact h
def X (C : Ctx) (k : List It) (E : Env) (ι : Ids) (L : List Ent) (G : PH) : Prop :=
 ∀ a w, DfsOk C G a.defers → a.tmps.size = C.n → AgE ι E a → SatW C ι L G w → wpE C k .normal a w
section
variable {C : Ctx} {k : List It} {a : Act} {w : World}
theorem wpE_seq {x y : Code} (h : wpE C (.code x :: .code y :: k) .normal a w) : wpE C (.code (.seq x y) :: k) .normal a w := by
 refine wpIn_seq (wpIn_mono h ?_)
 intro e a w q
 cases e <;> exact q
theorem wpE_block {id : Nat} {x : Code} (h : wpE C (.code x :: .blk id :: k) .normal a w) : wpE C (.code (.block id x) :: k) .normal a w := by
 refine wpIn_block (wpIn_mono h ?_)
 intro e a w q
 cases e with
 | exit j =>
  simp only [wpE] at q
  simp only [Exit.inBlock]
  split at q <;> rename_i hj <;> simp [hj] <;> exact q
 | _ => exact q
theorem wpE_skip (h : wpE C k .normal a w) : wpE C (.code .skip :: k) .normal a w := wpIn_skip h
theorem wpE_ret (h : wpE C k .ret a w) : wpE C (.code .ret :: k) .normal a w := wpIn_ret h
theorem wpE_exit {id : Nat} (h : wpE C k (.exit id) a w) : wpE C (.code (.exit id) :: k) .normal a w := wpIn_exit h
theorem wpE_cond {c : Operand} {x y : Code} {t : Bool} (hc : a.eval c = .bool t) (h : wpE C (.code (if t then x else y) :: k) .normal a w) : wpE C (.code (.cond c x y) :: k) .normal a w := wpIn_cond hc h
theorem wpE_region {id : Nat} {ops : Array Oper} (h : wpE C (.ops ops ops.toList :: k) .normal a w) : wpE C (.code (.region id ops false) :: k) .normal a w := wpIn_region_list h
theorem wpE_nil {all : Array Oper} (h : wpE C k .normal a w) : wpE C (.ops all [] :: k) .normal a w := h
theorem wpE_val {all : Array Oper} {l : List Oper} {o : Oper} {v : Value} {w' : World} (hg : Region.wanted o (yielded all a.tmps) = true) (hd : ∀ c, o.op ≠ .defer c)
  (hr : (execOp a.eval o).run C.P w = .ok (.value v) w') (h : wpE C (.ops all l :: k) .normal (a.put o.dst v) w') : wpE C (.ops all (o :: l) :: k) .normal a w := by
 show wpListIn _ _ _ _ _ _ _ _
 unfold wpListIn
 rw [if_pos hg]
 refine ⟨fun _ _ => trivial, ?_⟩
 rw [Oper.semAt_eq _ _ _ hd, hr]
 exact h
theorem wpE_skipv {all : Array Oper} {l : List Oper} {o : Oper} {w' : World} (hg : Region.wanted o (yielded all a.tmps) = true) (hd : ∀ c, o.op ≠ .defer c)
  (hr : (execOp a.eval o).run C.P w = .ok .skip w') (h : wpE C (.ops all l :: k) .normal (a.put o.dst undef) w') : wpE C (.ops all (o :: l) :: k) .normal a w := by
 show wpListIn _ _ _ _ _ _ _ _
 unfold wpListIn
 rw [if_pos hg]
 refine ⟨fun _ _ => trivial, ?_⟩
 rw [Oper.semAt_eq _ _ _ hd, hr]
 exact h
theorem wpE_off {all : Array Oper} {l : List Oper} {o : Oper} (hg : Region.wanted o (yielded all a.tmps) = false)
  (h : wpE C (.ops all l :: k) .normal (a.put o.dst undef) w) : wpE C (.ops all (o :: l) :: k) .normal a w := by
 show wpListIn _ _ _ _ _ _ _ _
 unfold wpListIn
 rw [if_neg (by simp [hg])]
 exact ⟨fun _ _ => trivial, h⟩
end
end
section
inductive TK where
 | sc
 | agg
 | arr (n e : Nat)
 | slc (e : Nat)
 | str
structure TyI where
 k : TK
 size : Nat
 offs : List Nat
structure ZI where
 b : Nat
 zs : List Value
 szs : List Nat
abbrev ZTab := List (Nat × ZI)
def viewZ (P : Program) (t : Nat) : Option ZI :=
 match P.info? t with
 | some i => match i.zero with
  | some z => some ⟨i.bytes, z.cells.toList, match P.underlying t with
   | some (.struct fds) => fds.toList.map fun f => P.cellsOf f.type
   | _ => []⟩
  | none => none
 | none => none
def lookZ : Nat → ZTab → Option ZI
 | _, [] => none
 | t, (s, i) :: T => if t = s then some i else lookZ t T
def zOk (P : Program) (Z : ZTab) : Prop := ∀ t z, lookZ t Z = some z → viewZ P t = some z
theorem zOk_of {P : Program} {Z : ZTab} (h : Z.map (fun x => viewZ P x.1) = Z.map (fun x => some x.2)) : zOk P Z := by
 intro t z hz
 induction Z with
 | nil => cases hz
 | cons x Z ih =>
  obtain ⟨s, i⟩ := x
  simp only [List.map_cons, List.cons.injEq] at h
  simp only [lookZ] at hz
  split at hz
  ·rename_i e; subst e; cases hz; exact h.1
  ·exact ih h.2 hz
theorem viewZ_eq {P : Program} {t : Nat} {z : ZI} (h : viewZ P t = some z) : ∃ inf v, P.info? t = some inf ∧ inf.zero = some v ∧ inf.bytes = z.b ∧ v.cells = z.zs.toArray ∧ ∀ fds, P.underlying t = some (.struct fds) → fds.toList.map (fun f => P.cellsOf f.type) = z.szs := by
 unfold viewZ at h
 split at h
 ·rename_i inf hi
  split at h
  ·rename_i v hv
   cases h
   exact ⟨inf, v, hi, hv, rfl, by simp, fun fds hf => by rw [hf]⟩
  ·cases h
 ·cases h
structure Tab where
 tys : List (Nat × TyI)
 zs : ZTab
def lookTL : Nat → List (Nat × TyI) → Option TyI
 | _, [] => none
 | i, (j, s) :: E => if i = j then some s else lookTL i E
def lookT (t : Nat) (T : Tab) : Option TyI := lookTL t T.tys
def TK.isAgg : TK → Bool
 | .agg => true
 | .arr _ _ => true
 | _ => false
def tkOk : TK → TypeDesc → Bool
 | .agg, .struct _ => true
 | .arr n e, .array n' e' => n == n' && e == e'
 | .slc e, .slice e' => e == e'
 | .str, .string => true
 | .sc, .struct _ => false
 | .sc, .array _ _ => false
 | .sc, _ => true
 | _, _ => false
def offsOk (P : Program) : List Nat → TypeDesc → Bool
 | offs, .struct fs => (fs.toList.map (·.offset) == offs) && fs.toList.all (fun f => P.cellsOf f.type != 0)
 | offs, _ => offs == []
def tyOk (P : Program) (t : Nat) (i : TyI) : Bool :=
 match P.underlying t, P.info? t with
 | some d, some inf => tkOk i.k d && inf.size == i.size && offsOk P i.offs d && (i.k.isAgg || i.size == 1)
 | _, _ => false
structure tabOk (P : Program) (T : Tab) : Prop where
 ty : ∀ t i, lookT t T = some i → tyOk P t i = true
 z : zOk P T.zs
instance {P : Program} {T : Tab} : CoeFun (tabOk P T) (fun _ => ∀ t i, lookT t T = some i → tyOk P t i = true) := ⟨fun h => h.ty⟩
def tabOkB (P : Program) : List (Nat × TyI) → Bool
 | [] => true
 | (t, i) :: T => tyOk P t i && tabOkB P T
theorem tabOk_of {P : Program} {T : Tab} (h : tabOkB P T.tys = true) (hz : zOk P T.zs) : tabOk P T := by
 refine ⟨?_, hz⟩
 obtain ⟨T, Z⟩ := T
 simp only at h
 clear hz
 induction T with
 | nil => intro t i hi; cases hi
 | cons x T ih =>
  obtain ⟨j, s⟩ := x
  simp only [tabOkB, Bool.and_eq_true] at h
  intro t i hi
  simp only [lookT, lookTL] at hi
  split at hi
  ·rename_i e; subst e; cases hi; exact h.1
  ·exact ih h.2 t i hi
theorem tyOk_parts {P : Program} {t : Nat} {i : TyI} (h : tyOk P t i = true) : ∃ d inf, P.underlying t = some d ∧ P.info? t = some inf ∧ tkOk i.k d = true ∧ inf.size = i.size ∧ offsOk P i.offs d = true ∧ (i.k.isAgg = false → i.size = 1) := by
 unfold tyOk at h
 split at h
 ·rename_i d inf hu hi
  simp only [Bool.and_eq_true, Bool.or_eq_true, beq_iff_eq] at h
  exact ⟨d, inf, hu, hi, h.1.1.1, h.1.1.2, h.1.2, fun hk => by rcases h.2 with h2 | h2 <;> simp_all⟩
 ·cases h
theorem tyOk_agg {P : Program} {t : Nat} {i : TyI} (h : tyOk P t i = true) (w : World) : (isAgg t).run P w = .ok i.k.isAgg w := by
 obtain ⟨d, inf, hu, hi, hk, _⟩ := tyOk_parts h
 simp only [isAgg, Sem.run_bind, run_underlying hu, Result.andThen_ok]
 cases hq : i.k <;> rw [hq] at hk <;> cases d <;> simp_all [tkOk, TK.isAgg]
theorem tyOk_size {P : Program} {t : Nat} {i : TyI} (h : tyOk P t i = true) (w : World) : (sizeOf t).run P w = .ok i.size w := by
 obtain ⟨d, inf, hu, hi, hk, hs, _⟩ := tyOk_parts h
 simp [sizeOf, typeInfo, hi, hs]
theorem tyOk_arr {P : Program} {t n e : Nat} {i : TyI} (h : tyOk P t i = true) (hk : i.k = .arr n e) : P.underlying t = some (.array n e) := by
 obtain ⟨d, inf, hu, hi, hk', _⟩ := tyOk_parts h
 rw [hk] at hk'
 cases d <;> simp_all [tkOk]
theorem tyOk_slice {P : Program} {t e : Nat} {i : TyI} (h : tyOk P t i = true) (hk : i.k = .slc e) : P.underlying t = some (.slice e) := by
 obtain ⟨d, inf, hu, hi, hk', _⟩ := tyOk_parts h
 rw [hk] at hk'
 cases d <;> simp_all [tkOk]
theorem tyOk_str {P : Program} {t : Nat} {i : TyI} (h : tyOk P t i = true) (hk : i.k = .str) : P.underlying t = some .string := by
 obtain ⟨d, inf, hu, hi, hk', _⟩ := tyOk_parts h
 rw [hk] at hk'
 cases d <;> simp_all [tkOk]
def dropN {α : Type} : Nat → List α → Option (List α)
 | 0, l => some l
 | n + 1, _ :: l => dropN n l
 | _ + 1, [] => none
def takeN {α : Type} : Nat → List α → Option (List α)
 | 0, _ => some []
 | n + 1, v :: l => match takeN n l with
  | some r => some (v :: r)
  | none => none
 | _ + 1, [] => none
def nthN {α : Type} : Nat → List α → Option α
 | _, [] => none
 | 0, v :: _ => some v
 | n + 1, _ :: l => nthN n l
def nthO : Nat → List Nat → Option Nat
 | _, [] => none
 | 0, v :: _ => some v
 | n + 1, _ :: l => nthO n l
def put0 {α : Type} : List α → List α → Option (List α)
 | [], l => some l
 | v :: vs, _ :: l => match put0 vs l with
  | some r => some (v :: r)
  | none => none
 | _ :: _, [] => none
def putN {α : Type} : Nat → List α → List α → Option (List α)
 | 0, vs, l => put0 vs l
 | n + 1, vs, x :: l => match putN n vs l with
  | some r => some (x :: r)
  | none => none
 | _ + 1, _, [] => none
theorem dropN_eq {α : Type} {n : Nat} {l r : List α} (h : dropN n l = some r) : r = l.drop n := by
 induction n generalizing l with
 | zero => simp [dropN] at h; simp [h]
 | succ n ih =>
  cases l with
  | nil => simp [dropN] at h
  | cons x l => simp only [dropN] at h; simpa using ih h
theorem takeN_eq {α : Type} {n : Nat} {l r : List α} (h : takeN n l = some r) : r = l.take n ∧ r.length = n := by
 induction n generalizing l r with
 | zero => simp [takeN] at h; subst h; simp
 | succ n ih =>
  cases l with
  | nil => simp [takeN] at h
  | cons x l =>
   simp only [takeN] at h
   split at h
   ·rename_i q hq
    obtain ⟨h1, h2⟩ := ih hq
    cases h
    exact ⟨by simp [h1], by simp [h2]⟩
   ·cases h
theorem nthN_eq {α : Type} {n : Nat} {l : List α} {v : α} (h : nthN n l = some v) : l[n]? = some v := by
 induction n generalizing l with
 | zero => cases l <;> simp_all [nthN]
 | succ n ih =>
  cases l with
  | nil => simp [nthN] at h
  | cons x l => simp only [nthN] at h; simpa using ih h
theorem nthO_eq {n : Nat} {l : List Nat} {v : Nat} (h : nthO n l = some v) : l[n]? = some v := by
 induction n generalizing l with
 | zero => cases l <;> simp_all [nthO]
 | succ n ih =>
  cases l with
  | nil => simp [nthO] at h
  | cons x l => simp only [nthO] at h; simpa using ih h
theorem put0_eq {α : Type} : ∀ {vs l r : List α}, put0 vs l = some r → r = vs ++ l.drop vs.length ∧ vs.length ≤ l.length
 | [], l, r, h => by simp [put0] at h; subst h; simp
 | v :: vs, [], r, h => by simp [put0] at h
 | v :: vs, x :: l, r, h => by
  simp only [put0] at h
  split at h
  ·rename_i q hq
   obtain ⟨h1, h2⟩ := put0_eq hq
   cases h
   exact ⟨by simp [h1], by simp; omega⟩
  ·cases h
theorem putN_eq {α : Type} {n : Nat} {vs l r : List α} (h : putN n vs l = some r) : r = l.take n ++ vs ++ l.drop (n + vs.length) ∧ n + vs.length ≤ l.length := by
 induction n generalizing vs l r with
 | zero =>
  obtain ⟨h1, h2⟩ := put0_eq (show put0 vs l = some r from h)
  exact ⟨by simpa using h1, by omega⟩
 | succ n ih =>
  cases l with
  | nil => simp [putN] at h
  | cons x l =>
   simp only [putN] at h
   split at h
   ·rename_i q hq
    obtain ⟨h1, h2⟩ := ih hq
    cases h
    refine ⟨?_, by simp at h2 ⊢; omega⟩
    rw [h1]
    have : n + 1 + vs.length = (n + vs.length) + 1 := by omega
    simp [this]
   ·cases h
def lookB : Nat → List Ent → Option (Nat × List Cel)
 | _, [] => none
 | k, .blk j ty cs :: L => if k = j then some (ty, cs) else lookB k L
 | k, .hp _ _ :: L => lookB k L
theorem owns_blk {ι : Ids} {w : World} {L : List Ent} {Ss : List (Nat → Prop)} (ho : owns ι w L Ss) {k ty : Nat} {cs : List Cel} (h : lookB k L = some (ty, cs)) :
  ∃ b vs, lookI k ι = some b ∧ denL ι cs = some vs ∧ w.heap[b]? = some (.cells vs.toArray ty (0, 0)) := by
 induction L generalizing Ss with
 | nil => simp [lookB] at h
 | cons e L ih =>
  cases Ss with
  | nil => simp [owns] at ho
  | cons S Ss =>
   obtain ⟨h1, _, h2⟩ := ho
   cases e with
   | blk j ty' cs' =>
    simp only [lookB] at h
    split at h
    ·rename_i e; subst e; cases h
     obtain ⟨b, vs, hb, hd, hh, _⟩ := h1
     exact ⟨b, vs, hb, hd, hh⟩
    ·exact ih h2 h
   | hp j A => exact ih h2 h
def Cel.sym : Cel → Sym
 | .v x => .val x
 | .p k o => .ptr k o
 | .s k o n c => .slc k o n c
theorem Cel.sym_den (ι : Ids) (c : Cel) : denO ι c.sym = denC ι c := by cases c <;> rfl
def cel1 : Sym → Option Cel
 | .val v => some (.v v)
 | .lit b => some (.v (.bool b))
 | .ptr k o => some (.p k o)
 | .slc k o n c => some (.s k o n c)
 | .agg _ => none
theorem cel1_den {ι : Ids} {s : Sym} {c : Cel} (h : cel1 s = some c) : denC ι c = denO ι s := by cases s <;> simp_all [cel1] <;> subst h <;> rfl
def allV : List Cel → Option (List Value)
 | [] => some []
 | .v x :: l => match allV l with
  | some vs => some (x :: vs)
  | none => none
 | _ :: _ => none
theorem allV_den {ι : Ids} : ∀ {l : List Cel} {vs : List Value}, allV l = some vs → denL ι l = some vs
 | [], _, h => by cases h; rfl
 | .v x :: l, vs, h => by
  simp only [allV] at h
  split at h
  ·rename_i r hr; cases h; simp [denL, denC, allV_den hr]
  ·cases h
 | .p _ _ :: l, vs, h => by simp [allV] at h
 | .s _ _ _ _ :: l, vs, h => by simp [allV] at h
def aggS (l : List Cel) : Sym := match allV l with
 | some vs => .val (.agg vs.toArray)
 | none => .agg l
theorem aggS_den {ι : Ids} {l : List Cel} {vs : List Value} (h : denL ι l = some vs) : denO ι (aggS l) = some (.agg vs.toArray) := by
 unfold aggS
 split
 ·rename_i ws hw
  rw [allV_den (ι := ι) hw] at h
  cases h; rfl
 ·simp [denO, h]
def idxN : Int → Nat → Option Nat
 | .ofNat j, n => match Nat.blt j n with
  | true => some j
  | false => none
 | .negSucc _, _ => none
theorem idxN_eq {i : Int} {n j : Nat} (h : idxN i n = some j) : i = (j : Int) ∧ j < n := by
 cases i with
 | ofNat m =>
  simp only [idxN] at h
  split at h
  ·rename_i hb; cases h; exact ⟨J, by rw [← Nat.blt_eq]; exact hb⟩
  ·cases h
 | negSucc m => cases h
theorem fold_put (off : Nat) : ∀ (vs : List Value) (k : Nat) (cs : Array Value), off + k + vs.length ≤ cs.size →
  ((vs.zipIdx k).foldl (fun (cs : Array Value) (x : Value × Nat) => cs.setIfInBounds (off + x.2) x.1) cs).toList = cs.toList.take (off + k) ++ vs ++ cs.toList.drop (off + k + vs.length) := by
 intro vs
 induction vs with
 | nil => intro k cs h; simp
 | cons v vs ih =>
  intro k cs h
  simp only [List.length_cons] at h
  simp only [List.zipIdx_cons, List.foldl_cons]
  rw [ih (k + 1) _ (by simp; omega)]
  simp only [Array.toList_setIfInBounds]
  have hl : off + k < cs.toList.length := by rw [Array.length_toList]; omega
  generalize cs.toList = l at hl
  have e1 : List.take (off + (k + 1)) (l.set (off + k) v) = List.take (off + k) l ++ [v] := by
   rw [show off + (k + 1) = off + k + 1 by omega, List.take_add_one, List.take_set_of_le (by omega)]
   simp [hl]
  have e2 : List.drop (off + (k + 1) + vs.length) (l.set (off + k) v) = List.drop (off + k + (vs.length + 1)) l := by
   rw [List.drop_set_of_lt (by omega)]
   congr 1; omega
  rw [e1, e2]
  simp
def nthP : Nat → List (Nat × Nat) → Option (Nat × Nat)
 | _, [] => none
 | 0, x :: _ => some x
 | n + 1, _ :: l => nthP n l
def cellsS : Sym → Option (List Cel)
 | .val (.agg vs) => some (vL vs.toList)
 | .agg l => some l
 | s => match cel1 s with
  | some c => some [c]
  | none => none
theorem cellsS_eq {ι : Ids} {s : Sym} {cs : List Cel} (h : cellsS s = some cs) {v : Value} (hv : denO ι s = some v) : denL ι cs = some v.cells.toList := by
 unfold cellsS at h
 split at h
 ·cases h; simp only [denO, Option.some.injEq] at hv; subst hv; rw [denL_vL]; rfl
 ·cases h
  simp only [denO] at hv
  split at hv
  ·rename_i vs hvs; cases hv; simpa [Value.cells] using hvs
  ·cases hv
 ·rename_i hne1 hne2
  split at h
  ·rename_i c hc
   cases h
   have hd := cel1_den (ι := ι) hc
   rw [hv] at hd
   simp only [denL, hd]
   cases v with
   | agg vs =>
    cases s with
    | val u => simp only [denO, Option.some.injEq] at hv; subst hv; exact absurd J (hne1 _)
    | lit b => simp [denO] at hv
    | ptr k o => simp only [denO] at hv; split at hv <;> simp at hv
    | slc k o n m => simp only [denO] at hv; split at hv <;> simp at hv
    | agg l => exact absurd rfl (hne2 l)
   | _ => rfl
  ·cases h
def fillS (pl : List (Nat × Nat)) (E : Env) : List Cel → List (Nat × Operand) → Option (List Cel)
 | cs, [] => some cs
 | cs, (i, x) :: r => match nthP i pl with
  | some (o, sz) => match ev E x with
   | some s => match cellsS s with
    | some vs => match Nat.beq vs.length sz with
     | true => match putN o vs cs with
      | some cs' => fillS pl E cs' r
      | none => none
     | false => none
    | none => none
   | none => none
  | none => none
theorem nthP_eq {n : Nat} {l : List (Nat × Nat)} {v : Nat × Nat} (h : nthP n l = some v) : l[n]? = some v := by
 induction n generalizing l with
 | zero => cases l <;> simp_all [nthP]
 | succ n ih =>
  cases l with
  | nil => simp [nthP] at h
  | cons x l => simp only [nthP] at h; simpa using ih h
theorem fillS_sound {pl : List (Nat × Nat)} {ι : Ids} {E : Env} {a : Act} (hE : AgE ι E a) {place : Nat → Option (Nat × Nat)} (hp : ∀ i x, pl[i]? = some x → place i = some x) : ∀ {ps : List (Nat × Operand)} {cs cs' : List Cel} {vs : List Value}, fillS pl E cs ps = some cs' → denL ι cs = some vs →
  ∃ vs', denL ι cs' = some vs' ∧ Instr.fill place vs.toArray (ps.map fun (i, x) => (i, a.eval x)) = some vs'.toArray := by
 intro ps
 induction ps with
 | nil => intro cs cs' vs h hd; simp only [fillS] at h; cases h; exact ⟨vs, hd, J⟩
 | cons y ps ih =>
  intro cs cs' vs h hd
  obtain ⟨i, x⟩ := y
  simp only [fillS] at h
  split at h
  ·rename_i o sz hpl
   split at h
   ·rename_i s hs
    split at h
    ·rename_i us hus
     split at h
     ·rename_i hb
      split at h
      ·rename_i cs1 hput
       have hev := ev_sound hE hs
       have hcells := cellsS_eq hus hev
       have hlen : us.length = sz := Nat.eq_of_beq_eq_true hb
       have hl1 := denL_length hcells
       have hl2 := denL_length hd
       obtain ⟨h1, h2⟩ := putN_eq hput
       have hd1 : denL ι cs1 = some (vs.take o ++ (a.eval x).cells.toList ++ vs.drop (o + us.length)) := by
        rw [h1]; exact denL_append (denL_append (denL_take hd o) hcells) (denL_drop hd _)
       obtain ⟨vs', hv1, hv2⟩ := ih h hd1
       refine ⟨vs', hv1, ?_⟩
       rw [← hv2]
       have hl1' : (a.eval x).cells.size = us.length := by simpa using hl1
       simp only [List.map_cons, Instr.fill, hp _ _ (nthP_eq hpl)]
       have h3 : ¬ ((decide ((a.eval x).cells.size ≠ sz) || decide (o + (a.eval x).cells.size > vs.toArray.size)) = true) := by
        simp; omega
       rw [if_neg h3]
       congr 1
       apply Array.toList_inj.1
       rw [show (fun (cs : Array Value) (x : Value × Nat) => match x with | (c, j) => cs.setIfInBounds (o + j) c) = (fun (cs : Array Value) (x : Value × Nat) => cs.setIfInBounds (o + x.2) x.1) from rfl]
       rw [← Array.foldl_toList, Array.toList_zipIdx, fold_put o _ 0 vs.toArray (by simp; omega)]
       simp [hl1']
      ·cases h
     ·cases h
    ·cases h
   ·cases h
  ·cases h
def zip2 : List Nat → List Nat → List (Nat × Nat)
 | a :: l, b :: r => (a, b) :: zip2 l r
 | _, _ => []
theorem zip2_eq (l r : List Nat) : zip2 l r = l.zip r := by
 induction l generalizing r with
 | nil => cases r <;> rfl
 | cons a l ih => cases r <;> simp [zip2, ih]
def cmpI : BinOp → Int → Int → Option Bool
 | .lss, a, b => some (decide (a < b))
 | .leq, a, b => some (decide (a ≤ b))
 | .gtr, a, b => some (decide (b < a))
 | .geq, a, b => some (decide (b ≤ a))
 | .eql, a, b => some (decide (a = b))
 | .neq, a, b => some (decide (¬ a = b))
 | _, _, _ => none
def pureOp (T : Tab) (E : Env) (L : List Ent) : Op → Option Sym
 | .move x => ev E x
 | .assign x => ev E x
 | .binOp op _ x y _ =>
  match ev E x with
  | some (.val (.int .i64 a)) => match ev E y with
   | some (.val (.int .i64 b)) => match cmpI op a b with
    | some r => some (.val (.bool r))
    | none => none
   | _ => none
  | _ => none
 | .unOp .not _ x => match ev E x with
  | some (.lit true) => some (.lit false)
  | some (.lit false) => some (.lit true)
  | some (.val (.bool b)) => some (.val (.bool (!b)))
  | _ => none
 | .pick c x y =>
  match ev E c with
  | some (.lit true) => ev E x
  | some (.lit false) => ev E y
  | _ => none
 | .fieldAddr s x f =>
  match ev E x with
  | some (.ptr k o) => match lookT s T with
   | some ⟨.agg, _, fs⟩ => match nthO f fs with
    | some d => some (.ptr k (o + d))
    | none => none
   | _ => none
  | some (.val (.pointer (some ad))) => match lookT s T with
   | some ⟨.agg, _, fs⟩ => match nthO f fs with
    | some d => some (.val (.pointer (some (ad.add d))))
    | none => none
   | _ => none
  | _ => none
 | .load t x =>
  match ev E x with
  | some (.ptr k o) => match lookB k L with
   | some (_, cs) => match lookT t T with
    | some i => match i.k.isAgg with
     | true => match dropN o cs with
      | some r => match takeN i.size r with
       | some q => some (aggS q)
       | none => none
      | none => none
     | false => match nthN o cs with
      | some c => some c.sym
      | none => none
    | none => none
   | none => none
  | _ => none
 | .indexAddr t x y =>
  match ev E x with
  | some (.slc k o n c) => match ev E y with
   | some (.val (.int .i64 i)) => match lookT t T with
    | some ⟨.slc e, _, _⟩ => match lookT e T with
     | some inf => match idxN i n with
      | some j => some (.ptr k (o + j * inf.size))
      | none => none
     | none => none
    | _ => none
   | _ => none
  | some (.ptr k o) => match ev E y with
   | some (.val (.int .i64 i)) => match lookT t T with
    | some ⟨.arr n e, _, _⟩ => match lookT e T with
     | some inf => match idxN i n with
      | some j => some (.ptr k (o + j * inf.size))
      | none => none
     | none => none
    | _ => none
   | _ => none
  | _ => none
 | .build t parts =>
  match lookT t T with
  | some ⟨.agg, _, os⟩ => match lookZ t T.zs with
   | some z => match fillS (zip2 os z.szs) E (vL z.zs) parts.toList with
    | some cs => some (aggS cs)
    | none => none
   | none => none
  | _ => none
 | .makeInterface t x =>
  match ev E x with
  | some (.val v) => match lookT t T with
   | some ⟨.agg, _, _⟩ => some (.val (.iface t v))
   | _ => none
  | _ => none
 | .nilCheck x =>
  match ev E x with
  | some (.ptr k o) => some (.ptr k o)
  | some (.val (.pointer (some a))) => some (.val (.pointer (some a)))
  | _ => none
 | .extract x i =>
  match ev E x with
  | some (.val (.tuple vs)) => match nthN i vs.toList with
   | some v => some (.val v)
   | none => none
  | _ => none
 | .call ⟨.builtin .len, args, ats⟩ =>
  match args.toList with
  | [x] => match ats.toList with
   | [t] => match ev E x with
    | some (.val (.slice _ n _)) => match lookT t T with
     | some ⟨.slc _, _, _⟩ => some (.val (.int .i64 n))
     | _ => none
    | some (.slc _ _ n _) => match lookT t T with
     | some ⟨.slc _, _, _⟩ => some (.val (.int .i64 n))
     | _ => none
    | some (.val (.string s)) => match lookT t T with
     | some ⟨.str, _, _⟩ => some (.val (.int .i64 s.size))
     | _ => none
    | _ => none
   | _ => none
  | _ => none
 | _ => none
theorem run_loadCells_blk {P : Program} {w : World} {b o m : Nat} {ty : Nat} {cs q : List Value} {fr : Nat × Nat} (hb : w.heap[b]? = some (.cells cs.toArray ty fr)) (hq : q = (cs.drop o).take m) (hl : q.length = m) :
  (loadCells ⟨b, o, none⟩ m).run P w = .ok q.toArray w := by
 have := run_loadCells_list (P := P) (w := w) ⟨b, o, none⟩ q (by
  intro j v hj
  have hadd : (⟨b, o, none⟩ : Addr).add j = ⟨b, o + j, none⟩ := by unfold Addr.add; split <;> simp_all
  rw [hadd]
  simp only [World.cell?, hb]
  subst hq
  rw [List.getElem?_take] at hj
  split at hj
  ·simpa using hj
  ·cases hj)
 rw [hl] at this
 exact this
theorem pureOp_sound {P : Program} {T : Tab} {ι : Ids} {E : Env} {L : List Ent} {a : Act} {w : World} {Ss : List (Nat → Prop)} (hT : tabOk P T) (hE : AgE ι E a) (ho : owns ι w L Ss) {op : Op} {s : Sym}
  (h : pureOp T E L op = some s) (d : Option Nat) (ty : Nat) (pos : String) (af : Array Edge) (g : Option (Nat × Bool)) :
  ∃ v, denO ι s = some v ∧ (execOp a.eval ⟨d, op, ty, pos, af, g⟩).run P w = .ok (.value v) w := by
 unfold pureOp at h
 split at h
 ·exact ⟨_, ev_sound hE h, by simp [execOp]⟩
 ·exact ⟨_, ev_sound hE h, by simp [execOp]⟩
 ·rename_i op' t x y t'
  split at h
  ·rename_i p hx
   split at h
   ·rename_i q hy
    split at h
    ·rename_i r hr
     cases h
     have ex := ev_sound hE hx
     have ey := ev_sound hE hy
     simp only [denO, Option.some.injEq] at ex ey
     refine ⟨_, J, ?_⟩
     unfold cmpI at hr
     split at hr <;> first
      | (cases hr; done)
      | (cases hr; simp only [execOp, ← ex, ← ey]; simp [go_sem]; done)
      | (cases hr; simp only [execOp, ← ex, ← ey]; simp [eqGuard, binOp, Op.intCmp]; done)
      | (cases hr; simp only [execOp, ← ex, ← ey]; simp [eqGuard, binOp, Op.intCmp, bne, BEq.beq]; done)
      | skip
    ·cases h
   ·cases h
  ·cases h
 ·rename_i t x
  split at h
  ·rename_i hx; cases h; have ex := ev_sound hE hx; simp only [denO, Option.some.injEq] at ex; exact ⟨_, J, by simp only [execOp, ← ex]; simp [go_sem]⟩
  ·rename_i hx; cases h; have ex := ev_sound hE hx; simp only [denO, Option.some.injEq] at ex; exact ⟨_, J, by simp only [execOp, ← ex]; simp [go_sem]⟩
  ·rename_i b hx; cases h; have ex := ev_sound hE hx; simp only [denO, Option.some.injEq] at ex; exact ⟨_, J, by simp only [execOp, ← ex]; simp [go_sem]⟩
  ·cases h
 ·rename_i c x y
  split at h
  ·rename_i hc; have ec := ev_sound hE hc; simp only [denO, Option.some.injEq] at ec; exact ⟨_, ev_sound hE h, by simp only [execOp, ← ec]; simp [go_sem]⟩
  ·rename_i hc; have ec := ev_sound hE hc; simp only [denO, Option.some.injEq] at ec; exact ⟨_, ev_sound hE h, by simp only [execOp, ← ec]; simp [go_sem]⟩
  ·cases h
 ·rename_i st x f
  split at h
  ·rename_i k o hx
   split at h
   ·rename_i sz fs hfs
    split at h
    ·rename_i dd hd
     cases h
     have ex := ev_sound hE hx
     have ht := hT _ _ hfs
     simp only [denO] at ex ⊢
     split at ex
     ·rename_i b hb
      simp only [Option.some.injEq] at ex
      refine ⟨_, J, ?_⟩
      have hd' := nthO_eq hd
      obtain ⟨dsc, inf, hu, hi, hk, _, hoffs, _⟩ := tyOk_parts ht
      cases dsc with
      | struct fds =>
       simp only [offsOk, Bool.and_eq_true, beq_iff_eq] at hoffs
       obtain ⟨h3, h4⟩ := hoffs
       rw [← h3] at hd'
       rw [List.getElem?_map] at hd'
       obtain ⟨fd, hfd, hoff⟩ := Option.map_eq_some_iff.1 hd'
       have hne : P.cellsOf fd.type ≠ 0 := by
        have := List.all_eq_true.1 h4 fd (List.mem_of_getElem? hfd)
        simpa using this
       have hfd' : fds[f]? = some fd := by simpa using hfd
       have hinf : ∃ i, P.info? fd.type = some i ∧ i.size ≠ 0 := by
        unfold Program.cellsOf at hne
        cases hq : P.info? fd.type with
        | none => simp [hq] at hne
        | some i => exact ⟨i, rfl, by simpa [hq] using hne⟩
       obtain ⟨i, hi1, hi2⟩ := hinf
       have hadd : ∀ j, (⟨b, o, none⟩ : Addr).add j = ⟨b, o + j, none⟩ := by intro j; unfold Addr.add; split <;> simp_all
       simp only [execOp, ← ex]
       simp [Instr.fieldAt, run_underlying hu, hfd', Instr.sureAddr, fieldPlace, sizeOf, typeInfo, hi1, hi2, hadd, hoff]
      | _ => simp only [offsOk, beq_iff_eq] at hoffs; subst hoffs; simp at hd'
     ·cases ex
    ·cases h
   ·cases h
  ·rename_i ad hx
   split at h
   ·rename_i m fs hfs
    split at h
    ·rename_i o ho'
     cases h
     have ex := ev_sound hE hx
     simp only [denO, Option.some.injEq] at ex
     have hd' := nthO_eq ho'
     obtain ⟨dsc, inf, hu, hi, hk, _, hoffs, _⟩ := tyOk_parts (hT _ _ hfs)
     refine ⟨_, J, ?_⟩
     cases dsc with
     | struct fds =>
      simp only [offsOk, Bool.and_eq_true, beq_iff_eq] at hoffs
      obtain ⟨h3, h4⟩ := hoffs
      rw [← h3] at hd'
      rw [List.getElem?_map] at hd'
      obtain ⟨fd, hfd, hoff⟩ := Option.map_eq_some_iff.1 hd'
      have hne : P.cellsOf fd.type ≠ 0 := by
       have := List.all_eq_true.1 h4 fd (List.mem_of_getElem? hfd)
       simpa using this
      rename_i f0
      have hfd' := hfd
      have hinf : ∃ i, P.info? fd.type = some i ∧ i.size ≠ 0 := by
       unfold Program.cellsOf at hne
       cases hq : P.info? fd.type with
       | none => simp [hq] at hne
       | some i => exact ⟨i, rfl, by simpa [hq] using hne⟩
      obtain ⟨i, hi1, hi2⟩ := hinf
      simp only [Array.getElem?_toList] at hfd'
      simp only [execOp, ← ex]
      simp [Instr.fieldAt, run_underlying hu, hfd', Instr.sureAddr, fieldPlace, sizeOf, typeInfo, hi1, hi2, hoff]
     | _ => simp only [offsOk, beq_iff_eq] at hoffs; subst hoffs; simp at hd'
    ·cases h
   ·cases h
  ·cases h
 ·rename_i t x
  split at h
  ·rename_i k o hx
   split at h
   ·rename_i ty' cs hB
    obtain ⟨b, vs, hb, hd, hh⟩ := owns_blk ho hB
    have ex := ev_sound hE hx
    simp only [denO, hb, Option.some.injEq] at ex
    split at h
    ·rename_i i hi
     have ht := hT _ _ hi
     split at h
     ·rename_i hag
      split at h
      ·rename_i r hr
       split at h
       ·rename_i q hq
        cases h
        have h1 := dropN_eq hr
        obtain ⟨h2, h3⟩ := takeN_eq hq
        subst h1
        have hdq : denL ι q = some ((vs.drop o).take i.size) := by rw [h2]; exact denL_take (denL_drop hd o) i.size
        refine ⟨_, aggS_den hdq, ?_⟩
        have hl : ((vs.drop o).take i.size).length = i.size := by rw [denL_length hdq]; exact h3
        simp only [execOp, ← ex]
        simp [Instr.loadAt, loadVar, Instr.sureAddr, tyOk_agg ht, tyOk_size ht, hag, run_loadCells_blk hh rfl hl]
       ·cases h
      ·cases h
     ·rename_i hag
      split at h
      ·rename_i c hc
       cases h
       obtain ⟨v, hv1, hv2⟩ := denL_at hd (nthN_eq hc)
       refine ⟨v, by rw [Cel.sym_den]; exact hv1, ?_⟩
       have hcell : w.cell? ⟨b, o, none⟩ = some v := by simp [World.cell?, hh, hv2]
       simp only [execOp, ← ex]
       simp [Instr.loadAt, loadVar, Instr.sureAddr, tyOk_agg ht, hag, hcell]
      ·cases h
    ·cases h
   ·cases h
  ·cases h
 ·rename_i t x y
  split at h
  ·rename_i k o n c hx
   split at h
   ·rename_i i hy
    split at h
    ·rename_i e sz os ht
     split at h
     ·rename_i inf hinf
      split at h
      ·rename_i j hj
       cases h
       obtain ⟨rfl, hjn⟩ := idxN_eq hj
       have ex := ev_sound hE hx
       have ey := ev_sound hE hy
       simp only [denO, Option.some.injEq] at ex ey ⊢
       split at ex
       ·rename_i b hb
        simp only [Option.some.injEq] at ex
        have hu := tyOk_slice (hT _ _ ht) rfl
        have hadd : ∀ j, (⟨b, o, none⟩ : Addr).add j = ⟨b, o + j, none⟩ := by intro j; unfold Addr.add; split <;> simp_all
        refine ⟨_, J, ?_⟩
        simp only [execOp, ← ex, ← ey]
        simp [Instr.indexAt, run_underlying hu, asIntOf, hjn, tyOk_size (hT _ _ hinf), hadd]
       ·cases ex
      ·cases h
     ·cases h
    ·cases h
   ·cases h
  ·rename_i k o hx
   split at h
   ·rename_i i hy
    split at h
    ·rename_i n e sz os ht
     split at h
     ·rename_i inf hinf
      split at h
      ·rename_i j hj
       cases h
       obtain ⟨rfl, hjn⟩ := idxN_eq hj
       have ex := ev_sound hE hx
       have ey := ev_sound hE hy
       simp only [denO, Option.some.injEq] at ex ey ⊢
       split at ex
       ·rename_i b hb
        simp only [Option.some.injEq] at ex
        have hu := tyOk_arr (hT _ _ ht) rfl
        have hadd : ∀ j, (⟨b, o, none⟩ : Addr).add j = ⟨b, o + j, none⟩ := by intro j; unfold Addr.add; split <;> simp_all
        refine ⟨_, J, ?_⟩
        simp only [execOp, ← ex, ← ey]
        simp [Instr.indexAt, run_underlying hu, asIntOf, hjn, tyOk_size (hT _ _ hinf), hadd, Instr.sureAddr]
       ·cases ex
      ·cases h
     ·cases h
    ·cases h
   ·cases h
  ·cases h
 ·rename_i t parts
  split at h
  ·rename_i m os ht
   split at h
   ·rename_i z hz
    split at h
    ·rename_i cs hf
     cases h
     obtain ⟨inf, v, hi, hv, hb, hc, hs⟩ := viewZ_eq (hT.z _ _ hz)
     obtain ⟨dsc, inf', hu, hi', hk, hsize, hoffs, _⟩ := tyOk_parts (hT _ _ ht)
     rw [hi] at hi'; cases hi'
     cases dsc with
     | struct fds =>
      simp only [offsOk, Bool.and_eq_true, beq_iff_eq] at hoffs
      obtain ⟨h3, h4⟩ := hoffs
      have hsz := hs fds hu
      have hpl : List.mapM (fun (f : Field) => Option.map (fun (i : TypeInfo) => (f.offset, i.size)) (P.info? f.type)) fds.toList = some (fds.toList.map fun f => (f.offset, P.cellsOf f.type)) := by
       have h5 : ∀ f ∈ fds.toList, Option.map (fun (i : TypeInfo) => (f.offset, i.size)) (P.info? f.type) = some (f.offset, P.cellsOf f.type) := by
        intro f hf
        have := List.all_eq_true.1 h4 f hf
        unfold Program.cellsOf at this ⊢
        cases hq : P.info? f.type with
        | none => simp [hq] at this
        | some i => simp
       generalize fds.toList = l at h5
       clear h3 h4 hf hz hu hsz hs
       induction l with
       | nil => simp
       | cons f l ih =>
        rw [List.mapM_cons, h5 f (List.mem_cons_self ..), ih (fun f hf => h5 f (List.mem_cons_of_mem _ hf))]
        simp
      obtain ⟨vs', hv1, hv2⟩ := fillS_sound (ι := ι) hE (pl := zip2 os z.szs) (place := fun i => (fds.toList.map fun f => (f.offset, P.cellsOf f.type))[i]?) (by
       intro i x hx
       rw [zip2_eq, ← h3, ← hsz, List.zip_map'] at hx
       simpa using hx) hf (denL_vL ι z.zs)
      have hbuilt : P.built t (parts.map fun (i, x) => (i, a.eval x)).toList = some vs'.toArray := by
       unfold Program.built
       rw [hi, hu]
       simp only [hv, hpl, hc]
       rw [Array.toList_map]
       simpa using hv2
      refine ⟨_, aggS_den hv1, ?_⟩
      simp only [execOp]
      simp [run_build w t _ _ hbuilt]
     | _ => simp [tkOk] at hk
    ·cases h
   ·cases h
  ·cases h
 ·rename_i t x
  split at h
  ·rename_i v hx
   split at h
   ·rename_i m os ht
    cases h
    have ex := ev_sound hE hx
    simp only [denO, Option.some.injEq] at ex
    obtain ⟨dsc, inf, hu, hi, hk, _⟩ := tyOk_parts (hT _ _ ht)
    refine ⟨_, J, ?_⟩
    cases dsc with
    | struct fds =>
     simp only [execOp, ← ex]
     simp [Instr.makeInterface, run_underlying hu]
    | _ => simp [tkOk] at hk
   ·cases h
  ·cases h
 ·rename_i x
  split at h
  ·rename_i k o hx
   cases h
   have ex := ev_sound hE hx
   refine ⟨_, ex, ?_⟩
   simp only [denO] at ex
   split at ex
   ·simp only [Option.some.injEq] at ex
    simp [execOp, ← ex]
   ·cases ex
  ·rename_i ad hx
   cases h
   have ex := ev_sound hE hx
   simp only [denO, Option.some.injEq] at ex
   exact ⟨_, J, by simp [execOp, ← ex]⟩
  ·cases h
 ·rename_i x i
  split at h
  ·rename_i vs hx
   split at h
   ·rename_i v hv
    cases h
    have ex := ev_sound hE hx
    simp only [denO, Option.some.injEq] at ex
    have hv' := nthN_eq hv
    simp only [Array.getElem?_toList] at hv'
    exact ⟨_, J, by simp [execOp, ← ex, Instr.extract, hv']⟩
   ·cases h
  ·cases h
 ·rename_i args ats
  split at h
  ·rename_i x hargs
   split at h
   ·rename_i t hats
    have ha : args = #[x] := by cases args; simp_all
    have hb : ats = #[t] := by cases ats; simp_all
    subst ha
    subst hb
    split at h
    ·rename_i ad n c hx
     split at h
     ·rename_i e sz os hfs
      cases h
      have ex := ev_sound hE hx
      simp only [denO, Option.some.injEq] at ex
      have hu := tyOk_slice (hT _ _ hfs) rfl
      refine ⟨_, J, ?_⟩
      simp only [execOp, resolve, invoke, List.map_toArray, List.map_cons, List.map_nil, ← ex]
      simp [go_sem, Builtin.len_, run_underlying hu, goInt]
     ·cases h
    ·rename_i k o n c hx
     split at h
     ·rename_i e sz os hfs
      cases h
      have ex := ev_sound hE hx
      simp only [denO, Option.some.injEq] at ex
      split at ex
      ·simp only [Option.some.injEq] at ex
       have hu := tyOk_slice (hT _ _ hfs) rfl
       refine ⟨_, J, ?_⟩
       simp only [execOp, resolve, invoke, List.map_toArray, List.map_cons, List.map_nil, ← ex]
       simp [go_sem, Builtin.len_, run_underlying hu, goInt]
      ·cases ex
     ·cases h
    ·rename_i s hx
     split at h
     ·rename_i sz os hfs
      cases h
      have ex := ev_sound hE hx
      simp only [denO, Option.some.injEq] at ex
      have hu := tyOk_str (hT _ _ hfs) rfl
      refine ⟨_, J, ?_⟩
      simp only [execOp, resolve, invoke, List.map_toArray, List.map_cons, List.map_nil, ← ex]
      simp [go_sem, Builtin.len_, run_underlying hu, goInt]
     ·cases h
    ·cases h
   ·cases h
  ·cases h
 ·cases h
def unblk (id : Nat) : List It → Option (List It)
 | [] => none
 | .blk j :: k => if id = j then some k else unblk id k
 | _ :: k => unblk id k
theorem unblk_sound {C : Ctx} {id : Nat} {k k' : List It} (h : unblk id k = some k') {a : Act} {w : World} (hw : wpE C k' .normal a w) : wpE C k (.exit id) a w := by
 induction k with
 | nil => cases h
 | cons x k ih =>
  cases x with
  | blk j =>
   simp only [unblk] at h
   simp only [wpE]
   split at h
   ·rename_i e; cases h; rw [if_pos e]; exact hw
   ·rename_i e; rw [if_neg e]; exact ih h
  | code c => exact ih h
  | ops all l => exact ih h
  | stop I => exact ih h
def putL (k : Nat) (cs : List Cel) : List Ent → Option (List Ent)
 | [] => none
 | .blk j ty cs' :: L => if k = j then some (.blk j ty cs :: L) else match putL k cs L with
  | some r => some (.blk j ty cs' :: r)
  | none => none
 | .hp j A :: L => match putL k cs L with
  | some r => some (.hp j A :: r)
  | none => none
def oneC : Cel → Bool
 | .v x => x.oneCell'
 | _ => true
def allOneC : Nat → List Cel → Bool
 | 0, [] => true
 | n + 1, c :: l => match oneC c with
  | true => allOneC n l
  | false => false
 | _, _ => false
theorem oneC_den {ι : Ids} {c : Cel} {v : Value} (h : oneC c = true) (hv : denC ι c = some v) : v.oneCell' = true := by
 cases c with
 | v x => cases hv; exact h
 | p k o => simp only [denC] at hv; split at hv <;> cases hv; rfl
 | s k o n c => simp only [denC] at hv; split at hv <;> cases hv; rfl
theorem allOneC_den {ι : Ids} : ∀ {n : Nat} {l : List Cel} {vs : List Value}, allOneC n l = true → denL ι l = some vs → vs.length = n ∧ ∀ v ∈ vs, v.oneCell' = true
 | 0, [], vs, _, h => by cases h; simp
 | 0, _ :: _, vs, h, _ => by simp [allOneC] at h
 | n + 1, [], vs, h, _ => by simp [allOneC] at h
 | n + 1, c :: l, vs, h, hd => by
  simp only [allOneC] at h
  split at h
  ·rename_i hc
   obtain ⟨v, r, rfl, h1, h2⟩ := denL_cons hd
   obtain ⟨h3, h4⟩ := allOneC_den h h2
   exact ⟨by simp [h3], by simpa using ⟨oneC_den hc h1, h4⟩⟩
  ·cases h
def celsOf : Bool → Sym → Option (List Cel)
 | true, .val (.agg vs) => some (vL vs.toList)
 | true, .agg l => some l
 | true, _ => none
 | false, s => match cel1 s with
  | some c => some [c]
  | none => none
theorem celsOf_den {ι : Ids} {g : Bool} {s : Sym} {l : List Cel} {v : Value} (h : celsOf g s = some l) (hv : denO ι s = some v) : ∃ vs, denL ι l = some vs ∧ (g = true → v.cells = vs.toArray) ∧ (g = false → vs = [v]) := by
 cases g with
 | false =>
  simp only [celsOf] at h
  split at h
  ·rename_i c hc
   cases h
   exact ⟨[v], by simp [denL, cel1_den (ι := ι) hc, hv], by simp, fun _ => J⟩
  ·cases h
 | true =>
  cases s with
  | val x =>
   cases x with
   | agg vs => cases h; cases hv; exact ⟨vs.toList, denL_vL ι _, by simp [Value.cells], by simp⟩
   | _ => cases h
  | agg q =>
   cases h
   simp only [denO] at hv
   split at hv
   ·rename_i vs hvs; cases hv; exact ⟨vs, hvs, by simp [Value.cells], by simp⟩
   ·cases hv
  | _ => cases h
def storeOp (T : Tab) (E : Env) (ι : Ids) (L : List Ent) : Op → Option (List Ent)
 | .store t x y =>
  match ev E x with
  | some (.ptr k o) => match lookB k L with
   | some (_, cs) => match lookT t T with
    | some i => match ev E y with
     | some s => match celsOf i.k.isAgg s with
      | some l => match allOneC i.size l with
       | true => match putN o l cs with
        | some cs' => putL k cs' L
        | none => none
       | false => none
      | none => none
     | none => none
    | none => none
   | none => none
  | _ => none
 | _ => none
def guardS (all : Array Oper) (E : Env) (j : Nat) : Option Sym :=
 match all.toList[j]? with
 | some o => match o.dst with
  | some t => look t E
  | none => none
 | none => none
inductive Gd where
 | on | off | open_
def guardOf (all : Array Oper) (E : Env) : Option (Nat × Bool) → Gd
 | none => .on
 | some (j, b) => match guardS all E j with
  | some (.lit true) => match b with | true => .on | false => .off
  | some (.lit false) => match b with | true => .off | false => .on
  | some (.val (.tuple _)) => .off
  | _ => .open_
def slotOf (all : Array Oper) (j : Nat) : Option Nat :=
 match all.toList[j]? with
 | some o => o.dst
 | none => none
def memN : Nat → List Nat → Bool
 | _, [] => false
 | i, j :: l => match Nat.beq i j with
  | true => true
  | false => memN i l
def splitPick (t : Nat) : List Oper → Option (List Oper × Nat × Operand × Operand × List Oper)
 | [] => none
 | ⟨d, .pick (.tmp c) x y, ty, pos, af, g⟩ :: l =>
  match Nat.beq c t with
  | true => match d with
   | some d => match g with
    | none => some ([], d, x, y, l)
    | some _ => none
   | none => none
  | false => match splitPick t l with
   | some (G, d', x', y', r) => some (⟨d, .pick (.tmp c) x y, ty, pos, af, g⟩ :: G, d', x', y', r)
   | none => none
 | o :: l => match splitPick t l with
  | some (G, d', x', y', r) => some (o :: G, d', x', y', r)
  | none => none
def offAll (all : Array Oper) (t : Nat) (want : Bool) : List Nat → List Oper → Bool
 | _, [] => true
 | U, o :: l =>
  match o.guard with
  | some (j, w) => match slotOf all j with
   | some t' => match o.dst with
    | some d => match Nat.beq d t with
     | true => false
     | false => match Nat.beq t' t with
      | true => match w, want with
       | true, true => offAll all t want (d :: U) l
       | false, false => offAll all t want (d :: U) l
       | _, _ => false
      | false => match memN t' U with
       | true => offAll all t want (d :: U) l
       | false => false
    | none => false
   | none => false
  | none => false
def freshAll (E : Env) : List Oper → Bool
 | [] => true
 | o :: l => match o.dst with
  | some d => match look d E with
   | none => freshAll E l
   | some _ => false
  | none => false
def combine (b : Bool) (E1 : Env) : Bool → Operand → Operand → Option Sym
 | true, x, .const (.bool false) => match ev E1 x with
  | some (.val (.bool c)) => some (.val (.bool (b && c)))
  | some (.lit true) => some (.val (.bool b))
  | some (.lit false) => some (.lit false)
  | _ => none
 | false, .const (.bool true), y => match ev E1 y with
  | some (.val (.bool c)) => some (.val (.bool (b || c)))
  | some (.lit true) => some (.lit true)
  | some (.lit false) => some (.val (.bool b))
  | _ => none
 | _, _, _ => none
mutual
def qrun (T : Tab) (N : Nat) (L : List Ent) (all : Array Oper) : Nat → List Oper → Env → Option Env
 | 0, _, _ => none
 | _ + 1, [], E => some E
 | n + 1, o :: l, E =>
  match guardOf all E o.guard with
  | .on => match o.dst with
   | some d => match pureOp T E L o.op with
    | some s => match Nat.ble (d + 1) N with
     | true => qrun T N L all n l ((d, s) :: E)
     | false => none
    | none => none
   | none => none
  | .off => match o.dst with
   | some d => match look d E with
    | none => qrun T N L all n l E
    | some _ => none
   | none => none
  | .open_ => match qgroup T N L all n (o :: l) E with
   | some (d, s, r) => match Nat.ble (d + 1) N with
    | true => qrun T N L all n r ((d, s) :: E)
    | false => none
   | none => none
def qgroup (T : Tab) (N : Nat) (L : List Ent) (all : Array Oper) : Nat → List Oper → Env → Option (Nat × Sym × List Oper)
 | 0, _, _ => none
 | _ + 1, [], _ => none
 | n + 1, o :: l, E =>
  match o.guard with
  | none => none
  | some (j, want) => match slotOf all j with
   | none => none
   | some t => match look t E with
    | some (.val (.bool b)) => match splitPick t (o :: l) with
     | none => none
     | some (G, d, x, y, r) => match offAll all t want [] G with
      | false => none
      | true => match freshAll E G with
       | false => none
       | true => match qrun T N L all n G ((t, .lit want) :: E) with
        | none => none
        | some E1 => match combine b E1 want x y with
         | none => none
         | some s => some (d, s, r)
    | _ => none
end
def adv (T : Tab) (N : Nat) (ι : Ids) : Nat → List It → Env → List Ent → List It × Env × List Ent
 | 0, k, E, L => (k, E, L)
 | n + 1, .code (.seq a b) :: k, E, L => adv T N ι n (.code a :: .code b :: k) E L
 | n + 1, .code (.block id b) :: k, E, L => adv T N ι n (.code b :: .blk id :: k) E L
 | n + 1, .code .skip :: k, E, L => adv T N ι n k E L
 | n + 1, .blk _ :: k, E, L => adv T N ι n k E L
 | n + 1, .code (.exit id) :: k, E, L => match unblk id k with
  | some k' => adv T N ι n k' E L
  | none => (.code (.exit id) :: k, E, L)
 | n + 1, .code (.cond c t e) :: k, E, L =>
  match ev E c with
  | some (.lit true) => adv T N ι n (.code t :: k) E L
  | some (.lit false) => adv T N ι n (.code e :: k) E L
  | _ => (.code (.cond c t e) :: k, E, L)
 | n + 1, .code (.region id ops false) :: k, E, L => adv T N ι n (.ops ops ops.toList :: k) E L
 | n + 1, .ops all [] :: k, E, L => adv T N ι n k E L
 | n + 1, .ops all (o :: l) :: k, E, L =>
  match guardOf all E o.guard with
  | .on => match o.dst with
   | some d => match pureOp T E L o.op with
    | some s => match Nat.ble (d + 1) N with
     | true => adv T N ι n (.ops all l :: k) ((d, s) :: E) L
     | false => (.ops all (o :: l) :: k, E, L)
    | none => (.ops all (o :: l) :: k, E, L)
   | none => match storeOp T E ι L o.op with
    | some L' => adv T N ι n (.ops all l :: k) E L'
    | none => (.ops all (o :: l) :: k, E, L)
  | .off => match o.dst with
   | some d => match Nat.ble (d + 1) N with
    | true => adv T N ι n (.ops all l :: k) ((d, .val (.tuple #[])) :: E) L
    | false => (.ops all (o :: l) :: k, E, L)
   | none => adv T N ι n (.ops all l :: k) E L
  | .open_ => match qgroup T N L all 300 (o :: l) E with
   | some (d, s, r) => match Nat.ble (d + 1) N with
    | true => adv T N ι n (.ops all r :: k) ((d, s) :: E) L
    | false => (.ops all (o :: l) :: k, E, L)
   | none => (.ops all (o :: l) :: k, E, L)
 | _ + 1, k, E, L => (k, E, L)
theorem yielded_of {ι : Ids} {E : Env} {a : Act} (hE : AgE ι E a) {all : Array Oper} {j : Nat} {b : Bool} (h : guardS all E j = some (.lit b)) : yielded all a.tmps j = some b := by
 unfold guardS at h
 split at h
 ·rename_i o ho
  split at h
  ·rename_i t ht
   obtain ⟨v, hv, hl⟩ := hE t _ h
   simp only [denO, Option.some.injEq] at hv
   subst hv
   simp only [Array.getElem?_toList] at ho
   simp [yielded, ho, ht, hl]
  ·cases h
 ·cases h
theorem guardOf_on {ι : Ids} {E : Env} {a : Act} (hE : AgE ι E a) {all : Array Oper} {o : Oper} (h : guardOf all E o.guard = .on) : Region.wanted o (yielded all a.tmps) = true := by
 unfold Region.wanted
 cases hg : o.guard with
 | none => rfl
 | some x =>
  obtain ⟨j, b⟩ := x
  rw [hg] at h
  simp only [guardOf] at h
  split at h
  ·rename_i hs; cases b <;> simp at h; simp [yielded_of hE hs]
  ·rename_i hs; cases b <;> simp at h; simp [yielded_of hE hs]
  ·cases h
  ·cases h
theorem yielded_tuple {ι : Ids} {E : Env} {a : Act} (hE : AgE ι E a) {all : Array Oper} {j : Nat} {vs : Array Value} (h : guardS all E j = some (.val (.tuple vs))) : yielded all a.tmps j = none := by
 unfold guardS at h
 split at h
 ·rename_i o ho
  split at h
  ·rename_i t ht
   obtain ⟨v, hv, hl⟩ := hE t _ h
   simp only [denO, Option.some.injEq] at hv
   subst hv
   simp only [Array.getElem?_toList] at ho
   simp [yielded, ho, ht, hl]
  ·cases h
 ·cases h
theorem guardOf_off {ι : Ids} {E : Env} {a : Act} (hE : AgE ι E a) {all : Array Oper} {o : Oper} (h : guardOf all E o.guard = .off) : Region.wanted o (yielded all a.tmps) = false := by
 unfold Region.wanted
 cases hg : o.guard with
 | none => rw [hg] at h; cases h
 | some x =>
  obtain ⟨j, b⟩ := x
  rw [hg] at h
  simp only [guardOf] at h
  split at h
  ·rename_i hs; cases b <;> simp at h; simp [yielded_of hE hs]
  ·rename_i hs; cases b <;> simp at h; simp [yielded_of hE hs]
  ·rename_i hs; simp [yielded_tuple hE hs]
  ·cases h
def Lk : Sym → Prop
 | .lit _ => True
 | .val (.tuple _) => True
 | _ => False
theorem guardOf_mono {all : Array Oper} {F F' : Env} (h : ∀ i s, Lk s → look i F = some s → look i F' = some s) {g : Option (Nat × Bool)} {r : Gd} (hr : r ≠ .open_) (hg : guardOf all F g = r) : guardOf all F' g = r := by
 cases g with
 | none => exact hg
 | some x =>
  obtain ⟨j, b⟩ := x
  have hsub : ∀ c, Lk c → guardS all F j = some c → guardS all F' j = some c := by
   intro c hl hc
   unfold guardS at hc ⊢
   split at hc
   ·rename_i o' ho'
    split at hc
    ·rename_i t ht; exact h t _ hl hc
    ·cases hc
   ·cases hc
  simp only [guardOf] at hg ⊢
  split at hg
  ·rename_i hs'; rw [hsub _ (by simp [Lk]) hs']; exact hg
  ·rename_i hs'; rw [hsub _ (by simp [Lk]) hs']; exact hg
  ·rename_i hs'; rw [hsub _ (by simp [Lk]) hs']; exact hg
  ·exact absurd hg.symm hr
theorem pureOp_nd {T : Tab} {E : Env} {L : List Ent} {op : Op} {s : Sym} (h : pureOp T E L op = some s) : ∀ c, op ≠ .defer c := by
 rintro c rfl
 simp [pureOp] at h
theorem owns_far {ι : Ids} {w w' : World} {L : List Ent} {Ss : List (Nat → Prop)} (ho : owns ι w L Ss) (B : Nat → Prop) (hoth : ∀ x, ¬ B x → w'.heap[x]? = w.heap[x]?) (h : ∀ T ∈ Ss, ∀ x, T x → ¬ B x) : owns ι w' L Ss := by
 induction L generalizing Ss with
 | nil => cases Ss with
  | nil => trivial
  | cons => simp [owns] at ho
 | cons e L ih =>
  cases Ss with
  | nil => simp [owns] at ho
  | cons T Ss =>
   obtain ⟨g1, g2, g3⟩ := ho
   have hT := h T (List.mem_cons_self ..)
   refine ⟨?_, g2, ih g3 (fun U hU => h U (List.mem_cons_of_mem _ hU))⟩
   cases e with
   | blk j ty cs =>
    obtain ⟨c, vs, hc, hd, hh', hTc⟩ := g1
    refine ⟨c, vs, hc, hd, ?_, hTc⟩
    rw [hoth c (hT c ((hTc c).2 rfl))]
    exact hh'
   | hp j A => exact A.loc _ _ _ g1 (fun x hx => hoth x (hT x hx))
theorem owns_mem {ι : Ids} {w : World} {L : List Ent} {Ss : List (Nat → Prop)} (ho : owns ι w L Ss) {k ty b : Nat} {cs : List Cel} (hB : lookB k L = some (ty, cs)) (hb : lookI k ι = some b) : ∃ S ∈ Ss, S b := by
 induction L generalizing Ss with
 | nil => cases hB
 | cons e L ih =>
  cases Ss with
  | nil => simp [owns] at ho
  | cons T Ss =>
   obtain ⟨g1, g2, g3⟩ := ho
   cases e with
   | blk j2 ty2 cs2 =>
    simp only [lookB] at hB
    split at hB
    ·rename_i e2; subst e2
     obtain ⟨c, vs, hc, _, _, hT⟩ := g1
     rw [hb] at hc; cases hc
     exact ⟨T, List.mem_cons_self .., (hT _).2 J⟩
    ·obtain ⟨S', h4, h5⟩ := ih g3 hB
     exact ⟨S', List.mem_cons_of_mem _ h4, h5⟩
   | hp j2 A =>
    obtain ⟨S', h4, h5⟩ := ih g3 hB
    exact ⟨S', List.mem_cons_of_mem _ h4, h5⟩
theorem owns_put {ι : Ids} {w : World} {L L' : List Ent} {Ss : List (Nat → Prop)} (ho : owns ι w L Ss) {k ty : Nat} {cs cs' : List Cel} {vs' : List Value} (hB : lookB k L = some (ty, cs)) (hp : putL k cs' L = some L')
  {w' : World} {b : Nat} (hb : lookI k ι = some b) (hd : denL ι cs' = some vs') (hw : w'.heap[b]? = some (.cells vs'.toArray ty (0, 0))) (hoth : ∀ x, x ≠ b → w'.heap[x]? = w.heap[x]?) : owns ι w' L' Ss := by
 induction L generalizing L' Ss with
 | nil => cases hp
 | cons e L ih =>
  cases Ss with
  | nil => simp [owns] at ho
  | cons S Ss =>
   obtain ⟨h1, h2, h3⟩ := ho
   cases e with
   | blk j ty' cs0 =>
    simp only [lookB] at hB
    simp only [putL] at hp
    split at hB
    ·rename_i e; subst e
     rw [if_pos rfl] at hp
     cases hB; cases hp
     obtain ⟨b', vs0, hb', hd0, hh, hS⟩ := h1
     rw [hb] at hb'
     cases hb'
     exact ⟨⟨b, vs', hb, hd, hw, hS⟩, h2, owns_far h3 (· = b) hoth fun T hT x hx e => h2 T hT b ((hS b).2 J) (e ▸ hx)⟩
    ·rename_i e
     rw [if_neg e] at hp
     split at hp
     ·rename_i r hr
      cases hp
      obtain ⟨b', vs0, hb', hd0, hh, hS⟩ := h1
      have hne : b' ≠ b := by
       intro e'
       subst e'
       obtain ⟨S', hS', hSb⟩ := owns_mem h3 hB hb
       exact h2 S' hS' b' ((hS _).2 J) hSb
      exact ⟨⟨b', vs0, hb', hd0, by rw [hoth _ hne]; exact hh, hS⟩, h2, ih h3 hB hr⟩
     ·cases hp
   | hp j A =>
    simp only [lookB] at hB
    simp only [putL] at hp
    split at hp
    ·rename_i r hr
     cases hp
     have hnb : ¬ S b := by
      intro hSb
      obtain ⟨S', hS', hSb'⟩ := owns_mem h3 hB hb
      exact h2 S' hS' b hSb hSb'
     exact ⟨A.loc _ _ _ h1 (fun x hx => hoth x (fun e => hnb (e ▸ hx))), h2, ih h3 hB hr⟩
    ·cases hp
theorem SatW.put {C : Ctx} {ι : Ids} {L L' : List Ent} {G : PH} {w w' : World} (h : SatW C ι L G w) {k ty b : Nat} {cs cs' : List Cel} {vs' : List Value} (hB : lookB k L = some (ty, cs)) (hp : putL k cs' L = some L')
  (hb : lookI k ι = some b) (hd : denL ι cs' = some vs') (hw : w'.heap[b]? = some (.cells vs'.toArray ty (0, 0))) (hoth : ∀ x, x ≠ b → w'.heap[x]? = w.heap[x]?)
  (h1 : w'.os = w.os) (h2 : w'.tape = w.tape) (h3 : w'.output = w.output) (h4 : w'.heap.size = w.heap.size) : SatW C ι L' G w' := by
 obtain ⟨Ss, ho, hS⟩ := h.own
 obtain ⟨S, hSm, hSb⟩ := owns_mem ho hB hb
 obtain ⟨hG, hfresh⟩ := hS S hSm b hSb
 refine ⟨h1.trans h.os, h2.trans h.tape, h3.trans h.output, by rw [h4]; exact h.size, ?_, ?_, Ss, owns_put ho hB hp hb hd hw hoth, hS⟩
 ·intro x hx hn
  rw [hoth x (by
   rintro rfl
   rcases hfresh with hf | hf
   ·exact hn hf
   ·omega)]
  exact h.keep x hx hn
 ·intro x o ho'
  rw [hoth x (by rintro rfl; rw [hG] at ho'; cases ho')]
  exact h.emb x o ho'
theorem oneCell_of {P : Program} {v : Value} (h : v.oneCell' = true) : v.cells = #[v] := by
 cases v <;> simp_all [Value.cells, Value.oneCell']
theorem run_storeCells_blk {P : Program} {w : World} {b o : Nat} {ty : Nat} {cs vs : List Value} (hb : w.heap[b]? = some (.cells cs.toArray ty (0, 0))) (hl : o + vs.length ≤ cs.length) (h1 : ∀ v ∈ vs, v.oneCell' = true) :
  ∃ w', (storeCells ⟨b, o, none⟩ vs).run P w = .ok () w' ∧ w'.heap[b]? = some (.cells (cs.take o ++ vs ++ cs.drop (o + vs.length)).toArray ty (0, 0)) ∧ (∀ x, x ≠ b → w'.heap[x]? = w.heap[x]?) ∧ w'.os = w.os ∧ w'.tape = w.tape ∧ w'.output = w.output ∧ w'.heap.size = w.heap.size := by
 have hst := run_storeCells_at P b o ty vs 0 cs.toArray w hb (by simpa using hl) h1
 simp only [Nat.add_zero] at hst
 refine ⟨_, hst, ?_, ?_, ?_, ?_, ?_, ?_⟩
 ·rw [setRow_heap w b cs.toArray _ ty _ hb]
 ·intro x hx
  exact setRow_other w b x _ hx
 ·rfl
 ·rfl
 ·rfl
 ·simp
theorem storeOp_sound {C : Ctx} {T : Tab} {ι : Ids} {E : Env} {L L' : List Ent} {G : PH} {a : Act} {w : World} (hT : tabOk C.P T) (hE : AgE ι E a) (hw : SatW C ι L G w) {op : Op}
  (h : storeOp T E ι L op = some L') (ty : Nat) (pos : String) (af : Array Edge) (g : Option (Nat × Bool)) :
  ∃ w', (execOp a.eval ⟨none, op, ty, pos, af, g⟩).run C.P w = .ok .skip w' ∧ SatW C ι L' G w' := by
 obtain ⟨Ss, ho, hS⟩ := hw.own
 unfold storeOp at h
 split at h
 ·rename_i t x y
  split at h
  ·rename_i k o hx
   split at h
   ·rename_i ty' cs hB
    split at h
    ·rename_i i hi
     split at h
     ·rename_i s hy
      split at h
      ·rename_i l hl
       split at h
       ·rename_i hone
        split at h
        ·rename_i cs' hput
         obtain ⟨b, vs, hb, hd, hh⟩ := owns_blk ho hB
         have ex := ev_sound hE hx
         have ey := ev_sound hE hy
         simp only [denO, hb, Option.some.injEq] at ex
         obtain ⟨us, hus, hagg, hsc⟩ := celsOf_den hl ey
         obtain ⟨hlen, h1⟩ := allOneC_den hone hus
         obtain ⟨he, hle⟩ := putN_eq hput
         have hlu := denL_length hus
         have hlv := denL_length hd
         obtain ⟨w', hr, hh', hoth, e1, e2, e3, e4⟩ := run_storeCells_blk (P := C.P) (o := o) hh (by omega) h1
         refine ⟨w', ?_, hw.put hB h hb ?_ hh' hoth e1 e2 e3 e4⟩
         ·have hcells : (a.eval y).cells = us.toArray := by
           cases hg : i.k.isAgg with
           | true => exact hagg hg
           | false =>
            have hv := hsc hg
            rw [hv]
            exact oneCell_of (P := C.P) (h1 _ (by rw [hv]; exact List.mem_singleton_self _))
          simp only [execOp, ← ex]
          simp [Instr.storeAt, Instr.sureAddr, storeVar, tyOk_size (hT _ _ hi), hcells, hlen, hr]
         ·rw [he, hlu]
          exact denL_append (denL_append (denL_take hd o) hus) (denL_drop hd _)
        ·cases h
       ·cases h
      ·cases h
     ·cases h
    ·cases h
   ·cases h
  ·cases h
 ·cases h
theorem splitPick_eq {t : Nat} {l G r : List Oper} {d : Nat} {x y : Operand} (h : splitPick t l = some (G, d, x, y, r)) : ∃ ty pos af, l = G ++ ⟨some d, .pick (.tmp t) x y, ty, pos, af, none⟩ :: r := by
 induction l generalizing G with
 | nil => cases h
 | cons o l ih =>
  unfold splitPick at h
  split at h
  ·cases h
  ·rename_i d0 c x0 y0 ty pos af g l' heq
   cases heq
   split at h
   ·rename_i hc
    have hc' : c = t := Nat.eq_of_beq_eq_true hc
    subst hc'
    split at h
    ·split at h
     ·cases h; exact ⟨ty, pos, af, J⟩
     ·cases h
    ·cases h
   ·split at h
    ·rename_i G' d' x' y' r' hs
     cases h
     obtain ⟨ty', pos', af', e⟩ := ih hs
     exact ⟨ty', pos', af', by rw [e]; rfl⟩
    ·cases h
  ·rename_i o' l' _ heq
   cases heq
   split at h
   ·rename_i G' d' x' y' r' hs
    cases h
    obtain ⟨ty', pos', af', e⟩ := ih hs
    exact ⟨ty', pos', af', by rw [e]; rfl⟩
   ·cases h
theorem memN_eq {i : Nat} {l : List Nat} (h : memN i l = true) : i ∈ l := by
 induction l with
 | nil => cases h
 | cons j l ih =>
  simp only [memN] at h
  split at h
  ·rename_i hb; rw [Nat.eq_of_beq_eq_true hb]; exact List.mem_cons_self ..
  ·exact List.mem_cons_of_mem _ (ih h)
def Diff (l : List Oper) (a a1 : Act) : Prop := a1.defers = a.defers ∧ a1.tmps.size = a.tmps.size ∧ ∀ i, (∀ o ∈ l, o.dst ≠ some i) → a1.tmps[i]? = a.tmps[i]?
theorem Diff.refl (a : Act) : Diff [] a a := ⟨rfl, rfl, fun _ _ => rfl⟩
theorem Diff.cons {o : Oper} {l : List Oper} {a a1 : Act} {v : Value} (h : Diff l (a.put o.dst v) a1) : Diff (o :: l) a a1 := by
 obtain ⟨h1, h2, h3⟩ := h
 refine ⟨?_, ?_, fun i hi => ?_⟩
 ·rw [h1]; unfold Act.put; split <;> rfl
 ·rw [h2]; unfold Act.put; split <;> simp
 ·rw [h3 i (fun o ho => hi o (List.mem_cons_of_mem _ ho))]
  have := hi o (List.mem_cons_self ..)
  unfold Act.put
  split
  ·rename_i d hd
   simp only [Array.getElem?_setIfInBounds]
   rw [if_neg (by rintro rfl; exact this hd)]
  ·rfl
theorem Diff.append {l l' : List Oper} {a a1 a2 : Act} (h : Diff l a a1) (h' : Diff l' a1 a2) : Diff (l ++ l') a a2 :=
 ⟨h'.1.trans h.1, h'.2.1.trans h.2.1, fun i hi => (h'.2.2 i fun o ho => hi o (List.mem_append_right _ ho)).trans (h.2.2 i fun o ho => hi o (List.mem_append_left _ ho))⟩
theorem freshAll_eq {E : Env} {l : List Oper} (h : freshAll E l = true) : ∀ o ∈ l, ∀ d, o.dst = some d → look d E = none := by
 induction l with
 | nil => intro o ho; cases ho
 | cons x l ih =>
  simp only [freshAll] at h
  split at h
  ·rename_i d hd
   split at h
   ·rename_i hl
    intro o ho d' hd'
    rcases List.mem_cons.1 ho with rfl | ho
    ·rw [hd] at hd'; cases hd'; exact hl
    ·exact ih h o ho d' hd'
   ·cases h
  ·cases h
theorem AgE.diff {ι : Ids} {E : Env} {l : List Oper} {a a1 : Act} (h : AgE ι E a) (hd : Diff l a a1) (hf : ∀ o ∈ l, ∀ d, o.dst = some d → look d E = none) : AgE ι E a1 := by
 intro i s hi
 obtain ⟨v, hv, ht⟩ := h i s hi
 exact ⟨v, hv, by rw [hd.2.2 i (fun o ho e => by rw [hf o ho i e] at hi; cases hi)]; exact ht⟩
theorem yielded_slot {all : Array Oper} {j t : Nat} (h : slotOf all j = some t) (tmps : Array Value) : yielded all tmps j = match tmps[t]? with | some (.bool b) => some b | _ => none := by
 unfold slotOf at h
 split at h
 ·rename_i o ho
  simp only [Array.getElem?_toList] at ho
  simp [yielded, ho, h]
  rfl
 ·cases h
theorem offAll_sound {C : Ctx} {all : Array Oper} {t : Nat} {want b : Bool} (hb : b ≠ want) {rest : List Oper} {k : List It} {w : World} : ∀ (G : List Oper) (U : List Nat), offAll all t want U G = true → ∀ a : Act, a.tmps[t]? = some (.bool b) → (∀ u ∈ U, u < a.tmps.size → a.tmps[u]? = some undef) →
  (∀ a1, Diff G a a1 → a1.tmps[t]? = some (.bool b) → wpE C (.ops all rest :: k) .normal a1 w) → wpE C (.ops all (G ++ rest) :: k) .normal a w := by
 intro G
 induction G with
 | nil => intro U _ a ht _ h; exact h a (Diff.refl a) ht
 | cons o l ih =>
  intro U h a ht hU hk
  simp only [offAll] at h
  split at h
  ·rename_i j w0 hg
   split at h
   ·rename_i t' ht'
    split at h
    ·rename_i d hd
     split at h
     ·cases h
     ·rename_i hdt
      have hdt' : d ≠ t := fun e => by subst e; simp at hdt
      have hput : ∀ u v, u ≠ d → (a.put o.dst v).tmps[u]? = a.tmps[u]? := by
       intro u v hu
       rw [hd]
       simp only [Act.put, Array.getElem?_setIfInBounds]
       rw [if_neg (fun e => hu e.symm)]
      have goon : offAll all t want (d :: U) l = true → Region.wanted o (yielded all a.tmps) = false → wpE C (.ops all (o :: (l ++ rest)) :: k) .normal a w := by
       intro h1 h2
       refine wpE_off h2 (ih (d :: U) h1 _ (by rw [hput t _ (Ne.symm hdt')]; exact ht) ?_ fun a1 hd1 ht1 => hk a1 hd1.cons ht1)
       intro u hu hlt
       rcases List.mem_cons.1 hu with rfl | hu
       ·rw [hd] at hlt ⊢
        simp only [Act.put, Array.size_setIfInBounds] at hlt ⊢
        simp [hlt]
       ·by_cases e : u = d
        ·subst e
         rw [hd] at hlt ⊢
         simp only [Act.put, Array.size_setIfInBounds] at hlt ⊢
         simp [hlt]
        ·rw [hput u _ e]
         refine hU u hu ?_
         rw [hd] at hlt
         simpa [Act.put] using hlt
      split at h
      ·rename_i htt
       have htt' : t' = t := Nat.eq_of_beq_eq_true htt
       subst htt'
       have hy := yielded_slot ht' a.tmps
       rw [ht] at hy
       split at h
       ·exact goon h (by simp only [Region.wanted, hg, hy]; cases b <;> simp_all)
       ·exact goon h (by simp only [Region.wanted, hg, hy]; cases b <;> simp_all)
       ·cases h
      ·split at h
       ·rename_i hm
        refine goon h ?_
        have hy := yielded_slot ht' a.tmps
        have : yielded all a.tmps j = none := by
         rw [hy]
         by_cases hlt : t' < a.tmps.size
         ·rw [hU t' (memN_eq hm) hlt]; rfl
         ·rw [Array.getElem?_eq_none (by omega)]
        simp [Region.wanted, hg, this]
       ·cases h
    ·cases h
   ·cases h
  ·cases h
theorem combine_sound {b : Bool} {E1 : Env} {want : Bool} {x y : Operand} {s : Sym} (h : combine b E1 want x y = some s) (ι : Ids) :
  (∀ a1, AgE ι E1 a1 → b = want → denO ι s = some (if want then a1.eval x else a1.eval y)) ∧ (∀ a1 : Act, b ≠ want → denO ι s = some (if b then a1.eval x else a1.eval y)) := by
 unfold combine at h
 split at h
 ·split at h
  ·rename_i c hx; cases h
   refine ⟨fun a1 hE hb => ?_, fun a1 hb => ?_⟩
   ·have := ev_sound hE hx; simp only [denO, Option.some.injEq] at this ⊢; simp [← this, hb]
   ·have : b = false := by cases b <;> simp_all
    subst this; simp [denO, Act.eval]
  ·rename_i hx; cases h
   refine ⟨fun a1 hE hb => ?_, fun a1 hb => ?_⟩
   ·have := ev_sound hE hx; simp only [denO, Option.some.injEq] at this ⊢; simp [← this, hb]
   ·have : b = false := by cases b <;> simp_all
    subst this; simp [denO, Act.eval]
  ·rename_i hx; cases h
   refine ⟨fun a1 hE hb => ?_, fun a1 hb => ?_⟩
   ·have := ev_sound hE hx; simp only [denO, Option.some.injEq] at this ⊢; simp [← this]
   ·have : b = false := by cases b <;> simp_all
    subst this; simp [denO, Act.eval]
  ·cases h
 ·split at h
  ·rename_i c hx; cases h
   refine ⟨fun a1 hE hb => ?_, fun a1 hb => ?_⟩
   ·have := ev_sound hE hx; simp only [denO, Option.some.injEq] at this ⊢; simp [← this, hb]
   ·have : b = true := by cases b <;> simp_all
    subst this; simp [denO, Act.eval]
  ·rename_i hx; cases h
   refine ⟨fun a1 hE hb => ?_, fun a1 hb => ?_⟩
   ·have := ev_sound hE hx; simp only [denO, Option.some.injEq] at this ⊢; simp [← this]
   ·have : b = true := by cases b <;> simp_all
    subst this; simp [denO, Act.eval]
  ·rename_i hx; cases h
   refine ⟨fun a1 hE hb => ?_, fun a1 hb => ?_⟩
   ·have := ev_sound hE hx; simp only [denO, Option.some.injEq] at this ⊢; simp [← this, hb]
   ·have : b = true := by cases b <;> simp_all
    subst this; simp [denO, Act.eval]
  ·cases h
 ·cases h
theorem q_sound {C : Ctx} {T : Tab} {N : Nat} {L : List Ent} {all : Array Oper} {ι : Ids} {w : World} {Ss : List (Nat → Prop)} {k : List It} (hT : tabOk C.P T) (ho : owns ι w L Ss) : ∀ n,
  (∀ l E E1, qrun T N L all n l E = some E1 → ∀ rest (a : Act), a.tmps.size = N → AgE ι E a → (∀ a1, Diff l a a1 → AgE ι E1 a1 → wpE C (.ops all rest :: k) .normal a1 w) → wpE C (.ops all (l ++ rest) :: k) .normal a w) ∧
  (∀ l E d s r, qgroup T N L all n l E = some (d, s, r) → d < N → ∃ Gp, l = Gp ++ r ∧ ∀ rest (a : Act), a.tmps.size = N → AgE ι E a → (∀ a1, Diff Gp a a1 → AgE ι ((d, s) :: E) a1 → wpE C (.ops all rest :: k) .normal a1 w) → wpE C (.ops all (Gp ++ rest) :: k) .normal a w) := by
 intro n
 induction n with
 | zero => exact ⟨fun l E E1 h => by simp [qrun] at h, fun l E d s r h => by simp [qgroup] at h⟩
 | succ n ih =>
  obtain ⟨ih1, ih2⟩ := ih
  refine ⟨?_, ?_⟩
  ·intro l E E1 h rest a hsz hE hk
   cases l with
   | nil => simp only [qrun] at h; cases h; exact hk a (Diff.refl a) hE
   | cons o l =>
    simp only [qrun] at h
    split at h
    ·rename_i hg
     split at h
     ·rename_i d hd
      split at h
      ·rename_i s hs
       split at h
       ·rename_i hle
        obtain ⟨dst, op, ty, pos, af, g⟩ := o
        simp only at hd hs hg
        subst hd
        obtain ⟨v, hv, hr⟩ := pureOp_sound hT hE ho hs (some d) ty pos af g
        refine wpE_val (guardOf_on hE hg) (pureOp_nd hs) hr ?_
        have hdn : d < a.tmps.size := by rw [hsz]; exact Nat.le_of_ble_eq_true hle
        exact ih1 _ _ _ h rest _ (by simp [Act.put, hsz]) (hE.put hdn hv) fun a1 hd1 he1 => hk a1 hd1.cons he1
       ·cases h
      ·cases h
     ·cases h
    ·rename_i hg
     split at h
     ·rename_i d hd
      split at h
      ·rename_i hl
       refine wpE_off (guardOf_off hE hg) ?_;refine ih1 _ _ _ h rest _ (by rw [hd]; simp [Act.put, hsz]) (hE.put_undef (fun t ht => by rw [hd] at ht; cases ht; exact hl)) fun a1 hd1 he1 => hk a1 hd1.cons he1
      ·cases h
     ·cases h
    ·split at h
     ·rename_i d s r hq
      split at h
      ·rename_i hle
       obtain ⟨Gp, hl, hG⟩ := ih2 _ _ _ _ _ hq (Nat.le_of_ble_eq_true hle)
       rw [hl, List.append_assoc]
       refine hG (r ++ rest) a hsz hE fun a1 hd1 he1 => ?_;exact ih1 _ _ _ h rest a1 (hd1.2.1.trans hsz) he1 fun a2 hd2 he2 => hk a2 (hl ▸ hd1.append hd2) he2
      ·cases h
     ·cases h
  ·intro l E d s r h hd
   cases l with
   | nil => simp [qgroup] at h
   | cons o l =>
    simp only [qgroup] at h
    split at h
    ·cases h
    ·rename_i j want hg
     split at h
     ·cases h
     ·rename_i t ht
      split at h
      ·rename_i b hb
       split at h
       ·cases h
       ·rename_i G d' x y r' hsp
        split at h
        ·cases h
        ·rename_i hoff
         split at h
         ·cases h
         ·rename_i hfr
          split at h
          ·cases h
          ·rename_i E1 hq
           split at h
           ·cases h
           ·rename_i s' hcomb
            cases h
            obtain ⟨ty, pos, af, hl⟩ := splitPick_eq hsp
            refine ⟨G ++ [⟨some d, .pick (.tmp t) x y, ty, pos, af, none⟩], by rw [hl]; simp, ?_⟩
            intro rest a hsz hE hk
            obtain ⟨v0, hv0, ht0⟩ := hE t _ hb
            simp only [denO, Option.some.injEq] at hv0
            subst hv0
            have hfr' := freshAll_eq hfr
            obtain ⟨hc1, hc2⟩ := combine_sound hcomb ι
            have hpick : ∀ a1 : Act, Diff G a a1 → a1.tmps[t]? = some (.bool b) → denO ι s = some (if b then a1.eval x else a1.eval y) →
              wpE C (.ops all (⟨some d, .pick (.tmp t) x y, ty, pos, af, none⟩ :: rest) :: k) .normal a1 w := by
             intro a1 hd1 ht1 hden
             have het : a1.eval (.tmp t) = .bool b := by simp [Act.eval, Array.getD_eq_getD_getElem?, ht1]
             refine wpE_val (v := if b then a1.eval x else a1.eval y) (w' := w) J (by intro c h; cases h) ?_ ?_
             ·simp only [execOp, het]; simp [asBool]
             ·have hdn : d < a1.tmps.size := by rw [hd1.2.1, hsz]; exact hd
              refine hk _ (hd1.append (Diff.cons (Diff.refl _))) ((hE.diff hd1 hfr').put hdn hden)
            rw [List.append_assoc]
            show wpE C (.ops all (G ++ (⟨some d, .pick (.tmp t) x y, ty, pos, af, none⟩ :: rest)) :: k) .normal a w
            by_cases hbw : b = want
            ·refine ih1 _ _ _ hq _ a hsz ?_ ?_
             ·intro i s1 hi
              simp only [look] at hi
              split at hi
              ·rename_i e; subst e; cases hi; exact ⟨_, J, by rw [← hbw]; exact ht0⟩
              ·exact hE i s1 hi
             ·intro a1 hd1 he1
              have ht1 : a1.tmps[t]? = some (.bool b) := by
               rw [hd1.2.2 t (fun o' ho' e => by have := hfr' o' ho' t e; rw [hb] at this; cases this)]; exact ht0
              refine hpick a1 hd1 ht1 ?_
              rw [hc1 a1 he1 hbw, hbw]
            ·refine offAll_sound hbw G [] hoff a ht0 (fun u hu => by cases hu) fun a1 hd1 ht1 => hpick a1 hd1 ht1 (hc2 a1 hbw)
      ·cases h
theorem adv_sound {C : Ctx} {T : Tab} {N : Nat} {ι : Ids} {G : PH} (hT : tabOk C.P T) (hN : C.n = N) : ∀ (n : Nat) (k : List It) (E : Env) (L : List Ent) (k' : List It) (E' : Env) (L' : List Ent),
  adv T N ι n k E L = (k', E', L') → X C k' E' ι L' G → X C k E ι L G := by
 intro n
 induction n with
 | zero => intro k E L k' E' L' h hx; simp only [adv] at h; cases h; exact hx
 | succ n ih =>
  intro k E L k' E' L' h hx
  cases k with
  | nil => simp only [adv] at h; cases h; exact hx
  | cons x k =>
   cases x with
   | stop I => simp only [adv] at h; cases h; exact hx
   | blk j => simp only [adv] at h; exact fun a w h1 h2 h3 h4 => ih _ _ _ _ _ _ h hx a w h1 h2 h3 h4
   | code c =>
    cases c with
    | seq p q => simp only [adv] at h; exact fun a w h1 h2 h3 h4 => wpE_seq (ih _ _ _ _ _ _ h hx a w h1 h2 h3 h4)
    | block id p => simp only [adv] at h; exact fun a w h1 h2 h3 h4 => wpE_block (ih _ _ _ _ _ _ h hx a w h1 h2 h3 h4)
    | skip => simp only [adv] at h; exact fun a w h1 h2 h3 h4 => wpE_skip (ih _ _ _ _ _ _ h hx a w h1 h2 h3 h4)
    | exit id =>
     simp only [adv] at h
     split at h
     ·rename_i k1 hk1
      exact fun a w h1 h2 h3 h4 => wpE_exit (unblk_sound hk1 (ih _ _ _ _ _ _ h hx a w h1 h2 h3 h4))
     ·cases h; exact hx
    | cond c t e =>
     simp only [adv] at h
     split at h
     ·rename_i hc
      intro a w h1 h2 h3 h4
      have ec := ev_sound h3 hc
      simp only [denO, Option.some.injEq] at ec
      exact wpE_cond ec.symm (by simpa using ih _ _ _ _ _ _ h hx a w h1 h2 h3 h4)
     ·rename_i hc
      intro a w h1 h2 h3 h4
      have ec := ev_sound h3 hc
      simp only [denO, Option.some.injEq] at ec
      exact wpE_cond ec.symm (by simpa using ih _ _ _ _ _ _ h hx a w h1 h2 h3 h4)
     ·cases h; exact hx
    | region id ops draw =>
     cases draw with
     | false => simp only [adv] at h; exact fun a w h1 h2 h3 h4 => wpE_region (ih _ _ _ _ _ _ h hx a w h1 h2 h3 h4)
     | true => simp only [adv] at h; cases h; exact hx
    | _ => simp only [adv] at h; cases h; exact hx
   | ops all l =>
    cases l with
    | nil => simp only [adv] at h; exact fun a w h1 h2 h3 h4 => wpE_nil (ih _ _ _ _ _ _ h hx a w h1 h2 h3 h4)
    | cons o l =>
     simp only [adv] at h
     split at h
     ·rename_i hg
      split at h
      ·rename_i d hd
       split at h
       ·rename_i s hs
        split at h
        ·rename_i hle
         intro a w h1 h2 h3 h4
         obtain ⟨Ss, ho, _⟩ := h4.own
         obtain ⟨dst, op, ty, pos, af, g⟩ := o
         simp only at hd hs hg
         subst hd
         obtain ⟨v, hv, hr⟩ := pureOp_sound hT h3 ho hs (some d) ty pos af g
         refine wpE_val (guardOf_on h3 hg) (pureOp_nd hs) hr ?_
         have hdn : d < a.tmps.size := by rw [h2, hN]; exact Nat.le_of_ble_eq_true hle
         exact ih _ _ _ _ _ _ h hx _ _ h1 (by simp [Act.put, h2]) (h3.put hdn hv) h4
        ·cases h; exact hx
       ·cases h; exact hx
      ·rename_i hd
       split at h
       ·rename_i L1 hs
        intro a w h1 h2 h3 h4
        obtain ⟨dst, op, ty, pos, af, g⟩ := o
        simp only at hd hs hg
        subst hd
        obtain ⟨w', hr, hw'⟩ := storeOp_sound hT h3 h4 hs ty pos af g
        refine wpE_skipv (guardOf_on h3 hg) (by rintro c rfl; simp [storeOp] at hs) hr ?_;exact ih _ _ _ _ _ _ h hx _ _ h1 h2 h3 hw'
       ·cases h; exact hx
     ·rename_i hg
      split at h
      ·rename_i d hd
       split at h
       ·rename_i hle
        intro a w h1 h2 h3 h4
        refine wpE_off (guardOf_off h3 hg) ?_
        have hdn : d < a.tmps.size := by rw [h2, hN]; exact Nat.le_of_ble_eq_true hle
        exact ih _ _ _ _ _ _ h hx _ _ (by rw [hd]; exact h1) (by rw [hd]; simp [Act.put, h2]) (by rw [hd]; exact h3.put hdn J) h4
       ·cases h; exact hx
      ·rename_i hd
       intro a w h1 h2 h3 h4
       refine wpE_off (guardOf_off h3 hg) ?_;exact ih _ _ _ _ _ _ h hx _ _ (by rw [hd]; exact h1) (by rw [hd]; exact h2) (h3.put_undef (fun t ht => by rw [hd] at ht; cases ht)) h4
     ·split at h
      ·rename_i d s r hq
       split at h
       ·rename_i hle
        intro a w h1 h2 h3 h4
        obtain ⟨Ss, ho, _⟩ := h4.own
        obtain ⟨Gp, hl, hG⟩ := (q_sound (C := C) (k := k) hT ho 300).2 _ _ _ _ _ hq (Nat.le_of_ble_eq_true hle)
        rw [hl]
        refine hG r a (h2.trans hN) h3 fun a1 hd1 he1 => ?_;exact ih _ _ _ _ _ _ h hx _ _ (by rw [hd1.1]; exact h1) (hd1.2.1.trans h2) he1 h4
       ·cases h; exact hx
      ·cases h; exact hx
end
section
def gcell (G : PH) (a : Addr) : Option Value :=
 match G a.block with
 | some (.cells c _ _) => if a.spot.isSome then none else c[a.off]?
 | _ => none
theorem gcell_emb {G : PH} {w : World} (h : Emb G w) {a : Addr} {v : Value} (hc : gcell G a = some v) : w.cell? a = some v := by
 unfold gcell at hc
 split at hc
 ·rename_i c t f hb
  simp [World.cell?, h _ _ hb, hc]
 ·cases hc
theorem gcell_le {G G' : PH} (h : G.le G') {a : Addr} {v : Value} (hc : gcell G a = some v) : gcell G' a = some v := by
 unfold gcell at hc ⊢
 split at hc
 ·rename_i c t f hb
  rw [h _ _ hb]; exact hc
 ·cases hc
def gcells (G : PH) (a : Addr) : List Value → Prop
 | [] => True
 | v :: cs => gcell G a = some v ∧ gcells G (a.add 1) cs
theorem add_add' (a : Addr) (i j : Nat) : (a.add i).add j = a.add (i + j) := by
 unfold Addr.add
 by_cases hi : i = 0 <;> by_cases hj : j = 0 <;> simp [hi, hj, Nat.add_assoc]
theorem add_zero' (a : Addr) : a.add 0 = a := by simp [Addr.add]
theorem gcells_at {G : PH} {cs : List Value} {a : Addr} (h : gcells G a cs) : ∀ j v, cs[j]? = some v → gcell G (a.add j) = some v := by
 induction cs generalizing a with
 | nil => intro j v hj; simp at hj
 | cons x cs ih =>
  intro j v hj
  cases j with
  | zero => simp at hj; subst hj; rw [add_zero']; exact h.1
  | succ j =>
   have := ih h.2 j v (by simpa using hj)
   rw [add_add'] at this
   rwa [Nat.add_comm 1 j] at this
theorem gcells_le {G G' : PH} (hl : G.le G') {cs : List Value} {a : Addr} (h : gcells G a cs) : gcells G' a cs := by
 induction cs generalizing a with
 | nil => trivial
 | cons x cs ih => exact ⟨gcell_le hl h.1, ih h.2⟩
def envOf : Nat → List Value → Env
 | _, [] => []
 | i, v :: vs => (i, .val v) :: envOf (i + 1) vs
theorem look_envOf {vs : List Value} {s i : Nat} {y : Sym} (h : look i (envOf s vs) = some y) : s ≤ i ∧ ∃ v, vs[i - s]? = some v ∧ y = .val v := by
 induction vs generalizing s with
 | nil => cases h
 | cons v vs ih =>
  simp only [envOf, look] at h
  split at h
  ·rename_i e; subst e; cases h; exact ⟨Nat.le_refl _, v, by simp, J⟩
  ·rename_i e
   obtain ⟨h1, u, h2, h3⟩ := ih h
   refine ⟨by omega, u, ?_, h3⟩
   have : i - s = (i - (s + 1)) + 1 := by omega
   rw [this]; simpa using h2
theorem Enter {P : Program} {f : FuncId} {fn : Func} {c : Code} {vs : List Value} {w : World} {R : Ending → World → Prop} {ι : Ids} {L : List Ent} {G : PH} {S0 : Nat → Prop} (hf : P.funcs[f]? = some fn) (hb : fn.body = some c) {n : Nat} (hn : fn.ntmps = n)
  (hle : Nat.ble vs.length n = true) (hs : SatW ⟨P, none, n, bodyPost P fn R, w, S0, false⟩ ι L G w)
  (hx : X ⟨P, none, n, bodyPost P fn R, w, S0, false⟩ [.code c] (envOf 0 vs) ι L G) : Calls P f vs.toArray w R := by
 refine calls_of_wp hf hb ?_
 have hle' : vs.length ≤ n := Nat.le_of_ble_eq_true hle
 have h := hx { tmps := vs.toArray ++ Array.replicate (fn.ntmps - vs.toArray.size) undef, defers := [] } w rfl (by simp [hn]; omega) ?_ hs
 ·exact wpIn_wide.1 h
 ·intro i s hi
  obtain ⟨_, v, hv, rfl⟩ := look_envOf hi
  refine ⟨v, J, ?_⟩
  simp only [Nat.sub_zero] at hv
  rw [Array.getElem?_append_left (by
   have := (List.getElem?_eq_some_iff.1 hv).1
   simpa using this)]
  simpa using hv
theorem SatW.start {ms : Bool} {P : Program} {r : Option Nat} {n : Nat} {Q : Exit → Act → World → Prop} {w : World} {G : PH} (h : Emb G w) : SatW ⟨P, r, n, Q, w, fun _ => False, ms⟩ [] [] G w :=
 ⟨rfl, rfl, rfl, Nat.le_refl _, fun _ _ _ => rfl, h, [], trivial, fun _ h => by cases h⟩
theorem SatW.below {C : Ctx} {ι : Ids} {L : List Ent} {G : PH} {w : World} (h : SatW C ι L G w) (h0 : ∀ b, ¬ C.S0 b) : Below C.w0.heap.size C.w0 w :=
 ⟨h.os, h.tape, h.output, h.size, fun b hb => h.keep b hb (h0 b)⟩
theorem wpE_out {C : Ctx} (k : List It) {a : Act} {w : World} (h : C.Q .ret a w) : wpE C k .ret a w := by
 induction k with
 | nil => exact h
 | cons x k ih => cases x <;> exact ih
section
variable {C : Ctx} {P : Program} {fn : Func} {R : Ending → World → Prop} {k : List It} {E : Env} {ι : Ids} {L : List Ent} {G : PH}
theorem S_ret1 (hQ : C.Q = bodyPost P fn R ∧ C.ms = false) {t : Nat} (hr : fn.results = #[.tmp t]) {s : Sym} (hl : look t E = some s) {v : Value} (hv : denO ι s = some v) (h : ∀ w, SatW C ι L G w → R (.returned v) w) : X C (.code .ret :: k) E ι L G := by
 intro a w h1 h2 h3 h4
 refine wpE_ret (wpE_out k ?_)
 rw [hQ.1]
 have h1 := h1.eq hQ.2
 obtain ⟨u, hu, ht⟩ := h3 t s hl
 rw [hv] at hu; cases hu
 refine ⟨h1, v, ?_, h w h4⟩
 rw [results_tmp hr]
 simp [Array.getD_eq_getD_getElem?, ht]
end
section
variable {C : Ctx} {k : List It} {E : Env} {ι : Ids} {L : List Ent} {G : PH}
theorem S_adv {T : Tab} {N : Nat} {k' : List It} {E' : Env} {L' : List Ent} (hT : tabOk C.P T) (hN : C.n = N) (m : Nat) (h : adv T N ι m k E L = (k', E', L')) (hx : X C k' E' ι L' G) : X C k E ι L G :=
 adv_sound hT hN m k E L k' E' L' h hx
theorem S_sub (t : Nat) {b : Bool} (hl : look t E = some (.val (.bool b))) (ht : b = true → X C k ((t, .lit true) :: E) ι L G) (hf : b = false → X C k ((t, .lit false) :: E) ι L G) : X C k E ι L G := by
 intro a w h1 h2 h3 h4
 have key : ∀ c, b = c → AgE ι ((t, .lit c) :: E) a := by
  rintro c rfl i s hi
  simp only [look] at hi
  split at hi
  ·rename_i e; subst e; cases hi
   obtain ⟨v, hv, hl'⟩ := h3 _ _ hl
   exact ⟨v, hv, hl'⟩
  ·exact h3 i s hi
 cases b with
 | true => exact ht rfl a w h1 h2 (key _ rfl) h4
 | false => exact hf rfl a w h1 h2 (key _ rfl) h4
theorem S_cond {c : Nat} {t e : Code} {b : Bool} (hc : look c E = some (.val (.bool b))) (ht : b = true → X C (.code t :: k) E ι L G) (hf : b = false → X C (.code e :: k) E ι L G) : X C (.code (.cond (.tmp c) t e) :: k) E ι L G := by
 intro a w h1 h2 h3 h4
 have ec := ev_sound (x := .tmp c) h3 hc
 simp only [denO, Option.some.injEq] at ec
 refine wpE_cond ec.symm ?_
 cases b with
 | true => exact ht rfl a w h1 h2 h3 h4
 | false => exact hf rfl a w h1 h2 h3 h4
theorem S_condp {c : Nat} {t e : Code} {p : Prop} [Decidable p] (hc : look c E = some (.val (.bool (decide p)))) (ht : p → X C (.code t :: k) E ι L G) (hf : ¬ p → X C (.code e :: k) E ι L G) : X C (.code (.cond (.tmp c) t e) :: k) E ι L G :=
 S_cond hc (fun h => ht (of_decide_eq_true h)) (fun h => hf (of_decide_eq_false h))
theorem RT {c : Nat} {t e : Code} {b : Bool} (hc : look c E = some (.val (.bool b))) (hb : b = true) (ht : X C (.code t :: k) E ι L G) : X C (.code (.cond (.tmp c) t e) :: k) E ι L G :=
 S_cond hc (fun _ => ht) (fun h => by rw [hb] at h; cases h)
theorem RF {c : Nat} {t e : Code} {b : Bool} (hc : look c E = some (.val (.bool b))) (hb : b = false) (ht : X C (.code e :: k) E ι L G) : X C (.code (.cond (.tmp c) t e) :: k) E ι L G :=
 S_cond hc (fun h => by rw [hb] at h; cases h) (fun _ => ht)
def gslot (all : Array Oper) (o : Oper) : Option Nat :=
 match o.guard with
 | some (j, _) => match all.toList[j]? with
  | some o' => o'.dst
  | none => none
 | none => none
theorem S_guard {all : Array Oper} {o : Oper} {l : List Oper} {t : Nat} {b : Bool} (hg : gslot all o = some t) (hl : look t E = some (.val (.bool b)))
  (ht : b = true → X C (.ops all (o :: l) :: k) ((t, .lit true) :: E) ι L G) (hf : b = false → X C (.ops all (o :: l) :: k) ((t, .lit false) :: E) ι L G) : X C (.ops all (o :: l) :: k) E ι L G := S_sub t hl ht hf
theorem S_guardp {all : Array Oper} {o : Oper} {l : List Oper} {t : Nat} {p : Prop} [Decidable p] (hg : gslot all o = some t) (hl : look t E = some (.val (.bool (decide p))))
  (ht : p → X C (.ops all (o :: l) :: k) ((t, .lit true) :: E) ι L G) (hf : ¬ p → X C (.ops all (o :: l) :: k) ((t, .lit false) :: E) ι L G) : X C (.ops all (o :: l) :: k) E ι L G :=
 S_sub t hl (fun h => ht (of_decide_eq_true h)) (fun h => hf (of_decide_eq_false h))
theorem GT {all : Array Oper} {o : Oper} {l : List Oper} {t : Nat} {b : Bool} (hg : gslot all o = some t) (hl : look t E = some (.val (.bool b))) (hb : b = true)
  (ht : X C (.ops all (o :: l) :: k) ((t, .lit true) :: E) ι L G) : X C (.ops all (o :: l) :: k) E ι L G := S_sub t hl (fun _ => ht) (fun h => by rw [hb] at h; cases h)
theorem GF {all : Array Oper} {o : Oper} {l : List Oper} {t : Nat} {b : Bool} (hg : gslot all o = some t) (hl : look t E = some (.val (.bool b))) (hb : b = false)
  (ht : X C (.ops all (o :: l) :: k) ((t, .lit false) :: E) ι L G) : X C (.ops all (o :: l) :: k) E ι L G := S_sub t hl (fun h => by rw [hb] at h; cases h) (fun _ => ht)
end
section
variable {C : Ctx} {k : List It} {E : Env} {ι : Ids} {L : List Ent} {G : PH} {all : Array Oper} {l : List Oper}
theorem S_val {d : Nat} {op : Op} {ty : Nat} {pos : String} {af : Array Edge} {g : Option (Nat × Bool)} (hg : guardOf all E g = .on) (hnd : ∀ c, op ≠ .defer c) (hN : Nat.ble (d + 1) C.n = true) {v : Value}
  (hr : ∀ a w, AgE ι E a → SatW C ι L G w → (execOp a.eval ⟨some d, op, ty, pos, af, g⟩).run C.P w = .ok (.value v) w)
  (hx : X C (.ops all l :: k) ((d, .val v) :: E) ι L G) : X C (.ops all (⟨some d, op, ty, pos, af, g⟩ :: l) :: k) E ι L G := by
 intro a w h1 h2 h3 h4
 refine wpE_val (guardOf_on h3 hg) hnd (hr a w h3 h4) ?_
 have hdn : d < a.tmps.size := by rw [h2]; exact Nat.le_of_ble_eq_true hN
 exact hx _ _ h1 (by simp [Act.put, h2]) (h3.put hdn J) h4
theorem S_add {d : Nat} {x y : Operand} {t t' : Nat} {ty : Nat} {pos : String} {af : Array Edge} {g : Option (Nat × Bool)} {p q : Int} (hg : guardOf all E g = .on) (hN : Nat.ble (d + 1) C.n = true)
  (hx : ev E x = some (.val (.int .i64 p))) (hy : ev E y = some (.val (.int .i64 q))) (hb : -9223372036854775808 ≤ p + q ∧ p + q ≤ 9223372036854775807)
  (hk : X C (.ops all l :: k) ((d, .val (.int .i64 (p + q))) :: E) ι L G) : X C (.ops all (⟨some d, .binOp .add t x y t', ty, pos, af, g⟩ :: l) :: k) E ι L G := by
 refine S_val hg (by intro c h; cases h) hN ?_ hk
 intro a w hE _
 have ex := ev_sound hE hx
 have ey := ev_sound hE hy
 simp only [denO, Option.some.injEq] at ex ey
 simp only [execOp, ← ex, ← ey]
 have hwr : IntKind.i64.wrap (p + q) = p + q := by rw [IntKind.wrap_i64]; omega
 simp [eqGuard, binOp, Op.intArith, hwr]
theorem S_subI {d : Nat} {x y : Operand} {t t' : Nat} {ty : Nat} {pos : String} {af : Array Edge} {g : Option (Nat × Bool)} {p q : Int} (hg : guardOf all E g = .on) (hN : Nat.ble (d + 1) C.n = true)
  (hx : ev E x = some (.val (.int .i64 p))) (hy : ev E y = some (.val (.int .i64 q))) (hb : -9223372036854775808 ≤ p - q ∧ p - q ≤ 9223372036854775807)
  (hk : X C (.ops all l :: k) ((d, .val (.int .i64 (p - q))) :: E) ι L G) : X C (.ops all (⟨some d, .binOp .sub t x y t', ty, pos, af, g⟩ :: l) :: k) E ι L G := by
 refine S_val hg (by intro c h; cases h) hN ?_ hk
 intro a w hE _
 have ex := ev_sound hE hx
 have ey := ev_sound hE hy
 simp only [denO, Option.some.injEq] at ex ey
 simp only [execOp, ← ex, ← ey]
 have hwr : IntKind.i64.wrap (p - q) = p - q := by rw [IntKind.wrap_i64]; omega
 simp [eqGuard, binOp, Op.intArith, hwr]
theorem S_mul {d : Nat} {x y : Operand} {t t' : Nat} {ty : Nat} {pos : String} {af : Array Edge} {g : Option (Nat × Bool)} {p q : Int} (hg : guardOf all E g = .on) (hN : Nat.ble (d + 1) C.n = true)
  (hx : ev E x = some (.val (.int .i64 p))) (hy : ev E y = some (.val (.int .i64 q))) (hb : -9223372036854775808 ≤ p * q ∧ p * q ≤ 9223372036854775807)
  (hk : X C (.ops all l :: k) ((d, .val (.int .i64 (p * q))) :: E) ι L G) : X C (.ops all (⟨some d, .binOp .mul t x y t', ty, pos, af, g⟩ :: l) :: k) E ι L G := by
 refine S_val hg (by intro c h; cases h) hN ?_ hk
 intro a w hE _
 have ex := ev_sound hE hx
 have ey := ev_sound hE hy
 simp only [denO, Option.some.injEq] at ex ey
 simp only [execOp, ← ex, ← ey]
 have hwr : IntKind.i64.wrap (p * q) = p * q := by rw [IntKind.wrap_i64]; omega
 simp [eqGuard, binOp, Op.intArith, hwr]
theorem S_index {T : Tab} (hT : tabOk C.P T) {d t e : Nat} {sz sz' : Nat} {os os' : List Nat} {tk : TK} {x y : Operand} {ty : Nat} {pos : String} {af : Array Edge} {g : Option (Nat × Bool)} {ad : Addr} {n c : Nat} {i : Int} (hg : guardOf all E g = .on) (hN : Nat.ble (d + 1) C.n = true)
  (hx : ev E x = some (.val (.slice (some ad) n c))) (hy : ev E y = some (.val (.int .i64 i))) (ht : lookT t T = some ⟨.slc e, sz', os'⟩) (he : lookT e T = some ⟨tk, sz, os⟩) (h0 : 0 ≤ i) (h1 : i < n)
  (hk : X C (.ops all l :: k) ((d, .val (.pointer (some (ad.add (i.toNat * sz))))) :: E) ι L G) : X C (.ops all (⟨some d, .indexAddr t x y, ty, pos, af, g⟩ :: l) :: k) E ι L G := by
 refine S_val hg (by intro c h; cases h) hN ?_ hk
 intro a w hE _
 have ex := ev_sound hE hx
 have ey := ev_sound hE hy
 simp only [denO, Option.some.injEq] at ex ey
 have hu := tyOk_slice (hT _ _ ht) rfl
 simp only [execOp, ← ex, ← ey]
 simp [Instr.indexAt, run_underlying hu, asIntOf, h0, h1, tyOk_size (hT _ _ he)]
theorem S_load {T : Tab} (hT : tabOk C.P T) {d t : Nat} {i : TyI} {x : Operand} {ty : Nat} {pos : String} {af : Array Edge} {g : Option (Nat × Bool)} {ad : Addr} {v : Value} (hg : guardOf all E g = .on) (hN : Nat.ble (d + 1) C.n = true)
  (hx : ev E x = some (.val (.pointer (some ad)))) (ht : lookT t T = some i) (hk0 : i.k.isAgg = false) (hc : gcell G ad = some v)
  (hk : X C (.ops all l :: k) ((d, .val v) :: E) ι L G) : X C (.ops all (⟨some d, .load t x, ty, pos, af, g⟩ :: l) :: k) E ι L G := by
 refine S_val hg (by intro c h; cases h) hN ?_ hk
 intro a w hE hw
 have ex := ev_sound hE hx
 simp only [denO, Option.some.injEq] at ex
 simp only [execOp, ← ex]
 simp [Instr.loadAt, loadVar, Instr.sureAddr, tyOk_agg (hT _ _ ht), hk0, gcell_emb hw.emb hc]
theorem S_loadA {T : Tab} (hT : tabOk C.P T) {d t m : Nat} {os : List Nat} {x : Operand} {ty : Nat} {pos : String} {af : Array Edge} {g : Option (Nat × Bool)} {ad : Addr} {cs : List Value} (hg : guardOf all E g = .on) (hN : Nat.ble (d + 1) C.n = true)
  (hx : ev E x = some (.val (.pointer (some ad)))) (ht : lookT t T = some ⟨.agg, m, os⟩) (hl : cs.length = m) (hc : gcells G ad cs)
  (hk : X C (.ops all l :: k) ((d, .val (.agg cs.toArray)) :: E) ι L G) : X C (.ops all (⟨some d, .load t x, ty, pos, af, g⟩ :: l) :: k) E ι L G := by
 refine S_val hg (by intro c h; cases h) hN ?_ hk
 intro a w hE hw
 have ex := ev_sound hE hx
 simp only [denO, Option.some.injEq] at ex
 have hcs := run_loadCells_list (P := C.P) (w := w) ad cs (fun j v hj => gcell_emb hw.emb (gcells_at hc j v hj))
 rw [hl] at hcs
 simp only [execOp, ← ex]
 simp [Instr.loadAt, loadVar, Instr.sureAddr, tyOk_agg (hT _ _ ht), tyOk_size (hT _ _ ht), TK.isAgg, hcs]
end
theorem owns_lt {ι : Ids} {w : World} {L : List Ent} {Ss : List (Nat → Prop)} (ho : owns ι w L Ss) : ∀ S ∈ Ss, ∀ b, S b → b < w.heap.size := by
 induction L generalizing Ss with
 | nil => cases Ss with
  | nil => intro S h; cases h
  | cons => simp [owns] at ho
 | cons e L ih =>
  cases Ss with
  | nil => simp [owns] at ho
  | cons S Ss =>
   obtain ⟨h1, h2, h3⟩ := ho
   intro S' hS' b hb
   rcases List.mem_cons.1 hS' with rfl | hS'
   ·cases e with
    | blk j ty cs =>
     obtain ⟨c, vs, hc, hd, hh, hSc⟩ := h1
     rw [(hSc b).1 hb]
     exact (Array.getElem?_eq_some_iff.1 hh).1
    | hp j A => exact A.lt _ _ h1 b hb
   ·exact ih h3 S' hS' b hb
theorem denC_ids {ι : Ids} {c : Cel} {v : Value} (h : denC ι c = some v) {d b : Nat} (hd : lookI d ι = none) : denC ((d, b) :: ι) c = some v := by
 cases c with
 | v x => exact h
 | p k o =>
  simp only [denC, lookI] at h ⊢
  split at h
  ·rename_i c hc
   rw [if_neg (by rintro rfl; rw [hd] at hc; cases hc), hc]
   exact h
  ·cases h
 | s k o n m =>
  simp only [denC, lookI] at h ⊢
  split at h
  ·rename_i c hc
   rw [if_neg (by rintro rfl; rw [hd] at hc; cases hc), hc]
   exact h
  ·cases h
theorem denL_ids {ι : Ids} {l : List Cel} {vs : List Value} (h : denL ι l = some vs) {d b : Nat} (hd : lookI d ι = none) : denL ((d, b) :: ι) l = some vs := by
 induction l generalizing vs with
 | nil => exact h
 | cons c l ih =>
  obtain ⟨v, r, rfl, h1, h2⟩ := denL_cons h
  simp [denL, denC_ids h1 hd, ih h2]
theorem owns_ids {ι : Ids} {w : World} {L : List Ent} {Ss : List (Nat → Prop)} (ho : owns ι w L Ss) {d b : Nat} (hd : lookI d ι = none) : owns ((d, b) :: ι) w L Ss := by
 induction L generalizing Ss with
 | nil => cases Ss with
  | nil => trivial
  | cons => simp [owns] at ho
 | cons e L ih =>
  cases Ss with
  | nil => simp [owns] at ho
  | cons S Ss =>
   obtain ⟨h1, h2, h3⟩ := ho
   refine ⟨?_, h2, ih h3⟩
   cases e with
   | blk j ty cs =>
    obtain ⟨c, vs, hc, hdv, hh, hS⟩ := h1
    refine ⟨c, vs, ?_, denL_ids hdv hd, hh, hS⟩
    simp only [lookI]
    rw [if_neg (by rintro rfl; rw [hd] at hc; cases hc)]
    exact hc
   | hp j A => exact h1
theorem denO_ids {ι : Ids} {s : Sym} {v : Value} (h : denO ι s = some v) {d b : Nat} (hd : lookI d ι = none) : denO ((d, b) :: ι) s = some v := by
 cases s with
 | ptr k o =>
  simp only [denO, lookI] at h ⊢
  split at h
  ·rename_i c hc
   rw [if_neg (by rintro rfl; rw [hd] at hc; cases hc), hc]
   exact h
  ·cases h
 | slc k o n m =>
  simp only [denO, lookI] at h ⊢
  split at h
  ·rename_i c hc
   rw [if_neg (by rintro rfl; rw [hd] at hc; cases hc), hc]
   exact h
  ·cases h
 | agg l =>
  simp only [denO] at h ⊢
  split at h
  ·rename_i vs hvs; rw [denL_ids hvs hd]; exact h
  ·cases h
 | _ => exact h
theorem AgE.ids {ι : Ids} {E : Env} {a : Act} (h : AgE ι E a) {d b : Nat} (hd : lookI d ι = none) : AgE ((d, b) :: ι) E a := by
 intro i s hi
 obtain ⟨v, hv, ht⟩ := h i s hi
 exact ⟨v, denO_ids hv hd, ht⟩
theorem SatW.alloc {C : Ctx} {ι : Ids} {L : List Ent} {G : PH} {w : World} (h : SatW C ι L G w) {d t : Nat} (hd : lookI d ι = none) (cs : List Cel) {vs : List Value} (hcs : denL ι cs = some vs) :
  SatW C ((d, w.heap.size) :: ι) (.blk d t cs :: L) G (w.alloc (.cells vs.toArray t)) := by
 obtain ⟨Ss, ho, hS⟩ := h.own
 have hold : ∀ x, x ≠ w.heap.size → (w.alloc (.cells vs.toArray t)).heap[x]? = w.heap[x]? := by
  intro x hx
  show (w.heap.push _)[x]? = _
  rw [Array.getElem?_push, if_neg hx]
 have hlt := owns_lt ho
 refine ⟨h.os, h.tape, h.output, by have := h.size; simp; omega, ?_, ?_, (fun x => x = w.heap.size) :: Ss, ⟨⟨w.heap.size, vs, by simp [lookI], denL_ids hcs hd, heap_alloc_new w _, fun x => Iff.rfl⟩, ?_, ?_⟩, ?_⟩
 ·intro x hx hn
  rw [hold x (by have := h.size; omega)]
  exact h.keep x hx hn
 ·intro x o hx
  have := h.emb x o hx
  rw [hold x (by have := (Array.getElem?_eq_some_iff.1 this).1; omega)]
  exact this
 ·rintro T hT b rfl hb
  have := hlt T hT _ hb
  omega
 ·exact owns_far (owns_ids ho hd) (· = w.heap.size) hold fun T hT x hx e => by have := hlt T hT x hx; omega
 ·intro S hS' b hb
  rcases List.mem_cons.1 hS' with rfl | hS'
  ·refine ⟨?_, .inr (by have := h.size; omega)⟩
   cases hG : G b with
   | none => rfl
   | some o => have := (Array.getElem?_eq_some_iff.1 (h.emb b o hG)).1; omega
  ·exact hS S hS' b hb
section
variable {C : Ctx} {k : List It} {E : Env} {ι : Ids} {L : List Ent} {G : PH} {all : Array Oper} {l : List Oper}
theorem S_new {d t : Nat} {op : Op} {ty : Nat} {pos : String} {af : Array Edge} {g : Option (Nat × Bool)} (hg : guardOf all E g = .on) (hnd : ∀ c, op ≠ .defer c) (hN : Nat.ble (d + 1) C.n = true) (hd : lookI d ι = none) {cs : List Cel}
  (hr : ∀ a w, AgE ι E a → SatW C ι L G w → ∃ vs, denL ι cs = some vs ∧ (execOp a.eval ⟨some d, op, ty, pos, af, g⟩).run C.P w = .ok (.value (.pointer (some ⟨w.heap.size, 0, none⟩))) (w.alloc (.cells vs.toArray t)))
  (hx : ∀ b, X C (.ops all l :: k) ((d, .ptr d 0) :: E) ((d, b) :: ι) (.blk d t cs :: L) G) : X C (.ops all (⟨some d, op, ty, pos, af, g⟩ :: l) :: k) E ι L G := by
 intro a w h1 h2 h3 h4
 obtain ⟨vs, hvs, hrun⟩ := hr a w h3 h4
 refine wpE_val (guardOf_on h3 hg) hnd hrun ?_
 have hdn : d < a.tmps.size := by rw [h2]; exact Nat.le_of_ble_eq_true hN
 exact hx w.heap.size _ _ h1 (by simp [Act.put, h2]) ((h3.ids hd).put hdn (by simp [denO, lookI])) (h4.alloc hd cs hvs)
theorem S_box {d t : Nat} {x : Operand} {ty : Nat} {pos : String} {af : Array Edge} {g : Option (Nat × Bool)} {s : Sym} {cs : List Cel} (hg : guardOf all E g = .on) (hN : Nat.ble (d + 1) C.n = true) (hd : lookI d ι = none)
  (hx : ev E x = some s) (hc : cellsS s = some cs) (hk : ∀ b, X C (.ops all l :: k) ((d, .ptr d 0) :: E) ((d, b) :: ι) (.blk d t cs :: L) G) : X C (.ops all (⟨some d, .box t x, ty, pos, af, g⟩ :: l) :: k) E ι L G := by
 refine S_new (t := t) (cs := cs) hg (by intro c h; cases h) hN hd ?_ hk
 intro a w hE hw
 have ex := ev_sound hE hx
 exact ⟨_, cellsS_eq hc ex, by simp [execOp, Instr.box, newVar, newRow]⟩
theorem S_alloc {d t : Nat} {ty : Nat} {pos : String} {af : Array Edge} {g : Option (Nat × Bool)} {z : Value} {cs : List Value} (hz : ∀ w, (zeroValue t).run C.P w = .ok z w) (hc : z.cells = cs.toArray) (hg : guardOf all E g = .on) (hN : Nat.ble (d + 1) C.n = true) (hd : lookI d ι = none)
  (hk : ∀ b, X C (.ops all l :: k) ((d, .ptr d 0) :: E) ((d, b) :: ι) (.blk d t (vL cs) :: L) G) : X C (.ops all (⟨some d, .alloc t, ty, pos, af, g⟩ :: l) :: k) E ι L G := by
 refine S_new (t := t) (cs := vL cs) hg (by intro c h; cases h) hN hd ?_ hk
 intro a w hE hw
 exact ⟨cs, denL_vL ι cs, by simp [execOp, Instr.alloc, newVar, newRow, hz, hc]⟩
end
end
section
structure PH.ext (B : Nat) (G G' : PH) : Prop where
 le : G.le G'
 new : ∀ b o, G' b = some o → G b = none → B ≤ b
theorem PH.ext.refl (B : Nat) (G : PH) : PH.ext B G G := ⟨PH.le.refl G, fun b o h h' => by rw [h] at h'; cases h'⟩
theorem PH.ext.trans {B : Nat} {G G' G'' : PH} (h : PH.ext B G G') (h' : PH.ext B G' G'') : PH.ext B G G'' :=
 ⟨h.le.trans h'.le, fun b o hb hn => by
  cases hq : G' b with
  | none => exact h'.new b o hb hq
  | some o' => exact h.new b o' hq hn⟩
theorem PH.ext.mono {B B' : Nat} {G G' : PH} (h : PH.ext B G G') (hB : B' ≤ B) : PH.ext B' G G' := ⟨h.le, fun b o h1 h2 => Nat.le_trans hB (h.new b o h1 h2)⟩
def PureR (G : PH) (w : World) (Post : Value → PH → Prop) (e : Ending) (w' : World) : Prop :=
 ∃ v G', e = .returned v ∧ Post v G' ∧ PH.ext w.heap.size G G' ∧ Emb G' w' ∧ Below w.heap.size w w'
def Pure (P : Program) (f : FuncId) (vs : List Value) (G : PH) (Post : Value → PH → Prop) : Prop :=
 ∀ w, Emb G w → Calls P f vs.toArray w (PureR G w Post)
def ModR (G : PH) (w : World) (S : Nat → Prop) (Post : Value → PH → HP → Prop) (e : Ending) (w' : World) : Prop :=
 ∃ v G' A' S', e = .returned v ∧ Post v G' A' ∧ A'.holds w' S' ∧ PH.ext w.heap.size G G' ∧ Emb G' w' ∧ (∀ b, S' b → G' b = none ∧ (S b ∨ w.heap.size ≤ b)) ∧
  w'.os = w.os ∧ w'.tape = w.tape ∧ w'.output = w.output ∧ w.heap.size ≤ w'.heap.size ∧ (∀ b, b < w.heap.size → ¬ S b → w'.heap[b]? = w.heap[b]?)
def Mod (P : Program) (f : FuncId) (vs : List Value) (G : PH) (A : HP) (Post : Value → PH → HP → Prop) : Prop :=
 ∀ w S, Emb G w → A.holds w S → (∀ b, S b → G b = none) → Calls P f vs.toArray w (ModR G w S Post)
theorem Pure.mono {P : Program} {f : FuncId} {vs : List Value} {G : PH} {Post Post' : Value → PH → Prop} (h : Pure P f vs G Post) (hp : ∀ v G', G.le G' → Post v G' → Post' v G') : Pure P f vs G Post' :=
 fun w hw => (h w hw).mono fun e w' ⟨v, G', h1, h2, h3, h4⟩ => ⟨v, G', h1, hp v G' h3.le h2, h3, h4⟩
def PC (P : Program) (n : Nat) (fn : Func) (G : PH) (Post : Value → PH → Prop) (w : World) : Ctx := ⟨P, none, n, bodyPost P fn (PureR G w Post), w, fun _ => False, false⟩
theorem Pure.intro {P : Program} {f : FuncId} {fn : Func} {c : Code} {vs : List Value} {G : PH} {Post : Value → PH → Prop} {n : Nat} (hf : P.funcs[f]? = some fn) (hn : fn.ntmps = n) (hb : fn.body = some c) (hle : Nat.ble vs.length n = true)
  (hx : ∀ w, X (PC P n fn G Post w) [.code c] (envOf 0 vs) [] [] G) : Pure P f vs G Post :=
 fun w hw => Enter hf hb hn hle (SatW.start hw) (hx w)
section
variable {P : Program} {fn : Func} {n : Nat} {G0 G : PH} {Post : Value → PH → Prop} {w0 : World} {k : List It} {E : Env} {ι : Ids} {L : List Ent}
theorem SatW.pureR {w : World} (h : SatW (PC P n fn G0 Post w0) ι L G w) (hx : PH.ext w0.heap.size G0 G) {v : Value} (hp : Post v G) : PureR G0 w0 Post (.returned v) w :=
 ⟨v, G, rfl, hp, hx, h.emb, h.below fun _ h => h⟩
theorem S_retP {t : Nat} (hr : fn.results = #[.tmp t]) {s : Sym} (hl : look t E = some s) {v : Value} (hv : denO ι s = some v) (hx : PH.ext w0.heap.size G0 G) (hp : Post v G) : X (PC P n fn G0 Post w0) (.code .ret :: k) E ι L G :=
 S_ret1 ⟨rfl, rfl⟩ hr hl hv fun w hw => hw.pureR hx hp
end
section
variable {C : Ctx} {k : List It} {E : Env} {ι : Ids} {L : List Ent} {G : PH} {all : Array Oper} {l : List Oper}
def evs (ι : Ids) (E : Env) : List Operand → Option (List Value)
 | [] => some []
 | x :: xs => match ev E x with
  | some s => match denO ι s with
   | some v => match evs ι E xs with
    | some vs => some (v :: vs)
    | none => none
   | none => none
  | none => none
theorem evs_sound {a : Act} (hE : AgE ι E a) {xs : List Operand} {vs : List Value} (h : evs ι E xs = some vs) : xs.map a.eval = vs := by
 induction xs generalizing vs with
 | nil => simp [evs] at h; simp [h]
 | cons x xs ih =>
  simp only [evs] at h
  split at h
  ·rename_i s hx
   split at h
   ·rename_i v hv
    split at h
    ·rename_i us hu; cases h
     have ex := ev_sound hE hx
     rw [hv] at ex
     simp only [Option.some.injEq] at ex
     simp [← ex, ih hu]
    ·cases h
   ·cases h
  ·cases h
theorem wpE_call {a : Act} {w : World} {d : Nat} {fv : Operand} {xs : Array Operand} {ats : Array TypeId} {ty : Nat} {pos : String} {af : Array Edge} {g : Option (Nat × Bool)} {f : FuncId} {cap : Array Value} {vs : List Value} (hg : Region.wanted ⟨some d, .call ⟨.value fv, xs, ats⟩, ty, pos, af, g⟩ (yielded all a.tmps) = true)
  (hf : a.eval fv = .func (.func f) #[] cap) (hvs : xs.toList.map a.eval = vs) (hcf : ∀ args w, (callFunc f args).run C.P w = .ok (.enter f args) w) {R : Value → World → Prop}
  (hc : Calls C.P f (vs ++ cap.toList).toArray w fun e w' => ∃ v, e = .returned v ∧ R v w')
  (h : ∀ v w', R v w' → wpE C (.ops all l :: k) .normal (a.put (some d) v) w') : wpE C (.ops all (⟨some d, .call ⟨.value fv, xs, ats⟩, ty, pos, af, g⟩ :: l) :: k) .normal a w := by
 show wpListIn _ _ _ _ _ _ _ _
 unfold wpListIn
 rw [if_pos hg]
 refine ⟨fun _ _ => trivial, ?_⟩
 rw [Oper.semAt_eq _ _ _ (by intro c h; cases h)]
 have hrun : (execOp a.eval ⟨some d, .call ⟨.value fv, xs, ats⟩, ty, pos, af, g⟩).run C.P w = .ok (.enter f (vs ++ cap.toList).toArray) w := by
  have e1 : xs.map a.eval = vs.toArray := by
   rw [← hvs]; cases xs; simp
  simp only [execOp, resolve, hf]
  simp [Deferred.ofValue, invoke, hcf, e1]
  done
 rw [hrun]
 simp only [Oper.uponIn]
 refine ⟨fun h => by simp [FW, Fence.wide] at h, ?_⟩
 refine callsIn_FW.2 (hc.mono ?_)
 rintro e w' ⟨v, rfl, hR⟩
 exact h v w' hR
theorem SatW.pure {w w' : World} {G' : PH} (h : SatW C ι L G w) (h4 : Emb G' w') (h5 : ∀ b o, G' b = some o → G b = none → w.heap.size ≤ b) (h6 : Below w.heap.size w w') : SatW C ι L G' w' := by
 obtain ⟨Ss, ho, hS⟩ := h.own
 have hlt := owns_lt ho
 refine ⟨h6.os.trans h.os, h6.tape.trans h.tape, h6.output.trans h.output, Nat.le_trans h.size h6.size, ?_, h4, Ss, ?_, ?_⟩
 ·intro b hb hn
  rw [h6.block b (Nat.lt_of_lt_of_le hb h.size)]
  exact h.keep b hb hn
 ·refine owns_far ho (fun x => w.heap.size ≤ x) (fun x hx => h6.block x (by omega)) fun T hT x hx hge => ?_
  have := hlt T hT x hx
  omega
 ·intro S hSm b hb
  obtain ⟨hG, hf⟩ := hS S hSm b hb
  refine ⟨?_, hf⟩
  cases hq : G' b with
  | none => rfl
  | some o =>
   have := h5 b o hq hG
   have := hlt S hSm b hb
   omega
theorem S_call {d f : Nat} {xs : Array Operand} {ats : Array TypeId} {ty : Nat} {pos : String} {af : Array Edge} {g : Option (Nat × Bool)} {vs : List Value} {Post : Value → PH → Prop} (hcf : ∀ args w, (callFunc f args).run C.P w = .ok (.enter f args) w)
  (hc : Pure C.P f vs G Post) (hg : guardOf all E g = .on) (hN : Nat.ble (d + 1) C.n = true) (hxs : evs ι E xs.toList = some vs)
  (hk : ∀ v G', Post v G' → PH.ext C.w0.heap.size G G' → X C (.ops all l :: k) ((d, .val v) :: E) ι L G') : X C (.ops all (⟨some d, .call ⟨.value (.func f), xs, ats⟩, ty, pos, af, g⟩ :: l) :: k) E ι L G := by
 intro a w h1 h2 h3 h4
 have hdn : d < a.tmps.size := by rw [h2]; exact Nat.le_of_ble_eq_true hN
 have hcc := hc w h4.emb
 refine wpE_call (f := f) (cap := #[]) (vs := vs) (guardOf_on h3 hg) J (evs_sound h3 hxs) hcf (R := fun v w' => ∃ G', Post v G' ∧ PH.ext w.heap.size G G' ∧ Emb G' w' ∧ Below w.heap.size w w') ?_ ?_
 ·simp only [List.append_nil, List.toList_toArray]
  exact hcc.mono fun e w' ⟨v, G', e1, e2⟩ => ⟨v, e1, G', e2⟩
 ·rintro v w' ⟨G', hp, hext, hemb, hb⟩
  exact hk v G' hp (hext.mono h4.size) _ _ (h1.mono hext.le) (by simp [Act.put, h2]) (h3.put hdn J) (h4.pure hemb hext.new hb)
end
def subE (ι : Ids) (E : Env) (ι' : Ids) : Env → Prop
 | [] => True
 | (i, s) :: E' => (∃ s', look i E = some s' ∧ denO ι s' = denO ι' s) ∧ subE ι E ι' E'
theorem subE_sound {ι ι' : Ids} {E E' : Env} {a : Act} (h : subE ι E ι' E') (hE : AgE ι E a) : AgE ι' E' a := by
 induction E' with
 | nil => intro i s hi; cases hi
 | cons x E' ih =>
  obtain ⟨j, s⟩ := x
  obtain ⟨⟨s', hl, hd⟩, h2⟩ := h
  intro i t hi
  simp only [look] at hi
  split at hi
  ·rename_i e; subst e; cases hi
   obtain ⟨v, hv, ht⟩ := hE _ _ hl
   exact ⟨v, by rw [← hd]; exact hv, ht⟩
  ·exact ih h2 i t hi
inductive subL (ι ι' : Ids) : List Ent → List Ent → Prop
 | nil : subL ι ι' [] []
 | drop {e L L'} : subL ι ι' L L' → subL ι ι' (e :: L) L'
 | blk {k k' t cs cs' L L'} : lookI k ι = lookI k' ι' → denL ι cs = denL ι' cs' → subL ι ι' L L' → subL ι ι' (.blk k t cs :: L) (.blk k' t cs' :: L')
 | hp {k k' A L L'} : subL ι ι' L L' → subL ι ι' (.hp k A :: L) (.hp k' A :: L')
theorem subL_sound {ι ι' : Ids} {w : World} {L L' : List Ent} (h : subL ι ι' L L') {Ss : List (Nat → Prop)} (ho : owns ι w L Ss) : ∃ Ss', owns ι' w L' Ss' ∧ ∀ S ∈ Ss', S ∈ Ss := by
 induction h generalizing Ss with
 | nil => cases Ss with
  | nil => exact ⟨[], trivial, fun _ h => h⟩
  | cons => simp [owns] at ho
 | drop _ ih =>
  cases Ss with
  | nil => simp [owns] at ho
  | cons S Ss =>
   obtain ⟨Ss', h1, h2⟩ := ih ho.2.2
   exact ⟨Ss', h1, fun S hS => List.mem_cons_of_mem _ (h2 S hS)⟩
 | blk he hc _ ih =>
  cases Ss with
  | nil => simp [owns] at ho
  | cons S Ss =>
   obtain ⟨⟨b, vs, hb, hdv, hh, hS⟩, hd, hr⟩ := ho
   obtain ⟨Ss', h1, h2⟩ := ih hr
   refine ⟨S :: Ss', ⟨⟨b, vs, he ▸ hb, hc ▸ hdv, hh, hS⟩, fun T hT => hd T (h2 T hT), h1⟩, ?_⟩
   intro T hT
   rcases List.mem_cons.1 hT with rfl | hT
   ·exact List.mem_cons_self ..
   ·exact List.mem_cons_of_mem _ (h2 T hT)
 | hp _ ih =>
  cases Ss with
  | nil => simp [owns] at ho
  | cons S Ss =>
   obtain ⟨hA, hd, hr⟩ := ho
   obtain ⟨Ss', h1, h2⟩ := ih hr
   refine ⟨S :: Ss', ⟨hA, fun T hT => hd T (h2 T hT), h1⟩, ?_⟩
   intro T hT
   rcases List.mem_cons.1 hT with rfl | hT
   ·exact List.mem_cons_self ..
   ·exact List.mem_cons_of_mem _ (h2 T hT)
theorem SatW.sub {C : Ctx} {ι ι' : Ids} {L L' : List Ent} {G : PH} {w : World} (h : SatW C ι L G w) (hL : subL ι ι' L L') : SatW C ι' L' G w := by
 obtain ⟨Ss, ho, hS⟩ := h.own
 obtain ⟨Ss', ho', hS'⟩ := subL_sound hL ho
 exact ⟨h.os, h.tape, h.output, h.size, h.keep, h.emb, Ss', ho', fun S hm => hS S (hS' S hm)⟩
section
variable {C : Ctx} {k : List It} {E : Env} {ι : Ids} {L : List Ent} {G : PH}
def St (C : Ctx) (E : Env) (ι : Ids) (L : List Ent) (G : PH) (a : Act) (w : World) : Prop := DfsOk C G a.defers ∧ a.tmps.size = C.n ∧ AgE ι E a ∧ SatW C ι L G w
theorem least {p : Nat → Prop} : ∀ n, p n → ∃ m, p m ∧ ∀ j, p j → m ≤ j := by
 intro n
 induction n using Nat.strongRecOn with
 | _ n ih =>
  intro hn
  by_cases h : ∃ j, j < n ∧ p j
  ·obtain ⟨j, hj, hp⟩ := h
   exact ih j hj hp
  ·exact ⟨n, hn, fun j hj => by
    rcases Nat.lt_or_ge j n with h' | h'
    ·exact absurd ⟨j, h', hj⟩ h
    ·exact h'⟩
open Classical in
noncomputable def leastOf (p : Nat → Prop) : Nat := if h : ∃ m, p m ∧ ∀ j, p j → m ≤ j then Classical.choose h else 0
theorem leastOf_spec {p : Nat → Prop} {n : Nat} (h : p n) : p (leastOf p) ∧ leastOf p ≤ n := by
 have hx : ∃ m, p m ∧ ∀ j, p j → m ≤ j := least n h
 unfold leastOf
 rw [dif_pos hx]
 have := Classical.choose_spec hx
 exact ⟨this.1, this.2 n h⟩
theorem wpE_loopN {c : Code} {a : Act} {w : World} (I : Nat → Act → World → Prop) (n : Nat) (h₀ : I n a w)
  (round : ∀ n a w, I n a w → wpE C (.code c :: .stop (fun a' w' => ∃ m, m < n ∧ I m a' w') :: k) .normal a w) : wpE C (.code (.loop c) :: k) .normal a w := by
 refine wpIn_loop (fun a w => ∃ n, I n a w) (fun a w => leastOf fun n => I n a w) ⟨n, h₀⟩ ?_;rintro a w ⟨n, hn⟩
 obtain ⟨h1, _⟩ := leastOf_spec (p := fun n => I n a w) hn
 refine wpIn_mono (round _ a w h1) ?_
 intro e a' w' q
 cases e with
 | normal =>
  obtain ⟨m, hm, hI⟩ := q
  refine ⟨⟨m, hI⟩, ?_⟩
  obtain ⟨_, h3⟩ := leastOf_spec (p := fun n => I n a' w') hI
  exact Nat.lt_of_le_of_lt h3 hm
 | _ => exact q
theorem S_loop {α : Type} {c : Code} (inv : α → Prop) (μ : α → Nat) (ι' : Ids) (E' : α → Env) (L' : α → List Ent) (G' : α → PH) (x0 : α) (h0 : inv x0) (hG : G = G' x0) (hE : subE ι E ι' (E' x0)) (hL : subL ι ι' L (L' x0))
  (round : ∀ x, inv x → X C (.code c :: .stop (fun a w => ∃ y, (inv y ∧ μ y < μ x) ∧ St C (E' y) ι' (L' y) (G' y) a w) :: k) (E' x) ι' (L' x) (G' x)) : X C (.code (.loop c) :: k) E ι L G := by
 intro a w h1 h2 h3 h4
 refine wpE_loopN (fun n a w => ∃ x, (inv x ∧ μ x = n) ∧ St C (E' x) ι' (L' x) (G' x) a w) (μ x0) ?_ ?_
 ·exact ⟨x0, ⟨h0, J⟩, by rw [← hG]; exact h1, h2, subE_sound hE h3, by rw [← hG]; exact h4.sub hL⟩
 ·rintro n a w ⟨x, ⟨hi, rfl⟩, g1, g2, g3, g4⟩
  have := round x hi a w g1 g2 g3 g4
  refine wpIn_mono this ?_
  intro e a' w' q
  cases e with
  | normal =>
   obtain ⟨y, ⟨hy, hm⟩, hst⟩ := q
   exact ⟨μ y, hm, y, ⟨hy, J⟩, hst⟩
  | _ => exact q
theorem S_stop {I : Act → World → Prop} (h : ∀ a w, St C E ι L G a w → I a w) : X C (.stop I :: k) E ι L G :=
 fun a w h1 h2 h3 h4 => h a w ⟨h1, h2, h3, h4⟩
theorem St.sub {E' : Env} {ι' : Ids} {L' : List Ent} {a : Act} {w : World} (h : St C E ι L G a w) (hE : subE ι E ι' E') (hL : subL ι ι' L L') : St C E' ι' L' G a w :=
 ⟨h.1, h.2.1, subE_sound hE h.2.2.1, h.2.2.2.sub hL⟩
theorem S_again {α : Type} {inv : α → Prop} {m : Nat} {μ : α → Nat} {ι' : Ids} {E' : α → Env} {L' : α → List Ent} {G' : α → PH} (y : α) (h0 : inv y) (hm : μ y < m) (hG : G = G' y) (hE : subE ι E ι' (E' y)) (hL : subL ι ι' L (L' y)) :
  X C (.stop (fun a w => ∃ y, (inv y ∧ μ y < m) ∧ St C (E' y) ι' (L' y) (G' y) a w) :: k) E ι L G :=
 S_stop fun a w h => ⟨y, ⟨h0, hm⟩, by rw [← hG]; exact h.sub hE hL⟩
end
theorem XR {B : Nat} {G : PH} : PH.ext B G G := PH.ext.refl B G
end
end Go.Proofs.YtblildkhbkmmdaaGreatDoor
