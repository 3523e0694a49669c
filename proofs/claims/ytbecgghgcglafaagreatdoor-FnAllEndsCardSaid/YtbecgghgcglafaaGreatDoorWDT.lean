/- Walks of the program's functions, one after the other (part 13); without conditions of their own. -/
import Derived.Test.YtbecgghgcglafaaGreatDoorWM1
import Derived.Test.YtbecgghgcglafaaGreatDoorWM2
import Derived.Test.YtbecgghgcglafaaGreatDoorWM3
import Derived.Test.YtbecgghgcglafaaGreatDoorWM8
import Derived.Test.YtbecgghgcglafaaGreatDoorWM11
import Derived.Test.YtbecgghgcglafaaGreatDoorWM12
set_option linter.unusedVariables false
set_option linter.unusedSimpArgs false
set_option maxRecDepth 100000
set_option maxHeartbeats 4000000
open Go.RowKit
namespace Go.Proofs.YtbecgghgcglafaaGreatDoor
section
section
variable {C : Ctx} {E : Env} {ι : Ids} {L : List Ent} {G : PH} {d : Option Nat} {ty : Nat} {pos : String} {af : Array Edge} {g : Option (Nat × Bool)}
theorem V_loadAE {T : Tab} (hT : tabOk C.P T) {t m : Nat} {os : List Nat} {x : Operand} {ad : Addr} {cs : List Value} (hx : ev E x = some (.val (.pointer (some ad)))) (ht : lookT t T = some ⟨.agg, m, os⟩) (hl : cs.length = m) (hc : gcells G ad cs) : Vl C ι E L G ⟨d, .load t x, ty, pos, af, g⟩ (.agg cs.toArray) := by
 intro a w hE hw
 have ex := ev_sound hE hx
 simp only [denO, Option.some.injEq] at ex
 have hcs := run_loadCells_list (P := C.P) (w := w) ad cs (fun j v hj => gcell_emb hw.emb (gcells_at hc j v hj))
 rw [hl] at hcs
 simp only [execOp, ← ex]
 simp [Instr.loadAt, loadVar, Instr.sureAddr, tyOk_agg (hT _ _ ht), tyOk_size (hT _ _ ht), TK.isAgg, hcs]
end
theorem run_eqS2E {P : Program} (w : World) {t : TypeId} {f0 f1 : Field} {k0 k1 : IntKind} (ht : P.underlying t = some (.struct #[f0, f1])) (hst : P.stoodInHeld t = false) (h0 : P.underlying f0.type = some (.int k0)) (h1 : P.underlying f1.type = some (.int k1)) (n0 : f0.name ≠ "_") (n1 : f1.name ≠ "_") (o0 : f0.offset = 0) (o1 : f1.offset = 1) (p q p' q' : Int) :
  (Op.equal t (.agg #[.int .i64 p, .int .i64 q]) (.agg #[.int .i64 p', .int .i64 q'])).run P w = .ok (decide (p = p') && decide (q = q')) w := by
 have e1 : ∀ d (f : Field) k (a b : Int), P.underlying f.type = some (.int k) → (Op.equalIn (d + 1) f.type (.int .i64 a) (.int .i64 b)).run P w = .ok (decide (a = b)) w := by
  intro d f k a b hf
  simp [Op.equalIn, run_underlying hf]
  rfl
 have h : ∀ d : Nat, (Op.equalIn (d + 2) t (.agg #[.int .i64 p, .int .i64 q]) (.agg #[.int .i64 p', .int .i64 q'])).run P w = .ok (decide (p = p') && decide (q = q')) w := fun d => by
  have a0 := e1 d f0 k0 p p' h0
  have a1 := e1 d f1 k1 q q' h1
  by_cases hp : p = p' <;> by_cases hq : q = q' <;>
  simp [Op.equalIn, run_underlying ht, hst, part, isAgg, run_underlying h0, run_underlying h1, n0, n1, o0, o1, a0, a1, hp, hq] <;> simp_all
 simp [Op.equal, Op.maxDepth, h 9998]
theorem V_neqS2E {C : Ctx} {ι : Ids} {E : Env} {L : List Ent} {G : PH} {d : Option Nat} {ty : Nat} {pos : String} {af : Array Edge} {g : Option (Nat × Bool)} {t t' : Nat} {x y : Operand} {f0 f1 : Field} {k0 k1 : IntKind} {p q p' q' : Int} (hgt : C.P.eqGuardType C.P.depth t = false) (ht : C.P.underlying t = some (.struct #[f0, f1])) (hst : C.P.stoodInHeld t = false) (h0 : C.P.underlying f0.type = some (.int k0)) (h1 : C.P.underlying f1.type = some (.int k1)) (n0 : f0.name ≠ "_") (n1 : f1.name ≠ "_") (o0 : f0.offset = 0) (o1 : f1.offset = 1)
  (hx : ev E x = some (.val (.agg #[.int .i64 p, .int .i64 q]))) (hy : ev E y = some (.val (.agg #[.int .i64 p', .int .i64 q']))) : Vl C ι E L G ⟨d, .binOp .neq t x y t', ty, pos, af, g⟩ (.bool (!(decide (p = p') && decide (q = q')))) := by
 intro a w hE _
 have ex := ev_sound hE hx
 have ey := ev_sound hE hy
 simp only [denO, Option.some.injEq] at ex ey
 simp only [execOp, ← ex, ← ey]
 have he := run_eqS2E (P := C.P) w ht hst h0 h1 n0 n1 o0 o1 p q p' q'
 simp [eqGuard, binOp, hgt, he]
def s2BE (P : Program) (t : Nat) : Bool := match P.underlying t with
 | some (.struct fs) => match fs.toList with
  | [f0, f1] => (match P.underlying f0.type with | some (.int _) => true | _ => false) && (match P.underlying f1.type with | some (.int _) => true | _ => false) && !(f0.name == "_") && !(f1.name == "_") && Nat.beq f0.offset 0 && Nat.beq f1.offset 1
  | _ => false
 | _ => false
theorem s2_ofE {P : Program} {t : Nat} (h : s2BE P t = true) : ∃ f0 f1 k0 k1, P.underlying t = some (.struct #[f0, f1]) ∧ P.underlying f0.type = some (.int k0) ∧ P.underlying f1.type = some (.int k1) ∧ f0.name ≠ "_" ∧ f1.name ≠ "_" ∧ f0.offset = 0 ∧ f1.offset = 1 := by
 unfold s2BE at h
 split at h
 ·rename_i fs hu
  split at h
  ·rename_i f0 f1 hf
   simp only [Bool.and_eq_true, Bool.not_eq_true', beq_eq_false_iff_ne, ne_eq] at h
   obtain ⟨⟨⟨⟨⟨h1, h2⟩, h3⟩, h4⟩, h5⟩, h6⟩ := h
   split at h1
   ·rename_i k0 e0
    split at h2
    ·rename_i k1 e1
     refine ⟨f0, f1, k0, k1, ?_, e0, e1, h3, h4, Nat.eq_of_beq_eq_true h5, Nat.eq_of_beq_eq_true h6⟩
     rw [hu, ← Array.toArray_toList (xs := fs), hf]
    ·cases h2
   ·cases h1
  ·cases h
 ·cases h
end
section
attribute [local irreducible] X Pure Mod
def Sam {α : Type} (x y : α) (G : PH) (r : Value) (G' : PH) : Prop := (∃ e, r = .bool e ∧ (e = true ↔ x = y)) ∧ G' = G
theorem take_one {α : Type} {l l' : List α} {i : Nat} (h : i < l.length) (h' : i < l'.length) (e : l.take i = l'.take i) (ei : l[i] = l'[i]) : l.take (i + 1) = l'.take (i + 1) := by
 rw [List.take_succ_eq_append_getElem h, List.take_succ_eq_append_getElem h', e, ei]
theorem ne_at {α : Type} {l l' : List α} {i : Nat} (h : i < l.length) (h' : i < l'.length) (e : l[i] ≠ l'[i]) : l ≠ l' := by
 rintro rfl; exact e J
theorem sam_len {α : Type} {l l' : List α} {G : PH} (h : l.length ≠ l'.length) : Sam l l' G (.bool false) G := ⟨⟨false, rfl, ⟨fun h => (by cases h), fun e => absurd (by rw [e]) h⟩⟩, rfl⟩
theorem sam_no {α : Type} {x y : α} {G : PH} (h : x ≠ y) : Sam x y G (.bool false) G := ⟨⟨false, rfl, ⟨fun h => (by cases h), fun e => absurd e h⟩⟩, rfl⟩
theorem sam_yes {α : Type} {x y : α} {G : PH} (h : x = y) : Sam x y G (.bool true) G := ⟨⟨true, rfl, ⟨fun _ => h, fun _ => rfl⟩⟩, rfl⟩
theorem sam_end {α : Type} {l l' : List α} {G : PH} {i : Nat} (hi : i = l.length) (hl : l.length = l'.length) (e : l.take i = l'.take i) : Sam l l' G (.bool true) G := by
 subst hi
 rw [List.take_length, hl, List.take_length] at e
 exact sam_yes e
theorem c_EqIntS (l l' : List Int) (v v' : Value) (G : PH) (h : IntsU G l v) (h' : IntsU G l' v') : Pure Tryz.prog 53 [v, v'] G (Sam l l' G) := by
 obtain ⟨A, c, rfl, hl1, _⟩ := id h
 obtain ⟨A', c', rfl, _⟩ := id h'
 refine Pure.intro Tryz.func53 Tryz.ntmps53 J J fun w => ?_; refine Va J J ?_
 by_cases hl : l.length = l'.length
 rotate_left
 ·refine RT J (by simp; omega) ?_
  refine Va J J ?_;exact S_retp (Res.t1 Tryz.results53 J J) XR (sam_len hl)
 refine RF J (by simp; omega) ?_;refine Va J J ?_;refine S_loop (α := Nat) (fun i => i ≤ l.length ∧ l.take i = l'.take i) (fun i => l.length - i) [] (fun i => [(13, .val (.int .i64 (i : Nat))), (12, .val (.int .i64 (l.length : Nat))), (0, .val (.slice A l.length c)), (1, .val (.slice A' l'.length c'))]) (fun _ => []) (fun _ => G) 0 ⟨Nat.zero_le _, J⟩ J ⟨⟨_, J, J⟩, ⟨_, J, J⟩, ⟨_, J, J⟩, ⟨_, J, J⟩, trivial⟩ .nil ?_
 rintro i ⟨hi, ht⟩
 refine Va J J ?_
 refine S_condp J (fun h5 => ?_) (fun h5 => ?_) <;> refine Va J J ?_
 ·have hil : i < l.length := by omega
  have hil' : i < l'.length := by omega
  obtain ⟨ad, cs, rfl, hcs, rfl⟩ := Sr_at h hil
  obtain ⟨ad', cs, rfl, hcs', rfl⟩ := Sr_at h' hil'
  refine Ds J J J ?_;refine Da J J ?_;refine D_val 2 J J J J J J J J J (V_index Tk J J J J (by omega) (by omega)) ?_;refine Da J J ?_;refine D_val 3 J J J J J J J J J (V_load Tk J J J (by simpa using hcs.1)) ?_;refine Da J J ?_;refine D_val 6 J J J J J J J J J (V_index Tk J J J J (by omega) (by omega)) ?_;refine Da J J ?_;refine D_val 7 J J J J J J J J J (V_load Tk J J J (by simpa using hcs'.1)) ?_
  refine Da J J ?_;refine DD ?_;refine Va J J ?_
  by_cases he : l[i] = l'[i]
  ·refine RF J (by simpa using he) ?_
   refine Va J J ?_;refine S_add J J J J (by omega) ?_;refine Va J J ?_;exact S_again (i + 1) ⟨by omega, take_one hil hil' ht he⟩ (by omega) J ⟨⟨_, J, by simp [denO]⟩, ⟨_, J, J⟩, ⟨_, J, J⟩, ⟨_, J, J⟩, trivial⟩ .nil
  ·refine RT J (by simpa using he) ?_
   refine Va J J ?_;exact S_retp (Res.t1 Tryz.results53 J J) XR (sam_no (ne_at hil hil' he))
 ·exact S_retp (Res.t1 Tryz.results53 J J) XR (sam_end (by omega) hl ht)
theorem g_sayS : Tryz.prog.eqGuardType Tryz.prog.depth 71 = false := by kernel_rfl
theorem u_sayS : s2BE Tryz.prog 71 = true := by kernel_rfl
theorem s_sayS : Tryz.prog.stoodInHeld 71 = false := by kernel_rfl
theorem c_EqSayS (l l' : List (Int × Int)) (v v' : Value) (G : PH) (h : SaysU G l v) (h' : SaysU G l' v') : Pure Tryz.prog 55 [v, v'] G (Sam l l' G) := by
 obtain ⟨A, c, rfl, hl1, _⟩ := id h
 obtain ⟨A', c', rfl, _⟩ := id h'
 obtain ⟨f0, f1, k0, k1, s1, s2, s3, s4, s5, s6, s7⟩ := s2_ofE u_sayS
 refine Pure.intro Tryz.func55 Tryz.ntmps55 J J fun w => ?_; refine Va J J ?_
 by_cases hl : l.length = l'.length
 rotate_left
 ·refine RT J (by simp; omega) ?_
  refine Va J J ?_;exact S_retp (Res.t1 Tryz.results55 J J) XR (sam_len hl)
 refine RF J (by simp; omega) ?_;refine Va J J ?_;refine S_loop (α := Nat) (fun i => i ≤ l.length ∧ l.take i = l'.take i) (fun i => l.length - i) [] (fun i => [(13, .val (.int .i64 (i : Nat))), (12, .val (.int .i64 (l.length : Nat))), (0, .val (.slice A l.length c)), (1, .val (.slice A' l'.length c'))]) (fun _ => []) (fun _ => G) 0 ⟨Nat.zero_le _, J⟩ J ⟨⟨_, J, J⟩, ⟨_, J, J⟩, ⟨_, J, J⟩, ⟨_, J, J⟩, trivial⟩ .nil ?_
 rintro i ⟨hi, ht⟩
 refine Va J J ?_
 refine S_condp J (fun h5 => ?_) (fun h5 => ?_) <;> refine Va J J ?_
 ·have hil : i < l.length := by omega
  have hil' : i < l'.length := by omega
  obtain ⟨ad, cs, rfl, hcs, rfl⟩ := Sr_at h hil
  obtain ⟨ad', cs, rfl, hcs', rfl⟩ := Sr_at h' hil'
  refine Ds J J J ?_;refine Da J J ?_;refine D_val 2 J J J J J J J J J (V_index Tk J J J J (by omega) (by omega)) ?_;refine Da J J ?_;refine D_val 3 J J J J J J J J J (V_loadAE Tk J J J (by simpa using hcs)) ?_;refine Da J J ?_;refine D_val 6 J J J J J J J J J (V_index Tk J J J J (by omega) (by omega)) ?_;refine Da J J ?_;refine D_val 7 J J J J J J J J J (V_loadAE Tk J J J (by simpa using hcs')) ?_
  refine Da J J ?_;refine D_val 8 J J J J J J J J J (V_neqS2E g_sayS s1 s_sayS s2 s3 s4 s5 s6 s7 J J) ?_;refine Da J J ?_;refine DD ?_;refine Va J J ?_
  by_cases he : l[i] = l'[i]
  ·refine RF J (by rw [he]; simp) ?_
   refine Va J J ?_;refine S_add J J J J (by omega) ?_;refine Va J J ?_;exact S_again (i + 1) ⟨by omega, take_one hil hil' ht he⟩ (by omega) J ⟨⟨_, J, by simp [denO]⟩, ⟨_, J, J⟩, ⟨_, J, J⟩, ⟨_, J, J⟩, trivial⟩ .nil
  ·have he2 : ¬ (l[i].1 = l'[i].1 ∧ l[i].2 = l'[i].2) := fun e => he (Prod.ext e.1 e.2)
   refine RT rfl (by rcases Classical.em (l[i].1 = l'[i].1) with h1 | h1 <;> rcases Classical.em (l[i].2 = l'[i].2) with h2 | h2 <;> simp_all) ?_
   refine Va J J ?_;exact S_retp (Res.t1 Tryz.results55 J J) XR (sam_no (ne_at hil hil' he))
 ·exact S_retp (Res.t1 Tryz.results55 J J) XR (sam_end (by omega) hl ht)
def SamS (L : List Stm) : Prop := ∀ (L' : List Stm) (v v' : Value) (G : PH), Sts G L v → Sts G L' v' → Pure Tryz.prog 54 [v, v'] G (Sam L L' G)
theorem c_same1S (s s' : Stm) (hx : SamS s.body) (hy : SamS s.els) (cs cs' : List Value) (G : PH) (h : Stm.rep G s cs) (h' : Stm.rep G s' cs') : Pure Tryz.prog 74 [.agg cs.toArray, .agg cs'.toArray] G (Sam s s' G) := by
 obtain ⟨k, a, b, n, x, y⟩ := s
 obtain ⟨k', a', b', n', x', y'⟩ := s'
 simp only [Stm.body, Stm.els] at hx hy
 obtain ⟨vx, vy, rfl, _, _, _, _, qx, qy⟩ := Stm.rep_iff.1 h
 obtain ⟨vx', vy', rfl, _, _, _, _, qx', qy'⟩ := Stm.rep_iff.1 h'
 obtain ⟨A1, c1, rfl, _⟩ := id qx
 obtain ⟨A2, c2, rfl, _⟩ := id qy
 obtain ⟨A3, c3, rfl, _⟩ := id qx'
 obtain ⟨A4, c4, rfl, _⟩ := id qy'
 refine Pure.intro Tryz.func74 Tryz.ntmps74 J J fun w => ?_; refine Va J J ?_;refine S_box J J J J J fun b2 => ?_;refine Va J J ?_;refine S_box J J J J J fun b3 => ?_;refine Va J J ?_
 by_cases h4 : k = k' ∧ a = a' ∧ b = b' ∧ n = n'
 rotate_left
 ·refine GF J J (by
   by_cases h1 : k = k' <;> by_cases h2 : a = a' <;> by_cases h3 : b = b' <;> by_cases h5 : n = n' <;> simp_all) ?_
  refine Va J J ?_;exact S_retp (Res.t1 Tryz.results74 J J) XR (sam_no fun e => h4 (by cases e; exact ⟨J, J, J, J⟩))
 obtain ⟨rfl, rfl, rfl, rfl⟩ := h4
 refine GT J J (by simp) ?_;refine Va J J ?_;refine S_call Tryz.call54 (hx x' _ _ _ qx qx') J J J ?_;rintro v G' ⟨⟨e1, rfl, he1⟩, rfl⟩ _
 refine Va J J ?_
 cases e1
 ·refine GF J J (by simp) ?_
  refine Va J J ?_;exact S_retp (Res.t1 Tryz.results74 J J) XR (sam_no fun e => by cases e; exact absurd (he1.2 J) (by simp))
 obtain rfl := he1.1 rfl
 refine GT J J (by simp) ?_;refine Va J J ?_;refine S_call Tryz.call54 (hy y' _ _ _ qy qy') J J J ?_;rintro v G' ⟨⟨e2, rfl, he2⟩, rfl⟩ _
 refine Va J J ?_;refine S_retp (Res.t1 Tryz.results74 rfl rfl) XR ⟨⟨e2, rfl, he2.trans ⟨fun e => by rw [e], fun e => by cases e; rfl⟩⟩, rfl⟩
theorem c_EqFStmS (L L' : List Stm) (v v' : Value) (G : PH) (h : Sts G L v) (h' : Sts G L' v') (hc : ∀ k (hk : k < L.length), SamS L[k].body ∧ SamS L[k].els) : Pure Tryz.prog 73 [v, v', .func (.func 74) #[] #[]] G (Sam L L' G) := by
 obtain ⟨A, c, rfl, hl1, _⟩ := id h
 obtain ⟨A', c', rfl, _⟩ := id h'
 refine Pure.intro Tryz.func73 Tryz.ntmps73 J J fun w => ?_; refine Va J J ?_
 by_cases hl : L.length = L'.length
 rotate_left
 ·refine RT J (by simp; omega) ?_
  refine Va J J ?_;exact S_retp (Res.t1 Tryz.results73 J J) XR (sam_len hl)
 refine RF J (by simp; omega) ?_;refine Va J J ?_;refine S_loop (α := Nat) (fun i => i ≤ L.length ∧ L.take i = L'.take i) (fun i => L.length - i) [] (fun i => [(17, .val (.int .i64 (i : Nat))), (16, .val (.int .i64 (L.length : Nat))), (15, .val (.slice A L.length c)), (1, .val (.slice A' L'.length c')), (2, .val (.func (.func 74) #[] #[]))]) (fun _ => []) (fun _ => G) 0 ⟨Nat.zero_le _, J⟩ J ⟨⟨_, J, J⟩, ⟨_, J, J⟩, ⟨_, J, J⟩, ⟨_, J, J⟩, ⟨_, J, J⟩, trivial⟩ .nil ?_
 rintro i ⟨hi, ht⟩
 refine Va J J ?_
 refine S_condp J (fun h5 => ?_) (fun h5 => ?_) <;> refine Va J J ?_
 ·have hil : i < L.length := by omega
  have hil' : i < L'.length := by omega
  obtain ⟨ad, cs, rfl, hcs, hr⟩ := Sr_at h hil
  obtain ⟨ad', cs', rfl, hcs', hr'⟩ := Sr_at h' hil'
  obtain ⟨hx, hy⟩ := hc i hil
  have hgo := take_one hil hil' ht
  have hno := ne_at hil hil'
  generalize L[i] = s at hr hx hy hgo hno
  generalize L'[i] = s' at hr' hgo hno
  have hcl := c_same1S s s' hx hy _ _ G hr hr'
  obtain ⟨q1, q2, q3, q4, q5, q6⟩ := s
  obtain ⟨r1, r2, r3, r4, r5, r6⟩ := s'
  obtain ⟨vx, vy, rfl, _, _, _, _, qx, qy⟩ := Stm.rep_iff.1 hr
  obtain ⟨vx', vy', rfl, _, _, _, _, qx', qy'⟩ := Stm.rep_iff.1 hr'
  obtain ⟨B1, d1, rfl, _⟩ := id qx
  obtain ⟨B2, d2, rfl, _⟩ := id qy
  obtain ⟨B3, d3, rfl, _⟩ := id qx'
  obtain ⟨B4, d4, rfl, _⟩ := id qy'
  refine S_index Tk J J J J J J (by omega) (by omega) ?_;refine Va J J ?_;refine S_loadA Tk J J J J J (by simpa using hcs) ?_;refine Va J J ?_;refine AZ ZT_ok J J J J fun b8 => ?_;refine Va J J ?_;refine S_index Tk J J J J J J (by omega) (by omega) ?_;refine Va J J ?_;refine S_loadA Tk J J J J J (by simpa using hcs') ?_;refine Va J J ?_;refine AZ ZT_ok J J J J fun b9 => ?_;refine Va J J ?_;refine S_callV (vs := [.agg #[.int .i64 q1, .int .i64 q2, .int .i64 q3, .int .i64 q4, .slice B1 q5.length d1, .slice B2 q6.length d2], .agg #[.int .i64 r1, .int .i64 r2, .int .i64 r3, .int .i64 r4, .slice B3 r5.length d3, .slice B4 r6.length d4]]) J Tryz.call74 hcl J J J ?_
  rintro v G' ⟨⟨e, rfl, he⟩, rfl⟩ _
  refine Va J J ?_
  cases e
  ·refine RT J J ?_
   refine Va J J ?_;exact S_retp (Res.t1 Tryz.results73 J J) XR (sam_no (hno fun e => absurd (he.2 e) (by simp)))
  ·refine RF J J ?_
   refine Va J J ?_;refine S_add J J J J (by omega) ?_;refine Va J J ?_;exact S_again (i + 1) ⟨by omega, hgo (he.1 J)⟩ (by omega) J ⟨⟨_, J, by simp [denO]⟩, ⟨_, J, J⟩, ⟨_, J, J⟩, ⟨_, J, J⟩, ⟨_, J, J⟩, trivial⟩ (by repeat (first | exact .nil | apply subL.drop))
 ·exact S_retp (Res.t1 Tryz.results73 J J) XR (sam_end (by omega) hl ht)
theorem c_sameStmtsS (L : List Stm) (hc : ∀ k (hk : k < L.length), SamS L[k].body ∧ SamS L[k].els) : SamS L := by
 intro L' v v' G h h'
 have hq := c_EqFStmS L L' v v' G h h' hc
 obtain ⟨A, c, rfl, hl1, _⟩ := id h
 obtain ⟨A', c', rfl, _⟩ := id h'
 refine Pure.intro Tryz.func54 Tryz.ntmps54 J J fun w => ?_; refine Va J J ?_;refine S_call Tryz.call73 hq J J J ?_;rintro v G' ⟨⟨e, rfl, he⟩, rfl⟩ _
 refine Va J J ?_;exact S_retp (Res.t1 Tryz.results54 J J) XR ⟨⟨e, J, he⟩, J⟩
mutual
theorem SamS_stm : ∀ (s : Stm), SamS s.body ∧ SamS s.els
 | .mk k a b n x y => ⟨SamS_all x, SamS_all y⟩
theorem SamS_at : ∀ (L : List Stm) (k : Nat) (hk : k < L.length), SamS L[k].body ∧ SamS L[k].els
 | [], k, hk => absurd hk (by simp)
 | s :: L, 0, _ => SamS_stm s
 | s :: L, k + 1, hk => SamS_at L k (by simpa using hk)
theorem SamS_all : ∀ (L : List Stm), SamS L
 | L => c_sameStmtsS L fun k hk => SamS_at L k hk
end
abbrev QuesS (G : PH) (l : List (List Int)) (v : Value) : Prop := Sr G 1 (intsRep G) l v
theorem c_EqFQueS (L L' : List (List Int)) (v v' : Value) (G : PH) (h : QuesS G L v) (h' : QuesS G L' v') : Pure Tryz.prog 75 [v, v', .func (.func 53) #[] #[]] G (Sam L L' G) := by
 obtain ⟨A, c, rfl, hl1, _⟩ := id h
 obtain ⟨A', c', rfl, _⟩ := id h'
 refine Pure.intro Tryz.func75 Tryz.ntmps75 J J fun w => ?_; refine Va J J ?_
 by_cases hl : L.length = L'.length
 rotate_left
 ·refine RT J (by simp; omega) ?_
  refine Va J J ?_;exact S_retp (Res.t1 Tryz.results75 J J) XR (sam_len hl)
 refine RF J (by simp; omega) ?_;refine Va J J ?_;refine S_loop (α := Nat) (fun i => i ≤ L.length ∧ L.take i = L'.take i) (fun i => L.length - i) [] (fun i => [(17, .val (.int .i64 (i : Nat))), (16, .val (.int .i64 (L.length : Nat))), (15, .val (.slice A L.length c)), (1, .val (.slice A' L'.length c')), (2, .val (.func (.func 53) #[] #[]))]) (fun _ => []) (fun _ => G) 0 ⟨Nat.zero_le _, J⟩ J ⟨⟨_, J, J⟩, ⟨_, J, J⟩, ⟨_, J, J⟩, ⟨_, J, J⟩, ⟨_, J, J⟩, trivial⟩ .nil ?_
 rintro i ⟨hi, ht⟩
 refine Va J J ?_
 refine S_condp J (fun h5 => ?_) (fun h5 => ?_) <;> refine Va J J ?_
 ·have hil : i < L.length := by omega
  have hil' : i < L'.length := by omega
  obtain ⟨ad, cs, rfl, hcs, v1, rfl, h1⟩ := Sr_at h hil
  obtain ⟨ad', cs', rfl, hcs', v2, rfl, h2⟩ := Sr_at h' hil'
  have hcl := c_EqIntS L[i] L'[i] v1 v2 G h1 h2
  have hgo := take_one hil hil' ht
  have hno := ne_at hil hil'
  obtain ⟨B1, d1, rfl, _⟩ := id h1
  obtain ⟨B2, d2, rfl, _⟩ := id h2
  refine S_index Tk J J J J J J (by omega) (by omega) ?_;refine Va J J ?_;refine S_load Tk J J J J J (by simpa using hcs.1) ?_;refine Va J J ?_;refine S_index Tk J J J J J J (by omega) (by omega) ?_;refine Va J J ?_;refine S_load Tk J J J J J (by simpa using hcs'.1) ?_;refine Va J J ?_;refine S_callV (vs := [.slice B1 L[i].length d1, .slice B2 L'[i].length d2]) J Tryz.call53 hcl J J J ?_;rintro v G' ⟨⟨e, rfl, he⟩, rfl⟩ _
  refine Va J J ?_
  cases e
  ·refine RT J J ?_
   refine Va J J ?_;exact S_retp (Res.t1 Tryz.results75 J J) XR (sam_no (hno fun e => absurd (he.2 e) (by simp)))
  ·refine RF J J ?_
   refine Va J J ?_;refine S_add J J J J (by omega) ?_;refine Va J J ?_;exact S_again (i + 1) ⟨by omega, hgo (he.1 J)⟩ (by omega) J ⟨⟨_, J, by simp [denO]⟩, ⟨_, J, J⟩, ⟨_, J, J⟩, ⟨_, J, J⟩, ⟨_, J, J⟩, trivial⟩ .nil
 ·exact S_retp (Res.t1 Tryz.results75 J J) XR (sam_end (by omega) hl ht)
theorem c_sameQueuesS (L L' : List (List Int)) (v v' : Value) (G : PH) (h : QuesS G L v) (h' : QuesS G L' v') : Pure Tryz.prog 56 [v, v'] G (Sam L L' G) := by
 have hq := c_EqFQueS L L' v v' G h h'
 obtain ⟨A, c, rfl, hl1, _⟩ := id h
 obtain ⟨A', c', rfl, _⟩ := id h'
 refine Pure.intro Tryz.func56 Tryz.ntmps56 J J fun w => ?_; refine Va J J ?_;refine S_call Tryz.call75 hq J J J ?_;rintro v G' ⟨⟨e, rfl, he⟩, rfl⟩ _
 refine Va J J ?_;exact S_retp (Res.t1 Tryz.results56 J J) XR ⟨⟨e, J, he⟩, J⟩
theorem c_sameProcS (p p' : Prc) (cs cs' : List Value) (G : PH) (h : prcRep G p cs) (h' : prcRep G p' cs') : Pure Tryz.prog 52 [.agg cs.toArray, .agg cs'.toArray] G (Sam p p' G) := by
 obtain ⟨vr, vt, rfl, h1, h2⟩ := h
 obtain ⟨vr', vt', rfl, h1', h2'⟩ := h'
 obtain ⟨A1, c1, rfl, _⟩ := id h1
 obtain ⟨A2, c2, rfl, _⟩ := id h2
 obtain ⟨A3, c3, rfl, _⟩ := id h1'
 obtain ⟨A4, c4, rfl, _⟩ := id h2'
 obtain ⟨a0, a1, a2, td, mo, on, ro⟩ := p
 obtain ⟨b0, b1, b2, td', mo', on', ro'⟩ := p'
 simp only at h1 h1' h2 h2' ⊢
 refine Pure.intro Tryz.func52 Tryz.ntmps52 J J fun w => ?_; refine Va J J ?_;refine S_box J J J J J fun b2 => ?_;refine Va J J ?_;refine S_box J J J J J fun b3 => ?_;refine Va J J ?_;refine S_call Tryz.call53 (c_EqIntS _ _ _ _ _ h1 h1') J J J ?_;rintro v G' ⟨⟨e1, rfl, he1⟩, rfl⟩ _
 refine Va J J ?_
 cases e1
 ·refine GF J J J ?_
  refine Va J J ?_;exact S_retp (Res.t1 Tryz.results52 J J) XR (sam_no fun e => by cases e; exact absurd (he1.2 J) (by simp))
 have e1 := he1.1 rfl
 simp only [List.cons.injEq, and_true] at e1
 obtain ⟨rfl, rfl, rfl⟩ := e1
 refine GT J J J ?_;refine Va J J ?_;refine S_call Tryz.call54 (SamS_all td td' _ _ _ h2 h2') J J J ?_;rintro v G' ⟨⟨e2, rfl, he2⟩, rfl⟩ _
 refine Va J J ?_;refine S_retp (Res.t1 Tryz.results52 J J) XR ⟨⟨_, J, ?_⟩, J⟩
 constructor
 ·intro e
  simp at e
  obtain ⟨⟨⟨e2', rfl⟩, rfl⟩, rfl⟩ := e
  obtain rfl := he2.1 e2'
  rfl
 ·intro e
  cases e
  simp [he2.2 rfl]
theorem c_EqFProcS (L L' : List Prc) (v v' : Value) (G : PH) (h : Sr G 5 (prcRep G) L v) (h' : Sr G 5 (prcRep G) L' v') : Pure Tryz.prog 57 [v, v', .func (.func 52) #[] #[]] G (Sam L L' G) := by
 obtain ⟨A, c, rfl, hl1, _⟩ := id h
 obtain ⟨A', c', rfl, _⟩ := id h'
 refine Pure.intro Tryz.func57 Tryz.ntmps57 J J fun w => ?_; refine Va J J ?_
 by_cases hl : L.length = L'.length
 rotate_left
 ·refine RT J (by simp; omega) ?_
  refine Va J J ?_;exact S_retp (Res.t1 Tryz.results57 J J) XR (sam_len hl)
 refine RF J (by simp; omega) ?_;refine Va J J ?_;refine S_loop (α := Nat) (fun i => i ≤ L.length ∧ L.take i = L'.take i) (fun i => L.length - i) [] (fun i => [(17, .val (.int .i64 (i : Nat))), (16, .val (.int .i64 (L.length : Nat))), (15, .val (.slice A L.length c)), (1, .val (.slice A' L'.length c')), (2, .val (.func (.func 52) #[] #[]))]) (fun _ => []) (fun _ => G) 0 ⟨Nat.zero_le _, J⟩ J ⟨⟨_, J, J⟩, ⟨_, J, J⟩, ⟨_, J, J⟩, ⟨_, J, J⟩, ⟨_, J, J⟩, trivial⟩ .nil ?_
 rintro i ⟨hi, ht⟩
 refine Va J J ?_
 refine S_condp J (fun h5 => ?_) (fun h5 => ?_) <;> refine Va J J ?_
 ·have hil : i < L.length := by omega
  have hil' : i < L'.length := by omega
  obtain ⟨ad, cs, rfl, hcs, hr⟩ := Sr_at h hil
  obtain ⟨ad', cs', rfl, hcs', hr'⟩ := Sr_at h' hil'
  have hgo := take_one hil hil' ht
  have hno := ne_at hil hil'
  generalize L[i] = p at hr hgo hno
  generalize L'[i] = p' at hr' hgo hno
  have hcl := c_sameProcS p p' _ _ G hr hr'
  obtain ⟨vr1, vt1, rfl, h11, h12⟩ := hr
  obtain ⟨vr2, vt2, rfl, h21, h22⟩ := hr'
  obtain ⟨B1, d1, rfl, _⟩ := id h11
  obtain ⟨B2, d2, rfl, _⟩ := id h12
  obtain ⟨B3, d3, rfl, _⟩ := id h21
  obtain ⟨B4, d4, rfl, _⟩ := id h22
  refine S_index Tk J J J J J J (by omega) (by omega) ?_;refine Va J J ?_;refine S_loadA Tk J J J J J (by simpa using hcs) ?_;refine Va J J ?_;refine AZ ZT_ok J J J J fun b8 => ?_;refine Va J J ?_;refine S_index Tk J J J J J J (by omega) (by omega) ?_;refine Va J J ?_;refine S_loadA Tk J J J J J (by simpa using hcs') ?_;refine Va J J ?_;refine AZ ZT_ok J J J J fun b9 => ?_;refine Va J J ?_;refine S_callV (vs := [.agg #[.slice B1 3 d1, .slice B2 p.todo.length d2, .int .i64 p.mode, .int .i64 p.on, .int .i64 p.room], .agg #[.slice B3 3 d3, .slice B4 p'.todo.length d4, .int .i64 p'.mode, .int .i64 p'.on, .int .i64 p'.room]]) J Tryz.call52 hcl J J J ?_
  rintro v G' ⟨⟨e, rfl, he⟩, rfl⟩ _
  refine Va J J ?_
  cases e
  ·refine RT J J ?_
   refine Va J J ?_;exact S_retp (Res.t1 Tryz.results57 J J) XR (sam_no (hno fun e => absurd (he.2 e) (by simp)))
  ·refine RF J J ?_
   refine Va J J ?_;refine S_add J J J J (by omega) ?_;refine Va J J ?_;exact S_again (i + 1) ⟨by omega, hgo (he.1 J)⟩ (by omega) J ⟨⟨_, J, by simp [denO]⟩, ⟨_, J, J⟩, ⟨_, J, J⟩, ⟨_, J, J⟩, ⟨_, J, J⟩, trivial⟩ (by repeat (first | exact .nil | apply subL.drop))
 ·exact S_retp (Res.t1 Tryz.results57 J J) XR (sam_end (by omega) hl ht)
theorem c_sameWorldS (W W' : Wld) (v v' : Value) (G : PH) (h : WG G W v) (h' : WG G W' v') : Pure Tryz.prog 29 [v, v'] G (Sam W W' G) := by
 obtain ⟨vp, vc, vr, vs, vd, rfl, h1, h2, h3, h4, h5⟩ := h
 obtain ⟨vp', vc', vr', vs', vd', rfl, k1, k2, k3, k4, k5⟩ := h'
 obtain ⟨A1, c1, rfl, _⟩ := id h1
 obtain ⟨A2, c2, rfl, _⟩ := id h2
 obtain ⟨A3, c3, rfl, _⟩ := id h3
 obtain ⟨A4, c4, rfl, _⟩ := id h4
 obtain ⟨A5, c5, rfl, _⟩ := id h5
 obtain ⟨B1, d1, rfl, _⟩ := id k1
 obtain ⟨B2, d2, rfl, _⟩ := id k2
 obtain ⟨B3, d3, rfl, _⟩ := id k3
 obtain ⟨B4, d4, rfl, _⟩ := id k4
 obtain ⟨B5, d5, rfl, _⟩ := id k5
 obtain ⟨ps, w1, w2, w3, w4, w5, w6, w7, w8⟩ := W
 obtain ⟨ps', u1, u2, u3, u4, u5, u6, u7, u8⟩ := W'
 simp only at h1 h2 h3 h4 h5 k1 k2 k3 k4 k5 ⊢
 refine Pure.intro Tryz.func29 Tryz.ntmps29 J J fun w => ?_; refine Va J J ?_;refine S_box J J J J J fun b2 => ?_;refine Va J J ?_;refine S_box J J J J J fun b3 => ?_;refine Va J J ?_;refine S_call Tryz.call53 (c_EqIntS _ _ _ _ _ h2 k2) J J J ?_;rintro v G' ⟨⟨e1, rfl, he1⟩, rfl⟩ _
 refine Va J J ?_
 cases e1
 ·refine GF J J J ?_
  refine Va J J ?_;exact S_retp (Res.t1 Tryz.results29 J J) XR (sam_no fun e => by cases e; exact absurd (he1.2 J) (by simp))
 have e1 := he1.1 rfl
 simp only [List.cons.injEq, and_true] at e1
 obtain ⟨rfl, rfl, rfl⟩ := e1
 refine GT J J J ?_;refine Va J J ?_;refine S_call Tryz.call53 (c_EqIntS _ _ _ _ _ h3 k3) J J J ?_;rintro v G' ⟨⟨e2, rfl, he2⟩, rfl⟩ _
 refine Va J J ?_
 cases e2
 ·refine GF J J J ?_
  refine Va J J ?_;exact S_retp (Res.t1 Tryz.results29 J J) XR (sam_no fun e => by cases e; exact absurd (he2.2 J) (by simp))
 have e2 := he2.1 rfl
 simp only [List.cons.injEq, and_true] at e2
 obtain ⟨rfl, rfl⟩ := e2
 refine GT J J J ?_;refine Va J J ?_;refine S_call Tryz.call55 (c_EqSayS _ _ _ _ _ h5 k5) J J J ?_;rintro v G' ⟨⟨e3, rfl, he3⟩, rfl⟩ _
 refine Va J J ?_
 cases e3
 ·refine GF J J J ?_
  refine Va J J ?_;exact S_retp (Res.t1 Tryz.results29 J J) XR (sam_no fun e => by cases e; exact absurd (he3.2 J) (by simp))
 obtain rfl := he3.1 rfl
 refine GT J J J ?_;refine Va J J ?_;refine S_call Tryz.call56 (c_sameQueuesS _ _ _ _ _ h4 k4) J J J ?_;rintro v G' ⟨⟨e4, rfl, he4⟩, rfl⟩ _
 refine Va J J ?_
 cases e4
 ·refine GF J J J ?_
  refine Va J J ?_;exact S_retp (Res.t1 Tryz.results29 J J) XR (sam_no fun e => by cases e; exact absurd (he4.2 J) (by simp))
 have e4 := he4.1 rfl
 simp only [List.cons.injEq, and_true] at e4
 obtain ⟨rfl, rfl⟩ := e4
 refine GT J J J ?_;refine Va J J ?_;refine S_call Tryz.call57 (c_EqFProcS _ _ _ _ _ h1 k1) J J J ?_;rintro v G' ⟨⟨e5, rfl, he5⟩, rfl⟩ _
 refine Va J J ?_;exact S_retp (Res.t1 Tryz.results29 rfl rfl) XR ⟨⟨e5, rfl, he5.trans ⟨fun e => by rw [e], fun e => by cases e; rfl⟩⟩, rfl⟩
theorem c_WorldSameS (W W' : Wld) (v v' : Value) (G : PH) (h : WG G W v) (h' : WG G W' v') : Pure Tryz.prog 14 [v, v'] G (Sam W W' G) := by
 have hs := c_sameWorldS W W' v v' G h h'
 obtain ⟨vp, vc, vr, vs, vd, rfl, h1, h2, h3, h4, h5⟩ := h
 obtain ⟨vp', vc', vr', vs', vd', rfl, k1, k2, k3, k4, k5⟩ := h'
 obtain ⟨A1, c1, rfl, _⟩ := id h1
 obtain ⟨A2, c2, rfl, _⟩ := id h2
 obtain ⟨A3, c3, rfl, _⟩ := id h3
 obtain ⟨A4, c4, rfl, _⟩ := id h4
 obtain ⟨A5, c5, rfl, _⟩ := id h5
 obtain ⟨B1, d1, rfl, _⟩ := id k1
 obtain ⟨B2, d2, rfl, _⟩ := id k2
 obtain ⟨B3, d3, rfl, _⟩ := id k3
 obtain ⟨B4, d4, rfl, _⟩ := id k4
 obtain ⟨B5, d5, rfl, _⟩ := id k5
 refine Pure.intro Tryz.func14 Tryz.ntmps14 J J fun w => ?_; refine Va J J ?_;refine S_box J J J J J fun b2 => ?_;refine Va J J ?_;refine S_box J J J J J fun b3 => ?_;refine Va J J ?_;refine S_call Tryz.call29 hs J J J ?_;rintro v G' ⟨⟨e, rfl, he⟩, rfl⟩ _
 refine Va J J ?_;exact S_retp (Res.t1 Tryz.results14 J J) XR ⟨⟨e, J, he⟩, J⟩
end
section
attribute [local irreducible] X Pure Mod
theorem g_boolE : Tryz.prog.eqGuardType Tryz.prog.depth 4 = false := by kernel_rfl
theorem u_boolE : Tryz.prog.underlying 4 = some .bool := by kernel_rfl
theorem ends_facts {p : List (List Stm)} {G : PH} {pv : Value} (hp : PrgS G p pv) : (explP p).isSome = (endsP p).isSome ∧ ((endsP p).isSome = true → ((endsP p).getD []).length ≤ manyP p ∧ manyP p ≤ 120) ∧ ((endsP p).isSome = false → manyP p = 0 ∧ ((endsP p).getD []).length = 0) ∧
  ∀ (k i : Nat) (V W : Wld), k < i → ((endsP p).getD [])[k]? = some V → ((endsP p).getD [])[i]? = some W → V ≠ W := by
 unfold manyP
 rw [endsP_of]
 cases h : explP p with
 | none => exact ⟨rfl, fun h => (by cases h), fun _ => ⟨rfl, rfl⟩, fun k i V W _ h => by simp at h⟩
 | some Ws =>
  have hok := explP_ok hp h
  refine ⟨rfl, fun _ => ⟨endsW_le Ws, hok.le⟩, fun h => (by cases h), ?_⟩
  simp only [Option.map_some, Option.getD_some]
  intro k i V W hki hV hW e
  obtain ⟨hk, rfl⟩ := List.getElem?_eq_some_iff.1 hV
  obtain ⟨hi, rfl⟩ := List.getElem?_eq_some_iff.1 hW
  have hnd : (endsW Ws).Pairwise fun V W => wText V ≠ wText W := hok.nd.sublist (List.filter_sublist ..)
  exact List.pairwise_iff_getElem.1 hnd k i hk hi hki (by rw [e])
theorem c_FnAllEnds (A : Option Addr) (n c : Nat) (G : PH) (hTab : TabG G) (hl : n ≤ 1048576 → ∃ l, Byts G l (.slice A n c) ∧ l.length = n) : Pure Tryz.prog 4 [.slice A n c] G fun v G' => v = .bool true := by
 refine Pure.intro Tryz.func4 Tryz.ntmps4 J J fun w => ?_; refine Va J J ?_
 refine S_condp J (fun h => ?_) (fun h => ?_) <;> refine Va J J ?_
 ·exact S_retp (Res.t1 Tryz.results4 J J) XR J
 obtain ⟨l, hb, hll⟩ := hl (by omega)
 refine S_call Tryz.call11 (c_DrawAllEnds l _ _ hb) J J J ?_;rintro v1 G1 ⟨p, hp⟩ hext1
 obtain ⟨Ap, cp, rfl, hpn⟩ := id hp.1
 have hTab1 := TabG_le hext1.le hTab
 obtain ⟨z1, z2, z3, z4⟩ := ends_facts hp
 have hlenE := endsP_len hp
 refine Va J J ?_;refine S_call Tryz.call10 (c_iAllEnds p _ _ hp hTab1) J J J ?_;rintro v2 G2 ⟨lv2, rfl, hlv2⟩ hext2
 have hp2 := PrgS_le hext2.le hp
 have hsE := c_sAllEnds p _ G2 hp2
 have hM := fun G3 (hx : G2.le G3) => c_iAllMany p _ G3 (PrgS_le hx hp2) (TabG_le (hext2.le.trans hx) hTab1)
 rw [z1] at hM
 generalize (endsP p).isSome = bk at z2 z3 hsE hM ⊢
 generalize (endsP p).getD [] = Es at hlv2 hlenE hsE z2 z3 z4
 generalize manyP p = M at z2 z3 hM
 obtain ⟨Ae, ce, rfl, _⟩ := id hlv2
 refine Va J J ?_;refine S_call Tryz.call12 hsE J J J ?_;rintro v3 G3 ⟨lv3, rfl, hlv3⟩ hext3
 obtain ⟨Ae3, ce3, rfl, _⟩ := id hlv3
 refine Va J J ?_;refine S_call Tryz.call13 (hM G3 hext3.le) J J J ?_;rintro v4 G4 rfl hext4
 replace hlv2 := WsG_le (hext3.trans hext4).le hlv2
 replace hlv3 := WsG_le hext4.le hlv3
 have hextA := ((hext1.trans hext2).trans hext3).trans hext4
 refine Va J J ?_;refine S_valV J J J (V_neqB g_boolE u_boolE J J) ?_;refine Va J J ?_;refine GF J J (by simp) ?_;refine Va J J ?_;refine S_valV J J J (V_neqB g_boolE u_boolE J J) ?_;refine Va J J ?_;refine RF J (by simp) ?_;refine Va J J ?_;refine S_loop (α := Nat) (fun i => i ≤ Es.length) (fun i => Es.length - i) []
  (fun i => [(10, .val (.int .i64 (i : Nat))), (4, .val (.slice Ae Es.length ce)), (5, .val (.bool bk)), (6, .val (.slice Ae3 Es.length ce3)), (8, .val (.int .i64 (M : Nat)))]) (fun _ => []) (fun _ => G4) 0 (Nat.zero_le _) rfl ⟨⟨_, rfl, rfl⟩, ⟨_, rfl, rfl⟩, ⟨_, rfl, rfl⟩, ⟨_, rfl, rfl⟩, ⟨_, rfl, rfl⟩, trivial⟩ .nil ?_
 intro i hi
 refine Va J J ?_
 refine S_condp J (fun h5 => ?_) (fun h5 => ?_) <;> refine Va J J ?_
 ·have hil : i < Es.length := by omega
  obtain ⟨ad, cs5, e5, hc5, hW5⟩ := Sr_at hlv2 hil
  subst e5
  obtain ⟨ad3, cs6, e6, hc6, hW6⟩ := Sr_at hlv3 hil
  subst e6
  have hne := fun k V hk hV => z4 k i V _ hk hV (List.getElem?_eq_getElem hil)
  generalize Es[i] = W at hW5 hW6 hne
  obtain ⟨f1, f2, f3, f4, f5, rfl⟩ := wRep_five hW5
  obtain ⟨g1, g2, g3, g4, g5, rfl⟩ := wRep_five hW6
  refine Ds J J J ?_;refine Da J J ?_;refine D_val 2 J J J J J J J J J (V_index Tk J J J J (by omega) (by omega)) ?_;refine Da J J ?_;refine D_val 3 J J J J J J J J J (V_loadAE Tk J J J (by simpa using hc5)) ?_;refine Da J J ?_;refine D_val 6 J J J J J J J J J (V_index Tk J J J J (by omega) (by omega)) ?_;refine Da J J ?_;refine D_val 7 J J J J J J J J J (V_loadAE Tk J J J (by simpa using hc6)) ?_
  refine Da J J ?_;refine D_sole 8 J J (N_turnV 8 J J J J fun back => ?_)
  refine S_call Tryz.call14 (c_WorldSameS W W _ _ _ hW5 hW6) J J J ?_;rintro v7 G7 ⟨⟨e, rfl, he⟩, rfl⟩ _
  obtain rfl := he.2 rfl
  refine back _ _ _ _ (pk_val J J J J J J J J (V_index Tk J J J J (by omega) (by omega)) (pk_val J J J J J J J J (V_index Tk J J J J (by omega) (by omega)) (pk_all Tk (by kernel_rfl)))) ?_; clear back
  refine Da J J ?_;refine DD ?_;refine Va J J ?_;refine RF J J ?_;refine Va J J ?_;refine S_loop (α := Nat) (fun k => k ≤ i) (fun k => i - k) []
   (fun k => [(11, .val (.int .i64 (k : Nat))), (10, .val (.int .i64 (i : Nat))), (4, .val (.slice (some ad) Es.length ce)), (5, .val (.bool bk)), (6, .val (.slice (some ad3) Es.length ce3)), (8, .val (.int .i64 (M : Nat)))]) (fun _ => []) (fun _ => G7) 0 (Nat.zero_le _) rfl ⟨⟨_, rfl, rfl⟩, ⟨_, rfl, rfl⟩, ⟨_, rfl, rfl⟩, ⟨_, rfl, rfl⟩, ⟨_, rfl, rfl⟩, ⟨_, rfl, rfl⟩, trivial⟩ .nil ?_
  intro k hk
  refine Va J J ?_
  refine S_condp J (fun h7 => ?_) (fun h7 => ?_) <;> refine Va J J ?_
  ·have hki : k < i := by omega
   have hkl : k < Es.length := by omega
   obtain ⟨ad', cs7, e7, hc7, hW7⟩ := Sr_at hlv2 hkl
   cases e7
   have hne2 := hne k _ hki (List.getElem?_eq_getElem hkl)
   generalize Es[k] = V at hW7 hne2
   obtain ⟨t1, t2, t3, t4, t5, rfl⟩ := wRep_five hW7
   refine Ds J J J ?_;refine Da J J ?_;refine D_val 2 J J J J J J J J J (V_index Tk J J J J (by omega) (by omega)) ?_;refine Da J J ?_;refine D_val 3 J J J J J J J J J (V_loadAE Tk J J J (by simpa using hc5)) ?_;refine Da J J ?_;refine D_val 6 J J J J J J J J J (V_index Tk J J J J (by omega) (by omega)) ?_;refine Da J J ?_;refine D_val 7 J J J J J J J J J (V_loadAE Tk J J J (by simpa using hc7)) ?_
   refine Da J J ?_;refine D_sole 8 J J (N_turnV 8 J J J J fun back => ?_)
   refine S_call Tryz.call14 (c_WorldSameS W V _ _ _ hW5 hW7) J J J ?_;rintro v7 G7 ⟨⟨e, rfl, he⟩, rfl⟩ _
   obtain rfl : e = false := by
    cases e
    ·rfl
    ·exact absurd (he.1 J).symm hne2
   refine back _ _ _ _ (pk_val J J J J J J J J (V_index Tk J J J J (by omega) (by omega)) (pk_val J J J J J J J J (V_index Tk J J J J (by omega) (by omega)) (pk_all Tk (by kernel_rfl)))) ?_; clear back
   refine Da J J ?_;refine DD ?_;refine Va J J ?_;refine RF J J ?_;refine Va J J ?_;refine S_add J J J J (by omega) ?_;refine Va J J ?_;exact S_again (k + 1) (by omega) (by omega) J ⟨⟨_, J, by simp [denO]⟩, ⟨_, J, J⟩, ⟨_, J, J⟩, ⟨_, J, J⟩, ⟨_, J, J⟩, ⟨_, J, J⟩, trivial⟩ .nil
  ·refine S_add J J J J (by omega) ?_
   refine Va J J ?_;exact S_again (i + 1) (by omega) (by omega) J ⟨⟨_, J, by simp [denO]⟩, ⟨_, J, J⟩, ⟨_, J, J⟩, ⟨_, J, J⟩, ⟨_, J, J⟩, trivial⟩ .nil
 ·cases bk
  ·obtain ⟨y1, y2⟩ := z3 rfl
   refine GF J J (by simp) ?_;refine Va J J ?_;refine GT J J (by simp) ?_;refine Va J J ?_;refine GT J J (by simp [y1]) ?_;refine Va J J ?_;exact S_retp (Res.t1 Tryz.results4 J J) hextA (by simp [y1, y2])
  ·obtain ⟨y1, y2⟩ := z2 rfl
   refine GT J J (by simp; omega) ?_;refine Va J J ?_;exact S_retp (Res.t1 Tryz.results4 J J) hextA J
end
end Go.Proofs.YtbecgghgcglafaaGreatDoor
