/- Walks of the program's functions, one after the other (part 13); without conditions of their own. -/
import Derived.Test.YtlmkipckihgehaaGreatWM3
import Derived.Test.YtlmkipckihgehaaGreatWM9
import Derived.Test.YtlmkipckihgehaaGreatWM10
import Derived.Test.YtlmkipckihgehaaGreatWM12
import Derived.Test.YtlmkipckihgehaaGreatWM2
import Derived.ChangeShapes
set_option linter.unusedVariables false
set_option linter.unusedSimpArgs false
set_option maxRecDepth 100000
set_option maxHeartbeats 4000000
open Go.RowKit
namespace Go.Proofs.YtlmkipckihgehaaGreat
section
attribute [local irreducible] X Pure Mod
theorem V_neqS2 {C : Ctx} {ι : Ids} {E : Env} {L : List Ent} {G : PH} {d : Option Nat} {ty : Nat} {pos : String} {af : Array Edge} {g : Option (Nat × Bool)} {t t' : Nat} {x y : Operand} {f0 f1 : Field} {k0 k1 : IntKind} {p q p' q' : Int} (hgt : C.P.eqGuardType C.P.depth t = false) (ht : C.P.underlying t = some (.struct #[f0, f1])) (hst : C.P.stoodInHeld t = false) (h0 : C.P.underlying f0.type = some (.int k0)) (h1 : C.P.underlying f1.type = some (.int k1)) (n0 : f0.name ≠ "_") (n1 : f1.name ≠ "_") (o0 : f0.offset = 0) (o1 : f1.offset = 1)
  (hx : ev E x = some (.val (.agg #[.int .i64 p, .int .i64 q]))) (hy : ev E y = some (.val (.agg #[.int .i64 p', .int .i64 q']))) : Vl C ι E L G ⟨d, .binOp .neq t x y t', ty, pos, af, g⟩ (.bool (!(decide (p = p') && decide (q = q')))) := by
 intro a w hE _
 have ex := ev_sound hE hx
 have ey := ev_sound hE hy
 simp only [denO, Option.some.injEq] at ex ey
 simp only [execOp, ← ex, ← ey]
 have he := run_eqS2 (P := C.P) w ht hst h0 h1 n0 n1 o0 o1 p q p' q'
 simp [eqGuard, binOp, hgt, he]
theorem c_EqInt (l : List Int) (v v' : Value) (G : PH) (h : IntsU G l v) (h' : IntsU G l v') : Pure Tryz.prog 62 [v, v'] G fun r G' => r = .bool true ∧ G' = G := by
 obtain ⟨A, c, rfl, hl1, _⟩ := id h
 obtain ⟨A', c', rfl, _⟩ := id h'
 refine Pure.intro Tryz.func62 Tryz.ntmps62 J J fun w => ?_; refine Va J J ?_;refine RF J (by simp) ?_;refine Va J J ?_;refine S_loop (α := Nat) (fun i => i ≤ l.length) (fun i => l.length - i) [] (fun i => [(13, .val (.int .i64 (i : Nat))), (12, .val (.int .i64 (l.length : Nat))), (0, .val (.slice A l.length c)), (1, .val (.slice A' l.length c'))]) (fun _ => []) (fun _ => G) 0 (Nat.zero_le _) J ⟨⟨_, J, J⟩, ⟨_, J, J⟩, ⟨_, J, J⟩, ⟨_, J, J⟩, trivial⟩ .nil ?_
 intro i hi
 refine Va J J ?_
 refine S_condp J (fun h5 => ?_) (fun h5 => ?_) <;> refine Va J J ?_
 ·have hil : i < l.length := by omega
  obtain ⟨ad, cs, rfl, hcs, rfl⟩ := Sr_at h hil
  obtain ⟨ad', cs, rfl, hcs', rfl⟩ := Sr_at h' hil
  refine Ds J J J ?_;refine Da J J ?_;refine D_val 2 J J J J J J J J J (V_index Tk J J J J (by omega) (by omega)) ?_;refine Da J J ?_;refine D_val 3 J J J J J J J J J (V_load Tk J J J (by simpa using hcs.1)) ?_;refine Da J J ?_;refine D_val 6 J J J J J J J J J (V_index Tk J J J J (by omega) (by omega)) ?_;refine Da J J ?_;refine D_val 7 J J J J J J J J J (V_load Tk J J J (by simpa using hcs'.1)) ?_
  refine Da J J ?_;refine DD ?_;refine Va J J ?_;refine RF J (by simp) ?_;refine Va J J ?_;refine S_add J J J J (by omega) ?_;refine Va J J ?_;exact S_again (i + 1) (by omega) (by omega) J ⟨⟨_, J, by simp [denO]⟩, ⟨_, J, J⟩, ⟨_, J, J⟩, ⟨_, J, J⟩, trivial⟩ .nil
 ·exact S_retp (Res.t1 Tryz.results62 J J) XR ⟨J, J⟩
theorem g_say : Tryz.prog.eqGuardType Tryz.prog.depth 104 = false := by kernel_rfl
def s2B (P : Program) (t : Nat) : Bool := match P.underlying t with
 | some (.struct fs) => match fs.toList with
  | [f0, f1] => (match P.underlying f0.type with | some (.int _) => true | _ => false) && (match P.underlying f1.type with | some (.int _) => true | _ => false) && !(f0.name == "_") && !(f1.name == "_") && Nat.beq f0.offset 0 && Nat.beq f1.offset 1
  | _ => false
 | _ => false
theorem s2_of {P : Program} {t : Nat} (h : s2B P t = true) : ∃ f0 f1 k0 k1, P.underlying t = some (.struct #[f0, f1]) ∧ P.underlying f0.type = some (.int k0) ∧ P.underlying f1.type = some (.int k1) ∧ f0.name ≠ "_" ∧ f1.name ≠ "_" ∧ f0.offset = 0 ∧ f1.offset = 1 := by
 unfold s2B at h
 split at h
 ·rename_i fs hu
  split at h
  ·rename_i f0 f1 hf
   simp only [Bool.and_eq_true, Bool.not_eq_true', beq_eq_false_iff_ne, ne_eq] at h
   obtain ⟨⟨⟨⟨⟨h1, h2⟩, h3⟩, h4⟩, h5⟩, h6⟩ := h
   split at h1
   ·rename_i k0 e0
    split at h2
    ·rename_i k1 e1
     refine ⟨f0, f1, k0, k1, ?_, e0, e1, h3, h4, Nat.eq_of_beq_eq_true h5, Nat.eq_of_beq_eq_true h6⟩
     rw [hu, ← Array.toArray_toList (xs := fs), hf]
    ·cases h2
   ·cases h1
  ·cases h
 ·cases h
theorem u_say : s2B Tryz.prog 104 = true := by kernel_rfl
theorem s_say : Tryz.prog.stoodInHeld 104 = false := by kernel_rfl
theorem c_EqSay (l : List (Int × Int)) (v v' : Value) (G : PH) (h : SaysU G l v) (h' : SaysU G l v') : Pure Tryz.prog 82 [v, v'] G fun r G' => r = .bool true ∧ G' = G := by
 obtain ⟨A, c, rfl, hl1, _⟩ := id h
 obtain ⟨A', c', rfl, _⟩ := id h'
 obtain ⟨f0, f1, k0, k1, s1, s2, s3, s4, s5, s6, s7⟩ := s2_of u_say
 refine Pure.intro Tryz.func82 Tryz.ntmps82 J J fun w => ?_; refine Va J J ?_;refine RF J (by simp) ?_;refine Va J J ?_;refine S_loop (α := Nat) (fun i => i ≤ l.length) (fun i => l.length - i) [] (fun i => [(13, .val (.int .i64 (i : Nat))), (12, .val (.int .i64 (l.length : Nat))), (0, .val (.slice A l.length c)), (1, .val (.slice A' l.length c'))]) (fun _ => []) (fun _ => G) 0 (Nat.zero_le _) J ⟨⟨_, J, J⟩, ⟨_, J, J⟩, ⟨_, J, J⟩, ⟨_, J, J⟩, trivial⟩ .nil ?_
 intro i hi
 refine Va J J ?_
 refine S_condp J (fun h5 => ?_) (fun h5 => ?_) <;> refine Va J J ?_
 ·have hil : i < l.length := by omega
  obtain ⟨ad, cs, rfl, hcs, rfl⟩ := Sr_at h hil
  obtain ⟨ad', cs, rfl, hcs', rfl⟩ := Sr_at h' hil
  refine Ds J J J ?_;refine Da J J ?_;refine D_val 2 J J J J J J J J J (V_index Tk J J J J (by omega) (by omega)) ?_;refine Da J J ?_;refine D_val 3 J J J J J J J J J (V_loadA Tk J J J (by simpa using hcs)) ?_;refine Da J J ?_;refine D_val 6 J J J J J J J J J (V_index Tk J J J J (by omega) (by omega)) ?_;refine Da J J ?_;refine D_val 7 J J J J J J J J J (V_loadA Tk J J J (by simpa using hcs')) ?_;refine Da J J ?_
  refine D_val 8 J J J J J J J J J (V_neqS2 g_say s1 s_say s2 s3 s4 s5 s6 s7 J J) ?_;refine Da J J ?_;refine DD ?_;refine Va J J ?_;refine RF J (by simp) ?_;refine Va J J ?_;refine S_add J J J J (by omega) ?_;refine Va J J ?_;exact S_again (i + 1) (by omega) (by omega) J ⟨⟨_, J, by simp [denO]⟩, ⟨_, J, J⟩, ⟨_, J, J⟩, ⟨_, J, J⟩, trivial⟩ .nil
 ·exact S_retp (Res.t1 Tryz.results82 J J) XR ⟨J, J⟩
def SameS (L : List Stm) : Prop := ∀ (v v' : Value) (G : PH), Sts G L v → Sts G L v' → Pure Tryz.prog 81 [v, v'] G fun r G' => r = .bool true ∧ G' = G
theorem c_same1 (s : Stm) (hx : SameS s.body) (hy : SameS s.els) (cs cs' : List Value) (G : PH) (h : Stm.rep G s cs) (h' : Stm.rep G s cs') : Pure Tryz.prog 110 [.agg cs.toArray, .agg cs'.toArray] G fun r G' => r = .bool true ∧ G' = G := by
 obtain ⟨k, a, b, n, x, y⟩ := s
 simp only [Stm.body, Stm.els] at hx hy
 obtain ⟨vx, vy, rfl, _, _, _, _, qx, qy⟩ := Stm.rep_iff.1 h
 obtain ⟨vx', vy', rfl, _, _, _, _, qx', qy'⟩ := Stm.rep_iff.1 h'
 obtain ⟨A1, c1, rfl, _⟩ := id qx
 obtain ⟨A2, c2, rfl, _⟩ := id qy
 obtain ⟨A3, c3, rfl, _⟩ := id qx'
 obtain ⟨A4, c4, rfl, _⟩ := id qy'
 refine Pure.intro Tryz.func110 Tryz.ntmps110 J J fun w => ?_; refine Va J J ?_;refine S_box J J J J J fun b2 => ?_;refine Va J J ?_;refine S_box J J J J J fun b3 => ?_;refine Va J J ?_;refine GT J J (by simp) ?_;refine Va J J ?_;refine S_call Tryz.call81 (hx _ _ _ qx qx') J J J ?_;rintro v G' ⟨rfl, rfl⟩ _
 refine Va J J ?_;refine GT J J (by simp) ?_;refine Va J J ?_;refine S_call Tryz.call81 (hy _ _ _ qy qy') J J J ?_;rintro v G' ⟨rfl, rfl⟩ _
 refine Va J J ?_;exact S_retp (Res.t1 Tryz.results110 J J) XR ⟨J, J⟩
theorem c_EqFStm (L : List Stm) (v v' : Value) (G : PH) (h : Sts G L v) (h' : Sts G L v') (hc : ∀ k (hk : k < L.length), SameS L[k].body ∧ SameS L[k].els) : Pure Tryz.prog 109 [v, v', .func (.func 110) #[] #[]] G fun r G' => r = .bool true ∧ G' = G := by
 obtain ⟨A, c, rfl, hl1, _⟩ := id h
 obtain ⟨A', c', rfl, _⟩ := id h'
 refine Pure.intro Tryz.func109 Tryz.ntmps109 J J fun w => ?_; refine Va J J ?_;refine RF J (by simp) ?_;refine Va J J ?_;refine S_loop (α := Nat) (fun i => i ≤ L.length) (fun i => L.length - i) [] (fun i => [(17, .val (.int .i64 (i : Nat))), (16, .val (.int .i64 (L.length : Nat))), (15, .val (.slice A L.length c)), (1, .val (.slice A' L.length c')), (2, .val (.func (.func 110) #[] #[]))]) (fun _ => []) (fun _ => G) 0 (Nat.zero_le _) J ⟨⟨_, J, J⟩, ⟨_, J, J⟩, ⟨_, J, J⟩, ⟨_, J, J⟩, ⟨_, J, J⟩, trivial⟩ .nil ?_
 intro i hi
 refine Va J J ?_
 refine S_condp J (fun h5 => ?_) (fun h5 => ?_) <;> refine Va J J ?_
 ·have hil : i < L.length := by omega
  obtain ⟨ad, cs, rfl, hcs, hr⟩ := Sr_at h hil
  obtain ⟨ad', cs', rfl, hcs', hr'⟩ := Sr_at h' hil
  obtain ⟨hx, hy⟩ := hc i hil
  generalize L[i] = s at hr hr' hx hy
  have hcl := c_same1 s hx hy _ _ G hr hr'
  obtain ⟨q1, q2, q3, q4, q5, q6⟩ := s
  obtain ⟨vx, vy, rfl, _, _, _, _, qx, qy⟩ := Stm.rep_iff.1 hr
  obtain ⟨vx', vy', rfl, _, _, _, _, qx', qy'⟩ := Stm.rep_iff.1 hr'
  obtain ⟨B1, d1, rfl, _⟩ := id qx
  obtain ⟨B2, d2, rfl, _⟩ := id qy
  obtain ⟨B3, d3, rfl, _⟩ := id qx'
  obtain ⟨B4, d4, rfl, _⟩ := id qy'
  refine S_index Tk J J J J J J (by omega) (by omega) ?_;refine Va J J ?_;refine S_loadA Tk J J J J J (by simpa using hcs) ?_;refine Va J J ?_;refine AZ ZT_ok J J J J fun b8 => ?_;refine Va J J ?_;refine S_index Tk J J J J J J (by omega) (by omega) ?_;refine Va J J ?_;refine S_loadA Tk J J J J J (by simpa using hcs') ?_;refine Va J J ?_;refine AZ ZT_ok J J J J fun b9 => ?_;refine Va J J ?_;refine S_callV (vs := [.agg #[.int .i64 q1, .int .i64 q2, .int .i64 q3, .int .i64 q4, .slice B1 q5.length d1, .slice B2 q6.length d2], .agg #[.int .i64 q1, .int .i64 q2, .int .i64 q3, .int .i64 q4, .slice B3 q5.length d3, .slice B4 q6.length d4]]) J Tryz.call110 hcl J J J ?_
  rintro v G' ⟨rfl, rfl⟩ _
  refine Va J J ?_;refine RF J J ?_;refine Va J J ?_;refine S_add J J J J (by omega) ?_;refine Va J J ?_;exact S_again (i + 1) (by omega) (by omega) J ⟨⟨_, J, by simp [denO]⟩, ⟨_, J, J⟩, ⟨_, J, J⟩, ⟨_, J, J⟩, ⟨_, J, J⟩, trivial⟩ (by repeat (first | exact .nil | apply subL.drop))
 ·exact S_retp (Res.t1 Tryz.results109 J J) XR ⟨J, J⟩
theorem c_sameStmts (L : List Stm) (hc : ∀ k (hk : k < L.length), SameS L[k].body ∧ SameS L[k].els) : SameS L := by
 intro v v' G h h'
 refine Pure.intro Tryz.func81 Tryz.ntmps81 J J fun w => ?_; refine Va J J ?_;refine S_call Tryz.call109 (c_EqFStm L v v' G h h' hc) J J J ?_;rintro v G' ⟨rfl, rfl⟩ _
 refine Va J J ?_;exact S_retp (Res.t1 Tryz.results81 J J) XR ⟨J, J⟩
mutual
theorem SameS_stm : ∀ (s : Stm), SameS s.body ∧ SameS s.els
 | .mk k a b n x y => ⟨SameS_all x, SameS_all y⟩
theorem SameS_at : ∀ (L : List Stm) (k : Nat) (hk : k < L.length), SameS L[k].body ∧ SameS L[k].els
 | [], k, hk => absurd hk (by simp)
 | s :: L, 0, _ => SameS_stm s
 | s :: L, k + 1, hk => SameS_at L k (by simpa using hk)
theorem SameS_all : ∀ (L : List Stm), SameS L
 | L => c_sameStmts L fun k hk => SameS_at L k hk
end
abbrev Ques (G : PH) (l : List (List Int)) (v : Value) : Prop := Sr G 1 (intsRep G) l v
theorem c_EqFQue (L : List (List Int)) (v v' : Value) (G : PH) (h : Ques G L v) (h' : Ques G L v') : Pure Tryz.prog 111 [v, v', .func (.func 62) #[] #[]] G fun r G' => r = .bool true ∧ G' = G := by
 obtain ⟨A, c, rfl, hl1, _⟩ := id h
 obtain ⟨A', c', rfl, _⟩ := id h'
 refine Pure.intro Tryz.func111 Tryz.ntmps111 J J fun w => ?_; refine Va J J ?_;refine RF J (by simp) ?_;refine Va J J ?_;refine S_loop (α := Nat) (fun i => i ≤ L.length) (fun i => L.length - i) [] (fun i => [(17, .val (.int .i64 (i : Nat))), (16, .val (.int .i64 (L.length : Nat))), (15, .val (.slice A L.length c)), (1, .val (.slice A' L.length c')), (2, .val (.func (.func 62) #[] #[]))]) (fun _ => []) (fun _ => G) 0 (Nat.zero_le _) J ⟨⟨_, J, J⟩, ⟨_, J, J⟩, ⟨_, J, J⟩, ⟨_, J, J⟩, ⟨_, J, J⟩, trivial⟩ .nil ?_
 intro i hi
 refine Va J J ?_
 refine S_condp J (fun h5 => ?_) (fun h5 => ?_) <;> refine Va J J ?_
 ·have hil : i < L.length := by omega
  obtain ⟨ad, cs, rfl, hcs, v1, rfl, h1⟩ := Sr_at h hil
  obtain ⟨ad', cs', rfl, hcs', v2, rfl, h2⟩ := Sr_at h' hil
  have hcl := c_EqInt L[i] v1 v2 G h1 h2
  obtain ⟨B1, d1, rfl, _⟩ := id h1
  obtain ⟨B2, d2, rfl, _⟩ := id h2
  refine S_index Tk J J J J J J (by omega) (by omega) ?_;refine Va J J ?_;refine S_load Tk J J J J J (by simpa using hcs.1) ?_;refine Va J J ?_;refine S_index Tk J J J J J J (by omega) (by omega) ?_;refine Va J J ?_;refine S_load Tk J J J J J (by simpa using hcs'.1) ?_;refine Va J J ?_;refine S_callV (vs := [.slice B1 L[i].length d1, .slice B2 L[i].length d2]) J Tryz.call62 hcl J J J ?_;rintro v G' ⟨rfl, rfl⟩ _
  refine Va J J ?_;refine RF J J ?_;refine Va J J ?_;refine S_add J J J J (by omega) ?_;refine Va J J ?_;exact S_again (i + 1) (by omega) (by omega) J ⟨⟨_, J, by simp [denO]⟩, ⟨_, J, J⟩, ⟨_, J, J⟩, ⟨_, J, J⟩, ⟨_, J, J⟩, trivial⟩ .nil
 ·exact S_retp (Res.t1 Tryz.results111 J J) XR ⟨J, J⟩
theorem c_sameQueues (L : List (List Int)) (v v' : Value) (G : PH) (h : Ques G L v) (h' : Ques G L v') : Pure Tryz.prog 83 [v, v'] G fun r G' => r = .bool true ∧ G' = G := by
 refine Pure.intro Tryz.func83 Tryz.ntmps83 J J fun w => ?_; refine Va J J ?_;refine S_call Tryz.call111 (c_EqFQue L v v' G h h') J J J ?_;rintro v G' ⟨rfl, rfl⟩ _
 refine Va J J ?_;exact S_retp (Res.t1 Tryz.results83 J J) XR ⟨J, J⟩
theorem c_sameProc (p : Prc) (cs cs' : List Value) (G : PH) (h : prcRep G p cs) (h' : prcRep G p cs') : Pure Tryz.prog 80 [.agg cs.toArray, .agg cs'.toArray] G fun r G' => r = .bool true ∧ G' = G := by
 obtain ⟨vr, vt, rfl, h1, h2⟩ := h
 obtain ⟨vr', vt', rfl, h1', h2'⟩ := h'
 obtain ⟨A1, c1, rfl, _⟩ := id h1
 obtain ⟨A2, c2, rfl, _⟩ := id h2
 obtain ⟨A3, c3, rfl, _⟩ := id h1'
 obtain ⟨A4, c4, rfl, _⟩ := id h2'
 refine Pure.intro Tryz.func80 Tryz.ntmps80 J J fun w => ?_; refine Va J J ?_;refine S_box J J J J J fun b2 => ?_;refine Va J J ?_;refine S_box J J J J J fun b3 => ?_;refine Va J J ?_;refine S_call Tryz.call62 (c_EqInt _ _ _ _ h1 h1') J J J ?_;rintro v G' ⟨rfl, rfl⟩ _
 refine Va J J ?_;refine GT J J J ?_;refine Va J J ?_;refine S_call Tryz.call81 (SameS_all p.todo _ _ _ h2 h2') J J J ?_;rintro v G' ⟨rfl, rfl⟩ _
 refine Va J J ?_;exact S_retp (Res.t1 Tryz.results80 J J) XR ⟨by simp, J⟩
end
section
attribute [local irreducible] X Pure Mod
abbrev Prcs (G : PH) (l : List Prc) (v : Value) : Prop := Sr G 5 (prcRep G) l v
theorem c_EqFProc (L : List Prc) (v v' : Value) (G : PH) (h : Prcs G L v) (h' : Prcs G L v') : Pure Tryz.prog 84 [v, v', .func (.func 80) #[] #[]] G fun r G' => r = .bool true ∧ G' = G := by
 obtain ⟨A, c, rfl, hl1, _⟩ := id h
 obtain ⟨A', c', rfl, _⟩ := id h'
 refine Pure.intro Tryz.func84 Tryz.ntmps84 J J fun w => ?_; refine Va J J ?_;refine RF J (by simp) ?_;refine Va J J ?_;refine S_loop (α := Nat) (fun i => i ≤ L.length) (fun i => L.length - i) [] (fun i => [(17, .val (.int .i64 (i : Nat))), (16, .val (.int .i64 (L.length : Nat))), (15, .val (.slice A L.length c)), (1, .val (.slice A' L.length c')), (2, .val (.func (.func 80) #[] #[]))]) (fun _ => []) (fun _ => G) 0 (Nat.zero_le _) J ⟨⟨_, J, J⟩, ⟨_, J, J⟩, ⟨_, J, J⟩, ⟨_, J, J⟩, ⟨_, J, J⟩, trivial⟩ .nil ?_
 intro i hi
 refine Va J J ?_
 refine S_condp J (fun h5 => ?_) (fun h5 => ?_) <;> refine Va J J ?_
 ·have hil : i < L.length := by omega
  obtain ⟨ad, cs, rfl, hcs, hr⟩ := Sr_at h hil
  obtain ⟨ad', cs', rfl, hcs', hr'⟩ := Sr_at h' hil
  generalize L[i] = p at hr hr'
  have hcl := c_sameProc p _ _ G hr hr'
  obtain ⟨vr1, vt1, rfl, h11, h12⟩ := hr
  obtain ⟨vr2, vt2, rfl, h21, h22⟩ := hr'
  obtain ⟨B1, d1, rfl, _⟩ := id h11
  obtain ⟨B2, d2, rfl, _⟩ := id h12
  obtain ⟨B3, d3, rfl, _⟩ := id h21
  obtain ⟨B4, d4, rfl, _⟩ := id h22
  refine S_index Tk J J J J J J (by omega) (by omega) ?_;refine Va J J ?_;refine S_loadA Tk J J J J J (by simpa using hcs) ?_;refine Va J J ?_;refine AZ ZT_ok J J J J fun b8 => ?_;refine Va J J ?_;refine S_index Tk J J J J J J (by omega) (by omega) ?_;refine Va J J ?_;refine S_loadA Tk J J J J J (by simpa using hcs') ?_;refine Va J J ?_;refine AZ ZT_ok J J J J fun b9 => ?_;refine Va J J ?_;refine S_callV (vs := [.agg #[.slice B1 3 d1, .slice B2 p.todo.length d2, .int .i64 p.mode, .int .i64 p.on, .int .i64 p.room], .agg #[.slice B3 3 d3, .slice B4 p.todo.length d4, .int .i64 p.mode, .int .i64 p.on, .int .i64 p.room]]) J Tryz.call80 hcl J J J ?_
  rintro v G' ⟨rfl, rfl⟩ _
  refine Va J J ?_;refine RF J J ?_;refine Va J J ?_;refine S_add J J J J (by omega) ?_;refine Va J J ?_;exact S_again (i + 1) (by omega) (by omega) J ⟨⟨_, J, by simp [denO]⟩, ⟨_, J, J⟩, ⟨_, J, J⟩, ⟨_, J, J⟩, ⟨_, J, J⟩, trivial⟩ (by repeat (first | exact .nil | apply subL.drop))
 ·exact S_retp (Res.t1 Tryz.results84 J J) XR ⟨J, J⟩
structure WL (G : PH) (ps : List Prc) (cl rl : List Int) (ql : List (List Int)) (sl : List (Int × Int)) (v : Value) : Prop where
 ex : ∃ vp vc vr vs vd, v = .agg #[vp, vc, vr, vs, vd] ∧ Prcs G ps vp ∧ IntsU G cl vc ∧ IntsU G rl vr ∧ Ques G ql vs ∧ SaysU G sl vd
theorem WG.wl {G : PH} {W : Wld} {v : Value} (h : WG G W v) : WL G W.procs [W.c0, W.c1, W.c2] [W.m0, W.m1] [W.q0, W.q1] W.said v := by
 obtain ⟨vp, vc, vr, vs, vd, rfl, h1, h2, h3, h4, h5⟩ := h
 exact ⟨_, _, _, _, _, J, h1, h2, h3, h4, h5⟩
theorem zero_wl (G : PH) : WL G [] [] [] [] [] (.agg #[.slice none 0 0, .slice none 0 0, .slice none 0 0, .slice none 0 0, .slice none 0 0]) := ⟨_, _, _, _, _, rfl, Sr_nil rfl, Sr_nil rfl, Sr_nil rfl, Sr_nil rfl, Sr_nil rfl⟩
theorem c_sameWorld (ps : List Prc) (cl rl : List Int) (ql : List (List Int)) (sl : List (Int × Int)) (v v' : Value) (G : PH) (h : WL G ps cl rl ql sl v) (h' : WL G ps cl rl ql sl v') : Pure Tryz.prog 45 [v, v'] G fun r G' => r = .bool true ∧ G' = G := by
 obtain ⟨vp, vc, vr, vs, vd, rfl, h1, h2, h3, h4, h5⟩ := h.ex
 obtain ⟨vp', vc', vr', vs', vd', rfl, k1, k2, k3, k4, k5⟩ := h'.ex
 obtain ⟨A1, c1, rfl, _⟩ := id h1
 obtain ⟨A2, c2, rfl, _⟩ := id h2
 obtain ⟨A3, c3, rfl, _⟩ := id h3
 obtain ⟨A4, c4, rfl, _⟩ := id h4
 obtain ⟨A5, c5, rfl, _⟩ := id h5
 obtain ⟨B1, d1, rfl, _⟩ := id k1
 obtain ⟨B2, d2, rfl, _⟩ := id k2
 obtain ⟨B3, d3, rfl, _⟩ := id k3
 obtain ⟨B4, d4, rfl, _⟩ := id k4
 obtain ⟨B5, d5, rfl, _⟩ := id k5
 refine Pure.intro Tryz.func45 Tryz.ntmps45 J J fun w => ?_; refine Va J J ?_;refine S_box J J J J J fun b2 => ?_;refine Va J J ?_;refine S_box J J J J J fun b3 => ?_;refine Va J J ?_;refine S_call Tryz.call62 (c_EqInt _ _ _ _ h2 k2) J J J ?_;rintro v G' ⟨rfl, rfl⟩ _
 refine Va J J ?_;refine GT J J J ?_;refine Va J J ?_;refine S_call Tryz.call62 (c_EqInt _ _ _ _ h3 k3) J J J ?_;rintro v G' ⟨rfl, rfl⟩ _
 refine Va J J ?_;refine GT J J J ?_;refine Va J J ?_;refine S_call Tryz.call82 (c_EqSay _ _ _ _ h5 k5) J J J ?_;rintro v G' ⟨rfl, rfl⟩ _
 refine Va J J ?_;refine GT J J J ?_;refine Va J J ?_;refine S_call Tryz.call83 (c_sameQueues _ _ _ _ h4 k4) J J J ?_;rintro v G' ⟨rfl, rfl⟩ _
 refine Va J J ?_;refine GT J J J ?_;refine Va J J ?_;refine S_call Tryz.call84 (c_EqFProc _ _ _ _ h1 k1) J J J ?_;rintro v G' ⟨rfl, rfl⟩ _
 refine Va J J ?_;exact S_retp (Res.t1 Tryz.results45 J J) XR ⟨J, J⟩
theorem c_WorldSame (ps : List Prc) (cl rl : List Int) (ql : List (List Int)) (sl : List (Int × Int)) (v v' : Value) (G : PH) (h : WL G ps cl rl ql sl v) (h' : WL G ps cl rl ql sl v') : Pure Tryz.prog 15 [v, v'] G fun r G' => r = .bool true ∧ G' = G := by
 have hs := c_sameWorld ps cl rl ql sl v v' G h h'
 obtain ⟨vp, vc, vr, vs, vd, rfl, h1, h2, h3, h4, h5⟩ := h.ex
 obtain ⟨vp', vc', vr', vs', vd', rfl, k1, k2, k3, k4, k5⟩ := h'.ex
 obtain ⟨A1, c1, rfl, _⟩ := id h1
 obtain ⟨A2, c2, rfl, _⟩ := id h2
 obtain ⟨A3, c3, rfl, _⟩ := id h3
 obtain ⟨A4, c4, rfl, _⟩ := id h4
 obtain ⟨A5, c5, rfl, _⟩ := id h5
 obtain ⟨B1, d1, rfl, _⟩ := id k1
 obtain ⟨B2, d2, rfl, _⟩ := id k2
 obtain ⟨B3, d3, rfl, _⟩ := id k3
 obtain ⟨B4, d4, rfl, _⟩ := id k4
 obtain ⟨B5, d5, rfl, _⟩ := id k5
 refine Pure.intro Tryz.func15 Tryz.ntmps15 J J fun w => ?_; refine Va J J ?_;refine S_box J J J J J fun b2 => ?_;refine Va J J ?_;refine S_box J J J J J fun b3 => ?_;refine Va J J ?_;refine S_call Tryz.call45 hs J J J ?_;rintro v G' ⟨rfl, rfl⟩ _
 refine Va J J ?_;exact S_retp (Res.t1 Tryz.results15 J J) XR ⟨J, J⟩
end
section
def GB (w : World) (a0 : Option Addr) : PH := fun b => match a0 with
 | some x => if b = x.block then w.heap[b]? else none
 | none => none
theorem GB_emb (w : World) (a0 : Option Addr) : Emb (GB w a0) w := by
 intro b o h
 unfold GB at h
 split at h
 ·split at h
  ·exact h
  ·cases h
 ·cases h
theorem gcell_GB {w : World} {x a : Addr} {v : Value} (hb : a.block = x.block) (h : w.cell? a = some v) : gcell (GB w (some x)) a = some v := by
 unfold gcell
 simp only [GB, hb, if_true]
 unfold World.cell? at h
 rw [hb] at h
 cases ho : w.heap[x.block]? with
 | none => simp [ho] at h
 | some o => cases o <;> simp_all
theorem gcells_of {G : PH} {a : Addr} : ∀ {cs : List Value}, (∀ j v, cs[j]? = some v → gcell G (a.add j) = some v) → gcells G a cs := by
 intro cs
 induction cs generalizing a with
 | nil => intro _; trivial
 | cons v cs ih =>
  intro h
  refine ⟨by have := h 0 v J; rwa [add_zero'] at this, ih fun j u hj => ?_⟩
  rw [add_add', Nat.add_comm 1 j]
  exact h (j + 1) u (by simpa using hj)
theorem block_add' (x : Addr) (i : Nat) : (x.add i).block = x.block := by unfold Addr.add; split <;> rfl
theorem Cs_byte : ∀ (l : List Int), (∀ n ∈ l, 0 ≤ n ∧ n ≤ 255) → Cs 1 byteRep l (l.map fun n => .int .u8 n)
 | [], _ => rfl
 | n :: l, h => ⟨[.int .u8 n], _, rfl, rfl, ⟨rfl, h n (List.mem_cons_self ..)⟩, Cs_byte l fun m hm => h m (List.mem_cons_of_mem _ hm)⟩
theorem byts_of {w : World} {a : Option Addr} {len cap : Nat} {zs : List Int} (h : (a = none ∧ len = 0 ∧ cap = 0 ∧ zs = []) ∨ ∃ x, a = some x ∧ len ≤ cap ∧ cap ≤ maxLen ∧ zs.length = cap ∧ (∀ i, i < zs.length → w.cell? (x.add i) = some (.int .u8 (zs.getD i 0))) ∧ ∀ n ∈ zs, (Lit.int .u8 n).wf = true)
  (hlen : len ≤ 1048576) : ∃ l, Byts (GB w a) l (.slice a len cap) ∧ l.length = len := by
 rcases h with ⟨rfl, rfl, rfl, rfl⟩ | ⟨x, rfl, h1, h2, h3, h4, h5⟩
 ·exact ⟨[], Sr_nil J, J⟩
 ·have hl : (zs.take len).length = len := by simp; omega
  refine ⟨zs.take len, Sx_Sr ⟨some x, cap, J, by omega, h1, h2, ?_, ?_⟩ hl.symm (Cs_byte _ ?_), hl⟩
  ·simp; omega
  ·refine .inr ⟨x, rfl, gcells_of fun j v hj => ?_⟩
   simp only [List.getElem?_map, Option.map_eq_some_iff] at hj
   obtain ⟨n, hn, rfl⟩ := hj
   have hj2 : zs[j]? = some n := by
    rw [List.getElem?_take] at hn
    split at hn
    ·exact hn
    ·cases hn
   have hjl : j < zs.length := (List.getElem?_eq_some_iff.1 hj2).1
   refine gcell_GB (block_add' x j) ?_
   rw [h4 j hjl]
   simp [List.getD_eq_getElem?_getD, hj2]
  ·intro n hn
   have := h5 n (List.mem_of_mem_take hn)
   have e1 : IntKind.u8.min = 0 := rfl
   have e2 : IntKind.u8.max = 255 := rfl
   simp only [Lit.wf, Bool.and_eq_true, decide_eq_true_eq, e1, e2] at this
   omega
theorem law1 {P : Program} {f : FuncId} {a : Option Addr} {len cap : Nat} {zs : List Int} {w : World} (h : (a = none ∧ len = 0 ∧ cap = 0 ∧ zs = []) ∨ ∃ x, a = some x ∧ len ≤ cap ∧ cap ≤ maxLen ∧ zs.length = cap ∧ (∀ i, i < zs.length → w.cell? (x.add i) = some (.int .u8 (zs.getD i 0))) ∧ ∀ n ∈ zs, (Lit.int .u8 n).wf = true)
  (hc : (len ≤ 1048576 → ∃ l, Byts (GB w a) l (.slice a len cap) ∧ l.length = len) → Pure P f [.slice a len cap] (GB w a) fun v G' => v = .bool true) :
  Calls P f #[.slice a len cap] w fun e w' => e = .returned (.bool true) ∧ Below w.heap.size w w' :=
 (hc (byts_of h) w (GB_emb w a)).mono fun e w' ⟨v, G', h1, h2, h3, h4, h5⟩ => ⟨by rw [h1, h2], h5⟩
end
end Go.Proofs.YtlmkipckihgehaaGreat
