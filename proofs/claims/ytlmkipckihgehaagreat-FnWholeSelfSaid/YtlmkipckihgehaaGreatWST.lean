/- Walks of the program's functions, one after the other (part 14); without conditions of their own. -/
import Derived.Test.YtlmkipckihgehaaGreatWM11
import Derived.Test.YtlmkipckihgehaaGreatWM12
import Derived.Test.YtlmkipckihgehaaGreatWM13
import Derived.Test.YtlmkipckihgehaaGreatWM2
set_option linter.unusedVariables false
set_option linter.unusedSimpArgs false
set_option maxRecDepth 100000
set_option maxHeartbeats 4000000
open Go.RowKit
namespace Go.Proofs.YtlmkipckihgehaaGreat
section
attribute [local irreducible] X Pure Mod
def saidBy (who : Int) : List (Int × Int) → List Int
 | [] => []
 | (a, b) :: l => if a = who then b :: saidBy who l else saidBy who l
theorem saidBy_append (who : Int) : ∀ (l l' : List (Int × Int)), saidBy who (l ++ l') = saidBy who l ++ saidBy who l'
 | [], _ => rfl
 | (a, b) :: l, l' => by
  simp only [List.cons_append, saidBy, saidBy_append who l l']
  split <;> rfl
theorem saidBy_len (who : Int) : ∀ (l : List (Int × Int)), (saidBy who l).length ≤ l.length
 | [] => by simp [saidBy]
 | (a, b) :: l => by
  have := saidBy_len who l
  simp only [saidBy]
  split <;> simp only [List.length_cons] <;> omega
structure SS where
 i : Nat
 A : Option Addr
 c : Nat
theorem c_SaidBy (l : List (Int × Int)) (who : Int) (v : Value) (G : PH) (h : SaysU G l v) (hl : l.length ≤ 1000000) : Pure Tryz.prog 63 [v, .int .i64 who] G fun v' G' => IntsU G' (saidBy who l) v' := by
 obtain ⟨A, c, rfl, hl1, _⟩ := id h
 refine Pure.intro Tryz.func63 Tryz.ntmps63 J J fun w => ?_; refine Va J J ?_;refine S_nilO (base := w.heap.size) (e := 3) (size := 1) 5 ?_;refine S_loop (α := SS) (fun y => y.i ≤ l.length) (fun y => l.length - y.i) [] (fun y => [(10, .val (.int .i64 (y.i : Nat))), (9, .val (.int .i64 (l.length : Nat))), (8, .val (.slice A l.length c)), (1, .val (.int .i64 who)), (5, .val (.slice y.A (saidBy who (l.take y.i)).length y.c))])
  (fun y => [.hp 5 (rowO w.heap.size 3 1 y.A (saidBy who (l.take y.i)).length y.c (intC (saidBy who (l.take y.i))))]) (fun _ => G) ⟨0, none, 0⟩ (Nat.zero_le _) rfl ⟨⟨_, rfl, rfl⟩, ⟨_, rfl, rfl⟩, ⟨_, rfl, rfl⟩, ⟨_, rfl, rfl⟩, ⟨_, rfl, rfl⟩, trivial⟩ (.hp .nil) ?_
 rintro ⟨i, A1, c1⟩ hi
 simp only at hi ⊢
 refine Va J J ?_
 refine S_condp J (fun h5 => ?_) (fun h5 => ?_) <;> refine Va J J ?_
 ·have hil : i < l.length := by omega
  obtain ⟨ad, cs, rfl, hcs, rfl⟩ := Sr_at h hil
  have hlt := saidBy_len who (l.take i)
  have hll : (l.take i).length ≤ l.length := by rw [List.length_take]; omega
  refine S_index Tk J J J J J J (by omega) (by omega) ?_;refine Va J J ?_;refine S_loadA Tk J J J J J (by simpa using hcs) ?_;refine Va J J ?_;refine AZ ZT_ok J J J J fun b7 => ?_;refine Va J J ?_
  have htk : l.take (i + 1) = l.take i ++ [l[i]] := List.take_succ_eq_append_getElem hil
  generalize l[i] = x at htk ⊢
  obtain ⟨xa, xb⟩ := x
  refine S_condp J (fun h6 => ?_) (fun h6 => ?_) <;> refine Va J J ?_
  ·refine S_slice Tk ZT_ok J J J J (by decide) (by decide) J J J J fun b21 => ?_
   refine Va J J ?_;refine S_app1 Tk 5 21 J J J J J J J J J J J J J J (by intro u hu; simp at hu; rcases hu with rfl; rfl) rfl (fun _ _ => rfl) (by omega) (Nat.le_refl _) fun A6 c6 => ?_;refine Va J J ?_;refine S_add J J J J (by omega) ?_;refine Va J J ?_
   have es : saidBy who (l.take (i + 1)) = saidBy who (l.take i) ++ [xb] := by rw [htk, saidBy_append]; have h6' : _ = _ := h6; simp only at h6'; simp [saidBy, h6']
   refine S_again ⟨i + 1, A6, c6⟩ (by simp only; omega) (by simp only; omega) rfl ⟨⟨_, rfl, by simp [denO]⟩, ⟨_, rfl, rfl⟩, ⟨_, rfl, rfl⟩, ⟨_, rfl, rfl⟩, ⟨_, rfl, by simp [denO, es]⟩, trivial⟩ ?_
   simp only [es, List.length_append, List.length_singleton, intC_append]
   first | exact .drop (.hp .nil) | exact .drop (.drop (.hp .nil))
  ·refine S_add J J J J (by omega) ?_
   refine Va J J ?_
   have es : saidBy who (l.take (i + 1)) = saidBy who (l.take i) := by rw [htk, saidBy_append]; have h6' : ¬ _ = _ := h6; simp only at h6'; simp [saidBy, h6']
   refine S_again ⟨i + 1, A1, c1⟩ (by simp only; omega) (by simp only; omega) rfl ⟨⟨_, rfl, by simp [denO]⟩, ⟨_, rfl, rfl⟩, ⟨_, rfl, rfl⟩, ⟨_, rfl, rfl⟩, ⟨_, rfl, by simp [denO, es]⟩, trivial⟩ ?_
   simp only [es]
   exact .drop (.hp .nil)
 ·have hin : i = l.length := by omega
  subst hin
  have hlt := saidBy_len who l
  rw [List.take_length]
  refine S_freezeR 5 J J (Nat.le_refl _) fun Gf hextf hncf hcmf hclf => ?_
  have hvf : IntsU Gf (saidBy who l) _ := frz (Cs_intU _) rfl (by omega) hncf hcmf hclf
  exact S_retp (Res.t1 Tryz.results63 J J) hextf hvf
theorem c_WholeLike (ps : List Prc) (cl rl : List Int) (ql : List (List Int)) (sl : List (Int × Int)) (v v' : Value) (G : PH) (h : WL G ps cl rl ql sl v) (h' : WL G ps cl rl ql sl v') (hl : sl.length ≤ 1000000) : Pure Tryz.prog 24 [v, v'] G fun r G' => r = .bool true := by
 obtain ⟨vp, vc, vr, vs, vd, rfl, h1, h2, h3, h4, h5⟩ := h.ex
 obtain ⟨vp', vc', vr', vs', vd', rfl, k1, k2, k3, k4, k5⟩ := h'.ex
 obtain ⟨A1, c1, rfl, hp1, _⟩ := id h1
 obtain ⟨A2, c2, rfl, _⟩ := id h2
 obtain ⟨A3, c3, rfl, _⟩ := id h3
 obtain ⟨A4, c4, rfl, _⟩ := id h4
 obtain ⟨A5, c5, rfl, _⟩ := id h5
 obtain ⟨B1, d1, rfl, _⟩ := id k1
 obtain ⟨B2, d2, rfl, _⟩ := id k2
 obtain ⟨B3, d3, rfl, _⟩ := id k3
 obtain ⟨B4, d4, rfl, _⟩ := id k4
 obtain ⟨B5, d5, rfl, _⟩ := id k5
 refine Pure.intro Tryz.func24 Tryz.ntmps24 J J fun w => ?_; refine Va J J ?_;refine S_box J J J J J fun b2 => ?_;refine Va J J ?_;refine S_box J J J J J fun b3 => ?_;refine Va J J ?_;refine GF J J (by simp) ?_;refine Va J J ?_;refine S_call Tryz.call62 (c_EqInt _ _ _ _ h2 k2) J J J ?_;rintro v G' ⟨rfl, rfl⟩ _
 refine Va J J ?_;refine RF J J ?_;refine Va J J ?_;refine S_loop (α := Nat × PH) (fun y => y.1 ≤ ps.length ∧ PH.ext w.heap.size G' y.2) (fun y => ps.length - y.1) [(2, b2), (3, b3)] (fun y => [(24, .val (.int .i64 (y.1 : Nat))), (23, .val (.int .i64 (ps.length : Nat))), (2, .ptr 2 0), (3, .ptr 3 0)])
  (fun y => [.blk 3 31 (vL [.slice B1 ps.length d1, .slice B2 cl.length d2, .slice B3 rl.length d3, .slice B4 ql.length d4, .slice B5 sl.length d5]), .blk 2 31 (vL [.slice A1 ps.length c1, .slice A2 cl.length c2, .slice A3 rl.length c3, .slice A4 ql.length c4, .slice A5 sl.length c5])]) (fun y => y.2) (0, G') ⟨Nat.zero_le _, PH.ext.refl _ _⟩ rfl ⟨⟨_, rfl, rfl⟩, ⟨_, rfl, rfl⟩, ⟨_, rfl, rfl⟩, ⟨_, rfl, rfl⟩, trivial⟩ (.blk rfl rfl (.blk rfl rfl .nil)) ?_
 rintro ⟨i, G1⟩ ⟨hi, hext⟩
 simp only at hi hext ⊢
 refine Va J J ?_
 refine S_condp J (fun h6 => ?_) (fun h6 => ?_) <;> refine Va J J ?_
 ·refine Ds J J J ?_
  refine Da J J ?_;refine D_sole 3 J J (N_call 3 Tryz.call63 (c_SaidBy sl (i : Nat) _ _ (Sr_mono hext.le (fun _ _ _ h => h) h5) hl) J J J J J J J J J J ?_)
  rintro v3 G3 hv3 hext3
  obtain ⟨A31, c31, rfl, _⟩ := id hv3
  refine Da J J ?_;refine D_sole 7 J J (N_call 7 Tryz.call63 (c_SaidBy sl (i : Nat) _ _ (Sr_mono (hext.trans hext3).le (fun _ _ _ h => h) k5) hl) J J J J J J J J J J ?_)
  rintro v4 G4 hv4 hext4
  obtain ⟨A41, c41, rfl, _⟩ := id hv4
  refine Da J J ?_;refine D_sole 8 J J (N_call 8 Tryz.call62 (c_EqInt _ _ _ _ (IntsU_le hext4.le hv3) hv4) J J J J J J J J J J ?_)
  rintro v5 G5 ⟨rfl, rfl⟩ _
  refine Da J J ?_;refine DD ?_;refine Va J J ?_;refine RF J J ?_;refine Va J J ?_;refine S_add J J J J (by omega) ?_;refine Va J J ?_;exact S_again (i + 1, G5) ⟨by simp only; omega, (hext.trans hext3).trans hext4⟩ (by simp only; omega) rfl ⟨⟨_, rfl, by simp [denO]⟩, ⟨_, rfl, rfl⟩, ⟨_, rfl, rfl⟩, ⟨_, rfl, rfl⟩, trivial⟩ (.blk rfl rfl (.blk rfl rfl .nil))
 ·exact S_retp (Res.t1 Tryz.results24 J J) hext J
end
section
attribute [local irreducible] X Pure Mod
theorem u_bool : Tryz.prog.underlying 4 = some .bool := by kernel_rfl
theorem run_eqB {P : Program} (w : World) {t : TypeId} (p q : Bool) (ht : P.underlying t = some .bool) : (binOp .eql t (.bool p) (.bool q)).run P w = .ok (.bool (p == q)) w := by
 have h : ∀ d : Nat, (Op.equalIn (d + 1) t (.bool p) (.bool q)).run P w = .ok (p == q) w := fun d => by
  simp [Op.equalIn, run_underlying ht]
 simp only [binOp]
 simp [Op.equal, Op.maxDepth, h 9999]
theorem V_eqB {C : Ctx} {E : Env} {ι : Ids} {L : List Ent} {G : PH} {d : Option Nat} {ty : Nat} {pos : String} {af : Array Edge} {g : Option (Nat × Bool)} {t t' : Nat} {x y : Operand} {p q : Bool} (hu : C.P.underlying t = some .bool) (hx : ev E x = some (.val (.bool p))) (hy : ev E y = some (.val (.bool q))) : Vl C ι E L G ⟨d, .binOp .eql t x y t', ty, pos, af, g⟩ (.bool (p == q)) := by
 intro a w hE hw
 have ex := ev_sound hE hx
 have ey := ev_sound hE hy
 simp only [denO, Option.some.injEq] at ex ey
 simp only [execOp, ← ex, ← ey]
 simp [eqGuard, run_eqB w p q hu]
theorem rests_valid : ∀ (l : List Nat) {W W' : Wld} {B : Nat}, Inv W B → (∀ x ∈ l, x < W.procs.length) → rests l W = some W' → Inv W' (B + 200 * l.length) ∧ W'.procs.length = W.procs.length
 | [], W, W', B, h, _, e => by cases e; exact ⟨h.mono (by simp), J⟩
 | who :: r, W, W', B, h, hx, e => by
  unfold rests at e
  have ha := h.rest (who := who) 200 (hx who (List.mem_cons_self ..))
  generalize Go.Proofs.YtlmkipckihgehaaGreat.restP who 200 W = t at e ha
  obtain ⟨V, ok⟩ := t
  cases ok
  ·cases e
  ·obtain ⟨h1, h2⟩ := rests_valid r ha.1 (fun x h' => by rw [ha.2]; exact hx x (List.mem_cons_of_mem _ h')) e
   exact ⟨h1.mono (by simp only [List.length_cons]; omega), h2.trans ha.2⟩
theorem wrun_parts {p : List (List Stm)} {q : List Int} {W : Wld} (h : wrun p q = some W) (hs : ∀ l ∈ p, Sh l) : Inv W 100000 ∧ W.procs.length = p.length := by
 unfold wrun at h
 split at h
 ·rename_i hc
  have hI := Inv_open hc.1 hs
  have hl : (open0 p).procs.length = p.length := by simp [open0]
  have hp3 := (prog_parts hc.1).2.2
  cases hr : runs q (open0 p) with
  | none => rw [hr] at h; cases h
  | some V =>
   rw [hr] at h
   obtain ⟨_, h2, h3⟩ := runs_valid q hI hr
   obtain ⟨h4, h5⟩ := rests_valid _ h2 (fun x hx => by rw [h3, hl]; exact List.mem_range.1 hx) h
   refine ⟨h4.mono ?_, by omega⟩
   have := hc.2
   simp only [List.length_range]
   omega
 ·cases h
theorem c_FnWholeSelf (A : Option Addr) (n c : Nat) (G : PH) (hl : n ≤ 1048576 → ∃ l, Byts G l (.slice A n c) ∧ l.length = n) : Pure Tryz.prog 6 [.slice A n c] G fun v G' => v = .bool true := by
 refine Pure.intro Tryz.func6 Tryz.ntmps6 J J fun w => ?_; refine Va J J ?_
 refine S_condp J (fun h => ?_) (fun h => ?_) <;> refine Va J J ?_
 ·exact S_retp (Res.t1 Tryz.results6 J J) XR J
 obtain ⟨l, hb, hll⟩ := hl (by omega)
 refine S_call Tryz.call12 (c_DrawWholeRun l _ _ hb) J J J ?_;rintro v1 G1 ⟨p, pv, q, qv, rfl, hp, hq, _⟩ hext1
 obtain ⟨Ap, cp, rfl, _⟩ := id hp.1
 obtain ⟨Aq, cq, rfl, _⟩ := id hq
 refine Va J J ?_;refine S_call Tryz.call13 (c_iWholeRun p q _ _ _ hp hq) J J J ?_;rintro v2 G2 hr2 hext2
 have c3 := c_sWholeRun p q _ _ _ (PrgS_le hext2.le hp) (Ints_le hext2.le hq)
 cases hw : wrun p q with
 | none =>
  rw [hw] at hr2 c3
  obtain rfl : v2 = .tuple #[wZero, .bool false] := hr2
  simp only [wZero]
  refine Va J J ?_;refine AZ ZT_ok J J J J fun b5 => ?_;refine Va J J ?_;refine S_call Tryz.call14 c3 J J J ?_;rintro v3 G3 hr3 hext3
  obtain rfl : v3 = .tuple #[wZero, .bool false] := hr3
  simp only [wZero]
  refine Va J J ?_;refine AZ ZT_ok J J J J fun b7 => ?_;refine Va J J ?_
  have c4 := c_iWholeRun p q _ _ _ (PrgS_le (hext2.trans hext3).le hp) (Ints_le (hext2.trans hext3).le hq)
  rw [hw] at c4
  refine S_call Tryz.call13 c4 J J J ?_;rintro v4 G4 hr4 hext4
  obtain rfl : v4 = .tuple #[wZero, .bool false] := hr4
  simp only [wZero]
  refine Va J J ?_;refine AZ ZT_ok J J J J fun b9 => ?_;refine Va J J ?_;refine S_valV J J J (V_eqB u_bool J J) ?_;refine Va J J ?_;refine GT J J J ?_;refine Va J J ?_;refine S_call Tryz.call15 (c_WorldSame _ _ _ _ _ _ _ _ (zero_wl _) (zero_wl _)) J J J ?_;rintro v5 G5 ⟨rfl, rfl⟩ _
  refine Va J J ?_;refine GT J J J ?_;refine Va J J ?_;refine S_valV J J J (V_eqB u_bool J J) ?_;refine Va J J ?_;refine GT J J J ?_;refine Va J J ?_;refine S_call Tryz.call15 (c_WorldSame _ _ _ _ _ _ _ _ (zero_wl _) (zero_wl _)) J J J ?_;rintro v6 G6 ⟨rfl, rfl⟩ _
  refine Va J J ?_;refine GT J J J ?_;refine Va J J ?_;refine GT J J J ?_;refine Va J J ?_;exact S_retp (Res.t1 Tryz.results6 J J) (((hext1.trans hext2).trans hext3).trans hext4) J
 | some W =>
  obtain ⟨hI, hlen⟩ := wrun_parts hw hp.2.1
  have hn3 := hI.n3
  have hsd := (hI.rdy (by decide)).sd
  rw [hw] at hr2 c3
  obtain ⟨wv2, rfl, hW2⟩ := hr2
  obtain ⟨vp2, vc2, vr2, vs2, vd2, rfl, hw21, hw22, hw23, hw24, hw25⟩ := id hW2
  obtain ⟨Ap2, cp2, rfl, _⟩ := id hw21
  obtain ⟨_, _, rfl, _⟩ := id hw22
  obtain ⟨_, _, rfl, _⟩ := id hw23
  obtain ⟨_, _, rfl, _⟩ := id hw24
  obtain ⟨_, _, rfl, _⟩ := id hw25
  refine Va J J ?_;refine AZ ZT_ok J J J J fun b5 => ?_;refine Va J J ?_;refine S_call Tryz.call14 c3 J J J ?_;rintro v3 G3 hr3 hext3
  obtain ⟨wv3, rfl, hW3⟩ := hr3
  obtain ⟨vp3, vc3, vr3, vs3, vd3, rfl, hw31, hw32, hw33, hw34, hw35⟩ := id hW3
  obtain ⟨_, _, rfl, _⟩ := id hw31
  obtain ⟨_, _, rfl, _⟩ := id hw32
  obtain ⟨_, _, rfl, _⟩ := id hw33
  obtain ⟨_, _, rfl, _⟩ := id hw34
  obtain ⟨_, _, rfl, _⟩ := id hw35
  refine Va J J ?_;refine AZ ZT_ok J J J J fun b7 => ?_;refine Va J J ?_
  have c4 := c_iWholeRun p q _ _ _ (PrgS_le (hext2.trans hext3).le hp) (Ints_le (hext2.trans hext3).le hq)
  rw [hw] at c4
  refine S_call Tryz.call13 c4 J J J ?_;rintro v4 G4 hr4 hext4
  obtain ⟨wv4, rfl, hW4⟩ := hr4
  obtain ⟨vp4, vc4, vr4, vs4, vd4, rfl, hw41, hw42, hw43, hw44, hw45⟩ := id hW4
  obtain ⟨_, _, rfl, _⟩ := id hw41
  obtain ⟨_, _, rfl, _⟩ := id hw42
  obtain ⟨_, _, rfl, _⟩ := id hw43
  obtain ⟨_, _, rfl, _⟩ := id hw44
  obtain ⟨_, _, rfl, _⟩ := id hw45
  have hW2' := WG_le (hext3.trans hext4).le hW2
  have hW3' := WG_le hext4.le hW3
  refine Va J J ?_;refine AZ ZT_ok J J J J fun b9 => ?_;refine Va J J ?_;refine S_valV J J J (V_eqB u_bool J J) ?_;refine Va J J ?_;refine GT J J J ?_;refine Va J J ?_;refine S_call Tryz.call15 (c_WorldSame _ _ _ _ _ _ _ _ hW2'.wl hW3'.wl) J J J ?_;rintro v5 G5 ⟨rfl, rfl⟩ _
  refine Va J J ?_;refine GT J J J ?_;refine Va J J ?_;refine S_valV J J J (V_eqB u_bool J J) ?_;refine Va J J ?_;refine GT J J J ?_;refine Va J J ?_;refine S_call Tryz.call15 (c_WorldSame _ _ _ _ _ _ _ _ hW2'.wl hW4.wl) J J J ?_;rintro v6 G6 ⟨rfl, rfl⟩ _
  refine Va J J ?_;refine GT J J J ?_;refine Va J J ?_;refine GF J J J ?_;refine Va J J ?_;refine S_call Tryz.call24 (c_WholeLike _ _ _ _ _ _ _ _ hW2'.wl hW4.wl hsd) J J J ?_;rintro v7 G7 rfl hext7
  refine Va J J ?_;refine GT J J J ?_;refine Va J J ?_;exact S_retp (Res.t1 Tryz.results6 J J) ((((hext1.trans hext2).trans hext3).trans hext4).trans hext7) (by simp [hlen])
end
end Go.Proofs.YtlmkipckihgehaaGreat
