/- Walks of the program's functions, one after the other (part 13); without conditions of their own. -/
import Derived.Test.YtphbcboejmhaoaaGreatWM3
import Derived.Test.YtphbcboejmhaoaaGreatWM10
import Derived.Test.YtphbcboejmhaoaaGreatWM12
import Derived.Test.YtphbcboejmhaoaaGreatWM2
set_option linter.unusedVariables false
set_option linter.unusedSimpArgs false
set_option maxRecDepth 100000
set_option maxHeartbeats 4000000
open Go.RowKit
namespace Go.Proofs.YtphbcboejmhaoaaGreat
section
attribute [local irreducible] X Pure Mod
end
section
theorem run_eqS2 {P : Program} (w : World) {t : TypeId} {f0 f1 : Field} {k0 k1 : IntKind} (ht : P.underlying t = some (.struct #[f0, f1])) (hst : P.stoodInHeld t = false) (h0 : P.underlying f0.type = some (.int k0)) (h1 : P.underlying f1.type = some (.int k1)) (n0 : f0.name ≠ "_") (n1 : f1.name ≠ "_") (o0 : f0.offset = 0) (o1 : f1.offset = 1) (p q p' q' : Int) :
  (Op.equal t (.agg #[.int .i64 p, .int .i64 q]) (.agg #[.int .i64 p', .int .i64 q'])).run P w = .ok (decide (p = p') && decide (q = q')) w := by
 have e1 : ∀ d (f : Field) k (a b : Int), P.underlying f.type = some (.int k) → (Op.equalIn (d + 1) f.type (.int .i64 a) (.int .i64 b)).run P w = .ok (decide (a = b)) w := by
  intro d f k a b hf
  simp [Op.equalIn, run_underlying hf]
  rfl
 have h : ∀ d : Nat, (Op.equalIn (d + 2) t (.agg #[.int .i64 p, .int .i64 q]) (.agg #[.int .i64 p', .int .i64 q'])).run P w = .ok (decide (p = p') && decide (q = q')) w := fun d => by
  have a0 := e1 d f0 k0 p p' h0
  have a1 := e1 d f1 k1 q q' h1
  by_cases hp : p = p' <;> by_cases hq : q = q' <;>
  simp [Op.equalIn, run_underlying ht, hst, part, isAgg, run_underlying h0, run_underlying h1, n0, n1, o0, o1, a0, a1, hp, hq] <;> simp_all
 simp [Op.equal, Op.maxDepth, h 9998]
theorem V_neqS2 {C : Ctx} {ι : Ids} {E : Env} {L : List Ent} {G : PH} {d : Option Nat} {ty : Nat} {pos : String} {af : Array Edge} {g : Option (Nat × Bool)} {t t' : Nat} {x y : Operand} {f0 f1 : Field} {k0 k1 : IntKind} {p q p' q' : Int} (hgt : C.P.eqGuardType C.P.depth t = false) (ht : C.P.underlying t = some (.struct #[f0, f1])) (hst : C.P.stoodInHeld t = false) (h0 : C.P.underlying f0.type = some (.int k0)) (h1 : C.P.underlying f1.type = some (.int k1)) (n0 : f0.name ≠ "_") (n1 : f1.name ≠ "_") (o0 : f0.offset = 0) (o1 : f1.offset = 1)
  (hx : ev E x = some (.val (.agg #[.int .i64 p, .int .i64 q]))) (hy : ev E y = some (.val (.agg #[.int .i64 p', .int .i64 q']))) : Vl C ι E L G ⟨d, .binOp .neq t x y t', ty, pos, af, g⟩ (.bool (!(decide (p = p') && decide (q = q')))) := by
 intro a w hE _
 have ex := ev_sound hE hx
 have ey := ev_sound hE hy
 simp only [denO, Option.some.injEq] at ex ey
 simp only [execOp, ← ex, ← ey]
 have he := run_eqS2 (P := C.P) w ht hst h0 h1 n0 n1 o0 o1 p q p' q'
 simp [eqGuard, binOp, hgt, he]
def s2B (P : Program) (t : Nat) : Bool := match P.underlying t with
 | some (.struct fs) => match fs.toList with
  | [f0, f1] => (match P.underlying f0.type with | some (.int _) => true | _ => false) && (match P.underlying f1.type with | some (.int _) => true | _ => false) && !(f0.name == "_") && !(f1.name == "_") && Nat.beq f0.offset 0 && Nat.beq f1.offset 1
  | _ => false
 | _ => false
theorem s2_of {P : Program} {t : Nat} (h : s2B P t = true) : ∃ f0 f1 k0 k1, P.underlying t = some (.struct #[f0, f1]) ∧ P.underlying f0.type = some (.int k0) ∧ P.underlying f1.type = some (.int k1) ∧ f0.name ≠ "_" ∧ f1.name ≠ "_" ∧ f0.offset = 0 ∧ f1.offset = 1 := by
 unfold s2B at h
 split at h
 ·rename_i fs hu
  split at h
  ·rename_i f0 f1 hf
   simp only [Bool.and_eq_true, Bool.not_eq_true', beq_eq_false_iff_ne, ne_eq] at h
   obtain ⟨⟨⟨⟨⟨h1, h2⟩, h3⟩, h4⟩, h5⟩, h6⟩ := h
   split at h1
   ·rename_i k0 e0
    split at h2
    ·rename_i k1 e1
     refine ⟨f0, f1, k0, k1, ?_, e0, e1, h3, h4, Nat.eq_of_beq_eq_true h5, Nat.eq_of_beq_eq_true h6⟩
     rw [hu, ← Array.toArray_toList (xs := fs), hf]
    ·cases h2
   ·cases h1
  ·cases h
 ·cases h
end
section
attribute [local irreducible] X Pure Mod
def Ck.own_ (C : Ck) : Prop := (∀ i k, C.pr i k ≤ C.pr k k) ∧ ∀ i k, C.rm i k ≤ C.pr k k
theorem own_at (C : Ck) (who k : Nat) : C.own who k = C.pr who k + if k = who then 1 else 0 := by
 unfold Ck.own
 split <;> omega
theorem ahead_own {C : Ck} (h : C.own_) (W : Wld) {who : Nat} (hw : who < W.procs.length) : (C.ahead W who).own_ ∧ ∀ k, (C.ahead W who).pr k k = C.pr k k + if k = who then 1 else 0 := by
 have hp0 : W.procs[who]? = some W.procs[who] := List.getElem?_eq_getElem hw
 rw [ahead_eq hp0]
 generalize W.procs[who] = p
 have ho := own_at C who
 have hj : ∀ a k, jn (C.own who) (C.rm a) k ≤ C.pr k k + if k = who then 1 else 0 := by
  intro a k
  have h1 := h.1 who k
  have h2 := h.2 a k
  have h3 := ho k
  unfold jn
  split at h3 <;> simp_all <;> omega
 have hj2 : ∀ a, jn (C.own who) (C.rm a) who = C.pr who who + 1 := by
  intro a
  have h2 := h.2 a who
  have h3 := ho who
  simp at h3
  unfold jn
  omega
 have hoL : ∀ k, C.own who k ≤ C.pr k k + if k = who then 1 else 0 := by
  intro k
  have h1 := h.1 who k
  have h3 := ho k
  omega
 have hoW : C.own who who = C.pr who who + 1 := by have := ho who; simpa using this
 -- one clock set anew: its own count one more, the others at most as much as known
 have key : ∀ (x : Nat → Int) (r : Nat → Nat → Int), (∀ k, x k ≤ C.pr k k + if k = who then 1 else 0) → x who = C.pr who who + 1 → (∀ i k, r i k ≤ C.pr k k + if k = who then 1 else 0) →
   (Ck.mk (upF C.pr who x) r).own_ ∧ ∀ k, (Ck.mk (upF C.pr who x) r).pr k k = C.pr k k + if k = who then 1 else 0 := by
  intro x r hx hxw hr
  have e : ∀ k, upF C.pr who x k k = C.pr k k + if k = who then 1 else 0 := by
   intro k
   unfold upF
   by_cases hk : k = who
   ·subst hk; simp [hxw]
   ·simp [hk]
  refine ⟨⟨fun i k => ?_, fun i k => ?_⟩, e⟩
  ·show upF C.pr who x i k ≤ upF C.pr who x k k
   rw [e]
   unfold upF
   split
   ·exact hx k
   ·have := h.1 i k; split <;> omega
  ·show r i k ≤ upF C.pr who x k k
   rw [e]; exact hr i k
 have hrm : ∀ i k, C.rm i k ≤ C.pr k k + if k = who then 1 else 0 := fun i k => by have := h.2 i k; split <;> omega
 have hrm2 : ∀ a i k, upF C.rm a (C.own who) i k ≤ C.pr k k + if k = who then 1 else 0 := fun a i k => by
  unfold upF
  split
  ·exact hoL k
  ·exact hrm i k
 split
 ·exact key _ _ (hj _) (hj2 _) hrm
 split
 ·exact key _ _ (hj _) (hj2 _) hrm
 split
 ·exact key _ _ hoL hoW (hrm2 _)
 split
 ·exact key _ _ hoL hoW (hrm2 _)
 split
 ·unfold Ck.sig
  split
  ·exact key _ _ hoL hoW hrm
  ·rename_i f r _
   have e : ∀ k, upF (upF C.pr f.toNat (jn (C.pr f.toNat) (C.own who))) who (C.own who) k k = C.pr k k + if k = who then 1 else 0 := by
    intro k
    unfold upF
    by_cases hk : k = who
    ·subst hk; simp [hoW]
    ·by_cases hf : k = f.toNat
     ·have h3 := hoL k
      rw [if_neg hk] at h3
      show (if k = who then C.own who else if k = f.toNat then jn (C.pr f.toNat) (C.own who) else C.pr k) k = _
      rw [if_neg hk, if_pos hf, if_neg hk]
      unfold jn
      rw [← hf]
      omega
     ·simp [hk, hf]
   refine ⟨⟨fun i k => ?_, fun i k => ?_⟩, e⟩
   ·show upF (upF C.pr f.toNat _) who _ i k ≤ upF (upF C.pr f.toNat _) who _ k k
    rw [e]
    have h1 := h.1 i k
    have h2 := h.1 f.toNat k
    have h3 := hoL k
    unfold upF
    split
    ·exact h3
    split
    ·unfold jn
     by_cases hk : k = who
     ·rw [if_pos hk] at h3 ⊢; omega
     ·rw [if_neg hk] at h3 ⊢; omega
    ·split <;> omega
   ·show C.rm i k ≤ upF (upF C.pr f.toNat _) who _ k k
    rw [e]; exact hrm i k
 ·exact key _ _ hoL hoW hrm
theorem zero_own : Ck.zero.own_ := ⟨fun _ _ => Int.le_refl _, fun _ _ => Int.le_refl _⟩
theorem clk_getD {n k : Nat} {x : Nat → Int} (h : k < n) : (clkL n x)[k]?.getD 0 = x k := by simp [clkL, h]
theorem marks_up (n : Nat) : ∀ (q : List Int) (i : Nat) (C : Ck) (W : Wld), C.own_ → W.procs.length = n → ∀ m ∈ marksF n q i C W, m.who < n ∧ m.clock.length = n ∧ C.pr m.who m.who < m.clock[m.who]?.getD 0 := by
 intro q
 induction q with
 | nil => intro i C W _ _ m hm; simp [marksF] at hm
 | cons a r ih =>
  intro i C W hC hn m hm
  rw [marksF] at hm
  split at hm
  ·rename_i hc
   obtain ⟨k, hk, hkl⟩ := code0_who hc
   subst hk
   rw [Int.toNat_natCast] at hm
   obtain ⟨hC2, hd⟩ := ahead_own hC W hkl
   rcases List.mem_append.1 hm with hm | hm
   ·rw [markP_eq (List.getElem?_eq_getElem hkl)] at hm
    have hdk := hd k
    simp at hdk
    split at hm
    ·rw [List.mem_singleton.1 hm]
     refine ⟨by simp only; omega, clkL_len _ _, ?_⟩
     simp only
     rw [clk_getD (by omega), hdk]; omega
    ·split at hm
     ·rw [List.mem_singleton.1 hm]
      refine ⟨by simp only; omega, clkL_len _ _, ?_⟩
      simp only
      rw [clk_getD (by omega), hdk]; omega
     ·cases hm
   ·obtain ⟨h1, h2, h3⟩ := ih (i + 1) _ _ hC2 (by rw [Wld.step_len]; exact hn) m hm
    refine ⟨h1, h2, ?_⟩
    have := hd m.who
    split at this <;> omega
  ·exact ih (i + 1) C W hC hn m hm
theorem marks_back (n : Nat) : ∀ (q : List Int) (i : Nat) (C : Ck) (W : Wld), C.own_ → W.procs.length = n → (marksF n q i C W).Pairwise fun a b => b.ahead a = false := by
 intro q
 induction q with
 | nil => intro i C W _ _; simp [marksF]
 | cons a r ih =>
  intro i C W hC hn
  rw [marksF]
  split
  ·rename_i hc
   obtain ⟨k, hk, hkl⟩ := code0_who hc
   subst hk
   rw [Int.toNat_natCast]
   obtain ⟨hC2, hd⟩ := ahead_own hC W hkl
   have hn2 : (W.step k).procs.length = n := by rw [Wld.step_len]; exact hn
   refine List.pairwise_append.2 ⟨?_, ih (i + 1) _ _ hC2 hn2, fun x hx y hy => ?_⟩
   ·rw [markP_eq (List.getElem?_eq_getElem hkl)]
    split
    ·simp
    ·split <;> simp
   ·obtain ⟨h1, h2, h3⟩ := marks_up n r (i + 1) _ _ hC2 hn2 y hy
    rw [markP_eq (List.getElem?_eq_getElem hkl)] at hx
    have hxc : x.clock = clkL n ((C.ahead W k).pr k) := by
     split at hx
     ·rw [List.mem_singleton.1 hx]
     ·split at hx
      ·rw [List.mem_singleton.1 hx]
      ·cases hx
    have hle : x.clock[y.who]?.getD 0 ≤ (C.ahead W k).pr y.who y.who := by
     rw [hxc, clk_getD h1]; exact hC2.1 k y.who
    rw [ahead_if (by omega) (by rw [hxc, clkL_len]; exact h1)]
    split
    ·exact decide_eq_false (by omega)
    ·exact decide_eq_false (by omega)
  ·exact ih (i + 1) C W hC hn
theorem marksL_back (p : List (List Stm)) (q : List Int) : (marksL p q).Pairwise fun a b => b.ahead a = false := by
 unfold marksL
 split
 ·exact marks_back p.length q 0 _ _ zero_own (by simp [open0])
 ·exact List.Pairwise.nil
end
section
attribute [local irreducible] X Pure Mod
theorem g_race : Tryz.prog.eqGuardType Tryz.prog.depth 36 = false := by kernel_rfl
theorem u_race : s2B Tryz.prog 36 = true := by kernel_rfl
theorem s_race : Tryz.prog.stoodInHeld 36 = false := by kernel_rfl
theorem rc_cells {G : PH} {l : List (Nat × Nat)} {k c : Nat} {A : Option Addr} (h : Rcs G l (.slice A l.length c)) (hk : k < l.length) : ∃ ad, A = some ad ∧ gcells G (ad.add (k * 2)) [.int .i64 (l[k].1 : Nat), .int .i64 (l[k].2 : Nat)] := by
 obtain ⟨ad, cs, rfl, hcs, rfl⟩ := Sr_at h hk
 exact ⟨ad, J, hcs⟩
theorem c_FnRaces (A : Option Addr) (n c : Nat) (G : PH) (hl : n ≤ 1048576 → ∃ l, Byts G l (.slice A n c) ∧ l.length = n) : Pure Tryz.prog 6 [.slice A n c] G fun v G' => v = .bool true := by
 obtain ⟨f0, f1, k0, k1, s1, s2, s3, s4, s5, s6, s7⟩ := s2_of u_race
 refine Pure.intro Tryz.func6 Tryz.ntmps6 J J fun w => ?_; refine Va J J ?_
 refine S_condp J (fun h => ?_) (fun h => ?_) <;> refine Va J J ?_
 ·exact S_retp (Res.t1 Tryz.results6 J J) XR J
 obtain ⟨l, hb, hll⟩ := hl (by omega)
 refine S_call Tryz.call9 (c_DrawRacesOf l _ _ hb) J J J ?_;rintro v1 G1 ⟨p, pv, q, qv, rfl, hp, hq, _⟩ hext1
 obtain ⟨Ap, cp, rfl, _⟩ := id hp.1
 obtain ⟨Aq, cq, rfl, _⟩ := id hq
 refine Va J J ?_;refine S_call Tryz.call10 (c_iRacesOf p q _ _ _ hp hq) J J J ?_;rintro v2 G2 hr2 hext2
 obtain ⟨Ar, cr, rfl, _⟩ := id hr2
 refine Va J J ?_;refine S_call Tryz.call11 (c_sRacesOf p q _ _ _ (PrgS_le hext2.le hp) (Ints_le hext2.le hq)) J J J ?_;rintro v3 G3 hr3 hext3
 obtain ⟨Ar3, cr3, rfl, _⟩ := id hr3
 refine Va J J ?_;refine RF J (by simp) ?_;refine Va J J ?_;refine S_call Tryz.call12 (c_iMarksOf p q _ _ _ (PrgS_le (hext2.trans hext3).le hp) (Ints_le (hext2.trans hext3).le hq)) J J J ?_;rintro v4 G4 hm4 hext4
 obtain ⟨Am, cm, rfl, _⟩ := id hm4
 have hml := marksL_len p q
 have hbk := marksL_back p q
 replace hr2 := Rcs_le (hext3.trans hext4).le hr2
 replace hr3 := Rcs_le hext4.le hr3
 generalize marksL p q = ms at hm4 hml hbk hr2 hr3 ⊢
 have hbig : (racesL ms).length ≤ 40200 := by have := races_len2 (ms := ms) (i := ms.length) (j := 0) (Nat.le_refl _) (Nat.zero_le _) hml; rw [List.length_append] at this; unfold racesL; omega
 refine Va J J ?_;refine S_loop (α := Nat) (fun i => i ≤ (racesL ms).length) (fun i => (racesL ms).length - i) []
  (fun i => [(8, .val (.int .i64 (i : Nat))), (7, .val (.slice Am ms.length cm)), (6, .val (.slice Ar3 (racesL ms).length cr3)), (5, .val (.slice Ar (racesL ms).length cr))])
  (fun _ => []) (fun _ => G4) 0 (Nat.zero_le _) rfl ⟨⟨_, rfl, rfl⟩, ⟨_, rfl, rfl⟩, ⟨_, rfl, rfl⟩, ⟨_, rfl, rfl⟩, trivial⟩ .nil ?_
 intro i hi
 refine Va J J ?_
 refine S_condp J (fun h5 => ?_) (fun h5 => ?_) <;> refine Va J J ?_
 ·have hil : i < (racesL ms).length := by omega
  obtain ⟨ad, e1, hx⟩ := rc_cells hr2 hil
  obtain ⟨ad3, e2, hy⟩ := rc_cells hr3 hil
  subst e1 e2
  obtain ⟨_, hx3, hx4, hx5⟩ := mem_racesTo.1 (show (racesL ms)[i] ∈ racesTo ms ms.length from List.getElem_mem hil)
  generalize (racesL ms)[i] = x at hx hy hx3 hx4 hx5
  obtain ⟨I, jj⟩ := x
  simp only at hx hy hx3 hx4 hx5
  have hI : I < ms.length := by omega
  have hbk2 := List.pairwise_iff_getElem.1 hbk I jj hI hx4 hx3
  rw [rcAt_eq hI hx4] at hx5
  obtain ⟨adm, ca, rfl, hca, hma⟩ := mk_at hm4 hI
  obtain ⟨adm', cb, e, hcb, hmb⟩ := mk_at hm4 hx4
  cases e
  have hA1 := c_iMarkAhead _ _ _ _ G4 hma hmb
  have hA2 := c_iMarkAhead _ _ _ _ G4 hmb hma
  generalize ms[I] = a at hma hx5 hbk2 hA1 hA2
  generalize ms[jj] = b at hmb hx5 hbk2 hA1 hA2
  rw [race_eq] at hx5
  simp only [Bool.and_eq_true, Bool.or_eq_true, decide_eq_true_eq, Bool.not_eq_true'] at hx5
  obtain ⟨⟨⟨h6, h7⟩, h8⟩, h9⟩ := hx5
  obtain ⟨Aa, ka, rfl, _⟩ := id hma
  obtain ⟨Ab, kb, rfl, _⟩ := id hmb
  rw [h9] at hA1
  rw [hbk2] at hA2
  refine Ds J J J ?_;refine Da J J ?_;refine D_val 2 J J J J J J J J J (V_index Tk J J J J (by omega) (by omega)) ?_;refine Da J J ?_;refine D_val 3 J J J J J J J J J (V_loadA Tk J J J (by simpa using hx)) ?_;refine Da J J ?_;refine D_val 6 J J J J J J J J J (V_index Tk J J J J (by omega) (by omega)) ?_;refine Da J J ?_;refine D_val 7 J J J J J J J J J (V_loadA Tk J J J (by simpa using hy)) ?_;refine Da J J ?_
  refine D_val 8 J J J J J J J J J (V_neqS2 g_race s1 s_race s2 s3 s4 s5 s6 s7 J J) ?_;refine Da J J ?_;refine D_split 48 J (fun _ => J) (fun hh => absurd hh (by simp)) (fun hh => ?_)
  refine Da J J ?_;refine D_val 12 J J J J J J J J J (V_index Tk J J J J (by omega) (by omega)) ?_;refine Da J J ?_;refine D_val 14 J J J J J J J J J (V_load Tk J J J (by simpa [add_zero'] using hx.1)) ?_;refine Da J J ?_
  refine D_split 56 J (fun _ => J) (fun hh => absurd hh (by simp <;> omega)) (fun hh => ?_)
  refine Da J J ?_;refine D_val 20 J J J J J J J J J (V_index Tk J J J J (by omega) (by omega)) ?_;refine Da J J ?_;refine D_val 22 J J J J J J J J J (V_load Tk J J J (by simpa [add_zero'] using hx.1)) ?_;refine Da J J ?_;refine D_val 25 J J J J J J J J J (V_index Tk J J J J (by omega) (by omega)) ?_;refine Da J J ?_;refine D_val 27 J J J J J J J J J (V_load Tk J J J (by simpa [add_add'] using hx.2.1)) ?_
  refine Da J J ?_
  refine D_split 69 J (fun _ => J) (fun hh => absurd hh (by simp <;> omega)) (fun hh => ?_)
  refine Da J J ?_;refine D_val 33 J J J J J J J J J (V_index Tk J J J J (by omega) (by omega)) ?_;refine Da J J ?_;refine D_val 35 J J J J J J J J J (V_load Tk J J J (by simpa [add_add'] using hx.2.1)) ?_;refine Da J J ?_;refine DD ?_;refine Va J J ?_;refine RF J (by simp; omega) ?_;refine Va J J ?_;refine S_index Tk J J J J J J (by omega) (by omega) ?_;refine Va J J ?_;refine S_load Tk J J J J J (by simpa [add_zero'] using hx.1) ?_
  refine Va J J ?_;refine S_index Tk J J J J J J (by omega) (by omega) ?_;refine Va J J ?_;refine S_loadA Tk J J J J J (by simpa using hca) ?_;refine Va J J ?_;refine AZ ZT_ok J J J J fun b9 => ?_;refine Va J J ?_;refine S_index Tk J J J J J J (by omega) (by omega) ?_;refine Va J J ?_;refine S_load Tk J J J J J (by simpa [add_add'] using hx.2.1) ?_;refine Va J J ?_;refine S_index Tk J J J J J J (by omega) (by omega) ?_
  refine Va J J ?_;refine S_loadA Tk J J J J J (by simpa using hcb) ?_;refine Va J J ?_;refine AZ ZT_ok J J J J fun b10 => ?_;refine Va J J ?_;refine GF J J (by simp; omega) ?_;refine Va J J ?_
  refine S_guard J J (fun ha => ?_) (fun ha => ?_) <;> refine Va J J ?_
  ·have hsa : a.store = false := by simpa using ha
   have hsb : b.store = true := by
    rcases h8 with h8 | h8
    ·rw [hsa] at h8; cases h8
    ·exact h8
   refine GF J J (by simp [hsb]) ?_;refine Va J J ?_;refine S_call Tryz.call15 hA1 J J J ?_;rintro v6 G6 ⟨rfl, rfl⟩ _
   refine Va J J ?_;refine GF J J J ?_;refine Va J J ?_;refine S_call Tryz.call15 hA2 J J J ?_;rintro v7 G7 ⟨rfl, rfl⟩ _
   refine Va J J ?_;refine RF J J ?_;refine Va J J ?_;refine S_add J J J J (by omega) ?_;refine Va J J ?_;exact S_again (i + 1) (by omega) (by omega) J ⟨⟨_, J, by simp [denO]⟩, ⟨_, J, J⟩, ⟨_, J, J⟩, ⟨_, J, J⟩, trivial⟩ (by first | exact .nil | exact .drop .nil | exact .drop (.drop .nil))
  ·refine S_call Tryz.call15 hA1 J J J ?_
   rintro v6 G6 ⟨rfl, rfl⟩ _
   refine Va J J ?_;refine GF J J J ?_;refine Va J J ?_;refine S_call Tryz.call15 hA2 J J J ?_;rintro v7 G7 ⟨rfl, rfl⟩ _
   refine Va J J ?_;refine RF J J ?_;refine Va J J ?_;refine S_add J J J J (by omega) ?_;refine Va J J ?_;exact S_again (i + 1) (by omega) (by omega) J ⟨⟨_, J, by simp [denO]⟩, ⟨_, J, J⟩, ⟨_, J, J⟩, ⟨_, J, J⟩, trivial⟩ (by first | exact .nil | exact .drop .nil | exact .drop (.drop .nil))
 ·exact S_retp (Res.t1 Tryz.results6 J J) (((hext1.trans hext2).trans hext3).trans hext4) J
end
end Go.Proofs.YtphbcboejmhaoaaGreat
