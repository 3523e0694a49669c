/- Walks of the program's functions, one after the other (part 13); without conditions of their own. -/
import Derived.Test.YtphbcboejmhaoaaGreatWM3
import Derived.Test.YtphbcboejmhaoaaGreatWM10
import Derived.Test.YtphbcboejmhaoaaGreatWM12
import Derived.Test.YtphbcboejmhaoaaGreatWM2
set_option linter.unusedVariables false
set_option linter.unusedSimpArgs false
set_option maxRecDepth 100000
set_option maxHeartbeats 4000000
open Go.RowKit
namespace Go.Proofs.YtphbcboejmhaoaaGreat
section
attribute [local irreducible] X Pure Mod
end
section
theorem run_eqS2 {P : Program} (w : World) {t : TypeId} {f0 f1 : Field} {k0 k1 : IntKind} (ht : P.underlying t = some (.struct #[f0, f1])) (hst : P.stoodInHeld t = false) (h0 : P.underlying f0.type = some (.int k0)) (h1 : P.underlying f1.type = some (.int k1)) (n0 : f0.name ≠ "_") (n1 : f1.name ≠ "_") (o0 : f0.offset = 0) (o1 : f1.offset = 1) (p q p' q' : Int) :
  (Op.equal t (.agg #[.int .i64 p, .int .i64 q]) (.agg #[.int .i64 p', .int .i64 q'])).run P w = .ok (decide (p = p') && decide (q = q')) w := by
 have e1 : ∀ d (f : Field) k (a b : Int), P.underlying f.type = some (.int k) → (Op.equalIn (d + 1) f.type (.int .i64 a) (.int .i64 b)).run P w = .ok (decide (a = b)) w := by
  intro d f k a b hf
  simp [Op.equalIn, run_underlying hf]
  rfl
 have h : ∀ d : Nat, (Op.equalIn (d + 2) t (.agg #[.int .i64 p, .int .i64 q]) (.agg #[.int .i64 p', .int .i64 q'])).run P w = .ok (decide (p = p') && decide (q = q')) w := fun d => by
  have a0 := e1 d f0 k0 p p' h0
  have a1 := e1 d f1 k1 q q' h1
  by_cases hp : p = p' <;> by_cases hq : q = q' <;>
  simp [Op.equalIn, run_underlying ht, hst, part, isAgg, run_underlying h0, run_underlying h1, n0, n1, o0, o1, a0, a1, hp, hq] <;> simp_all
 simp [Op.equal, Op.maxDepth, h 9998]
def s2B (P : Program) (t : Nat) : Bool := match P.underlying t with
 | some (.struct fs) => match fs.toList with
  | [f0, f1] => (match P.underlying f0.type with | some (.int _) => true | _ => false) && (match P.underlying f1.type with | some (.int _) => true | _ => false) && !(f0.name == "_") && !(f1.name == "_") && Nat.beq f0.offset 0 && Nat.beq f1.offset 1
  | _ => false
 | _ => false
theorem s2_of {P : Program} {t : Nat} (h : s2B P t = true) : ∃ f0 f1 k0 k1, P.underlying t = some (.struct #[f0, f1]) ∧ P.underlying f0.type = some (.int k0) ∧ P.underlying f1.type = some (.int k1) ∧ f0.name ≠ "_" ∧ f1.name ≠ "_" ∧ f0.offset = 0 ∧ f1.offset = 1 := by
 unfold s2B at h
 split at h
 ·rename_i fs hu
  split at h
  ·rename_i f0 f1 hf
   simp only [Bool.and_eq_true, Bool.not_eq_true', beq_eq_false_iff_ne, ne_eq] at h
   obtain ⟨⟨⟨⟨⟨h1, h2⟩, h3⟩, h4⟩, h5⟩, h6⟩ := h
   split at h1
   ·rename_i k0 e0
    split at h2
    ·rename_i k1 e1
     refine ⟨f0, f1, k0, k1, ?_, e0, e1, h3, h4, Nat.eq_of_beq_eq_true h5, Nat.eq_of_beq_eq_true h6⟩
     rw [hu, ← Array.toArray_toList (xs := fs), hf]
    ·cases h2
   ·cases h1
  ·cases h
 ·cases h
end
section
attribute [local irreducible] X Pure Mod
theorem marksF_take (n : Nat) : ∀ (q : List Int) (m i : Nat) (C : Ck) (W : Wld), marksF n (q.take m) i C W <+: marksF n q i C W := by
 intro q
 induction q with
 | nil => intro m i C W; simp
 | cons a r ih =>
  intro m i C W
  cases m with
  | zero => simp only [List.take_zero, marksF]; exact List.nil_prefix
  | succ m =>
   rw [List.take_succ_cons, marksF, marksF]
   split
   ·exact (List.prefix_append_right_inj _).2 (ih m (i + 1) _ _)
   ·exact ih m (i + 1) _ _
theorem marksL_take (p : List (List Stm)) (q : List Int) (m : Nat) (hp : progOk p = true) (hq : q.length ≤ 200) : marksL p (q.take m) <+: marksL p q := by
 unfold marksL
 rw [if_pos ⟨hp, by rw [List.length_take]; omega⟩, if_pos ⟨hp, hq⟩]
 exact marksF_take p.length q m 0 _ _
theorem rcAt_pre {ms' ms : List Mk} (h : ms' <+: ms) {i j : Nat} (hi : i < ms'.length) (hj : j < ms'.length) : rcAt ms' i j = rcAt ms i j := by
 obtain ⟨t, rfl⟩ := h
 unfold rcAt
 rw [List.getElem?_append_left hi, List.getElem?_append_left hj]
theorem races_pre {ms' ms : List Mk} (h : ms' <+: ms) {x : Nat × Nat} (hx : x ∈ racesL ms') : x ∈ racesL ms := by
 obtain ⟨h1, h2, h3, h4⟩ := mem_racesTo.1 hx
 have hl := h.length_le
 rw [rcAt_pre h (by omega) h3] at h4
 exact mem_racesTo.2 ⟨by omega, h2, by omega, h4⟩
theorem rowTo_pre {ms' ms : List Mk} (h : ms' <+: ms) {i : Nat} (hi : i < ms'.length) : ∀ j, j ≤ ms'.length → rowTo ms' i j = rowTo ms i j := by
 intro j hj
 unfold rowTo
 congr 1
 refine List.filter_congr fun k hk => ?_
 have := List.mem_range.1 hk
 rw [rcAt_pre h hi (by omega)]
theorem rowTo_mono (ms : List Mk) (i : Nat) : ∀ d j, (rowTo ms i j).length ≤ (rowTo ms i (j + d)).length := by
 intro d
 induction d with
 | zero => intro j; exact Nat.le_refl _
 | succ d ih =>
  intro j
  refine Nat.le_trans (ih j) ?_
  rw [← Nat.add_assoc]
  by_cases h : i < j + d
  ·rw [rowTo_succ h, List.length_append]; omega
  ·have h0 := rowTo_len ms i (j + d)
   omega
theorem racesTo_mono (ms : List Mk) : ∀ d i, (racesTo ms i).length ≤ (racesTo ms (i + d)).length := by
 intro d
 induction d with
 | zero => intro i; exact Nat.le_refl _
 | succ d ih =>
  intro i
  refine Nat.le_trans (ih i) ?_
  rw [← Nat.add_assoc, racesTo_succ, List.length_append]; omega
theorem races_le {ms' ms : List Mk} (h : ms' <+: ms) : (racesL ms').length ≤ (racesL ms).length := by
 have hl := h.length_le
 have key : ∀ i, i ≤ ms'.length → (racesTo ms' i).length ≤ (racesTo ms i).length := by
  intro i
  induction i with
  | zero => intro _; simp [racesTo]
  | succ i ih =>
   intro hi
   rw [racesTo_succ, racesTo_succ, List.length_append, List.length_append, rowTo_pre h (by omega) _ (Nat.le_refl _)]
   have := ih (by omega)
   have := rowTo_mono ms i (ms.length - ms'.length) ms'.length
   rw [show ms'.length + (ms.length - ms'.length) = ms.length by omega] at this
   omega
 have := racesTo_mono ms (ms.length - ms'.length) ms'.length
 rw [show ms'.length + (ms.length - ms'.length) = ms.length by omega] at this
 exact Nat.le_trans (key _ (Nat.le_refl _)) this
section
variable {C : Ctx} {ι : Ids} {E : Env} {L : List Ent} {G : PH} {d : Option Nat} {ty : Nat} {pos : String} {af : Array Edge} {g : Option (Nat × Bool)}
theorem V_sliceY {T : Tab} (hT : tabOk C.P T) {t e sz sz' m : Nat} {os os' : List Nat} {tk : TK} {x y : Operand} {A : Option Addr} {n c : Nat} (ht : lookT t T = some ⟨.slc e, sz', os'⟩) (he : lookT e T = some ⟨tk, sz, os⟩) (hx : ev E x = some (.val (.slice A n c))) (hy : ev E y = some (.val (.int .i64 (m : Nat)))) (hm : m ≤ n) (hnc : n ≤ c) (hpos : 0 < c) :
  Vl C ι E L G ⟨d, .slice t x none (some y) none, ty, pos, af, g⟩ (.slice (A.map (·.add 0)) m c) := by
 intro a w hE hw
 have ex := ev_sound hE hx
 have ey := ev_sound hE hy
 simp only [denO, Option.some.injEq] at ex ey
 have hu := tyOk_slice (hT _ _ ht) rfl
 simp only [execOp, Option.map_some, Option.map_none, ← ex, ← ey]
 have h1 : (m : Int) ≤ (n : Int) := by omega
 have h2 : ¬ ((m : Int) < 0) := by omega
 have h3 : ¬ (c = 0) := by omega
 have h4 : (m : Int) ≤ (c : Int) := by omega
 simp only [Instr.sliceAt, Sem.run_bind, run_underlying hu, Result.andThen_ok]
 simp [Instr.slice, run_underlying hu, Instr.sliceBounds, Instr.sliceBound, asIntOf, tyOk_size (hT _ _ he), h1, h2, h3, h4]
 intro h5
 omega
theorem V_eqS2 {t t' : Nat} {x y : Operand} {f0 f1 : Field} {k0 k1 : IntKind} {p q p' q' : Int} (hgt : C.P.eqGuardType C.P.depth t = false) (ht : C.P.underlying t = some (.struct #[f0, f1])) (hst : C.P.stoodInHeld t = false) (h0 : C.P.underlying f0.type = some (.int k0)) (h1 : C.P.underlying f1.type = some (.int k1)) (n0 : f0.name ≠ "_") (n1 : f1.name ≠ "_") (o0 : f0.offset = 0) (o1 : f1.offset = 1)
  (hx : ev E x = some (.val (.agg #[.int .i64 p, .int .i64 q]))) (hy : ev E y = some (.val (.agg #[.int .i64 p', .int .i64 q']))) : Vl C ι E L G ⟨d, .binOp .eql t x y t', ty, pos, af, g⟩ (.bool (decide (p = p') && decide (q = q'))) := by
 intro a w hE _
 have ex := ev_sound hE hx
 have ey := ev_sound hE hy
 simp only [denO, Option.some.injEq] at ex ey
 simp only [execOp, ← ex, ← ey]
 have he := run_eqS2 (P := C.P) w ht hst h0 h1 n0 n1 o0 o1 p q p' q'
 simp [eqGuard, binOp, hgt, he]
end
theorem law2 {P : Program} {f : FuncId} {a a1 : Option Addr} {len cap len1 cap1 : Nat} {zs : List Int} {w : World} (h : (a = none ∧ len = 0 ∧ cap = 0 ∧ zs = []) ∨ ∃ x, a = some x ∧ len ≤ cap ∧ cap ≤ maxLen ∧ zs.length = cap ∧ (∀ i, i < zs.length → w.cell? (x.add i) = some (.int .u8 (zs.getD i 0))) ∧ ∀ n ∈ zs, (Lit.int .u8 n).wf = true)
  (hc : (len ≤ 1048576 → ∃ l, Byts (GB w a) l (.slice a len cap) ∧ l.length = len) → Pure P f [.slice a len cap, .slice a1 len1 cap1] (GB w a) fun v G' => v = .bool true) :
  Calls P f #[.slice a len cap, .slice a1 len1 cap1] w fun e w' => e = .returned (.bool true) ∧ Below w.heap.size w w' := by
 unfold Pure at hc
 exact (hc (byts_of h) w (GB_emb w a)).mono fun e w' ⟨v, G', h1, h2, h3, h4, h5⟩ => ⟨by rw [h1, h2], h5⟩
theorem rem_bnd' {a n : Nat} : ∃ m : Nat, ((a : Int) % ((n : Int) + 1)) = m ∧ m ≤ n := by
 refine ⟨a % (n + 1), ?_, ?_⟩
 ·rw [Int.natCast_emod]; rfl
 ·have := Nat.mod_lt a (show 0 < n + 1 by omega); omega
theorem Ints_take {G : PH} {q : List Int} {A : Option Addr} {c m : Nat} (h : Ints G q (.slice A q.length c)) (hm : m ≤ q.length) : Ints G (q.take m) (.slice (A.map (·.add 0)) m c) := Sr_take h hm
theorem Ints_nil {G : PH} {q : List Int} {A : Option Addr} {c : Nat} (h : Ints G q (.slice A q.length c)) : Ints G [] (.slice A 0 c) := by
 obtain ⟨A', c', e, h1, h2, h3, h4⟩ := h
 cases e
 exact ⟨A, c, J, by simp, Nat.zero_le _, h3, .inl J⟩
theorem g_race' : Tryz.prog.eqGuardType Tryz.prog.depth 36 = false := by kernel_rfl
theorem u_race' : s2B Tryz.prog 36 = true := by kernel_rfl
theorem s_race' : Tryz.prog.stoodInHeld 36 = false := by kernel_rfl
theorem rc_cells' {G : PH} {l : List (Nat × Nat)} {k c : Nat} {A : Option Addr} (h : Rcs G l (.slice A l.length c)) (hk : k < l.length) : ∃ ad, A = some ad ∧ gcells G (ad.add (k * 2)) [.int .i64 (l[k].1 : Nat), .int .i64 (l[k].2 : Nat)] := by
 obtain ⟨ad, cs, rfl, hcs, rfl⟩ := Sr_at h hk
 exact ⟨ad, J, hcs⟩
def hasN (l : List (Nat × Nat)) (x : Nat × Nat) (k : Nat) : Bool := (l.take k).any fun y => decide ((y.1 : Int) = x.1) && decide ((y.2 : Int) = x.2)
theorem hasN_succ {l : List (Nat × Nat)} {x : Nat × Nat} {k : Nat} (h : k < l.length) : hasN l x (k + 1) = (hasN l x k || (decide ((l[k].1 : Int) = x.1) && decide ((l[k].2 : Int) = x.2))) := by
 unfold hasN
 rw [List.take_succ_eq_append_getElem h, List.any_append]
 simp
theorem hasN_all {l : List (Nat × Nat)} {x : Nat × Nat} (h : x ∈ l) : hasN l x l.length = true := by
 unfold hasN
 rw [List.take_length]
 exact List.any_eq_true.2 ⟨x, h, by simp⟩
theorem c_FnRaceCut (A : Option Addr) (n c : Nat) (A' : Option Addr) (n' c' : Nat) (G : PH) (hl : n ≤ 1048576 → ∃ l, Byts G l (.slice A n c) ∧ l.length = n) : Pure Tryz.prog 4 [.slice A n c, .slice A' n' c'] G fun v G' => v = .bool true := by
 obtain ⟨f0, f1, k0, k1, s1, s2, s3, s4, s5, s6, s7⟩ := s2_of u_race'
 refine Pure.intro Tryz.func4 Tryz.ntmps4 J J fun w => ?_; refine Va J J ?_
 refine S_cond J (fun h => ?_) (fun h => ?_) <;> refine Va J J ?_
 ·exact S_retp (Res.t1 Tryz.results4 J J) XR J
 simp only [Bool.or_eq_false_iff, decide_eq_false_iff_not] at h
 obtain ⟨h, hn'⟩ := h
 obtain ⟨l, hb, hll⟩ := hl (by omega)
 refine S_call Tryz.call9 (c_DrawRacesOf l _ _ hb) J J J ?_;rintro v1 G1 ⟨p, pv, q, qv, rfl, hp, hq, _⟩ hext1
 obtain ⟨Ap, cp, rfl, _⟩ := id hp.1
 obtain ⟨Aq, cq, rfl, hq1, hqc, _⟩ := id hq
 refine Va J J ?_;refine S_call Tryz.call10 (c_iRacesOf p q _ _ _ hp hq) J J J ?_;rintro v2 G2 hr2 hext2
 obtain ⟨Ar, cr, rfl, _⟩ := id hr2
 refine Va J J ?_;refine S_call Tryz.call11 (c_sRacesOf p q _ _ _ (PrgS_le hext2.le hp) (Ints_le hext2.le hq)) J J J ?_;rintro v3 G3 hr3 hext3
 obtain ⟨Ar3, cr3, rfl, _⟩ := id hr3
 refine Va J J ?_;refine GF J J (by simp) ?_;refine Va J J ?_;refine S_call Tryz.call13 (c_ProgOk p _ _ (PrgS_le (hext2.trans hext3).le hp).1) J J J ?_;rintro v4 G4 ⟨rfl, rfl⟩ _
 refine Va J J ?_
 refine S_cond J (fun hbad => ?_) (fun hok => ?_) <;> refine Va J J ?_
 ·refine S_call Tryz.call11 (c_sRacesOf p q _ _ _ (PrgS_le (hext2.trans hext3).le hp) (Ints_le (hext2.trans hext3).le hq)) J J J ?_
  rintro v5 G5 hr5 hext5
  obtain ⟨Ar5, cr5, rfl, _⟩ := id hr5
  refine Va J J ?_;exact S_retp (Res.t1 Tryz.results4 J J) (((hext1.trans hext2).trans hext3).trans hext5) (by simp)
 simp only [Bool.or_eq_false_iff, Bool.not_eq_false', decide_eq_false_iff_not] at hok
 obtain ⟨hpo, h200⟩ := hok
 have hq200 : q.length ≤ 200 := by omega
 refine S_add J J J J (by omega) ?_;refine Va J J ?_;obtain ⟨m, hme, hmq⟩ := rem_bnd' (a := n') (n := q.length)
 refine S_valV J J J (V_rem J J (by omega) (by omega)) ?_
 rw [hme]
 refine Va J J ?_
 have hq3 := Ints_le (hext2.trans hext3).le hq
 rcases Nat.eq_zero_or_pos m with rfl | hm0
 ·refine S_valV J J J (V_slice0 Tk J J J J) ?_
  refine Va J J ?_
  have hQ : Ints G4 (q.take 0) (.slice Aq 0 cq) := Ints_nil hq3
  refine S_call Tryz.call10 (c_iRacesOf p (q.take 0) _ _ _ (PrgS_le (hext2.trans hext3).le hp) hQ) J J J ?_;rintro v6 G6 hr6 hext6
  obtain ⟨Ar6, cr6, rfl, _⟩ := id hr6
  have hpre := marksL_take p q 0 hpo hq200
  have hml := marksL_len p q
  have hml' := marksL_len p (q.take 0)
  replace hr2 := Rcs_le (hext3.trans hext6).le hr2
  clear hr3
  have hsub := fun x => races_pre hpre (x := x)
  have hle := races_le hpre
  have hbig : (racesL (marksL p q)).length ≤ 40200 := by have := races_len2 (ms := marksL p q) (i := (marksL p q).length) (j := 0) (Nat.le_refl _) (Nat.zero_le _) hml; rw [List.length_append] at this; unfold racesL; omega
  generalize racesL (marksL p q) = L at hr2 hsub hle hbig ⊢
  generalize racesL (marksL p (q.take 0)) = L' at hr6 hsub hle ⊢
  refine Va J J ?_;refine S_loop (α := Nat) (fun i => i ≤ L'.length) (fun i => L'.length - i) []
   (fun i => [(9, .val (.int .i64 (i : Nat))), (8, .val (.slice Ar6 L'.length cr6)), (7, .val (.slice Ar L.length cr))])
   (fun _ => []) (fun _ => G6) 0 (Nat.zero_le _) rfl ⟨⟨_, rfl, rfl⟩, ⟨_, rfl, rfl⟩, ⟨_, rfl, rfl⟩, trivial⟩ .nil ?_
  intro i hi
  refine Va J J ?_
  refine S_condp J (fun h5 => ?_) (fun h5 => ?_) <;> refine Va J J ?_
  ·have hil : i < L'.length := by omega
   obtain ⟨ad, rfl, hx⟩ := rc_cells' hr6 hil
   have hall := hasN_all (hsub _ (List.getElem_mem hil))
   generalize L'[i] = x at hx hall
   obtain ⟨I, jj⟩ := x
   simp only at hx
   refine S_loop (α := Nat) (fun k => k ≤ L.length) (fun k => L.length - k) []
    (fun k => [(11, .val (.int .i64 (k : Nat))), (10, .val (.bool (hasN L (I, jj) k))), (9, .val (.int .i64 (i : Nat))), (8, .val (.slice (some ad) L'.length cr6)), (7, .val (.slice Ar L.length cr))])
    (fun _ => []) (fun _ => G6) 0 (Nat.zero_le _) rfl ⟨⟨_, rfl, rfl⟩, ⟨_, rfl, rfl⟩, ⟨_, rfl, rfl⟩, ⟨_, rfl, rfl⟩, ⟨_, rfl, rfl⟩, trivial⟩ .nil ?_
   intro k hk
   refine Va J J ?_
   refine S_condp J (fun h6 => ?_) (fun h6 => ?_) <;> refine Va J J ?_
   ·have hkl : k < L.length := by omega
    obtain ⟨ad2, rfl, hy⟩ := rc_cells' hr2 hkl
    refine D_startK [10] (by exact MO) J J J (by kernel_rfl) ?_;refine Da J J ?_;refine D_split 75 J (fun _ => J) (fun hh => ?_) (fun hh => ?_)
    ·refine Da J J ?_
     refine D_sole 12 J J (N_assign Tk 12 J J J J J J J J J (by kernel_rfl) ?_)
     refine DD ?_;refine Va J J ?_;refine S_add J J J J (by omega) ?_;refine Va J J ?_;exact S_again (k + 1) (by omega) (by omega) J ⟨⟨_, J, by simp [denO]⟩, ⟨_, J, by rw [hasN_succ hkl]; simp [denO, hh]⟩, ⟨_, rfl, rfl⟩, ⟨_, rfl, rfl⟩, ⟨_, rfl, rfl⟩, trivial⟩ .nil
    ·refine Da J J ?_
     refine D_val 4 J J J J J J J J J (V_index Tk J J J J (by omega) (by omega)) ?_;refine Da J J ?_;refine D_val 5 J J J J J J J J J (V_loadA Tk J J J (by simpa using hy)) ?_;refine Da J J ?_;refine D_val 8 J J J J J J J J J (V_index Tk J J J J (by omega) (by omega)) ?_;refine Da J J ?_;refine D_val 9 J J J J J J J J J (V_loadA Tk J J J (by simpa using hx)) ?_;refine Da J J ?_;refine D_val 10 J J J J J J J J J (V_eqS2 g_race' s1 s_race' s2 s3 s4 s5 s6 s7 J J) ?_
     refine Da J J ?_;refine D_sole 12 J J (N_assign Tk 12 J J J J J J J J J (by kernel_rfl) ?_)
     refine DD ?_;refine Va J J ?_;refine S_add J J J J (by omega) ?_;refine Va J J ?_;exact S_again (k + 1) (by omega) (by omega) J ⟨⟨_, J, by simp [denO]⟩, ⟨_, J, by rw [hasN_succ hkl]; simp [denO, hh]⟩, ⟨_, rfl, rfl⟩, ⟨_, rfl, rfl⟩, ⟨_, rfl, rfl⟩, trivial⟩ .nil
   ·obtain rfl : k = L.length := by omega
    refine RF J (by simp [hall]) ?_;refine Va J J ?_;refine S_add J J J J (by omega) ?_;refine Va J J ?_;exact S_again (i + 1) (by omega) (by omega) J ⟨⟨_, J, by simp [denO]⟩, ⟨_, J, J⟩, ⟨_, J, J⟩, trivial⟩ .nil
  ·exact S_retp (Res.t1 Tryz.results4 J J) (((hext1.trans hext2).trans hext3).trans hext6) (by simp; omega)
 ·refine S_valV J J J (V_sliceY Tk J J J J hmq hqc (by omega)) ?_
  refine Va J J ?_
  have hQ : Ints G4 (q.take m) (.slice (Aq.map (·.add 0)) m cq) := Ints_take hq3 hmq
  refine S_call Tryz.call10 (c_iRacesOf p (q.take m) _ _ _ (PrgS_le (hext2.trans hext3).le hp) hQ) J J J ?_;rintro v6 G6 hr6 hext6
  obtain ⟨Ar6, cr6, rfl, _⟩ := id hr6
  have hpre := marksL_take p q m hpo hq200
  have hml := marksL_len p q
  have hml' := marksL_len p (q.take m)
  replace hr2 := Rcs_le (hext3.trans hext6).le hr2
  clear hr3
  have hsub := fun x => races_pre hpre (x := x)
  have hle := races_le hpre
  have hbig : (racesL (marksL p q)).length ≤ 40200 := by have := races_len2 (ms := marksL p q) (i := (marksL p q).length) (j := 0) (Nat.le_refl _) (Nat.zero_le _) hml; rw [List.length_append] at this; unfold racesL; omega
  generalize racesL (marksL p q) = L at hr2 hsub hle hbig ⊢
  generalize racesL (marksL p (q.take m)) = L' at hr6 hsub hle ⊢
  refine Va J J ?_;refine S_loop (α := Nat) (fun i => i ≤ L'.length) (fun i => L'.length - i) []
   (fun i => [(9, .val (.int .i64 (i : Nat))), (8, .val (.slice Ar6 L'.length cr6)), (7, .val (.slice Ar L.length cr))])
   (fun _ => []) (fun _ => G6) 0 (Nat.zero_le _) rfl ⟨⟨_, rfl, rfl⟩, ⟨_, rfl, rfl⟩, ⟨_, rfl, rfl⟩, trivial⟩ .nil ?_
  intro i hi
  refine Va J J ?_
  refine S_condp J (fun h5 => ?_) (fun h5 => ?_) <;> refine Va J J ?_
  ·have hil : i < L'.length := by omega
   obtain ⟨ad, rfl, hx⟩ := rc_cells' hr6 hil
   have hall := hasN_all (hsub _ (List.getElem_mem hil))
   generalize L'[i] = x at hx hall
   obtain ⟨I, jj⟩ := x
   simp only at hx
   refine S_loop (α := Nat) (fun k => k ≤ L.length) (fun k => L.length - k) []
    (fun k => [(11, .val (.int .i64 (k : Nat))), (10, .val (.bool (hasN L (I, jj) k))), (9, .val (.int .i64 (i : Nat))), (8, .val (.slice (some ad) L'.length cr6)), (7, .val (.slice Ar L.length cr))])
    (fun _ => []) (fun _ => G6) 0 (Nat.zero_le _) rfl ⟨⟨_, rfl, rfl⟩, ⟨_, rfl, rfl⟩, ⟨_, rfl, rfl⟩, ⟨_, rfl, rfl⟩, ⟨_, rfl, rfl⟩, trivial⟩ .nil ?_
   intro k hk
   refine Va J J ?_
   refine S_condp J (fun h6 => ?_) (fun h6 => ?_) <;> refine Va J J ?_
   ·have hkl : k < L.length := by omega
    obtain ⟨ad2, rfl, hy⟩ := rc_cells' hr2 hkl
    refine D_startK [10] (by exact MO) J J J (by kernel_rfl) ?_;refine Da J J ?_;refine D_split 75 J (fun _ => J) (fun hh => ?_) (fun hh => ?_)
    ·refine Da J J ?_
     refine D_sole 12 J J (N_assign Tk 12 J J J J J J J J J (by kernel_rfl) ?_)
     refine DD ?_;refine Va J J ?_;refine S_add J J J J (by omega) ?_;refine Va J J ?_;exact S_again (k + 1) (by omega) (by omega) J ⟨⟨_, J, by simp [denO]⟩, ⟨_, J, by rw [hasN_succ hkl]; simp [denO, hh]⟩, ⟨_, rfl, rfl⟩, ⟨_, rfl, rfl⟩, ⟨_, rfl, rfl⟩, trivial⟩ .nil
    ·refine Da J J ?_
     refine D_val 4 J J J J J J J J J (V_index Tk J J J J (by omega) (by omega)) ?_;refine Da J J ?_;refine D_val 5 J J J J J J J J J (V_loadA Tk J J J (by simpa using hy)) ?_;refine Da J J ?_;refine D_val 8 J J J J J J J J J (V_index Tk J J J J (by omega) (by omega)) ?_;refine Da J J ?_;refine D_val 9 J J J J J J J J J (V_loadA Tk J J J (by simpa using hx)) ?_;refine Da J J ?_;refine D_val 10 J J J J J J J J J (V_eqS2 g_race' s1 s_race' s2 s3 s4 s5 s6 s7 J J) ?_
     refine Da J J ?_;refine D_sole 12 J J (N_assign Tk 12 J J J J J J J J J (by kernel_rfl) ?_)
     refine DD ?_;refine Va J J ?_;refine S_add J J J J (by omega) ?_;refine Va J J ?_;exact S_again (k + 1) (by omega) (by omega) J ⟨⟨_, J, by simp [denO]⟩, ⟨_, J, by rw [hasN_succ hkl]; simp [denO, hh]⟩, ⟨_, rfl, rfl⟩, ⟨_, rfl, rfl⟩, ⟨_, rfl, rfl⟩, trivial⟩ .nil
   ·obtain rfl : k = L.length := by omega
    refine RF J (by simp [hall]) ?_;refine Va J J ?_;refine S_add J J J J (by omega) ?_;refine Va J J ?_;exact S_again (i + 1) (by omega) (by omega) J ⟨⟨_, J, by simp [denO]⟩, ⟨_, J, J⟩, ⟨_, J, J⟩, trivial⟩ .nil
  ·exact S_retp (Res.t1 Tryz.results4 J J) (((hext1.trans hext2).trans hext3).trans hext6) (by simp; omega)
end
end Go.Proofs.YtphbcboejmhaoaaGreat
