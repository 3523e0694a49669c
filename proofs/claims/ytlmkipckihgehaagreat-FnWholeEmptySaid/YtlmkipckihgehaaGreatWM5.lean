/- Walks of the program's functions, one after the other (part 5); without conditions of their own. -/
import Derived.Test.YtlmkipckihgehaaGreatWM4
import Derived.Test.YtlmkipckihgehaaGreatWM2
set_option linter.unusedVariables false
set_option linter.unusedSimpArgs false
set_option maxRecDepth 100000
set_option maxHeartbeats 4000000
open Go.RowKit
namespace Go.Proofs.YtlmkipckihgehaaGreat
section
attribute [local irreducible] X Pure Mod
theorem Tds_upd {G G' : PH} (hle : G.le G') (f : Prc → Prc) {tv : Value} : ∀ {ps : List Prc} {ts : List Value} {i : Nat} (hi : i < ps.length), Tds G ps ts → Sts G' (f ps[i]).todo tv → Tds G' (updL f i ps) (ts.set i tv)
 | p :: ps, t :: ts, 0, _, ht, hq => ⟨hq, Tds_le hle ht.2⟩
 | p :: ps, t :: ts, i + 1, hi, ht, hq => ⟨Sts_le hle ht.1, Tds_upd hle f (Nat.lt_of_succ_lt_succ hi) ht.2 hq⟩
 | [], _, _, hi, _, _ => absurd hi (by simp)
 | _ :: _, [], _, _, ht, _ => absurd ht id
theorem c_dIf (W : Wld) (who : Nat) (b : Nat) (ts : List Value) (G : PH) (h1 : 1 ≤ W.procs.length) (h3 : W.procs.length ≤ 3) (ht : Tds G W.procs ts) (hw : who < W.procs.length) (htl : ∀ p ∈ W.procs, p.todo.length ≤ 1000000) (k a bb n : Int) (x y : List Stm) (vx vy : Value) (hx : Sts G x vx) (hy : Sts G y vy) (hxl : x.length ≤ 1000) (hyl : y.length ≤ 1000) (ha : a = 0 ∨ a = 1 ∨ a = 2) :
  Mod Tryz.prog 166 [.agg #[.int .i64 k, .int .i64 a, .int .i64 bb, .int .i64 n, vx, vy], .pointer (some ⟨b, 0, none⟩), .int .i64 (who : Nat)] G (worldP b W ts) fun v G' A' => ∃ tv', A' = worldP b (W.upd who (fun p => { p with todo := (if W.reg who a = 0 then y else x) ++ p.todo })) (ts.set who tv') ∧ Tds G' (W.upd who (fun p => { p with todo := (if W.reg who a = 0 then y else x) ++ p.todo })).procs (ts.set who tv') := by
 obtain ⟨Ax, cx, rfl, _⟩ := id hx
 obtain ⟨Ay, cy, rfl, _⟩ := id hy
 refine Mod.intro Tryz.func166 Tryz.ntmps166 J J fun w S => ?_;refine Va J J ?_;refine S_box J J J J J fun b3 => ?_;obtain ⟨ps, x0, x1, x2, m0, m1, q0, q1, sd⟩ := W
 replace htl : ∀ p ∈ ps, p.todo.length ≤ 1000000 := htl
 rcases shape h1 h3 ht with ⟨⟨a0, a1, a2, td0, mo0, on0, ro0⟩, A0, k0, rfl, rfl, s0⟩ | ⟨⟨a0, a1, a2, td0, mo0, on0, ro0⟩, A0, k0, ⟨b0, b1, b2, td1, mo1, on1, ro1⟩, A1, k1, rfl, rfl, s0, s1⟩ | ⟨⟨a0, a1, a2, td0, mo0, on0, ro0⟩, A0, k0, ⟨b0, b1, b2, td1, mo1, on1, ro1⟩, A1, k1, ⟨d0, d1, d2, td2, mo2, on2, ro2⟩, A2, k2, rfl, rfl, s0, s1, s2⟩
 ·obtain rfl : who = 0 := by simpa using hw
  refine OpP 1 1 J J J J fun bp bc br bs bg kp sp asd ksd aq0 kq0 aq1 kq1 kc spc kr spr ks sps kg spg hbg hmk => ?_; obtain ⟨g0, rfl⟩ := len1 hbg; clear hbg; refine NM J J ?_; dsimp only [wEnts, wCels, procCs, regEs, WX.of, vi]
  refine Va J J ?_
  rcases ha with rfl | rfl | rfl <;>
  ·refine Ds J J J ?_
   refine Da J J ?_;refine DD ?_;refine Va J J ?_
   refine S_condp J (fun h => ?_) (fun h => ?_) <;> refine Va J J ?_
   ·refine S_callIns 1000 (5 * 0 + 1) Tryz.call152 J J (denL_spV 5 J J) (c_insertS 0 (by decide) _ [] _ _ _ J x _ _ _ hx s0 (by have := htl; simp only [List.mem_cons, forall_eq_or_imp] at this; simp only at this ⊢; omega)) rfl (fun _ => rfl) rfl rfl rfl ?_
    rintro v G' tv' hq hext
    refine Va J J ?_;exact EK (1007 :: wKeys 1) (Res.t0 Tryz.results166) ⟨_, J, Tds_upd hext.le _ hw ht (by have hq' := hq; simpa [Wld.reg, Prc.get, h] using hq')⟩ (Wpp [_] kg spg rfl ‹_› rfl rfl rfl rfl rfl rfl rfl rfl) rfl (.blk rfl rfl (Wsub 5 rfl rfl rfl rfl rfl rfl rfl rfl rfl rfl rfl rfl rfl rfl rfl rfl (Bs 3 rfl rfl rfl rfl .nil))) hext
   ·replace h := Classical.not_not.1 h
    refine S_callIns 1000 (5 * 0 + 1) Tryz.call152 J J (denL_spV 5 J J) (c_insertS 0 (by decide) _ [] _ _ _ J y _ _ _ hy s0 (by have := htl; simp only [List.mem_cons, forall_eq_or_imp] at this; simp only at this ⊢; omega)) rfl (fun _ => rfl) rfl rfl rfl ?_;rintro v G' tv' hq hext
    refine Va J J ?_;exact EK (1007 :: wKeys 1) (Res.t0 Tryz.results166) ⟨_, J, Tds_upd hext.le _ hw ht (by have hq' := hq; simpa [Wld.reg, Prc.get, h] using hq')⟩ (Wpp [_] kg spg rfl ‹_› rfl rfl rfl rfl rfl rfl rfl rfl) rfl (.blk rfl rfl (Wsub 5 rfl rfl rfl rfl rfl rfl rfl rfl rfl rfl rfl rfl rfl rfl rfl rfl (Bs 3 rfl rfl rfl rfl .nil))) hext
 ·rcases (by simp at hw; omega : who = 0 ∨ who = 1) with rfl | rfl
  ·refine OpP 1 1 J J J J fun bp bc br bs bg kp sp asd ksd aq0 kq0 aq1 kq1 kc spc kr spr ks sps kg spg hbg hmk => ?_; obtain ⟨g0, g1, rfl⟩ := len2 hbg; clear hbg; refine NM J J ?_; dsimp only [wEnts, wCels, procCs, regEs, WX.of, vi]
   refine Va J J ?_
   rcases ha with rfl | rfl | rfl <;>
   ·refine Ds J J J ?_
    refine Da J J ?_;refine DD ?_;refine Va J J ?_
    refine S_condp J (fun h => ?_) (fun h => ?_) <;> refine Va J J ?_
    ·refine S_callIns 1000 (5 * 0 + 1) Tryz.call152 J J (denL_spV 10 J J) (c_insertS 0 (by decide) _ [] _ _ _ J x _ _ _ hx s0 (by have := htl; simp only [List.mem_cons, forall_eq_or_imp] at this; simp only at this ⊢; omega)) rfl (fun _ => rfl) rfl rfl rfl ?_
     rintro v G' tv' hq hext
     refine Va J J ?_;exact EK (1007 :: wKeys 2) (Res.t0 Tryz.results166) ⟨_, J, Tds_upd hext.le _ hw ht (by have hq' := hq; simpa [Wld.reg, Prc.get, h] using hq')⟩ (Wpp [_, _] kg spg rfl ‹_› rfl rfl rfl rfl rfl rfl rfl rfl) rfl (.blk rfl rfl (Wsub 10 rfl rfl rfl rfl rfl rfl rfl rfl rfl rfl rfl rfl rfl rfl rfl rfl (Bs 3 rfl rfl rfl rfl (Bs 3 rfl rfl rfl rfl .nil)))) hext
    ·replace h := Classical.not_not.1 h
     refine S_callIns 1000 (5 * 0 + 1) Tryz.call152 J J (denL_spV 10 J J) (c_insertS 0 (by decide) _ [] _ _ _ J y _ _ _ hy s0 (by have := htl; simp only [List.mem_cons, forall_eq_or_imp] at this; simp only at this ⊢; omega)) rfl (fun _ => rfl) rfl rfl rfl ?_;rintro v G' tv' hq hext
     refine Va J J ?_;exact EK (1007 :: wKeys 2) (Res.t0 Tryz.results166) ⟨_, J, Tds_upd hext.le _ hw ht (by have hq' := hq; simpa [Wld.reg, Prc.get, h] using hq')⟩ (Wpp [_, _] kg spg rfl ‹_› rfl rfl rfl rfl rfl rfl rfl rfl) rfl (.blk rfl rfl (Wsub 10 rfl rfl rfl rfl rfl rfl rfl rfl rfl rfl rfl rfl rfl rfl rfl rfl (Bs 3 rfl rfl rfl rfl (Bs 3 rfl rfl rfl rfl .nil)))) hext
  ·refine OpP 1 1 J J J J fun bp bc br bs bg kp sp asd ksd aq0 kq0 aq1 kq1 kc spc kr spr ks sps kg spg hbg hmk => ?_; obtain ⟨g0, g1, rfl⟩ := len2 hbg; clear hbg; refine NM J J ?_; dsimp only [wEnts, wCels, procCs, regEs, WX.of, vi]
   refine Va J J ?_
   rcases ha with rfl | rfl | rfl <;>
   ·refine Ds J J J ?_
    refine Da J J ?_;refine DD ?_;refine Va J J ?_
    refine S_condp J (fun h => ?_) (fun h => ?_) <;> refine Va J J ?_
    ·refine S_callIns 1000 (5 * 1 + 1) Tryz.call152 J J (denL_spV 10 J J) (c_insertS 1 (by decide) _ [_,_,_,_,_] _ _ _ J x _ _ _ hx s1 (by have := htl; simp only [List.mem_cons, forall_eq_or_imp] at this; simp only at this ⊢; omega)) rfl (fun _ => rfl) rfl rfl rfl ?_
     rintro v G' tv' hq hext
     refine Va J J ?_;exact EK (1007 :: wKeys 2) (Res.t0 Tryz.results166) ⟨_, J, Tds_upd hext.le _ hw ht (by have hq' := hq; simpa [Wld.reg, Prc.get, h] using hq')⟩ (Wpp [_, _] kg spg rfl ‹_› rfl rfl rfl rfl rfl rfl rfl rfl) rfl (.blk rfl rfl (Wsub 10 rfl rfl rfl rfl rfl rfl rfl rfl rfl rfl rfl rfl rfl rfl rfl rfl (Bs 3 rfl rfl rfl rfl (Bs 3 rfl rfl rfl rfl .nil)))) hext
    ·replace h := Classical.not_not.1 h
     refine S_callIns 1000 (5 * 1 + 1) Tryz.call152 J J (denL_spV 10 J J) (c_insertS 1 (by decide) _ [_,_,_,_,_] _ _ _ J y _ _ _ hy s1 (by have := htl; simp only [List.mem_cons, forall_eq_or_imp] at this; simp only at this ⊢; omega)) rfl (fun _ => rfl) rfl rfl rfl ?_;rintro v G' tv' hq hext
     refine Va J J ?_;exact EK (1007 :: wKeys 2) (Res.t0 Tryz.results166) ⟨_, J, Tds_upd hext.le _ hw ht (by have hq' := hq; simpa [Wld.reg, Prc.get, h] using hq')⟩ (Wpp [_, _] kg spg rfl ‹_› rfl rfl rfl rfl rfl rfl rfl rfl) rfl (.blk rfl rfl (Wsub 10 rfl rfl rfl rfl rfl rfl rfl rfl rfl rfl rfl rfl rfl rfl rfl rfl (Bs 3 rfl rfl rfl rfl (Bs 3 rfl rfl rfl rfl .nil)))) hext
 ·rcases (by simp at hw; omega : who = 0 ∨ who = 1 ∨ who = 2) with rfl | rfl | rfl
  ·refine OpP 1 1 J J J J fun bp bc br bs bg kp sp asd ksd aq0 kq0 aq1 kq1 kc spc kr spr ks sps kg spg hbg hmk => ?_; obtain ⟨g0, g1, g2, rfl⟩ := len3 hbg; clear hbg; refine NM J J ?_; dsimp only [wEnts, wCels, procCs, regEs, WX.of, vi]
   refine Va J J ?_
   rcases ha with rfl | rfl | rfl <;>
   ·refine Ds J J J ?_
    refine Da J J ?_;refine DD ?_;refine Va J J ?_
    refine S_condp J (fun h => ?_) (fun h => ?_) <;> refine Va J J ?_
    ·refine S_callIns 1000 (5 * 0 + 1) Tryz.call152 J J (denL_spV 15 J J) (c_insertS 0 (by decide) _ [] _ _ _ J x _ _ _ hx s0 (by have := htl; simp only [List.mem_cons, forall_eq_or_imp] at this; simp only at this ⊢; omega)) rfl (fun _ => rfl) rfl rfl rfl ?_
     rintro v G' tv' hq hext
     refine Va J J ?_;exact EK (1007 :: wKeys 3) (Res.t0 Tryz.results166) ⟨_, J, Tds_upd hext.le _ hw ht (by have hq' := hq; simpa [Wld.reg, Prc.get, h] using hq')⟩ (Wpp [_, _, _] kg spg rfl ‹_› rfl rfl rfl rfl rfl rfl rfl rfl) rfl (.blk rfl rfl (Wsub 15 rfl rfl rfl rfl rfl rfl rfl rfl rfl rfl rfl rfl rfl rfl rfl rfl (Bs 3 rfl rfl rfl rfl (Bs 3 rfl rfl rfl rfl (Bs 3 rfl rfl rfl rfl .nil))))) hext
    ·replace h := Classical.not_not.1 h
     refine S_callIns 1000 (5 * 0 + 1) Tryz.call152 J J (denL_spV 15 J J) (c_insertS 0 (by decide) _ [] _ _ _ J y _ _ _ hy s0 (by have := htl; simp only [List.mem_cons, forall_eq_or_imp] at this; simp only at this ⊢; omega)) rfl (fun _ => rfl) rfl rfl rfl ?_;rintro v G' tv' hq hext
     refine Va J J ?_;exact EK (1007 :: wKeys 3) (Res.t0 Tryz.results166) ⟨_, J, Tds_upd hext.le _ hw ht (by have hq' := hq; simpa [Wld.reg, Prc.get, h] using hq')⟩ (Wpp [_, _, _] kg spg rfl ‹_› rfl rfl rfl rfl rfl rfl rfl rfl) rfl (.blk rfl rfl (Wsub 15 rfl rfl rfl rfl rfl rfl rfl rfl rfl rfl rfl rfl rfl rfl rfl rfl (Bs 3 rfl rfl rfl rfl (Bs 3 rfl rfl rfl rfl (Bs 3 rfl rfl rfl rfl .nil))))) hext
  ·refine OpP 1 1 J J J J fun bp bc br bs bg kp sp asd ksd aq0 kq0 aq1 kq1 kc spc kr spr ks sps kg spg hbg hmk => ?_; obtain ⟨g0, g1, g2, rfl⟩ := len3 hbg; clear hbg; refine NM J J ?_; dsimp only [wEnts, wCels, procCs, regEs, WX.of, vi]
   refine Va J J ?_
   rcases ha with rfl | rfl | rfl <;>
   ·refine Ds J J J ?_
    refine Da J J ?_;refine DD ?_;refine Va J J ?_
    refine S_condp J (fun h => ?_) (fun h => ?_) <;> refine Va J J ?_
    ·refine S_callIns 1000 (5 * 1 + 1) Tryz.call152 J J (denL_spV 15 J J) (c_insertS 1 (by decide) _ [_,_,_,_,_] _ _ _ J x _ _ _ hx s1 (by have := htl; simp only [List.mem_cons, forall_eq_or_imp] at this; simp only at this ⊢; omega)) rfl (fun _ => rfl) rfl rfl rfl ?_
     rintro v G' tv' hq hext
     refine Va J J ?_;exact EK (1007 :: wKeys 3) (Res.t0 Tryz.results166) ⟨_, J, Tds_upd hext.le _ hw ht (by have hq' := hq; simpa [Wld.reg, Prc.get, h] using hq')⟩ (Wpp [_, _, _] kg spg rfl ‹_› rfl rfl rfl rfl rfl rfl rfl rfl) rfl (.blk rfl rfl (Wsub 15 rfl rfl rfl rfl rfl rfl rfl rfl rfl rfl rfl rfl rfl rfl rfl rfl (Bs 3 rfl rfl rfl rfl (Bs 3 rfl rfl rfl rfl (Bs 3 rfl rfl rfl rfl .nil))))) hext
    ·replace h := Classical.not_not.1 h
     refine S_callIns 1000 (5 * 1 + 1) Tryz.call152 J J (denL_spV 15 J J) (c_insertS 1 (by decide) _ [_,_,_,_,_] _ _ _ J y _ _ _ hy s1 (by have := htl; simp only [List.mem_cons, forall_eq_or_imp] at this; simp only at this ⊢; omega)) rfl (fun _ => rfl) rfl rfl rfl ?_;rintro v G' tv' hq hext
     refine Va J J ?_;exact EK (1007 :: wKeys 3) (Res.t0 Tryz.results166) ⟨_, J, Tds_upd hext.le _ hw ht (by have hq' := hq; simpa [Wld.reg, Prc.get, h] using hq')⟩ (Wpp [_, _, _] kg spg rfl ‹_› rfl rfl rfl rfl rfl rfl rfl rfl) rfl (.blk rfl rfl (Wsub 15 rfl rfl rfl rfl rfl rfl rfl rfl rfl rfl rfl rfl rfl rfl rfl rfl (Bs 3 rfl rfl rfl rfl (Bs 3 rfl rfl rfl rfl (Bs 3 rfl rfl rfl rfl .nil))))) hext
  ·refine OpP 1 1 J J J J fun bp bc br bs bg kp sp asd ksd aq0 kq0 aq1 kq1 kc spc kr spr ks sps kg spg hbg hmk => ?_; obtain ⟨g0, g1, g2, rfl⟩ := len3 hbg; clear hbg; refine NM J J ?_; dsimp only [wEnts, wCels, procCs, regEs, WX.of, vi]
   refine Va J J ?_
   rcases ha with rfl | rfl | rfl <;>
   ·refine Ds J J J ?_
    refine Da J J ?_;refine DD ?_;refine Va J J ?_
    refine S_condp J (fun h => ?_) (fun h => ?_) <;> refine Va J J ?_
    ·refine S_callIns 1000 (5 * 2 + 1) Tryz.call152 J J (denL_spV 15 J J) (c_insertS 2 (by decide) _ [_,_,_,_,_,_,_,_,_,_] _ _ _ J x _ _ _ hx s2 (by have := htl; simp only [List.mem_cons, forall_eq_or_imp] at this; simp only at this ⊢; omega)) rfl (fun _ => rfl) rfl rfl rfl ?_
     rintro v G' tv' hq hext
     refine Va J J ?_;exact EK (1007 :: wKeys 3) (Res.t0 Tryz.results166) ⟨_, J, Tds_upd hext.le _ hw ht (by have hq' := hq; simpa [Wld.reg, Prc.get, h] using hq')⟩ (Wpp [_, _, _] kg spg rfl ‹_› rfl rfl rfl rfl rfl rfl rfl rfl) rfl (.blk rfl rfl (Wsub 15 rfl rfl rfl rfl rfl rfl rfl rfl rfl rfl rfl rfl rfl rfl rfl rfl (Bs 3 rfl rfl rfl rfl (Bs 3 rfl rfl rfl rfl (Bs 3 rfl rfl rfl rfl .nil))))) hext
    ·replace h := Classical.not_not.1 h
     refine S_callIns 1000 (5 * 2 + 1) Tryz.call152 J J (denL_spV 15 J J) (c_insertS 2 (by decide) _ [_,_,_,_,_,_,_,_,_,_] _ _ _ J y _ _ _ hy s2 (by have := htl; simp only [List.mem_cons, forall_eq_or_imp] at this; simp only at this ⊢; omega)) rfl (fun _ => rfl) rfl rfl rfl ?_;rintro v G' tv' hq hext
     refine Va J J ?_;exact EK (1007 :: wKeys 3) (Res.t0 Tryz.results166) ⟨_, J, Tds_upd hext.le _ hw ht (by have hq' := hq; simpa [Wld.reg, Prc.get, h] using hq')⟩ (Wpp [_, _, _] kg spg rfl ‹_› rfl rfl rfl rfl rfl rfl rfl rfl) rfl (.blk rfl rfl (Wsub 15 rfl rfl rfl rfl rfl rfl rfl rfl rfl rfl rfl rfl rfl rfl rfl rfl (Bs 3 rfl rfl rfl rfl (Bs 3 rfl rfl rfl rfl (Bs 3 rfl rfl rfl rfl .nil))))) hext
theorem one6 {k a bb n : Int} {A : Option Addr} {x c : Nat} {A' : Option Addr} {y c' : Nat} : ∀ u ∈ [Value.int .i64 k, Value.int .i64 a, Value.int .i64 bb, Value.int .i64 n, Value.slice A x c, Value.slice A' y c'], u.oneCell' = true := by
 intro u hu
 simp at hu
 rcases hu with rfl | rfl | rfl | rfl | rfl | rfl <;> rfl
theorem snoc_Sts {G G' : PH} {x : List Stm} {s : Stm} {vx : Value} {xs cs : List Value} {A' : Option Addr} {c' : Nat} (hxs : Sx G 6 vx x.length xs) (hcs : Cs 6 (Stm.rep G) x xs) (hs : Stm.rep G s cs) (hxl : x.length ≤ 1000) (hnc : x.length + 1 ≤ c') (hcm : c' ≤ maxLen) (hcells : x.length + 1 = 0 ∨ ∃ a, A' = some a ∧ gcells (newp G G') a (xs ++ cs)) (hle : G.le G') : Sts G' (x ++ [s]) (.slice A' (x.length + 1) c') := by
 have hl : cs.length = 6 := Stm.rep_len hs
 refine Sx_Sr (n := x.length + 1) (xs := xs ++ cs) ⟨A', c', J, by omega, hnc, hcm, ?_, ?_⟩ (by simp) ?_
 ·rw [List.length_append, Cs_length hcs, hl]; omega
 ·rcases hcells with h | ⟨a, h1, h2⟩
  ·omega
  ·exact .inr ⟨a, h1, gcells_le (newp_le _ _) h2⟩
 ·exact Cs_append (Cs_mono (Stm.reps_le hle x) hcs) (Stm.rep_le hle s cs hs) hl
theorem c_dWhile (W : Wld) (who : Nat) (b : Nat) (ts : List Value) (G : PH) (h1 : 1 ≤ W.procs.length) (h3 : W.procs.length ≤ 3) (ht : Tds G W.procs ts) (hw : who < W.procs.length) (htl : ∀ p ∈ W.procs, p.todo.length ≤ 1000000) (kk a bb n : Int) (x y : List Stm) (vx vy : Value) (hx : Sts G x vx) (hy : Sts G y vy) (hi : I64 kk ∧ I64 a ∧ I64 bb ∧ I64 n) (hxl : x.length ≤ 1000) (ha : a = 0 ∨ a = 1 ∨ a = 2) :
  Mod Tryz.prog 169 [.agg #[.int .i64 kk, .int .i64 a, .int .i64 bb, .int .i64 n, vx, vy], .pointer (some ⟨b, 0, none⟩), .int .i64 (who : Nat)] G (worldP b W ts) fun v G' A' => ∃ tv', A' = worldP b (W.upd who (fun p => { p with todo := (if W.reg who a = 0 then [] else x ++ [.mk kk a bb n x y]) ++ p.todo })) (ts.set who tv') ∧ Tds G' (W.upd who (fun p => { p with todo := (if W.reg who a = 0 then [] else x ++ [.mk kk a bb n x y]) ++ p.todo })).procs (ts.set who tv') := by
 have hs1 : Stm.rep G (.mk kk a bb n x y) [.int .i64 kk, .int .i64 a, .int .i64 bb, .int .i64 n, vx, vy] := Stm.rep_iff.2 ⟨vx, vy, rfl, hi.1, hi.2.1, hi.2.2.1, hi.2.2.2, hx, hy⟩
 obtain ⟨xs, hxs, hcs⟩ := Sr_Sx (fun s cs h => Stm.rep_len h) hx
 obtain ⟨Ax, cx, rfl, _⟩ := id hx
 obtain ⟨Ay, cy, rfl, _⟩ := id hy
 refine Mod.intro Tryz.func169 Tryz.ntmps169 J J fun w S => ?_;refine Va J J ?_;refine S_box J J J J J fun b3 => ?_;obtain ⟨ps, x0, x1, x2, m0, m1, q0, q1, sd⟩ := W
 replace htl : ∀ p ∈ ps, p.todo.length ≤ 1000000 := htl
 rcases shape h1 h3 ht with ⟨⟨a0, a1, a2, td0, mo0, on0, ro0⟩, A0, k0, rfl, rfl, s0⟩ | ⟨⟨a0, a1, a2, td0, mo0, on0, ro0⟩, A0, k0, ⟨b0, b1, b2, td1, mo1, on1, ro1⟩, A1, k1, rfl, rfl, s0, s1⟩ | ⟨⟨a0, a1, a2, td0, mo0, on0, ro0⟩, A0, k0, ⟨b0, b1, b2, td1, mo1, on1, ro1⟩, A1, k1, ⟨d0, d1, d2, td2, mo2, on2, ro2⟩, A2, k2, rfl, rfl, s0, s1, s2⟩
 ·obtain rfl : who = 0 := by simpa using hw
  refine OpP 1 1 J J J J fun bp bc br bs bg kp sp asd ksd aq0 kq0 aq1 kq1 kc spc kr spr ks sps kg spg hbg hmk => ?_; obtain ⟨g0, rfl⟩ := len1 hbg; clear hbg; refine NM J J ?_; dsimp only [wEnts, wCels, procCs, regEs, WX.of, vi]
  refine Va J J ?_
  rcases ha with rfl | rfl | rfl <;>
  ·refine Ds J J J ?_
   refine Da J J ?_;refine DD ?_;refine Va J J ?_
   refine S_condp J (fun h => ?_) (fun h => ?_) <;> refine Va J J ?_
   ·refine Ds J J J ?_
    refine Da J J ?_;refine D_or 4 7 J J (N_turn Tk 4 J J J J fun back => ?_) (N_turn Tk 7 J J J J fun back => ?_)
    ·refine S_callN 55 Tryz.call170 (c_CloneStmN _ _ xs _ hxs (Cs_one Stm.rep_one hcs)) J J J ?_
     rintro v G' A'' ⟨A, c, base, rfl, rfl, rfl⟩ hext
     refine S_newRow 55 J J ?_;refine back _ _ _ _ (by kernel_rfl) ?_; clear back
     refine Da J J ?_;refine Nt 7 J J J J J J fun back => ?_;refine S_slice Tk ZT_ok J J J J (by decide) (by decide) J J J J fun b30 => ?_;refine back _ _ _ _ (by kernel_rfl) ?_; clear back
     refine Da J J ?_;refine Nt 8 J J J J J J fun back => ?_;refine S_appO (news := [.int .i64 kk, .int .i64 _, .int .i64 bb, .int .i64 n, .slice Ax x.length cx, .slice Ay y.length cy]) Tk 55 J J J J J J J J J J J (fun _ _ => J) (by exact src_blk 30 J J J J J) one6 (by simp only; omega) (by simp only [maxLen]; omega) (Nat.le_refl _) fun A' c' => ?_;refine back _ _ _ _ (by kernel_rfl) ?_; clear back
     refine Da J J ?_;refine Nt 9 J J J J J J fun back => ?_;refine S_freezeR 55 J J (Nat.le_refl _) fun G' hext2 hnc hcm hcells => ?_;refine S_callIns 1000 (5 * 0 + 1) Tryz.call152 J J (denL_spV 5 J J) (c_insertS 0 (by decide) _ [] _ _ _ J (x ++ [.mk kk _ bb n x y]) _ _ _ (snoc_Sts hxs hcs hs1 hxl hnc hcm hcells hext2.le) (Sts_le hext2.le s0) (by have := htl; simp only [List.mem_cons, forall_eq_or_imp] at this; simp only [List.length_append, List.length_singleton] at this ⊢; omega)) rfl (fun _ => rfl) rfl rfl rfl ?_
     rintro v G3 tv' hq hext3
     refine back _ _ _ _ (by kernel_rfl) ?_; clear back
     refine DD ?_;refine Va J J ?_;exact EK (1007 :: wKeys 1) (Res.t0 Tryz.results169) ⟨_, J, Tds_upd (hext2.le.trans hext3.le) _ hw ht (by have hq' := hq; simpa [Wld.reg, Prc.get, h] using hq')⟩ (Wpp [_] kg spg rfl ‹_› rfl rfl rfl rfl rfl rfl rfl rfl) rfl (.blk rfl rfl (Wsub 5 rfl rfl rfl rfl rfl rfl rfl rfl rfl rfl rfl rfl rfl rfl rfl rfl (Bs 3 rfl rfl rfl rfl .nil))) (hext2.trans hext3)
    ·refine S_slice Tk ZT_ok J J J J (by decide) (by decide) J J J J fun b30 => ?_
     refine back _ _ _ _ (by kernel_rfl) ?_; clear back
     refine Da J J ?_;refine Nt 4 J J J J J J fun back => ?_;refine S_callN 55 Tryz.call170 (c_CloneStmN _ _ xs _ hxs (Cs_one Stm.rep_one hcs)) J J J ?_;rintro v G' A'' ⟨A, c, base, rfl, rfl, rfl⟩ hext
     refine S_newRow 55 J J ?_;refine back _ _ _ _ (by kernel_rfl) ?_; clear back
     refine Da J J ?_;refine Nt 8 J J J J J J fun back => ?_;refine S_appO (news := [.int .i64 kk, .int .i64 _, .int .i64 bb, .int .i64 n, .slice Ax x.length cx, .slice Ay y.length cy]) Tk 55 J J J J J J J J J J J (fun _ _ => J) (by exact src_blk 30 J J J J J) one6 (by simp only; omega) (by simp only [maxLen]; omega) (Nat.le_refl _) fun A' c' => ?_;refine back _ _ _ _ (by kernel_rfl) ?_; clear back
     refine Da J J ?_;refine Nt 9 J J J J J J fun back => ?_;refine S_freezeR 55 J J (Nat.le_refl _) fun G' hext2 hnc hcm hcells => ?_;refine S_callIns 1000 (5 * 0 + 1) Tryz.call152 J J (denL_spV 5 J J) (c_insertS 0 (by decide) _ [] _ _ _ J (x ++ [.mk kk _ bb n x y]) _ _ _ (snoc_Sts hxs hcs hs1 hxl hnc hcm hcells hext2.le) (Sts_le hext2.le s0) (by have := htl; simp only [List.mem_cons, forall_eq_or_imp] at this; simp only [List.length_append, List.length_singleton] at this ⊢; omega)) rfl (fun _ => rfl) rfl rfl rfl ?_
     rintro v G3 tv' hq hext3
     refine back _ _ _ _ (by kernel_rfl) ?_; clear back
     refine DD ?_;refine Va J J ?_;exact EK (1007 :: wKeys 1) (Res.t0 Tryz.results169) ⟨_, J, Tds_upd (hext2.le.trans hext3.le) _ hw ht (by have hq' := hq; simpa [Wld.reg, Prc.get, h] using hq')⟩ (Wpp [_] kg spg rfl ‹_› rfl rfl rfl rfl rfl rfl rfl rfl) rfl (.blk rfl rfl (Wsub 5 rfl rfl rfl rfl rfl rfl rfl rfl rfl rfl rfl rfl rfl rfl rfl rfl (Bs 3 rfl rfl rfl rfl .nil))) (hext2.trans hext3)
   ·replace h := Classical.not_not.1 h
    exact EK (1007 :: wKeys 1) (Res.t0 Tryz.results169) ⟨_, J, Tds_upd (PH.le.refl _) _ hw ht (by have hq' := s0; simpa [Wld.reg, Prc.get, h] using hq')⟩ (Wpp [_] kg spg rfl ‹_› rfl rfl rfl rfl rfl rfl rfl rfl) rfl (.blk rfl rfl (Wsub 5 rfl rfl rfl rfl rfl rfl rfl rfl rfl rfl rfl rfl rfl rfl rfl rfl (Bs 3 rfl rfl rfl rfl .nil))) XR
 ·rcases (by simp at hw; omega : who = 0 ∨ who = 1) with rfl | rfl
  ·refine OpP 1 1 J J J J fun bp bc br bs bg kp sp asd ksd aq0 kq0 aq1 kq1 kc spc kr spr ks sps kg spg hbg hmk => ?_; obtain ⟨g0, g1, rfl⟩ := len2 hbg; clear hbg; refine NM J J ?_; dsimp only [wEnts, wCels, procCs, regEs, WX.of, vi]
   refine Va J J ?_
   rcases ha with rfl | rfl | rfl <;>
   ·refine Ds J J J ?_
    refine Da J J ?_;refine DD ?_;refine Va J J ?_
    refine S_condp J (fun h => ?_) (fun h => ?_) <;> refine Va J J ?_
    ·refine Ds J J J ?_
     refine Da J J ?_;refine D_or 4 7 J J (N_turn Tk 4 J J J J fun back => ?_) (N_turn Tk 7 J J J J fun back => ?_)
     ·refine S_callN 55 Tryz.call170 (c_CloneStmN _ _ xs _ hxs (Cs_one Stm.rep_one hcs)) J J J ?_
      rintro v G' A'' ⟨A, c, base, rfl, rfl, rfl⟩ hext
      refine S_newRow 55 J J ?_;refine back _ _ _ _ (by kernel_rfl) ?_; clear back
      refine Da J J ?_;refine Nt 7 J J J J J J fun back => ?_;refine S_slice Tk ZT_ok J J J J (by decide) (by decide) J J J J fun b30 => ?_;refine back _ _ _ _ (by kernel_rfl) ?_; clear back
      refine Da J J ?_;refine Nt 8 J J J J J J fun back => ?_;refine S_appO (news := [.int .i64 kk, .int .i64 _, .int .i64 bb, .int .i64 n, .slice Ax x.length cx, .slice Ay y.length cy]) Tk 55 J J J J J J J J J J J (fun _ _ => J) (by exact src_blk 30 J J J J J) one6 (by simp only; omega) (by simp only [maxLen]; omega) (Nat.le_refl _) fun A' c' => ?_;refine back _ _ _ _ (by kernel_rfl) ?_; clear back
      refine Da J J ?_;refine Nt 9 J J J J J J fun back => ?_;refine S_freezeR 55 J J (Nat.le_refl _) fun G' hext2 hnc hcm hcells => ?_;refine S_callIns 1000 (5 * 0 + 1) Tryz.call152 J J (denL_spV 10 J J) (c_insertS 0 (by decide) _ [] _ _ _ J (x ++ [.mk kk _ bb n x y]) _ _ _ (snoc_Sts hxs hcs hs1 hxl hnc hcm hcells hext2.le) (Sts_le hext2.le s0) (by have := htl; simp only [List.mem_cons, forall_eq_or_imp] at this; simp only [List.length_append, List.length_singleton] at this ⊢; omega)) rfl (fun _ => rfl) rfl rfl rfl ?_
      rintro v G3 tv' hq hext3
      refine back _ _ _ _ (by kernel_rfl) ?_; clear back
      refine DD ?_;refine Va J J ?_;exact EK (1007 :: wKeys 2) (Res.t0 Tryz.results169) ⟨_, J, Tds_upd (hext2.le.trans hext3.le) _ hw ht (by have hq' := hq; simpa [Wld.reg, Prc.get, h] using hq')⟩ (Wpp [_, _] kg spg rfl ‹_› rfl rfl rfl rfl rfl rfl rfl rfl) rfl (.blk rfl rfl (Wsub 10 rfl rfl rfl rfl rfl rfl rfl rfl rfl rfl rfl rfl rfl rfl rfl rfl (Bs 3 rfl rfl rfl rfl (Bs 3 rfl rfl rfl rfl .nil)))) (hext2.trans hext3)
     ·refine S_slice Tk ZT_ok J J J J (by decide) (by decide) J J J J fun b30 => ?_
      refine back _ _ _ _ (by kernel_rfl) ?_; clear back
      refine Da J J ?_;refine Nt 4 J J J J J J fun back => ?_;refine S_callN 55 Tryz.call170 (c_CloneStmN _ _ xs _ hxs (Cs_one Stm.rep_one hcs)) J J J ?_;rintro v G' A'' ⟨A, c, base, rfl, rfl, rfl⟩ hext
      refine S_newRow 55 J J ?_;refine back _ _ _ _ (by kernel_rfl) ?_; clear back
      refine Da J J ?_;refine Nt 8 J J J J J J fun back => ?_;refine S_appO (news := [.int .i64 kk, .int .i64 _, .int .i64 bb, .int .i64 n, .slice Ax x.length cx, .slice Ay y.length cy]) Tk 55 J J J J J J J J J J J (fun _ _ => J) (by exact src_blk 30 J J J J J) one6 (by simp only; omega) (by simp only [maxLen]; omega) (Nat.le_refl _) fun A' c' => ?_;refine back _ _ _ _ (by kernel_rfl) ?_; clear back
      refine Da J J ?_;refine Nt 9 J J J J J J fun back => ?_;refine S_freezeR 55 J J (Nat.le_refl _) fun G' hext2 hnc hcm hcells => ?_;refine S_callIns 1000 (5 * 0 + 1) Tryz.call152 J J (denL_spV 10 J J) (c_insertS 0 (by decide) _ [] _ _ _ J (x ++ [.mk kk _ bb n x y]) _ _ _ (snoc_Sts hxs hcs hs1 hxl hnc hcm hcells hext2.le) (Sts_le hext2.le s0) (by have := htl; simp only [List.mem_cons, forall_eq_or_imp] at this; simp only [List.length_append, List.length_singleton] at this ⊢; omega)) rfl (fun _ => rfl) rfl rfl rfl ?_
      rintro v G3 tv' hq hext3
      refine back _ _ _ _ (by kernel_rfl) ?_; clear back
      refine DD ?_;refine Va J J ?_;exact EK (1007 :: wKeys 2) (Res.t0 Tryz.results169) ⟨_, J, Tds_upd (hext2.le.trans hext3.le) _ hw ht (by have hq' := hq; simpa [Wld.reg, Prc.get, h] using hq')⟩ (Wpp [_, _] kg spg rfl ‹_› rfl rfl rfl rfl rfl rfl rfl rfl) rfl (.blk rfl rfl (Wsub 10 rfl rfl rfl rfl rfl rfl rfl rfl rfl rfl rfl rfl rfl rfl rfl rfl (Bs 3 rfl rfl rfl rfl (Bs 3 rfl rfl rfl rfl .nil)))) (hext2.trans hext3)
    ·replace h := Classical.not_not.1 h
     exact EK (1007 :: wKeys 2) (Res.t0 Tryz.results169) ⟨_, J, Tds_upd (PH.le.refl _) _ hw ht (by have hq' := s0; simpa [Wld.reg, Prc.get, h] using hq')⟩ (Wpp [_, _] kg spg rfl ‹_› rfl rfl rfl rfl rfl rfl rfl rfl) rfl (.blk rfl rfl (Wsub 10 rfl rfl rfl rfl rfl rfl rfl rfl rfl rfl rfl rfl rfl rfl rfl rfl (Bs 3 rfl rfl rfl rfl (Bs 3 rfl rfl rfl rfl .nil)))) XR
  ·refine OpP 1 1 J J J J fun bp bc br bs bg kp sp asd ksd aq0 kq0 aq1 kq1 kc spc kr spr ks sps kg spg hbg hmk => ?_; obtain ⟨g0, g1, rfl⟩ := len2 hbg; clear hbg; refine NM J J ?_; dsimp only [wEnts, wCels, procCs, regEs, WX.of, vi]
   refine Va J J ?_
   rcases ha with rfl | rfl | rfl <;>
   ·refine Ds J J J ?_
    refine Da J J ?_;refine DD ?_;refine Va J J ?_
    refine S_condp J (fun h => ?_) (fun h => ?_) <;> refine Va J J ?_
    ·refine Ds J J J ?_
     refine Da J J ?_;refine D_or 4 7 J J (N_turn Tk 4 J J J J fun back => ?_) (N_turn Tk 7 J J J J fun back => ?_)
     ·refine S_callN 55 Tryz.call170 (c_CloneStmN _ _ xs _ hxs (Cs_one Stm.rep_one hcs)) J J J ?_
      rintro v G' A'' ⟨A, c, base, rfl, rfl, rfl⟩ hext
      refine S_newRow 55 J J ?_;refine back _ _ _ _ (by kernel_rfl) ?_; clear back
      refine Da J J ?_;refine Nt 7 J J J J J J fun back => ?_;refine S_slice Tk ZT_ok J J J J (by decide) (by decide) J J J J fun b30 => ?_;refine back _ _ _ _ (by kernel_rfl) ?_; clear back
      refine Da J J ?_;refine Nt 8 J J J J J J fun back => ?_;refine S_appO (news := [.int .i64 kk, .int .i64 _, .int .i64 bb, .int .i64 n, .slice Ax x.length cx, .slice Ay y.length cy]) Tk 55 J J J J J J J J J J J (fun _ _ => J) (by exact src_blk 30 J J J J J) one6 (by simp only; omega) (by simp only [maxLen]; omega) (Nat.le_refl _) fun A' c' => ?_;refine back _ _ _ _ (by kernel_rfl) ?_; clear back
      refine Da J J ?_;refine Nt 9 J J J J J J fun back => ?_;refine S_freezeR 55 J J (Nat.le_refl _) fun G' hext2 hnc hcm hcells => ?_;refine S_callIns 1000 (5 * 1 + 1) Tryz.call152 J J (denL_spV 10 J J) (c_insertS 1 (by decide) _ [_,_,_,_,_] _ _ _ J (x ++ [.mk kk _ bb n x y]) _ _ _ (snoc_Sts hxs hcs hs1 hxl hnc hcm hcells hext2.le) (Sts_le hext2.le s1) (by have := htl; simp only [List.mem_cons, forall_eq_or_imp] at this; simp only [List.length_append, List.length_singleton] at this ⊢; omega)) rfl (fun _ => rfl) rfl rfl rfl ?_
      rintro v G3 tv' hq hext3
      refine back _ _ _ _ (by kernel_rfl) ?_; clear back
      refine DD ?_;refine Va J J ?_;exact EK (1007 :: wKeys 2) (Res.t0 Tryz.results169) ⟨_, J, Tds_upd (hext2.le.trans hext3.le) _ hw ht (by have hq' := hq; simpa [Wld.reg, Prc.get, h] using hq')⟩ (Wpp [_, _] kg spg rfl ‹_› rfl rfl rfl rfl rfl rfl rfl rfl) rfl (.blk rfl rfl (Wsub 10 rfl rfl rfl rfl rfl rfl rfl rfl rfl rfl rfl rfl rfl rfl rfl rfl (Bs 3 rfl rfl rfl rfl (Bs 3 rfl rfl rfl rfl .nil)))) (hext2.trans hext3)
     ·refine S_slice Tk ZT_ok J J J J (by decide) (by decide) J J J J fun b30 => ?_
      refine back _ _ _ _ (by kernel_rfl) ?_; clear back
      refine Da J J ?_;refine Nt 4 J J J J J J fun back => ?_;refine S_callN 55 Tryz.call170 (c_CloneStmN _ _ xs _ hxs (Cs_one Stm.rep_one hcs)) J J J ?_;rintro v G' A'' ⟨A, c, base, rfl, rfl, rfl⟩ hext
      refine S_newRow 55 J J ?_;refine back _ _ _ _ (by kernel_rfl) ?_; clear back
      refine Da J J ?_;refine Nt 8 J J J J J J fun back => ?_;refine S_appO (news := [.int .i64 kk, .int .i64 _, .int .i64 bb, .int .i64 n, .slice Ax x.length cx, .slice Ay y.length cy]) Tk 55 J J J J J J J J J J J (fun _ _ => J) (by exact src_blk 30 J J J J J) one6 (by simp only; omega) (by simp only [maxLen]; omega) (Nat.le_refl _) fun A' c' => ?_;refine back _ _ _ _ (by kernel_rfl) ?_; clear back
      refine Da J J ?_;refine Nt 9 J J J J J J fun back => ?_;refine S_freezeR 55 J J (Nat.le_refl _) fun G' hext2 hnc hcm hcells => ?_;refine S_callIns 1000 (5 * 1 + 1) Tryz.call152 J J (denL_spV 10 J J) (c_insertS 1 (by decide) _ [_,_,_,_,_] _ _ _ J (x ++ [.mk kk _ bb n x y]) _ _ _ (snoc_Sts hxs hcs hs1 hxl hnc hcm hcells hext2.le) (Sts_le hext2.le s1) (by have := htl; simp only [List.mem_cons, forall_eq_or_imp] at this; simp only [List.length_append, List.length_singleton] at this ⊢; omega)) rfl (fun _ => rfl) rfl rfl rfl ?_
      rintro v G3 tv' hq hext3
      refine back _ _ _ _ (by kernel_rfl) ?_; clear back
      refine DD ?_;refine Va J J ?_;exact EK (1007 :: wKeys 2) (Res.t0 Tryz.results169) ⟨_, J, Tds_upd (hext2.le.trans hext3.le) _ hw ht (by have hq' := hq; simpa [Wld.reg, Prc.get, h] using hq')⟩ (Wpp [_, _] kg spg rfl ‹_› rfl rfl rfl rfl rfl rfl rfl rfl) rfl (.blk rfl rfl (Wsub 10 rfl rfl rfl rfl rfl rfl rfl rfl rfl rfl rfl rfl rfl rfl rfl rfl (Bs 3 rfl rfl rfl rfl (Bs 3 rfl rfl rfl rfl .nil)))) (hext2.trans hext3)
    ·replace h := Classical.not_not.1 h
     exact EK (1007 :: wKeys 2) (Res.t0 Tryz.results169) ⟨_, J, Tds_upd (PH.le.refl _) _ hw ht (by have hq' := s1; simpa [Wld.reg, Prc.get, h] using hq')⟩ (Wpp [_, _] kg spg rfl ‹_› rfl rfl rfl rfl rfl rfl rfl rfl) rfl (.blk rfl rfl (Wsub 10 rfl rfl rfl rfl rfl rfl rfl rfl rfl rfl rfl rfl rfl rfl rfl rfl (Bs 3 rfl rfl rfl rfl (Bs 3 rfl rfl rfl rfl .nil)))) XR
 ·rcases (by simp at hw; omega : who = 0 ∨ who = 1 ∨ who = 2) with rfl | rfl | rfl
  ·refine OpP 1 1 J J J J fun bp bc br bs bg kp sp asd ksd aq0 kq0 aq1 kq1 kc spc kr spr ks sps kg spg hbg hmk => ?_; obtain ⟨g0, g1, g2, rfl⟩ := len3 hbg; clear hbg; refine NM J J ?_; dsimp only [wEnts, wCels, procCs, regEs, WX.of, vi]
   refine Va J J ?_
   rcases ha with rfl | rfl | rfl <;>
   ·refine Ds J J J ?_
    refine Da J J ?_;refine DD ?_;refine Va J J ?_
    refine S_condp J (fun h => ?_) (fun h => ?_) <;> refine Va J J ?_
    ·refine Ds J J J ?_
     refine Da J J ?_;refine D_or 4 7 J J (N_turn Tk 4 J J J J fun back => ?_) (N_turn Tk 7 J J J J fun back => ?_)
     ·refine S_callN 55 Tryz.call170 (c_CloneStmN _ _ xs _ hxs (Cs_one Stm.rep_one hcs)) J J J ?_
      rintro v G' A'' ⟨A, c, base, rfl, rfl, rfl⟩ hext
      refine S_newRow 55 J J ?_;refine back _ _ _ _ (by kernel_rfl) ?_; clear back
      refine Da J J ?_;refine Nt 7 J J J J J J fun back => ?_;refine S_slice Tk ZT_ok J J J J (by decide) (by decide) J J J J fun b30 => ?_;refine back _ _ _ _ (by kernel_rfl) ?_; clear back
      refine Da J J ?_;refine Nt 8 J J J J J J fun back => ?_;refine S_appO (news := [.int .i64 kk, .int .i64 _, .int .i64 bb, .int .i64 n, .slice Ax x.length cx, .slice Ay y.length cy]) Tk 55 J J J J J J J J J J J (fun _ _ => J) (by exact src_blk 30 J J J J J) one6 (by simp only; omega) (by simp only [maxLen]; omega) (Nat.le_refl _) fun A' c' => ?_;refine back _ _ _ _ (by kernel_rfl) ?_; clear back
      refine Da J J ?_;refine Nt 9 J J J J J J fun back => ?_;refine S_freezeR 55 J J (Nat.le_refl _) fun G' hext2 hnc hcm hcells => ?_;refine S_callIns 1000 (5 * 0 + 1) Tryz.call152 J J (denL_spV 15 J J) (c_insertS 0 (by decide) _ [] _ _ _ J (x ++ [.mk kk _ bb n x y]) _ _ _ (snoc_Sts hxs hcs hs1 hxl hnc hcm hcells hext2.le) (Sts_le hext2.le s0) (by have := htl; simp only [List.mem_cons, forall_eq_or_imp] at this; simp only [List.length_append, List.length_singleton] at this ⊢; omega)) rfl (fun _ => rfl) rfl rfl rfl ?_
      rintro v G3 tv' hq hext3
      refine back _ _ _ _ (by kernel_rfl) ?_; clear back
      refine DD ?_;refine Va J J ?_;exact EK (1007 :: wKeys 3) (Res.t0 Tryz.results169) ⟨_, J, Tds_upd (hext2.le.trans hext3.le) _ hw ht (by have hq' := hq; simpa [Wld.reg, Prc.get, h] using hq')⟩ (Wpp [_, _, _] kg spg rfl ‹_› rfl rfl rfl rfl rfl rfl rfl rfl) rfl (.blk rfl rfl (Wsub 15 rfl rfl rfl rfl rfl rfl rfl rfl rfl rfl rfl rfl rfl rfl rfl rfl (Bs 3 rfl rfl rfl rfl (Bs 3 rfl rfl rfl rfl (Bs 3 rfl rfl rfl rfl .nil))))) (hext2.trans hext3)
     ·refine S_slice Tk ZT_ok J J J J (by decide) (by decide) J J J J fun b30 => ?_
      refine back _ _ _ _ (by kernel_rfl) ?_; clear back
      refine Da J J ?_;refine Nt 4 J J J J J J fun back => ?_;refine S_callN 55 Tryz.call170 (c_CloneStmN _ _ xs _ hxs (Cs_one Stm.rep_one hcs)) J J J ?_;rintro v G' A'' ⟨A, c, base, rfl, rfl, rfl⟩ hext
      refine S_newRow 55 J J ?_;refine back _ _ _ _ (by kernel_rfl) ?_; clear back
      refine Da J J ?_;refine Nt 8 J J J J J J fun back => ?_;refine S_appO (news := [.int .i64 kk, .int .i64 _, .int .i64 bb, .int .i64 n, .slice Ax x.length cx, .slice Ay y.length cy]) Tk 55 J J J J J J J J J J J (fun _ _ => J) (by exact src_blk 30 J J J J J) one6 (by simp only; omega) (by simp only [maxLen]; omega) (Nat.le_refl _) fun A' c' => ?_;refine back _ _ _ _ (by kernel_rfl) ?_; clear back
      refine Da J J ?_;refine Nt 9 J J J J J J fun back => ?_;refine S_freezeR 55 J J (Nat.le_refl _) fun G' hext2 hnc hcm hcells => ?_;refine S_callIns 1000 (5 * 0 + 1) Tryz.call152 J J (denL_spV 15 J J) (c_insertS 0 (by decide) _ [] _ _ _ J (x ++ [.mk kk _ bb n x y]) _ _ _ (snoc_Sts hxs hcs hs1 hxl hnc hcm hcells hext2.le) (Sts_le hext2.le s0) (by have := htl; simp only [List.mem_cons, forall_eq_or_imp] at this; simp only [List.length_append, List.length_singleton] at this ⊢; omega)) rfl (fun _ => rfl) rfl rfl rfl ?_
      rintro v G3 tv' hq hext3
      refine back _ _ _ _ (by kernel_rfl) ?_; clear back
      refine DD ?_;refine Va J J ?_;exact EK (1007 :: wKeys 3) (Res.t0 Tryz.results169) ⟨_, J, Tds_upd (hext2.le.trans hext3.le) _ hw ht (by have hq' := hq; simpa [Wld.reg, Prc.get, h] using hq')⟩ (Wpp [_, _, _] kg spg rfl ‹_› rfl rfl rfl rfl rfl rfl rfl rfl) rfl (.blk rfl rfl (Wsub 15 rfl rfl rfl rfl rfl rfl rfl rfl rfl rfl rfl rfl rfl rfl rfl rfl (Bs 3 rfl rfl rfl rfl (Bs 3 rfl rfl rfl rfl (Bs 3 rfl rfl rfl rfl .nil))))) (hext2.trans hext3)
    ·replace h := Classical.not_not.1 h
     exact EK (1007 :: wKeys 3) (Res.t0 Tryz.results169) ⟨_, J, Tds_upd (PH.le.refl _) _ hw ht (by have hq' := s0; simpa [Wld.reg, Prc.get, h] using hq')⟩ (Wpp [_, _, _] kg spg rfl ‹_› rfl rfl rfl rfl rfl rfl rfl rfl) rfl (.blk rfl rfl (Wsub 15 rfl rfl rfl rfl rfl rfl rfl rfl rfl rfl rfl rfl rfl rfl rfl rfl (Bs 3 rfl rfl rfl rfl (Bs 3 rfl rfl rfl rfl (Bs 3 rfl rfl rfl rfl .nil))))) XR
  ·refine OpP 1 1 J J J J fun bp bc br bs bg kp sp asd ksd aq0 kq0 aq1 kq1 kc spc kr spr ks sps kg spg hbg hmk => ?_; obtain ⟨g0, g1, g2, rfl⟩ := len3 hbg; clear hbg; refine NM J J ?_; dsimp only [wEnts, wCels, procCs, regEs, WX.of, vi]
   refine Va J J ?_
   rcases ha with rfl | rfl | rfl <;>
   ·refine Ds J J J ?_
    refine Da J J ?_;refine DD ?_;refine Va J J ?_
    refine S_condp J (fun h => ?_) (fun h => ?_) <;> refine Va J J ?_
    ·refine Ds J J J ?_
     refine Da J J ?_;refine D_or 4 7 J J (N_turn Tk 4 J J J J fun back => ?_) (N_turn Tk 7 J J J J fun back => ?_)
     ·refine S_callN 55 Tryz.call170 (c_CloneStmN _ _ xs _ hxs (Cs_one Stm.rep_one hcs)) J J J ?_
      rintro v G' A'' ⟨A, c, base, rfl, rfl, rfl⟩ hext
      refine S_newRow 55 J J ?_;refine back _ _ _ _ (by kernel_rfl) ?_; clear back
      refine Da J J ?_;refine Nt 7 J J J J J J fun back => ?_;refine S_slice Tk ZT_ok J J J J (by decide) (by decide) J J J J fun b30 => ?_;refine back _ _ _ _ (by kernel_rfl) ?_; clear back
      refine Da J J ?_;refine Nt 8 J J J J J J fun back => ?_;refine S_appO (news := [.int .i64 kk, .int .i64 _, .int .i64 bb, .int .i64 n, .slice Ax x.length cx, .slice Ay y.length cy]) Tk 55 J J J J J J J J J J J (fun _ _ => J) (by exact src_blk 30 J J J J J) one6 (by simp only; omega) (by simp only [maxLen]; omega) (Nat.le_refl _) fun A' c' => ?_;refine back _ _ _ _ (by kernel_rfl) ?_; clear back
      refine Da J J ?_;refine Nt 9 J J J J J J fun back => ?_;refine S_freezeR 55 J J (Nat.le_refl _) fun G' hext2 hnc hcm hcells => ?_;refine S_callIns 1000 (5 * 1 + 1) Tryz.call152 J J (denL_spV 15 J J) (c_insertS 1 (by decide) _ [_,_,_,_,_] _ _ _ J (x ++ [.mk kk _ bb n x y]) _ _ _ (snoc_Sts hxs hcs hs1 hxl hnc hcm hcells hext2.le) (Sts_le hext2.le s1) (by have := htl; simp only [List.mem_cons, forall_eq_or_imp] at this; simp only [List.length_append, List.length_singleton] at this ⊢; omega)) rfl (fun _ => rfl) rfl rfl rfl ?_
      rintro v G3 tv' hq hext3
      refine back _ _ _ _ (by kernel_rfl) ?_; clear back
      refine DD ?_;refine Va J J ?_;exact EK (1007 :: wKeys 3) (Res.t0 Tryz.results169) ⟨_, J, Tds_upd (hext2.le.trans hext3.le) _ hw ht (by have hq' := hq; simpa [Wld.reg, Prc.get, h] using hq')⟩ (Wpp [_, _, _] kg spg rfl ‹_› rfl rfl rfl rfl rfl rfl rfl rfl) rfl (.blk rfl rfl (Wsub 15 rfl rfl rfl rfl rfl rfl rfl rfl rfl rfl rfl rfl rfl rfl rfl rfl (Bs 3 rfl rfl rfl rfl (Bs 3 rfl rfl rfl rfl (Bs 3 rfl rfl rfl rfl .nil))))) (hext2.trans hext3)
     ·refine S_slice Tk ZT_ok J J J J (by decide) (by decide) J J J J fun b30 => ?_
      refine back _ _ _ _ (by kernel_rfl) ?_; clear back
      refine Da J J ?_;refine Nt 4 J J J J J J fun back => ?_;refine S_callN 55 Tryz.call170 (c_CloneStmN _ _ xs _ hxs (Cs_one Stm.rep_one hcs)) J J J ?_;rintro v G' A'' ⟨A, c, base, rfl, rfl, rfl⟩ hext
      refine S_newRow 55 J J ?_;refine back _ _ _ _ (by kernel_rfl) ?_; clear back
      refine Da J J ?_;refine Nt 8 J J J J J J fun back => ?_;refine S_appO (news := [.int .i64 kk, .int .i64 _, .int .i64 bb, .int .i64 n, .slice Ax x.length cx, .slice Ay y.length cy]) Tk 55 J J J J J J J J J J J (fun _ _ => J) (by exact src_blk 30 J J J J J) one6 (by simp only; omega) (by simp only [maxLen]; omega) (Nat.le_refl _) fun A' c' => ?_;refine back _ _ _ _ (by kernel_rfl) ?_; clear back
      refine Da J J ?_;refine Nt 9 J J J J J J fun back => ?_;refine S_freezeR 55 J J (Nat.le_refl _) fun G' hext2 hnc hcm hcells => ?_;refine S_callIns 1000 (5 * 1 + 1) Tryz.call152 J J (denL_spV 15 J J) (c_insertS 1 (by decide) _ [_,_,_,_,_] _ _ _ J (x ++ [.mk kk _ bb n x y]) _ _ _ (snoc_Sts hxs hcs hs1 hxl hnc hcm hcells hext2.le) (Sts_le hext2.le s1) (by have := htl; simp only [List.mem_cons, forall_eq_or_imp] at this; simp only [List.length_append, List.length_singleton] at this ⊢; omega)) rfl (fun _ => rfl) rfl rfl rfl ?_
      rintro v G3 tv' hq hext3
      refine back _ _ _ _ (by kernel_rfl) ?_; clear back
      refine DD ?_;refine Va J J ?_;exact EK (1007 :: wKeys 3) (Res.t0 Tryz.results169) ⟨_, J, Tds_upd (hext2.le.trans hext3.le) _ hw ht (by have hq' := hq; simpa [Wld.reg, Prc.get, h] using hq')⟩ (Wpp [_, _, _] kg spg rfl ‹_› rfl rfl rfl rfl rfl rfl rfl rfl) rfl (.blk rfl rfl (Wsub 15 rfl rfl rfl rfl rfl rfl rfl rfl rfl rfl rfl rfl rfl rfl rfl rfl (Bs 3 rfl rfl rfl rfl (Bs 3 rfl rfl rfl rfl (Bs 3 rfl rfl rfl rfl .nil))))) (hext2.trans hext3)
    ·replace h := Classical.not_not.1 h
     exact EK (1007 :: wKeys 3) (Res.t0 Tryz.results169) ⟨_, J, Tds_upd (PH.le.refl _) _ hw ht (by have hq' := s1; simpa [Wld.reg, Prc.get, h] using hq')⟩ (Wpp [_, _, _] kg spg rfl ‹_› rfl rfl rfl rfl rfl rfl rfl rfl) rfl (.blk rfl rfl (Wsub 15 rfl rfl rfl rfl rfl rfl rfl rfl rfl rfl rfl rfl rfl rfl rfl rfl (Bs 3 rfl rfl rfl rfl (Bs 3 rfl rfl rfl rfl (Bs 3 rfl rfl rfl rfl .nil))))) XR
  ·refine OpP 1 1 J J J J fun bp bc br bs bg kp sp asd ksd aq0 kq0 aq1 kq1 kc spc kr spr ks sps kg spg hbg hmk => ?_; obtain ⟨g0, g1, g2, rfl⟩ := len3 hbg; clear hbg; refine NM J J ?_; dsimp only [wEnts, wCels, procCs, regEs, WX.of, vi]
   refine Va J J ?_
   rcases ha with rfl | rfl | rfl <;>
   ·refine Ds J J J ?_
    refine Da J J ?_;refine DD ?_;refine Va J J ?_
    refine S_condp J (fun h => ?_) (fun h => ?_) <;> refine Va J J ?_
    ·refine Ds J J J ?_
     refine Da J J ?_;refine D_or 4 7 J J (N_turn Tk 4 J J J J fun back => ?_) (N_turn Tk 7 J J J J fun back => ?_)
     ·refine S_callN 55 Tryz.call170 (c_CloneStmN _ _ xs _ hxs (Cs_one Stm.rep_one hcs)) J J J ?_
      rintro v G' A'' ⟨A, c, base, rfl, rfl, rfl⟩ hext
      refine S_newRow 55 J J ?_;refine back _ _ _ _ (by kernel_rfl) ?_; clear back
      refine Da J J ?_;refine Nt 7 J J J J J J fun back => ?_;refine S_slice Tk ZT_ok J J J J (by decide) (by decide) J J J J fun b30 => ?_;refine back _ _ _ _ (by kernel_rfl) ?_; clear back
      refine Da J J ?_;refine Nt 8 J J J J J J fun back => ?_;refine S_appO (news := [.int .i64 kk, .int .i64 _, .int .i64 bb, .int .i64 n, .slice Ax x.length cx, .slice Ay y.length cy]) Tk 55 J J J J J J J J J J J (fun _ _ => J) (by exact src_blk 30 J J J J J) one6 (by simp only; omega) (by simp only [maxLen]; omega) (Nat.le_refl _) fun A' c' => ?_;refine back _ _ _ _ (by kernel_rfl) ?_; clear back
      refine Da J J ?_;refine Nt 9 J J J J J J fun back => ?_;refine S_freezeR 55 J J (Nat.le_refl _) fun G' hext2 hnc hcm hcells => ?_;refine S_callIns 1000 (5 * 2 + 1) Tryz.call152 J J (denL_spV 15 J J) (c_insertS 2 (by decide) _ [_,_,_,_,_,_,_,_,_,_] _ _ _ J (x ++ [.mk kk _ bb n x y]) _ _ _ (snoc_Sts hxs hcs hs1 hxl hnc hcm hcells hext2.le) (Sts_le hext2.le s2) (by have := htl; simp only [List.mem_cons, forall_eq_or_imp] at this; simp only [List.length_append, List.length_singleton] at this ⊢; omega)) rfl (fun _ => rfl) rfl rfl rfl ?_
      rintro v G3 tv' hq hext3
      refine back _ _ _ _ (by kernel_rfl) ?_; clear back
      refine DD ?_;refine Va J J ?_;exact EK (1007 :: wKeys 3) (Res.t0 Tryz.results169) ⟨_, J, Tds_upd (hext2.le.trans hext3.le) _ hw ht (by have hq' := hq; simpa [Wld.reg, Prc.get, h] using hq')⟩ (Wpp [_, _, _] kg spg rfl ‹_› rfl rfl rfl rfl rfl rfl rfl rfl) rfl (.blk rfl rfl (Wsub 15 rfl rfl rfl rfl rfl rfl rfl rfl rfl rfl rfl rfl rfl rfl rfl rfl (Bs 3 rfl rfl rfl rfl (Bs 3 rfl rfl rfl rfl (Bs 3 rfl rfl rfl rfl .nil))))) (hext2.trans hext3)
     ·refine S_slice Tk ZT_ok J J J J (by decide) (by decide) J J J J fun b30 => ?_
      refine back _ _ _ _ (by kernel_rfl) ?_; clear back
      refine Da J J ?_;refine Nt 4 J J J J J J fun back => ?_;refine S_callN 55 Tryz.call170 (c_CloneStmN _ _ xs _ hxs (Cs_one Stm.rep_one hcs)) J J J ?_;rintro v G' A'' ⟨A, c, base, rfl, rfl, rfl⟩ hext
      refine S_newRow 55 J J ?_;refine back _ _ _ _ (by kernel_rfl) ?_; clear back
      refine Da J J ?_;refine Nt 8 J J J J J J fun back => ?_;refine S_appO (news := [.int .i64 kk, .int .i64 _, .int .i64 bb, .int .i64 n, .slice Ax x.length cx, .slice Ay y.length cy]) Tk 55 J J J J J J J J J J J (fun _ _ => J) (by exact src_blk 30 J J J J J) one6 (by simp only; omega) (by simp only [maxLen]; omega) (Nat.le_refl _) fun A' c' => ?_;refine back _ _ _ _ (by kernel_rfl) ?_; clear back
      refine Da J J ?_;refine Nt 9 J J J J J J fun back => ?_;refine S_freezeR 55 J J (Nat.le_refl _) fun G' hext2 hnc hcm hcells => ?_;refine S_callIns 1000 (5 * 2 + 1) Tryz.call152 J J (denL_spV 15 J J) (c_insertS 2 (by decide) _ [_,_,_,_,_,_,_,_,_,_] _ _ _ J (x ++ [.mk kk _ bb n x y]) _ _ _ (snoc_Sts hxs hcs hs1 hxl hnc hcm hcells hext2.le) (Sts_le hext2.le s2) (by have := htl; simp only [List.mem_cons, forall_eq_or_imp] at this; simp only [List.length_append, List.length_singleton] at this ⊢; omega)) rfl (fun _ => rfl) rfl rfl rfl ?_
      rintro v G3 tv' hq hext3
      refine back _ _ _ _ (by kernel_rfl) ?_; clear back
      refine DD ?_;refine Va J J ?_;exact EK (1007 :: wKeys 3) (Res.t0 Tryz.results169) ⟨_, J, Tds_upd (hext2.le.trans hext3.le) _ hw ht (by have hq' := hq; simpa [Wld.reg, Prc.get, h] using hq')⟩ (Wpp [_, _, _] kg spg rfl ‹_› rfl rfl rfl rfl rfl rfl rfl rfl) rfl (.blk rfl rfl (Wsub 15 rfl rfl rfl rfl rfl rfl rfl rfl rfl rfl rfl rfl rfl rfl rfl rfl (Bs 3 rfl rfl rfl rfl (Bs 3 rfl rfl rfl rfl (Bs 3 rfl rfl rfl rfl .nil))))) (hext2.trans hext3)
    ·replace h := Classical.not_not.1 h
     exact EK (1007 :: wKeys 3) (Res.t0 Tryz.results169) ⟨_, J, Tds_upd (PH.le.refl _) _ hw ht (by have hq' := s2; simpa [Wld.reg, Prc.get, h] using hq')⟩ (Wpp [_, _, _] kg spg rfl ‹_› rfl rfl rfl rfl rfl rfl rfl rfl) rfl (.blk rfl rfl (Wsub 15 rfl rfl rfl rfl rfl rfl rfl rfl rfl rfl rfl rfl rfl rfl rfl rfl (Bs 3 rfl rfl rfl rfl (Bs 3 rfl rfl rfl rfl (Bs 3 rfl rfl rfl rfl .nil))))) XR
def leaveS (a : Int) : Stm := .mk 12 a 0 0 [] []
theorem leave_rep {G : PH} {a : Int} (ha : a = 0 ∨ a = 1) : Stm.rep G (leaveS a) [.int .i64 12, .int .i64 a, .int .i64 0, .int .i64 0, .slice none 0 0, .slice none 0 0] :=
 Stm.rep_iff.2 ⟨_, _, rfl, by unfold I64; omega, by unfold I64; omega, by unfold I64; omega, by unfold I64; omega, Sr_nil rfl, Sr_nil rfl⟩
theorem c_dIn (W : Wld) (who : Nat) (b : Nat) (ts : List Value) (G : PH) (h1 : 1 ≤ W.procs.length) (h3 : W.procs.length ≤ 3) (ht : Tds G W.procs ts) (hw : who < W.procs.length) (htl : ∀ p ∈ W.procs, p.todo.length ≤ 1000000) (kk a bb n : Int) (x : List Stm) (vx : Value) (Ay : Option Addr) (ny cy : Nat) (hx : Sts G x vx) (hxl : x.length ≤ 1000) (ha : a = 0 ∨ a = 1) :
  Mod Tryz.prog 171 [.agg #[.int .i64 kk, .int .i64 a, .int .i64 bb, .int .i64 n, vx, .slice Ay ny cy], .pointer (some ⟨b, 0, none⟩), .int .i64 (who : Nat)] G (worldP b W ts) fun v G' A' => ∃ tv', A' = worldP b ((W.setRm a ((who : Int) + 1)).upd who (fun p => { p with room := a, todo := (x ++ [leaveS a]) ++ p.todo })) (ts.set who tv') ∧ Tds G' ((W.setRm a ((who : Int) + 1)).upd who (fun p => { p with room := a, todo := (x ++ [leaveS a]) ++ p.todo })).procs (ts.set who tv') := by
 obtain ⟨xs, hxs, hcs⟩ := Sr_Sx (fun s cs h => Stm.rep_len h) hx
 obtain ⟨Ax, cx, rfl, _⟩ := id hx
 refine Mod.intro Tryz.func171 Tryz.ntmps171 J J fun w S => ?_;refine Va J J ?_;refine S_box J J J J J fun b3 => ?_;obtain ⟨ps, x0, x1, x2, m0, m1, q0, q1, sd⟩ := W
 replace htl : ∀ p ∈ ps, p.todo.length ≤ 1000000 := htl
 rcases shape h1 h3 ht with ⟨⟨a0, a1, a2, td0, mo0, on0, ro0⟩, A0, k0, rfl, rfl, s0⟩ | ⟨⟨a0, a1, a2, td0, mo0, on0, ro0⟩, A0, k0, ⟨b0, b1, b2, td1, mo1, on1, ro1⟩, A1, k1, rfl, rfl, s0, s1⟩ | ⟨⟨a0, a1, a2, td0, mo0, on0, ro0⟩, A0, k0, ⟨b0, b1, b2, td1, mo1, on1, ro1⟩, A1, k1, ⟨d0, d1, d2, td2, mo2, on2, ro2⟩, A2, k2, rfl, rfl, s0, s1, s2⟩
 ·obtain rfl : who = 0 := by simpa using hw
  refine OpP 1 1 J J J J fun bp bc br bs bg kp sp asd ksd aq0 kq0 aq1 kq1 kc spc kr spr ks sps kg spg hbg hmk => ?_; obtain ⟨g0, rfl⟩ := len1 hbg; clear hbg; refine NM J J ?_; dsimp only [wEnts, wCels, procCs, regEs, WX.of, vi]
  refine Va J J ?_
  rcases ha with rfl | rfl <;>
  ·refine Ds J J J ?_
   refine Da J J ?_;refine D_val 9 J J J J J J J J J (V_add J J (by omega)) ?_;refine Da J J ?_;refine Ns 14 J J J J J J J J J ?_;refine Da J J ?_;refine Ns 17 J J J J J J J J J ?_;refine DD ?_;refine Va J J ?_;refine Ds J J J ?_;refine Da J J ?_;refine D_or 4 9 J J (N_turn Tk 4 J J J J fun back => ?_) (N_turn Tk 9 J J J J fun back => ?_)
   ·refine S_callN 55 Tryz.call170 (c_CloneStmN _ _ xs _ hxs (Cs_one Stm.rep_one hcs)) J J J ?_
    rintro v G' A'' ⟨A, c, base, rfl, rfl, rfl⟩ hext
    refine S_newRow 55 J J ?_;refine back _ _ _ _ (by kernel_rfl) ?_; clear back
    refine Da J J ?_;refine Nt 9 J J J J J J fun back => ?_;refine S_slice Tk ZT_ok J J J J (by decide) (by decide) J J J J fun b30 => ?_;refine back _ _ _ _ (by kernel_rfl) ?_; clear back
    refine Da J J ?_;refine Nt 10 J J J J J J fun back => ?_;refine S_appO (news := [.int .i64 12, .int .i64 _, .int .i64 0, .int .i64 0, .slice none 0 0, .slice none 0 0]) Tk 55 J J J J J J J J J J J (fun _ _ => J) (by exact src_blk 38 J J J J J) one6 (by simp only; omega) (by simp only [maxLen]; omega) (Nat.le_refl _) fun A' c' => ?_;refine back _ _ _ _ (by kernel_rfl) ?_; clear back
    refine Da J J ?_;refine Nt 11 J J J J J J fun back => ?_;refine S_freezeR 55 J J (Nat.le_refl _) fun G' hext2 hnc hcm hcells => ?_;refine S_callIns 1000 (5 * 0 + 1) Tryz.call152 J J (denL_spV 5 J J) (c_insertS 0 (by decide) _ [] _ _ _ J (x ++ [leaveS _]) _ _ _ (snoc_Sts hxs hcs (leave_rep (by decide)) hxl hnc hcm hcells hext2.le) (Sts_le hext2.le s0) (by have := htl; simp only [List.mem_cons, forall_eq_or_imp] at this; simp only [List.length_append, List.length_singleton] at this ⊢; omega)) rfl (fun _ => rfl) rfl rfl rfl ?_
    rintro v G3 tv' hq hext3
    refine back _ _ _ _ (by kernel_rfl) ?_; clear back
    refine DD ?_;refine Va J J ?_;exact EK (1007 :: wKeys 1) (Res.t0 Tryz.results171) ⟨_, J, Tds_upd (hext2.le.trans hext3.le) _ hw ht hq⟩ (Wpp [_] kg spg J ‹_› J J J J J J J J) J (.blk J J (Wsub 5 J J J J J J J J J J J J J J J J (Bs 3 J J J J .nil))) (hext2.trans hext3)
   ·refine S_slice Tk ZT_ok J J J J (by decide) (by decide) J J J J fun b30 => ?_
    refine back _ _ _ _ (by kernel_rfl) ?_; clear back
    refine Da J J ?_;refine Nt 4 J J J J J J fun back => ?_;refine S_callN 55 Tryz.call170 (c_CloneStmN _ _ xs _ hxs (Cs_one Stm.rep_one hcs)) J J J ?_;rintro v G' A'' ⟨A, c, base, rfl, rfl, rfl⟩ hext
    refine S_newRow 55 J J ?_;refine back _ _ _ _ (by kernel_rfl) ?_; clear back
    refine Da J J ?_;refine Nt 10 J J J J J J fun back => ?_;refine S_appO (news := [.int .i64 12, .int .i64 _, .int .i64 0, .int .i64 0, .slice none 0 0, .slice none 0 0]) Tk 55 J J J J J J J J J J J (fun _ _ => J) (by exact src_blk 38 J J J J J) one6 (by simp only; omega) (by simp only [maxLen]; omega) (Nat.le_refl _) fun A' c' => ?_;refine back _ _ _ _ (by kernel_rfl) ?_; clear back
    refine Da J J ?_;refine Nt 11 J J J J J J fun back => ?_;refine S_freezeR 55 J J (Nat.le_refl _) fun G' hext2 hnc hcm hcells => ?_;refine S_callIns 1000 (5 * 0 + 1) Tryz.call152 J J (denL_spV 5 J J) (c_insertS 0 (by decide) _ [] _ _ _ J (x ++ [leaveS _]) _ _ _ (snoc_Sts hxs hcs (leave_rep (by decide)) hxl hnc hcm hcells hext2.le) (Sts_le hext2.le s0) (by have := htl; simp only [List.mem_cons, forall_eq_or_imp] at this; simp only [List.length_append, List.length_singleton] at this ⊢; omega)) rfl (fun _ => rfl) rfl rfl rfl ?_
    rintro v G3 tv' hq hext3
    refine back _ _ _ _ (by kernel_rfl) ?_; clear back
    refine DD ?_;refine Va J J ?_;exact EK (1007 :: wKeys 1) (Res.t0 Tryz.results171) ⟨_, J, Tds_upd (hext2.le.trans hext3.le) _ hw ht hq⟩ (Wpp [_] kg spg J ‹_› J J J J J J J J) J (.blk J J (Wsub 5 J J J J J J J J J J J J J J J J (Bs 3 J J J J .nil))) (hext2.trans hext3)
 ·rcases (by simp at hw; omega : who = 0 ∨ who = 1) with rfl | rfl
  ·refine OpP 1 1 J J J J fun bp bc br bs bg kp sp asd ksd aq0 kq0 aq1 kq1 kc spc kr spr ks sps kg spg hbg hmk => ?_; obtain ⟨g0, g1, rfl⟩ := len2 hbg; clear hbg; refine NM J J ?_; dsimp only [wEnts, wCels, procCs, regEs, WX.of, vi]
   refine Va J J ?_
   rcases ha with rfl | rfl <;>
   ·refine Ds J J J ?_
    refine Da J J ?_;refine D_val 9 J J J J J J J J J (V_add J J (by omega)) ?_;refine Da J J ?_;refine Ns 14 J J J J J J J J J ?_;refine Da J J ?_;refine Ns 17 J J J J J J J J J ?_;refine DD ?_;refine Va J J ?_;refine Ds J J J ?_;refine Da J J ?_;refine D_or 4 9 J J (N_turn Tk 4 J J J J fun back => ?_) (N_turn Tk 9 J J J J fun back => ?_)
    ·refine S_callN 55 Tryz.call170 (c_CloneStmN _ _ xs _ hxs (Cs_one Stm.rep_one hcs)) J J J ?_
     rintro v G' A'' ⟨A, c, base, rfl, rfl, rfl⟩ hext
     refine S_newRow 55 J J ?_;refine back _ _ _ _ (by kernel_rfl) ?_; clear back
     refine Da J J ?_;refine Nt 9 J J J J J J fun back => ?_;refine S_slice Tk ZT_ok J J J J (by decide) (by decide) J J J J fun b30 => ?_;refine back _ _ _ _ (by kernel_rfl) ?_; clear back
     refine Da J J ?_;refine Nt 10 J J J J J J fun back => ?_;refine S_appO (news := [.int .i64 12, .int .i64 _, .int .i64 0, .int .i64 0, .slice none 0 0, .slice none 0 0]) Tk 55 J J J J J J J J J J J (fun _ _ => J) (by exact src_blk 38 J J J J J) one6 (by simp only; omega) (by simp only [maxLen]; omega) (Nat.le_refl _) fun A' c' => ?_;refine back _ _ _ _ (by kernel_rfl) ?_; clear back
     refine Da J J ?_;refine Nt 11 J J J J J J fun back => ?_;refine S_freezeR 55 J J (Nat.le_refl _) fun G' hext2 hnc hcm hcells => ?_;refine S_callIns 1000 (5 * 0 + 1) Tryz.call152 J J (denL_spV 10 J J) (c_insertS 0 (by decide) _ [] _ _ _ J (x ++ [leaveS _]) _ _ _ (snoc_Sts hxs hcs (leave_rep (by decide)) hxl hnc hcm hcells hext2.le) (Sts_le hext2.le s0) (by have := htl; simp only [List.mem_cons, forall_eq_or_imp] at this; simp only [List.length_append, List.length_singleton] at this ⊢; omega)) rfl (fun _ => rfl) rfl rfl rfl ?_
     rintro v G3 tv' hq hext3
     refine back _ _ _ _ (by kernel_rfl) ?_; clear back
     refine DD ?_;refine Va J J ?_;exact EK (1007 :: wKeys 2) (Res.t0 Tryz.results171) ⟨_, J, Tds_upd (hext2.le.trans hext3.le) _ hw ht hq⟩ (Wpp [_, _] kg spg J ‹_› J J J J J J J J) J (.blk J J (Wsub 10 J J J J J J J J J J J J J J J J (Bs 3 J J J J (Bs 3 J J J J .nil)))) (hext2.trans hext3)
    ·refine S_slice Tk ZT_ok J J J J (by decide) (by decide) J J J J fun b30 => ?_
     refine back _ _ _ _ (by kernel_rfl) ?_; clear back
     refine Da J J ?_;refine Nt 4 J J J J J J fun back => ?_;refine S_callN 55 Tryz.call170 (c_CloneStmN _ _ xs _ hxs (Cs_one Stm.rep_one hcs)) J J J ?_;rintro v G' A'' ⟨A, c, base, rfl, rfl, rfl⟩ hext
     refine S_newRow 55 J J ?_;refine back _ _ _ _ (by kernel_rfl) ?_; clear back
     refine Da J J ?_;refine Nt 10 J J J J J J fun back => ?_;refine S_appO (news := [.int .i64 12, .int .i64 _, .int .i64 0, .int .i64 0, .slice none 0 0, .slice none 0 0]) Tk 55 J J J J J J J J J J J (fun _ _ => J) (by exact src_blk 38 J J J J J) one6 (by simp only; omega) (by simp only [maxLen]; omega) (Nat.le_refl _) fun A' c' => ?_;refine back _ _ _ _ (by kernel_rfl) ?_; clear back
     refine Da J J ?_;refine Nt 11 J J J J J J fun back => ?_;refine S_freezeR 55 J J (Nat.le_refl _) fun G' hext2 hnc hcm hcells => ?_;refine S_callIns 1000 (5 * 0 + 1) Tryz.call152 J J (denL_spV 10 J J) (c_insertS 0 (by decide) _ [] _ _ _ J (x ++ [leaveS _]) _ _ _ (snoc_Sts hxs hcs (leave_rep (by decide)) hxl hnc hcm hcells hext2.le) (Sts_le hext2.le s0) (by have := htl; simp only [List.mem_cons, forall_eq_or_imp] at this; simp only [List.length_append, List.length_singleton] at this ⊢; omega)) rfl (fun _ => rfl) rfl rfl rfl ?_
     rintro v G3 tv' hq hext3
     refine back _ _ _ _ (by kernel_rfl) ?_; clear back
     refine DD ?_;refine Va J J ?_;exact EK (1007 :: wKeys 2) (Res.t0 Tryz.results171) ⟨_, J, Tds_upd (hext2.le.trans hext3.le) _ hw ht hq⟩ (Wpp [_, _] kg spg J ‹_› J J J J J J J J) J (.blk J J (Wsub 10 J J J J J J J J J J J J J J J J (Bs 3 J J J J (Bs 3 J J J J .nil)))) (hext2.trans hext3)
  ·refine OpP 1 1 J J J J fun bp bc br bs bg kp sp asd ksd aq0 kq0 aq1 kq1 kc spc kr spr ks sps kg spg hbg hmk => ?_; obtain ⟨g0, g1, rfl⟩ := len2 hbg; clear hbg; refine NM J J ?_; dsimp only [wEnts, wCels, procCs, regEs, WX.of, vi]
   refine Va J J ?_
   rcases ha with rfl | rfl <;>
   ·refine Ds J J J ?_
    refine Da J J ?_;refine D_val 9 J J J J J J J J J (V_add J J (by omega)) ?_;refine Da J J ?_;refine Ns 14 J J J J J J J J J ?_;refine Da J J ?_;refine Ns 17 J J J J J J J J J ?_;refine DD ?_;refine Va J J ?_;refine Ds J J J ?_;refine Da J J ?_;refine D_or 4 9 J J (N_turn Tk 4 J J J J fun back => ?_) (N_turn Tk 9 J J J J fun back => ?_)
    ·refine S_callN 55 Tryz.call170 (c_CloneStmN _ _ xs _ hxs (Cs_one Stm.rep_one hcs)) J J J ?_
     rintro v G' A'' ⟨A, c, base, rfl, rfl, rfl⟩ hext
     refine S_newRow 55 J J ?_;refine back _ _ _ _ (by kernel_rfl) ?_; clear back
     refine Da J J ?_;refine Nt 9 J J J J J J fun back => ?_;refine S_slice Tk ZT_ok J J J J (by decide) (by decide) J J J J fun b30 => ?_;refine back _ _ _ _ (by kernel_rfl) ?_; clear back
     refine Da J J ?_;refine Nt 10 J J J J J J fun back => ?_;refine S_appO (news := [.int .i64 12, .int .i64 _, .int .i64 0, .int .i64 0, .slice none 0 0, .slice none 0 0]) Tk 55 J J J J J J J J J J J (fun _ _ => J) (by exact src_blk 38 J J J J J) one6 (by simp only; omega) (by simp only [maxLen]; omega) (Nat.le_refl _) fun A' c' => ?_;refine back _ _ _ _ (by kernel_rfl) ?_; clear back
     refine Da J J ?_;refine Nt 11 J J J J J J fun back => ?_;refine S_freezeR 55 J J (Nat.le_refl _) fun G' hext2 hnc hcm hcells => ?_;refine S_callIns 1000 (5 * 1 + 1) Tryz.call152 J J (denL_spV 10 J J) (c_insertS 1 (by decide) _ [_,_,_,_,_] _ _ _ J (x ++ [leaveS _]) _ _ _ (snoc_Sts hxs hcs (leave_rep (by decide)) hxl hnc hcm hcells hext2.le) (Sts_le hext2.le s1) (by have := htl; simp only [List.mem_cons, forall_eq_or_imp] at this; simp only [List.length_append, List.length_singleton] at this ⊢; omega)) rfl (fun _ => rfl) rfl rfl rfl ?_
     rintro v G3 tv' hq hext3
     refine back _ _ _ _ (by kernel_rfl) ?_; clear back
     refine DD ?_;refine Va J J ?_;exact EK (1007 :: wKeys 2) (Res.t0 Tryz.results171) ⟨_, J, Tds_upd (hext2.le.trans hext3.le) _ hw ht hq⟩ (Wpp [_, _] kg spg J ‹_› J J J J J J J J) J (.blk J J (Wsub 10 J J J J J J J J J J J J J J J J (Bs 3 J J J J (Bs 3 J J J J .nil)))) (hext2.trans hext3)
    ·refine S_slice Tk ZT_ok J J J J (by decide) (by decide) J J J J fun b30 => ?_
     refine back _ _ _ _ (by kernel_rfl) ?_; clear back
     refine Da J J ?_;refine Nt 4 J J J J J J fun back => ?_;refine S_callN 55 Tryz.call170 (c_CloneStmN _ _ xs _ hxs (Cs_one Stm.rep_one hcs)) J J J ?_;rintro v G' A'' ⟨A, c, base, rfl, rfl, rfl⟩ hext
     refine S_newRow 55 J J ?_;refine back _ _ _ _ (by kernel_rfl) ?_; clear back
     refine Da J J ?_;refine Nt 10 J J J J J J fun back => ?_;refine S_appO (news := [.int .i64 12, .int .i64 _, .int .i64 0, .int .i64 0, .slice none 0 0, .slice none 0 0]) Tk 55 J J J J J J J J J J J (fun _ _ => J) (by exact src_blk 38 J J J J J) one6 (by simp only; omega) (by simp only [maxLen]; omega) (Nat.le_refl _) fun A' c' => ?_;refine back _ _ _ _ (by kernel_rfl) ?_; clear back
     refine Da J J ?_;refine Nt 11 J J J J J J fun back => ?_;refine S_freezeR 55 J J (Nat.le_refl _) fun G' hext2 hnc hcm hcells => ?_;refine S_callIns 1000 (5 * 1 + 1) Tryz.call152 J J (denL_spV 10 J J) (c_insertS 1 (by decide) _ [_,_,_,_,_] _ _ _ J (x ++ [leaveS _]) _ _ _ (snoc_Sts hxs hcs (leave_rep (by decide)) hxl hnc hcm hcells hext2.le) (Sts_le hext2.le s1) (by have := htl; simp only [List.mem_cons, forall_eq_or_imp] at this; simp only [List.length_append, List.length_singleton] at this ⊢; omega)) rfl (fun _ => rfl) rfl rfl rfl ?_
     rintro v G3 tv' hq hext3
     refine back _ _ _ _ (by kernel_rfl) ?_; clear back
     refine DD ?_;refine Va J J ?_;exact EK (1007 :: wKeys 2) (Res.t0 Tryz.results171) ⟨_, J, Tds_upd (hext2.le.trans hext3.le) _ hw ht hq⟩ (Wpp [_, _] kg spg J ‹_› J J J J J J J J) J (.blk J J (Wsub 10 J J J J J J J J J J J J J J J J (Bs 3 J J J J (Bs 3 J J J J .nil)))) (hext2.trans hext3)
 ·rcases (by simp at hw; omega : who = 0 ∨ who = 1 ∨ who = 2) with rfl | rfl | rfl
  ·refine OpP 1 1 J J J J fun bp bc br bs bg kp sp asd ksd aq0 kq0 aq1 kq1 kc spc kr spr ks sps kg spg hbg hmk => ?_; obtain ⟨g0, g1, g2, rfl⟩ := len3 hbg; clear hbg; refine NM J J ?_; dsimp only [wEnts, wCels, procCs, regEs, WX.of, vi]
   refine Va J J ?_
   rcases ha with rfl | rfl <;>
   ·refine Ds J J J ?_
    refine Da J J ?_;refine D_val 9 J J J J J J J J J (V_add J J (by omega)) ?_;refine Da J J ?_;refine Ns 14 J J J J J J J J J ?_;refine Da J J ?_;refine Ns 17 J J J J J J J J J ?_;refine DD ?_;refine Va J J ?_;refine Ds J J J ?_;refine Da J J ?_;refine D_or 4 9 J J (N_turn Tk 4 J J J J fun back => ?_) (N_turn Tk 9 J J J J fun back => ?_)
    ·refine S_callN 55 Tryz.call170 (c_CloneStmN _ _ xs _ hxs (Cs_one Stm.rep_one hcs)) J J J ?_
     rintro v G' A'' ⟨A, c, base, rfl, rfl, rfl⟩ hext
     refine S_newRow 55 J J ?_;refine back _ _ _ _ (by kernel_rfl) ?_; clear back
     refine Da J J ?_;refine Nt 9 J J J J J J fun back => ?_;refine S_slice Tk ZT_ok J J J J (by decide) (by decide) J J J J fun b30 => ?_;refine back _ _ _ _ (by kernel_rfl) ?_; clear back
     refine Da J J ?_;refine Nt 10 J J J J J J fun back => ?_;refine S_appO (news := [.int .i64 12, .int .i64 _, .int .i64 0, .int .i64 0, .slice none 0 0, .slice none 0 0]) Tk 55 J J J J J J J J J J J (fun _ _ => J) (by exact src_blk 38 J J J J J) one6 (by simp only; omega) (by simp only [maxLen]; omega) (Nat.le_refl _) fun A' c' => ?_;refine back _ _ _ _ (by kernel_rfl) ?_; clear back
     refine Da J J ?_;refine Nt 11 J J J J J J fun back => ?_;refine S_freezeR 55 J J (Nat.le_refl _) fun G' hext2 hnc hcm hcells => ?_;refine S_callIns 1000 (5 * 0 + 1) Tryz.call152 J J (denL_spV 15 J J) (c_insertS 0 (by decide) _ [] _ _ _ J (x ++ [leaveS _]) _ _ _ (snoc_Sts hxs hcs (leave_rep (by decide)) hxl hnc hcm hcells hext2.le) (Sts_le hext2.le s0) (by have := htl; simp only [List.mem_cons, forall_eq_or_imp] at this; simp only [List.length_append, List.length_singleton] at this ⊢; omega)) rfl (fun _ => rfl) rfl rfl rfl ?_
     rintro v G3 tv' hq hext3
     refine back _ _ _ _ (by kernel_rfl) ?_; clear back
     refine DD ?_;refine Va J J ?_;exact EK (1007 :: wKeys 3) (Res.t0 Tryz.results171) ⟨_, J, Tds_upd (hext2.le.trans hext3.le) _ hw ht hq⟩ (Wpp [_, _, _] kg spg J ‹_› J J J J J J J J) J (.blk J J (Wsub 15 J J J J J J J J J J J J J J J J (Bs 3 J J J J (Bs 3 J J J J (Bs 3 J J J J .nil))))) (hext2.trans hext3)
    ·refine S_slice Tk ZT_ok J J J J (by decide) (by decide) J J J J fun b30 => ?_
     refine back _ _ _ _ (by kernel_rfl) ?_; clear back
     refine Da J J ?_;refine Nt 4 J J J J J J fun back => ?_;refine S_callN 55 Tryz.call170 (c_CloneStmN _ _ xs _ hxs (Cs_one Stm.rep_one hcs)) J J J ?_;rintro v G' A'' ⟨A, c, base, rfl, rfl, rfl⟩ hext
     refine S_newRow 55 J J ?_;refine back _ _ _ _ (by kernel_rfl) ?_; clear back
     refine Da J J ?_;refine Nt 10 J J J J J J fun back => ?_;refine S_appO (news := [.int .i64 12, .int .i64 _, .int .i64 0, .int .i64 0, .slice none 0 0, .slice none 0 0]) Tk 55 J J J J J J J J J J J (fun _ _ => J) (by exact src_blk 38 J J J J J) one6 (by simp only; omega) (by simp only [maxLen]; omega) (Nat.le_refl _) fun A' c' => ?_;refine back _ _ _ _ (by kernel_rfl) ?_; clear back
     refine Da J J ?_;refine Nt 11 J J J J J J fun back => ?_;refine S_freezeR 55 J J (Nat.le_refl _) fun G' hext2 hnc hcm hcells => ?_;refine S_callIns 1000 (5 * 0 + 1) Tryz.call152 J J (denL_spV 15 J J) (c_insertS 0 (by decide) _ [] _ _ _ J (x ++ [leaveS _]) _ _ _ (snoc_Sts hxs hcs (leave_rep (by decide)) hxl hnc hcm hcells hext2.le) (Sts_le hext2.le s0) (by have := htl; simp only [List.mem_cons, forall_eq_or_imp] at this; simp only [List.length_append, List.length_singleton] at this ⊢; omega)) rfl (fun _ => rfl) rfl rfl rfl ?_
     rintro v G3 tv' hq hext3
     refine back _ _ _ _ (by kernel_rfl) ?_; clear back
     refine DD ?_;refine Va J J ?_;exact EK (1007 :: wKeys 3) (Res.t0 Tryz.results171) ⟨_, J, Tds_upd (hext2.le.trans hext3.le) _ hw ht hq⟩ (Wpp [_, _, _] kg spg J ‹_› J J J J J J J J) J (.blk J J (Wsub 15 J J J J J J J J J J J J J J J J (Bs 3 J J J J (Bs 3 J J J J (Bs 3 J J J J .nil))))) (hext2.trans hext3)
  ·refine OpP 1 1 J J J J fun bp bc br bs bg kp sp asd ksd aq0 kq0 aq1 kq1 kc spc kr spr ks sps kg spg hbg hmk => ?_; obtain ⟨g0, g1, g2, rfl⟩ := len3 hbg; clear hbg; refine NM J J ?_; dsimp only [wEnts, wCels, procCs, regEs, WX.of, vi]
   refine Va J J ?_
   rcases ha with rfl | rfl <;>
   ·refine Ds J J J ?_
    refine Da J J ?_;refine D_val 9 J J J J J J J J J (V_add J J (by omega)) ?_;refine Da J J ?_;refine Ns 14 J J J J J J J J J ?_;refine Da J J ?_;refine Ns 17 J J J J J J J J J ?_;refine DD ?_;refine Va J J ?_;refine Ds J J J ?_;refine Da J J ?_;refine D_or 4 9 J J (N_turn Tk 4 J J J J fun back => ?_) (N_turn Tk 9 J J J J fun back => ?_)
    ·refine S_callN 55 Tryz.call170 (c_CloneStmN _ _ xs _ hxs (Cs_one Stm.rep_one hcs)) J J J ?_
     rintro v G' A'' ⟨A, c, base, rfl, rfl, rfl⟩ hext
     refine S_newRow 55 J J ?_;refine back _ _ _ _ (by kernel_rfl) ?_; clear back
     refine Da J J ?_;refine Nt 9 J J J J J J fun back => ?_;refine S_slice Tk ZT_ok J J J J (by decide) (by decide) J J J J fun b30 => ?_;refine back _ _ _ _ (by kernel_rfl) ?_; clear back
     refine Da J J ?_;refine Nt 10 J J J J J J fun back => ?_;refine S_appO (news := [.int .i64 12, .int .i64 _, .int .i64 0, .int .i64 0, .slice none 0 0, .slice none 0 0]) Tk 55 J J J J J J J J J J J (fun _ _ => J) (by exact src_blk 38 J J J J J) one6 (by simp only; omega) (by simp only [maxLen]; omega) (Nat.le_refl _) fun A' c' => ?_;refine back _ _ _ _ (by kernel_rfl) ?_; clear back
     refine Da J J ?_;refine Nt 11 J J J J J J fun back => ?_;refine S_freezeR 55 J J (Nat.le_refl _) fun G' hext2 hnc hcm hcells => ?_;refine S_callIns 1000 (5 * 1 + 1) Tryz.call152 J J (denL_spV 15 J J) (c_insertS 1 (by decide) _ [_,_,_,_,_] _ _ _ J (x ++ [leaveS _]) _ _ _ (snoc_Sts hxs hcs (leave_rep (by decide)) hxl hnc hcm hcells hext2.le) (Sts_le hext2.le s1) (by have := htl; simp only [List.mem_cons, forall_eq_or_imp] at this; simp only [List.length_append, List.length_singleton] at this ⊢; omega)) rfl (fun _ => rfl) rfl rfl rfl ?_
     rintro v G3 tv' hq hext3
     refine back _ _ _ _ (by kernel_rfl) ?_; clear back
     refine DD ?_;refine Va J J ?_;exact EK (1007 :: wKeys 3) (Res.t0 Tryz.results171) ⟨_, J, Tds_upd (hext2.le.trans hext3.le) _ hw ht hq⟩ (Wpp [_, _, _] kg spg J ‹_› J J J J J J J J) J (.blk J J (Wsub 15 J J J J J J J J J J J J J J J J (Bs 3 J J J J (Bs 3 J J J J (Bs 3 J J J J .nil))))) (hext2.trans hext3)
    ·refine S_slice Tk ZT_ok J J J J (by decide) (by decide) J J J J fun b30 => ?_
     refine back _ _ _ _ (by kernel_rfl) ?_; clear back
     refine Da J J ?_;refine Nt 4 J J J J J J fun back => ?_;refine S_callN 55 Tryz.call170 (c_CloneStmN _ _ xs _ hxs (Cs_one Stm.rep_one hcs)) J J J ?_;rintro v G' A'' ⟨A, c, base, rfl, rfl, rfl⟩ hext
     refine S_newRow 55 J J ?_;refine back _ _ _ _ (by kernel_rfl) ?_; clear back
     refine Da J J ?_;refine Nt 10 J J J J J J fun back => ?_;refine S_appO (news := [.int .i64 12, .int .i64 _, .int .i64 0, .int .i64 0, .slice none 0 0, .slice none 0 0]) Tk 55 J J J J J J J J J J J (fun _ _ => J) (by exact src_blk 38 J J J J J) one6 (by simp only; omega) (by simp only [maxLen]; omega) (Nat.le_refl _) fun A' c' => ?_;refine back _ _ _ _ (by kernel_rfl) ?_; clear back
     refine Da J J ?_;refine Nt 11 J J J J J J fun back => ?_;refine S_freezeR 55 J J (Nat.le_refl _) fun G' hext2 hnc hcm hcells => ?_;refine S_callIns 1000 (5 * 1 + 1) Tryz.call152 J J (denL_spV 15 J J) (c_insertS 1 (by decide) _ [_,_,_,_,_] _ _ _ J (x ++ [leaveS _]) _ _ _ (snoc_Sts hxs hcs (leave_rep (by decide)) hxl hnc hcm hcells hext2.le) (Sts_le hext2.le s1) (by have := htl; simp only [List.mem_cons, forall_eq_or_imp] at this; simp only [List.length_append, List.length_singleton] at this ⊢; omega)) rfl (fun _ => rfl) rfl rfl rfl ?_
     rintro v G3 tv' hq hext3
     refine back _ _ _ _ (by kernel_rfl) ?_; clear back
     refine DD ?_;refine Va J J ?_;exact EK (1007 :: wKeys 3) (Res.t0 Tryz.results171) ⟨_, J, Tds_upd (hext2.le.trans hext3.le) _ hw ht hq⟩ (Wpp [_, _, _] kg spg J ‹_› J J J J J J J J) J (.blk J J (Wsub 15 J J J J J J J J J J J J J J J J (Bs 3 J J J J (Bs 3 J J J J (Bs 3 J J J J .nil))))) (hext2.trans hext3)
  ·refine OpP 1 1 J J J J fun bp bc br bs bg kp sp asd ksd aq0 kq0 aq1 kq1 kc spc kr spr ks sps kg spg hbg hmk => ?_; obtain ⟨g0, g1, g2, rfl⟩ := len3 hbg; clear hbg; refine NM J J ?_; dsimp only [wEnts, wCels, procCs, regEs, WX.of, vi]
   refine Va J J ?_
   rcases ha with rfl | rfl <;>
   ·refine Ds J J J ?_
    refine Da J J ?_;refine D_val 9 J J J J J J J J J (V_add J J (by omega)) ?_;refine Da J J ?_;refine Ns 14 J J J J J J J J J ?_;refine Da J J ?_;refine Ns 17 J J J J J J J J J ?_;refine DD ?_;refine Va J J ?_;refine Ds J J J ?_;refine Da J J ?_;refine D_or 4 9 J J (N_turn Tk 4 J J J J fun back => ?_) (N_turn Tk 9 J J J J fun back => ?_)
    ·refine S_callN 55 Tryz.call170 (c_CloneStmN _ _ xs _ hxs (Cs_one Stm.rep_one hcs)) J J J ?_
     rintro v G' A'' ⟨A, c, base, rfl, rfl, rfl⟩ hext
     refine S_newRow 55 J J ?_;refine back _ _ _ _ (by kernel_rfl) ?_; clear back
     refine Da J J ?_;refine Nt 9 J J J J J J fun back => ?_;refine S_slice Tk ZT_ok J J J J (by decide) (by decide) J J J J fun b30 => ?_;refine back _ _ _ _ (by kernel_rfl) ?_; clear back
     refine Da J J ?_;refine Nt 10 J J J J J J fun back => ?_;refine S_appO (news := [.int .i64 12, .int .i64 _, .int .i64 0, .int .i64 0, .slice none 0 0, .slice none 0 0]) Tk 55 J J J J J J J J J J J (fun _ _ => J) (by exact src_blk 38 J J J J J) one6 (by simp only; omega) (by simp only [maxLen]; omega) (Nat.le_refl _) fun A' c' => ?_;refine back _ _ _ _ (by kernel_rfl) ?_; clear back
     refine Da J J ?_;refine Nt 11 J J J J J J fun back => ?_;refine S_freezeR 55 J J (Nat.le_refl _) fun G' hext2 hnc hcm hcells => ?_;refine S_callIns 1000 (5 * 2 + 1) Tryz.call152 J J (denL_spV 15 J J) (c_insertS 2 (by decide) _ [_,_,_,_,_,_,_,_,_,_] _ _ _ J (x ++ [leaveS _]) _ _ _ (snoc_Sts hxs hcs (leave_rep (by decide)) hxl hnc hcm hcells hext2.le) (Sts_le hext2.le s2) (by have := htl; simp only [List.mem_cons, forall_eq_or_imp] at this; simp only [List.length_append, List.length_singleton] at this ⊢; omega)) rfl (fun _ => rfl) rfl rfl rfl ?_
     rintro v G3 tv' hq hext3
     refine back _ _ _ _ (by kernel_rfl) ?_; clear back
     refine DD ?_;refine Va J J ?_;exact EK (1007 :: wKeys 3) (Res.t0 Tryz.results171) ⟨_, J, Tds_upd (hext2.le.trans hext3.le) _ hw ht hq⟩ (Wpp [_, _, _] kg spg J ‹_› J J J J J J J J) J (.blk J J (Wsub 15 J J J J J J J J J J J J J J J J (Bs 3 J J J J (Bs 3 J J J J (Bs 3 J J J J .nil))))) (hext2.trans hext3)
    ·refine S_slice Tk ZT_ok J J J J (by decide) (by decide) J J J J fun b30 => ?_
     refine back _ _ _ _ (by kernel_rfl) ?_; clear back
     refine Da J J ?_;refine Nt 4 J J J J J J fun back => ?_;refine S_callN 55 Tryz.call170 (c_CloneStmN _ _ xs _ hxs (Cs_one Stm.rep_one hcs)) J J J ?_;rintro v G' A'' ⟨A, c, base, rfl, rfl, rfl⟩ hext
     refine S_newRow 55 J J ?_;refine back _ _ _ _ (by kernel_rfl) ?_; clear back
     refine Da J J ?_;refine Nt 10 J J J J J J fun back => ?_;refine S_appO (news := [.int .i64 12, .int .i64 _, .int .i64 0, .int .i64 0, .slice none 0 0, .slice none 0 0]) Tk 55 J J J J J J J J J J J (fun _ _ => J) (by exact src_blk 38 J J J J J) one6 (by simp only; omega) (by simp only [maxLen]; omega) (Nat.le_refl _) fun A' c' => ?_;refine back _ _ _ _ (by kernel_rfl) ?_; clear back
     refine Da J J ?_;refine Nt 11 J J J J J J fun back => ?_;refine S_freezeR 55 J J (Nat.le_refl _) fun G' hext2 hnc hcm hcells => ?_;refine S_callIns 1000 (5 * 2 + 1) Tryz.call152 J J (denL_spV 15 J J) (c_insertS 2 (by decide) _ [_,_,_,_,_,_,_,_,_,_] _ _ _ J (x ++ [leaveS _]) _ _ _ (snoc_Sts hxs hcs (leave_rep (by decide)) hxl hnc hcm hcells hext2.le) (Sts_le hext2.le s2) (by have := htl; simp only [List.mem_cons, forall_eq_or_imp] at this; simp only [List.length_append, List.length_singleton] at this ⊢; omega)) rfl (fun _ => rfl) rfl rfl rfl ?_
     rintro v G3 tv' hq hext3
     refine back _ _ _ _ (by kernel_rfl) ?_; clear back
     refine DD ?_;refine Va J J ?_;exact EK (1007 :: wKeys 3) (Res.t0 Tryz.results171) ⟨_, J, Tds_upd (hext2.le.trans hext3.le) _ hw ht hq⟩ (Wpp [_, _, _] kg spg J ‹_› J J J J J J J J) J (.blk J J (Wsub 15 J J J J J J J J J J J J J J J J (Bs 3 J J J J (Bs 3 J J J J (Bs 3 J J J J .nil))))) (hext2.trans hext3)
theorem c_dYield (who : Int) (b : Nat) (G : PH) (A : HP) : Mod Tryz.prog 175 [.agg #[], .pointer (some ⟨b, 0, none⟩), .int .i64 who] G A fun v G' A' => G' = G ∧ A' = A := by
 refine Mod.intro Tryz.func175 Tryz.ntmps175 J J fun w S => ?_;refine Va J J ?_;refine S_box J J J J J fun b3 => ?_;refine Va J J ?_;exact S_endm 1 (Res.t0 Tryz.results175) J XR ⟨J, J⟩
end
section
attribute [local irreducible] X Pure Mod
theorem c_dNum (W : Wld) (who : Nat) (b : Nat) (ts : List Value) (G : PH) (h1 : 1 ≤ W.procs.length) (h3 : W.procs.length ≤ 3) (ht : Tds G W.procs ts) (hw : who < W.procs.length) (a n : Int) (ha : a = 0 ∨ a = 1 ∨ a = 2) :
  Mod Tryz.prog 153 [.agg #[.int .i64 a, .int .i64 n], .pointer (some ⟨b, 0, none⟩), .int .i64 (who : Nat)] G (worldP b W ts) fun v G' A' => G' = G ∧ A' = worldP b (W.upd who (·.set a n)) ts := by
 refine Mod.intro Tryz.func153 Tryz.ntmps153 J J fun w S => ?_;refine Va J J ?_;refine S_box J J J J J fun b3 => ?_;obtain ⟨ps, x0, x1, x2, m0, m1, q0, q1, sd⟩ := W
 rcases shape h1 h3 ht with ⟨⟨a0, a1, a2, td0, mo0, on0, ro0⟩, A0, k0, rfl, rfl, s0⟩ | ⟨⟨a0, a1, a2, td0, mo0, on0, ro0⟩, A0, k0, ⟨b0, b1, b2, td1, mo1, on1, ro1⟩, A1, k1, rfl, rfl, s0, s1⟩ | ⟨⟨a0, a1, a2, td0, mo0, on0, ro0⟩, A0, k0, ⟨b0, b1, b2, td1, mo1, on1, ro1⟩, A1, k1, ⟨d0, d1, d2, td2, mo2, on2, ro2⟩, A2, k2, rfl, rfl, s0, s1, s2⟩
 ·obtain rfl : who = 0 := by simpa using hw
  refine OpP 1 1 J J J J fun bp bc br bs bg kp sp asd ksd aq0 kq0 aq1 kq1 kc spc kr spr ks sps kg spg hbg hmk => ?_; obtain ⟨g0, rfl⟩ := len1 hbg; clear hbg; refine NM J J ?_; dsimp only [wEnts, wCels, procCs, regEs, WX.of, vi]
  refine Va J J ?_;refine Ds J J J ?_
  rcases ha with rfl | rfl | rfl <;>
  ·refine Da J J ?_
   refine Ns 13 J J J J J J J J J ?_;refine DD ?_;refine Va J J ?_;exact EK (1007 :: wKeys 1) (Res.t0 Tryz.results153) ⟨J, J⟩ (Wpp [_] kg spg J ‹_› J J J J J J J J) J (.blk J J (Wsub 5 J J J J J J J J J J J J J J J J (Bs 3 J J J J .nil))) XR
 ·rcases (by simp at hw; omega : who = 0 ∨ who = 1) with rfl | rfl
  ·refine OpP 1 1 J J J J fun bp bc br bs bg kp sp asd ksd aq0 kq0 aq1 kq1 kc spc kr spr ks sps kg spg hbg hmk => ?_; obtain ⟨g0, g1, rfl⟩ := len2 hbg; clear hbg; refine NM J J ?_; dsimp only [wEnts, wCels, procCs, regEs, WX.of, vi]
   refine Va J J ?_;refine Ds J J J ?_
   rcases ha with rfl | rfl | rfl <;>
   ·refine Da J J ?_
    refine Ns 13 J J J J J J J J J ?_;refine DD ?_;refine Va J J ?_;exact EK (1007 :: wKeys 2) (Res.t0 Tryz.results153) ⟨J, J⟩ (Wpp [_, _] kg spg J ‹_› J J J J J J J J) J (.blk J J (Wsub 10 J J J J J J J J J J J J J J J J (Bs 3 J J J J (Bs 3 J J J J .nil)))) XR
  ·refine OpP 1 1 J J J J fun bp bc br bs bg kp sp asd ksd aq0 kq0 aq1 kq1 kc spc kr spr ks sps kg spg hbg hmk => ?_; obtain ⟨g0, g1, rfl⟩ := len2 hbg; clear hbg; refine NM J J ?_; dsimp only [wEnts, wCels, procCs, regEs, WX.of, vi]
   refine Va J J ?_;refine Ds J J J ?_
   rcases ha with rfl | rfl | rfl <;>
   ·refine Da J J ?_
    refine Ns 13 J J J J J J J J J ?_;refine DD ?_;refine Va J J ?_;exact EK (1007 :: wKeys 2) (Res.t0 Tryz.results153) ⟨J, J⟩ (Wpp [_, _] kg spg J ‹_› J J J J J J J J) J (.blk J J (Wsub 10 J J J J J J J J J J J J J J J J (Bs 3 J J J J (Bs 3 J J J J .nil)))) XR
 ·rcases (by simp at hw; omega : who = 0 ∨ who = 1 ∨ who = 2) with rfl | rfl | rfl
  ·refine OpP 1 1 J J J J fun bp bc br bs bg kp sp asd ksd aq0 kq0 aq1 kq1 kc spc kr spr ks sps kg spg hbg hmk => ?_; obtain ⟨g0, g1, g2, rfl⟩ := len3 hbg; clear hbg; refine NM J J ?_; dsimp only [wEnts, wCels, procCs, regEs, WX.of, vi]
   refine Va J J ?_;refine Ds J J J ?_
   rcases ha with rfl | rfl | rfl <;>
   ·refine Da J J ?_
    refine Ns 13 J J J J J J J J J ?_;refine DD ?_;refine Va J J ?_;exact EK (1007 :: wKeys 3) (Res.t0 Tryz.results153) ⟨J, J⟩ (Wpp [_, _, _] kg spg J ‹_› J J J J J J J J) J (.blk J J (Wsub 15 J J J J J J J J J J J J J J J J (Bs 3 J J J J (Bs 3 J J J J (Bs 3 J J J J .nil))))) XR
  ·refine OpP 1 1 J J J J fun bp bc br bs bg kp sp asd ksd aq0 kq0 aq1 kq1 kc spc kr spr ks sps kg spg hbg hmk => ?_; obtain ⟨g0, g1, g2, rfl⟩ := len3 hbg; clear hbg; refine NM J J ?_; dsimp only [wEnts, wCels, procCs, regEs, WX.of, vi]
   refine Va J J ?_;refine Ds J J J ?_
   rcases ha with rfl | rfl | rfl <;>
   ·refine Da J J ?_
    refine Ns 13 J J J J J J J J J ?_;refine DD ?_;refine Va J J ?_;exact EK (1007 :: wKeys 3) (Res.t0 Tryz.results153) ⟨J, J⟩ (Wpp [_, _, _] kg spg J ‹_› J J J J J J J J) J (.blk J J (Wsub 15 J J J J J J J J J J J J J J J J (Bs 3 J J J J (Bs 3 J J J J (Bs 3 J J J J .nil))))) XR
  ·refine OpP 1 1 J J J J fun bp bc br bs bg kp sp asd ksd aq0 kq0 aq1 kq1 kc spc kr spr ks sps kg spg hbg hmk => ?_; obtain ⟨g0, g1, g2, rfl⟩ := len3 hbg; clear hbg; refine NM J J ?_; dsimp only [wEnts, wCels, procCs, regEs, WX.of, vi]
   refine Va J J ?_;refine Ds J J J ?_
   rcases ha with rfl | rfl | rfl <;>
   ·refine Da J J ?_
    refine Ns 13 J J J J J J J J J ?_;refine DD ?_;refine Va J J ?_;exact EK (1007 :: wKeys 3) (Res.t0 Tryz.results153) ⟨J, J⟩ (Wpp [_, _, _] kg spg J ‹_› J J J J J J J J) J (.blk J J (Wsub 15 J J J J J J J J J J J J J J J J (Bs 3 J J J J (Bs 3 J J J J (Bs 3 J J J J .nil))))) XR
theorem c_dOp (W : Wld) (who : Nat) (b : Nat) (ts : List Value) (G : PH) (h1 : 1 ≤ W.procs.length) (h3 : W.procs.length ≤ 3) (ht : Tds G W.procs ts) (hw : who < W.procs.length) (a bb op : Int) (ha : a = 0 ∨ a = 1 ∨ a = 2) (hb : bb = 0 ∨ bb = 1 ∨ bb = 2) :
  Mod Tryz.prog 154 [.agg #[.int .i64 a, .int .i64 bb, .int .i64 op], .pointer (some ⟨b, 0, none⟩), .int .i64 (who : Nat)] G (worldP b W ts) fun v G' A' => G' = G ∧ A' = worldP b (W.upd who (fun p => p.set a (numDo op (p.get a) (p.get bb)).1)) ts := by
 refine Mod.intro Tryz.func154 Tryz.ntmps154 J J fun w S => ?_;refine Va J J ?_;refine S_box J J J J J fun b3 => ?_;obtain ⟨ps, x0, x1, x2, m0, m1, q0, q1, sd⟩ := W
 rcases shape h1 h3 ht with ⟨⟨a0, a1, a2, td0, mo0, on0, ro0⟩, A0, k0, rfl, rfl, s0⟩ | ⟨⟨a0, a1, a2, td0, mo0, on0, ro0⟩, A0, k0, ⟨b0, b1, b2, td1, mo1, on1, ro1⟩, A1, k1, rfl, rfl, s0, s1⟩ | ⟨⟨a0, a1, a2, td0, mo0, on0, ro0⟩, A0, k0, ⟨b0, b1, b2, td1, mo1, on1, ro1⟩, A1, k1, ⟨d0, d1, d2, td2, mo2, on2, ro2⟩, A2, k2, rfl, rfl, s0, s1, s2⟩
 ·obtain rfl : who = 0 := by simpa using hw
  refine OpP 1 1 J J J J fun bp bc br bs bg kp sp asd ksd aq0 kq0 aq1 kq1 kc spc kr spr ks sps kg spg hbg hmk => ?_; obtain ⟨g0, rfl⟩ := len1 hbg; clear hbg; refine NM J J ?_; dsimp only [wEnts, wCels, procCs, regEs, WX.of, vi]
  refine Va J J ?_;refine Ds J J J ?_
  rcases ha with rfl | rfl | rfl <;> rcases hb with rfl | rfl | rfl <;>
  ·refine Da J J ?_
   refine D_sole 15 J J (N_call 15 Tryz.call155 (c_iNumDo _ _ _ _) J J J J J J J J J J ?_)
   rintro v G' ⟨rfl, rfl⟩ _
   refine Da J J ?_;refine Ns 20 J J J J J J J J J ?_;refine DD ?_;refine Va J J ?_;exact EK (1007 :: wKeys 1) (Res.t0 Tryz.results154) ⟨J, J⟩ (Wpp [_] kg spg J ‹_› J J J J J J J J) J (.blk J J (Wsub 5 J J J J J J J J J J J J J J J J (Bs 3 J J J J .nil))) XR
 ·rcases (by simp at hw; omega : who = 0 ∨ who = 1) with rfl | rfl
  ·refine OpP 1 1 J J J J fun bp bc br bs bg kp sp asd ksd aq0 kq0 aq1 kq1 kc spc kr spr ks sps kg spg hbg hmk => ?_; obtain ⟨g0, g1, rfl⟩ := len2 hbg; clear hbg; refine NM J J ?_; dsimp only [wEnts, wCels, procCs, regEs, WX.of, vi]
   refine Va J J ?_;refine Ds J J J ?_
   rcases ha with rfl | rfl | rfl <;> rcases hb with rfl | rfl | rfl <;>
   ·refine Da J J ?_
    refine D_sole 15 J J (N_call 15 Tryz.call155 (c_iNumDo _ _ _ _) J J J J J J J J J J ?_)
    rintro v G' ⟨rfl, rfl⟩ _
    refine Da J J ?_;refine Ns 20 J J J J J J J J J ?_;refine DD ?_;refine Va J J ?_;exact EK (1007 :: wKeys 2) (Res.t0 Tryz.results154) ⟨J, J⟩ (Wpp [_, _] kg spg J ‹_› J J J J J J J J) J (.blk J J (Wsub 10 J J J J J J J J J J J J J J J J (Bs 3 J J J J (Bs 3 J J J J .nil)))) XR
  ·refine OpP 1 1 J J J J fun bp bc br bs bg kp sp asd ksd aq0 kq0 aq1 kq1 kc spc kr spr ks sps kg spg hbg hmk => ?_; obtain ⟨g0, g1, rfl⟩ := len2 hbg; clear hbg; refine NM J J ?_; dsimp only [wEnts, wCels, procCs, regEs, WX.of, vi]
   refine Va J J ?_;refine Ds J J J ?_
   rcases ha with rfl | rfl | rfl <;> rcases hb with rfl | rfl | rfl <;>
   ·refine Da J J ?_
    refine D_sole 15 J J (N_call 15 Tryz.call155 (c_iNumDo _ _ _ _) J J J J J J J J J J ?_)
    rintro v G' ⟨rfl, rfl⟩ _
    refine Da J J ?_;refine Ns 20 J J J J J J J J J ?_;refine DD ?_;refine Va J J ?_;exact EK (1007 :: wKeys 2) (Res.t0 Tryz.results154) ⟨J, J⟩ (Wpp [_, _] kg spg J ‹_› J J J J J J J J) J (.blk J J (Wsub 10 J J J J J J J J J J J J J J J J (Bs 3 J J J J (Bs 3 J J J J .nil)))) XR
 ·rcases (by simp at hw; omega : who = 0 ∨ who = 1 ∨ who = 2) with rfl | rfl | rfl
  ·refine OpP 1 1 J J J J fun bp bc br bs bg kp sp asd ksd aq0 kq0 aq1 kq1 kc spc kr spr ks sps kg spg hbg hmk => ?_; obtain ⟨g0, g1, g2, rfl⟩ := len3 hbg; clear hbg; refine NM J J ?_; dsimp only [wEnts, wCels, procCs, regEs, WX.of, vi]
   refine Va J J ?_;refine Ds J J J ?_
   rcases ha with rfl | rfl | rfl <;> rcases hb with rfl | rfl | rfl <;>
   ·refine Da J J ?_
    refine D_sole 15 J J (N_call 15 Tryz.call155 (c_iNumDo _ _ _ _) J J J J J J J J J J ?_)
    rintro v G' ⟨rfl, rfl⟩ _
    refine Da J J ?_;refine Ns 20 J J J J J J J J J ?_;refine DD ?_;refine Va J J ?_;exact EK (1007 :: wKeys 3) (Res.t0 Tryz.results154) ⟨J, J⟩ (Wpp [_, _, _] kg spg J ‹_› J J J J J J J J) J (.blk J J (Wsub 15 J J J J J J J J J J J J J J J J (Bs 3 J J J J (Bs 3 J J J J (Bs 3 J J J J .nil))))) XR
  ·refine OpP 1 1 J J J J fun bp bc br bs bg kp sp asd ksd aq0 kq0 aq1 kq1 kc spc kr spr ks sps kg spg hbg hmk => ?_; obtain ⟨g0, g1, g2, rfl⟩ := len3 hbg; clear hbg; refine NM J J ?_; dsimp only [wEnts, wCels, procCs, regEs, WX.of, vi]
   refine Va J J ?_;refine Ds J J J ?_
   rcases ha with rfl | rfl | rfl <;> rcases hb with rfl | rfl | rfl <;>
   ·refine Da J J ?_
    refine D_sole 15 J J (N_call 15 Tryz.call155 (c_iNumDo _ _ _ _) J J J J J J J J J J ?_)
    rintro v G' ⟨rfl, rfl⟩ _
    refine Da J J ?_;refine Ns 20 J J J J J J J J J ?_;refine DD ?_;refine Va J J ?_;exact EK (1007 :: wKeys 3) (Res.t0 Tryz.results154) ⟨J, J⟩ (Wpp [_, _, _] kg spg J ‹_› J J J J J J J J) J (.blk J J (Wsub 15 J J J J J J J J J J J J J J J J (Bs 3 J J J J (Bs 3 J J J J (Bs 3 J J J J .nil))))) XR
  ·refine OpP 1 1 J J J J fun bp bc br bs bg kp sp asd ksd aq0 kq0 aq1 kq1 kc spc kr spr ks sps kg spg hbg hmk => ?_; obtain ⟨g0, g1, g2, rfl⟩ := len3 hbg; clear hbg; refine NM J J ?_; dsimp only [wEnts, wCels, procCs, regEs, WX.of, vi]
   refine Va J J ?_;refine Ds J J J ?_
   rcases ha with rfl | rfl | rfl <;> rcases hb with rfl | rfl | rfl <;>
   ·refine Da J J ?_
    refine D_sole 15 J J (N_call 15 Tryz.call155 (c_iNumDo _ _ _ _) J J J J J J J J J J ?_)
    rintro v G' ⟨rfl, rfl⟩ _
    refine Da J J ?_;refine Ns 20 J J J J J J J J J ?_;refine DD ?_;refine Va J J ?_;exact EK (1007 :: wKeys 3) (Res.t0 Tryz.results154) ⟨J, J⟩ (Wpp [_, _, _] kg spg J ‹_› J J J J J J J J) J (.blk J J (Wsub 15 J J J J J J J J J J J J J J J J (Bs 3 J J J J (Bs 3 J J J J (Bs 3 J J J J .nil))))) XR
theorem c_dLoad (W : Wld) (who : Nat) (b : Nat) (ts : List Value) (G : PH) (h1 : 1 ≤ W.procs.length) (h3 : W.procs.length ≤ 3) (ht : Tds G W.procs ts) (hw : who < W.procs.length) (a bb : Int) (ha : a = 0 ∨ a = 1 ∨ a = 2) (hb : bb = 0 ∨ bb = 1 ∨ bb = 2) :
  Mod Tryz.prog 163 [.agg #[.int .i64 a, .int .i64 bb], .pointer (some ⟨b, 0, none⟩), .int .i64 (who : Nat)] G (worldP b W ts) fun v G' A' => G' = G ∧ A' = worldP b (W.upd who (·.set a (W.cell bb))) ts := by
 refine Mod.intro Tryz.func163 Tryz.ntmps163 J J fun w S => ?_;refine Va J J ?_;refine S_box J J J J J fun b3 => ?_;obtain ⟨ps, x0, x1, x2, m0, m1, q0, q1, sd⟩ := W
 rcases shape h1 h3 ht with ⟨⟨a0, a1, a2, td0, mo0, on0, ro0⟩, A0, k0, rfl, rfl, s0⟩ | ⟨⟨a0, a1, a2, td0, mo0, on0, ro0⟩, A0, k0, ⟨b0, b1, b2, td1, mo1, on1, ro1⟩, A1, k1, rfl, rfl, s0, s1⟩ | ⟨⟨a0, a1, a2, td0, mo0, on0, ro0⟩, A0, k0, ⟨b0, b1, b2, td1, mo1, on1, ro1⟩, A1, k1, ⟨d0, d1, d2, td2, mo2, on2, ro2⟩, A2, k2, rfl, rfl, s0, s1, s2⟩
 ·obtain rfl : who = 0 := by simpa using hw
  refine OpP 1 1 J J J J fun bp bc br bs bg kp sp asd ksd aq0 kq0 aq1 kq1 kc spc kr spr ks sps kg spg hbg hmk => ?_; obtain ⟨g0, rfl⟩ := len1 hbg; clear hbg; refine NM J J ?_; dsimp only [wEnts, wCels, procCs, regEs, WX.of, vi]
  refine Va J J ?_;refine Ds J J J ?_
  rcases ha with rfl | rfl | rfl <;> rcases hb with rfl | rfl | rfl <;>
  ·refine Da J J ?_
   refine Ns 19 J J J J J J J J J ?_;refine DD ?_;refine Va J J ?_;exact EK (1007 :: wKeys 1) (Res.t0 Tryz.results163) ⟨J, J⟩ (Wpp [_] kg spg J ‹_› J J J J J J J J) J (.blk J J (Wsub 5 J J J J J J J J J J J J J J J J (Bs 3 J J J J .nil))) XR
 ·rcases (by simp at hw; omega : who = 0 ∨ who = 1) with rfl | rfl
  ·refine OpP 1 1 J J J J fun bp bc br bs bg kp sp asd ksd aq0 kq0 aq1 kq1 kc spc kr spr ks sps kg spg hbg hmk => ?_; obtain ⟨g0, g1, rfl⟩ := len2 hbg; clear hbg; refine NM J J ?_; dsimp only [wEnts, wCels, procCs, regEs, WX.of, vi]
   refine Va J J ?_;refine Ds J J J ?_
   rcases ha with rfl | rfl | rfl <;> rcases hb with rfl | rfl | rfl <;>
   ·refine Da J J ?_
    refine Ns 19 J J J J J J J J J ?_;refine DD ?_;refine Va J J ?_;exact EK (1007 :: wKeys 2) (Res.t0 Tryz.results163) ⟨J, J⟩ (Wpp [_, _] kg spg J ‹_› J J J J J J J J) J (.blk J J (Wsub 10 J J J J J J J J J J J J J J J J (Bs 3 J J J J (Bs 3 J J J J .nil)))) XR
  ·refine OpP 1 1 J J J J fun bp bc br bs bg kp sp asd ksd aq0 kq0 aq1 kq1 kc spc kr spr ks sps kg spg hbg hmk => ?_; obtain ⟨g0, g1, rfl⟩ := len2 hbg; clear hbg; refine NM J J ?_; dsimp only [wEnts, wCels, procCs, regEs, WX.of, vi]
   refine Va J J ?_;refine Ds J J J ?_
   rcases ha with rfl | rfl | rfl <;> rcases hb with rfl | rfl | rfl <;>
   ·refine Da J J ?_
    refine Ns 19 J J J J J J J J J ?_;refine DD ?_;refine Va J J ?_;exact EK (1007 :: wKeys 2) (Res.t0 Tryz.results163) ⟨J, J⟩ (Wpp [_, _] kg spg J ‹_› J J J J J J J J) J (.blk J J (Wsub 10 J J J J J J J J J J J J J J J J (Bs 3 J J J J (Bs 3 J J J J .nil)))) XR
 ·rcases (by simp at hw; omega : who = 0 ∨ who = 1 ∨ who = 2) with rfl | rfl | rfl
  ·refine OpP 1 1 J J J J fun bp bc br bs bg kp sp asd ksd aq0 kq0 aq1 kq1 kc spc kr spr ks sps kg spg hbg hmk => ?_; obtain ⟨g0, g1, g2, rfl⟩ := len3 hbg; clear hbg; refine NM J J ?_; dsimp only [wEnts, wCels, procCs, regEs, WX.of, vi]
   refine Va J J ?_;refine Ds J J J ?_
   rcases ha with rfl | rfl | rfl <;> rcases hb with rfl | rfl | rfl <;>
   ·refine Da J J ?_
    refine Ns 19 J J J J J J J J J ?_;refine DD ?_;refine Va J J ?_;exact EK (1007 :: wKeys 3) (Res.t0 Tryz.results163) ⟨J, J⟩ (Wpp [_, _, _] kg spg J ‹_› J J J J J J J J) J (.blk J J (Wsub 15 J J J J J J J J J J J J J J J J (Bs 3 J J J J (Bs 3 J J J J (Bs 3 J J J J .nil))))) XR
  ·refine OpP 1 1 J J J J fun bp bc br bs bg kp sp asd ksd aq0 kq0 aq1 kq1 kc spc kr spr ks sps kg spg hbg hmk => ?_; obtain ⟨g0, g1, g2, rfl⟩ := len3 hbg; clear hbg; refine NM J J ?_; dsimp only [wEnts, wCels, procCs, regEs, WX.of, vi]
   refine Va J J ?_;refine Ds J J J ?_
   rcases ha with rfl | rfl | rfl <;> rcases hb with rfl | rfl | rfl <;>
   ·refine Da J J ?_
    refine Ns 19 J J J J J J J J J ?_;refine DD ?_;refine Va J J ?_;exact EK (1007 :: wKeys 3) (Res.t0 Tryz.results163) ⟨J, J⟩ (Wpp [_, _, _] kg spg J ‹_› J J J J J J J J) J (.blk J J (Wsub 15 J J J J J J J J J J J J J J J J (Bs 3 J J J J (Bs 3 J J J J (Bs 3 J J J J .nil))))) XR
  ·refine OpP 1 1 J J J J fun bp bc br bs bg kp sp asd ksd aq0 kq0 aq1 kq1 kc spc kr spr ks sps kg spg hbg hmk => ?_; obtain ⟨g0, g1, g2, rfl⟩ := len3 hbg; clear hbg; refine NM J J ?_; dsimp only [wEnts, wCels, procCs, regEs, WX.of, vi]
   refine Va J J ?_;refine Ds J J J ?_
   rcases ha with rfl | rfl | rfl <;> rcases hb with rfl | rfl | rfl <;>
   ·refine Da J J ?_
    refine Ns 19 J J J J J J J J J ?_;refine DD ?_;refine Va J J ?_;exact EK (1007 :: wKeys 3) (Res.t0 Tryz.results163) ⟨J, J⟩ (Wpp [_, _, _] kg spg J ‹_› J J J J J J J J) J (.blk J J (Wsub 15 J J J J J J J J J J J J J J J J (Bs 3 J J J J (Bs 3 J J J J (Bs 3 J J J J .nil))))) XR
theorem c_dStore (W : Wld) (who : Nat) (b : Nat) (ts : List Value) (G : PH) (h1 : 1 ≤ W.procs.length) (h3 : W.procs.length ≤ 3) (ht : Tds G W.procs ts) (hw : who < W.procs.length) (a bb : Int) (ha : a = 0 ∨ a = 1 ∨ a = 2) (hb : bb = 0 ∨ bb = 1 ∨ bb = 2) :
  Mod Tryz.prog 164 [.agg #[.int .i64 a, .int .i64 bb], .pointer (some ⟨b, 0, none⟩), .int .i64 (who : Nat)] G (worldP b W ts) fun v G' A' => G' = G ∧ A' = worldP b (W.setCell a (W.reg who bb)) ts := by
 refine Mod.intro Tryz.func164 Tryz.ntmps164 J J fun w S => ?_;refine Va J J ?_;refine S_box J J J J J fun b3 => ?_;obtain ⟨ps, x0, x1, x2, m0, m1, q0, q1, sd⟩ := W
 rcases shape h1 h3 ht with ⟨⟨a0, a1, a2, td0, mo0, on0, ro0⟩, A0, k0, rfl, rfl, s0⟩ | ⟨⟨a0, a1, a2, td0, mo0, on0, ro0⟩, A0, k0, ⟨b0, b1, b2, td1, mo1, on1, ro1⟩, A1, k1, rfl, rfl, s0, s1⟩ | ⟨⟨a0, a1, a2, td0, mo0, on0, ro0⟩, A0, k0, ⟨b0, b1, b2, td1, mo1, on1, ro1⟩, A1, k1, ⟨d0, d1, d2, td2, mo2, on2, ro2⟩, A2, k2, rfl, rfl, s0, s1, s2⟩
 ·obtain rfl : who = 0 := by simpa using hw
  refine OpP 1 1 J J J J fun bp bc br bs bg kp sp asd ksd aq0 kq0 aq1 kq1 kc spc kr spr ks sps kg spg hbg hmk => ?_; obtain ⟨g0, rfl⟩ := len1 hbg; clear hbg; refine NM J J ?_; dsimp only [wEnts, wCels, procCs, regEs, WX.of, vi]
  refine Va J J ?_;refine Ds J J J ?_
  rcases ha with rfl | rfl | rfl <;> rcases hb with rfl | rfl | rfl <;>
  ·refine Da J J ?_
   refine Ns 19 J J J J J J J J J ?_;refine DD ?_;refine Va J J ?_;exact EK (1007 :: wKeys 1) (Res.t0 Tryz.results164) ⟨J, J⟩ (Wpp [_] kg spg J ‹_› J J J J J J J J) J (.blk J J (Wsub 5 J J J J J J J J J J J J J J J J (Bs 3 J J J J .nil))) XR
 ·rcases (by simp at hw; omega : who = 0 ∨ who = 1) with rfl | rfl
  ·refine OpP 1 1 J J J J fun bp bc br bs bg kp sp asd ksd aq0 kq0 aq1 kq1 kc spc kr spr ks sps kg spg hbg hmk => ?_; obtain ⟨g0, g1, rfl⟩ := len2 hbg; clear hbg; refine NM J J ?_; dsimp only [wEnts, wCels, procCs, regEs, WX.of, vi]
   refine Va J J ?_;refine Ds J J J ?_
   rcases ha with rfl | rfl | rfl <;> rcases hb with rfl | rfl | rfl <;>
   ·refine Da J J ?_
    refine Ns 19 J J J J J J J J J ?_;refine DD ?_;refine Va J J ?_;exact EK (1007 :: wKeys 2) (Res.t0 Tryz.results164) ⟨J, J⟩ (Wpp [_, _] kg spg J ‹_› J J J J J J J J) J (.blk J J (Wsub 10 J J J J J J J J J J J J J J J J (Bs 3 J J J J (Bs 3 J J J J .nil)))) XR
  ·refine OpP 1 1 J J J J fun bp bc br bs bg kp sp asd ksd aq0 kq0 aq1 kq1 kc spc kr spr ks sps kg spg hbg hmk => ?_; obtain ⟨g0, g1, rfl⟩ := len2 hbg; clear hbg; refine NM J J ?_; dsimp only [wEnts, wCels, procCs, regEs, WX.of, vi]
   refine Va J J ?_;refine Ds J J J ?_
   rcases ha with rfl | rfl | rfl <;> rcases hb with rfl | rfl | rfl <;>
   ·refine Da J J ?_
    refine Ns 19 J J J J J J J J J ?_;refine DD ?_;refine Va J J ?_;exact EK (1007 :: wKeys 2) (Res.t0 Tryz.results164) ⟨J, J⟩ (Wpp [_, _] kg spg J ‹_› J J J J J J J J) J (.blk J J (Wsub 10 J J J J J J J J J J J J J J J J (Bs 3 J J J J (Bs 3 J J J J .nil)))) XR
 ·rcases (by simp at hw; omega : who = 0 ∨ who = 1 ∨ who = 2) with rfl | rfl | rfl
  ·refine OpP 1 1 J J J J fun bp bc br bs bg kp sp asd ksd aq0 kq0 aq1 kq1 kc spc kr spr ks sps kg spg hbg hmk => ?_; obtain ⟨g0, g1, g2, rfl⟩ := len3 hbg; clear hbg; refine NM J J ?_; dsimp only [wEnts, wCels, procCs, regEs, WX.of, vi]
   refine Va J J ?_;refine Ds J J J ?_
   rcases ha with rfl | rfl | rfl <;> rcases hb with rfl | rfl | rfl <;>
   ·refine Da J J ?_
    refine Ns 19 J J J J J J J J J ?_;refine DD ?_;refine Va J J ?_;exact EK (1007 :: wKeys 3) (Res.t0 Tryz.results164) ⟨J, J⟩ (Wpp [_, _, _] kg spg J ‹_› J J J J J J J J) J (.blk J J (Wsub 15 J J J J J J J J J J J J J J J J (Bs 3 J J J J (Bs 3 J J J J (Bs 3 J J J J .nil))))) XR
  ·refine OpP 1 1 J J J J fun bp bc br bs bg kp sp asd ksd aq0 kq0 aq1 kq1 kc spc kr spr ks sps kg spg hbg hmk => ?_; obtain ⟨g0, g1, g2, rfl⟩ := len3 hbg; clear hbg; refine NM J J ?_; dsimp only [wEnts, wCels, procCs, regEs, WX.of, vi]
   refine Va J J ?_;refine Ds J J J ?_
   rcases ha with rfl | rfl | rfl <;> rcases hb with rfl | rfl | rfl <;>
   ·refine Da J J ?_
    refine Ns 19 J J J J J J J J J ?_;refine DD ?_;refine Va J J ?_;exact EK (1007 :: wKeys 3) (Res.t0 Tryz.results164) ⟨J, J⟩ (Wpp [_, _, _] kg spg J ‹_› J J J J J J J J) J (.blk J J (Wsub 15 J J J J J J J J J J J J J J J J (Bs 3 J J J J (Bs 3 J J J J (Bs 3 J J J J .nil))))) XR
  ·refine OpP 1 1 J J J J fun bp bc br bs bg kp sp asd ksd aq0 kq0 aq1 kq1 kc spc kr spr ks sps kg spg hbg hmk => ?_; obtain ⟨g0, g1, g2, rfl⟩ := len3 hbg; clear hbg; refine NM J J ?_; dsimp only [wEnts, wCels, procCs, regEs, WX.of, vi]
   refine Va J J ?_;refine Ds J J J ?_
   rcases ha with rfl | rfl | rfl <;> rcases hb with rfl | rfl | rfl <;>
   ·refine Da J J ?_
    refine Ns 19 J J J J J J J J J ?_;refine DD ?_;refine Va J J ?_;exact EK (1007 :: wKeys 3) (Res.t0 Tryz.results164) ⟨J, J⟩ (Wpp [_, _, _] kg spg J ‹_› J J J J J J J J) J (.blk J J (Wsub 15 J J J J J J J J J J J J J J J J (Bs 3 J J J J (Bs 3 J J J J (Bs 3 J J J J .nil))))) XR
theorem c_dLeave (W : Wld) (who : Nat) (b : Nat) (ts : List Value) (G : PH) (h1 : 1 ≤ W.procs.length) (h3 : W.procs.length ≤ 3) (ht : Tds G W.procs ts) (hw : who < W.procs.length) (a : Int) (ha : a = 0 ∨ a = 1) :
  Mod Tryz.prog 174 [.agg #[.int .i64 a], .pointer (some ⟨b, 0, none⟩), .int .i64 (who : Nat)] G (worldP b W ts) fun v G' A' => G' = G ∧ A' = worldP b ((W.setRm a 0).upd who (fun p => { p with room := -1 })) ts := by
 refine Mod.intro Tryz.func174 Tryz.ntmps174 J J fun w S => ?_;refine Va J J ?_;refine S_box J J J J J fun b3 => ?_;obtain ⟨ps, x0, x1, x2, m0, m1, q0, q1, sd⟩ := W
 rcases shape h1 h3 ht with ⟨⟨a0, a1, a2, td0, mo0, on0, ro0⟩, A0, k0, rfl, rfl, s0⟩ | ⟨⟨a0, a1, a2, td0, mo0, on0, ro0⟩, A0, k0, ⟨b0, b1, b2, td1, mo1, on1, ro1⟩, A1, k1, rfl, rfl, s0, s1⟩ | ⟨⟨a0, a1, a2, td0, mo0, on0, ro0⟩, A0, k0, ⟨b0, b1, b2, td1, mo1, on1, ro1⟩, A1, k1, ⟨d0, d1, d2, td2, mo2, on2, ro2⟩, A2, k2, rfl, rfl, s0, s1, s2⟩
 ·obtain rfl : who = 0 := by simpa using hw
  refine OpP 1 1 J J J J fun bp bc br bs bg kp sp asd ksd aq0 kq0 aq1 kq1 kc spc kr spr ks sps kg spg hbg hmk => ?_; obtain ⟨g0, rfl⟩ := len1 hbg; clear hbg; refine NM J J ?_; dsimp only [wEnts, wCels, procCs, regEs, WX.of, vi]
  refine Va J J ?_;refine Ds J J J ?_
  rcases ha with rfl | rfl <;>
  ·refine Da J J ?_
   refine Ns 12 J J J J J J J J J ?_;refine Da J J ?_;refine Ns 15 J J J J J J J J J ?_;refine DD ?_;refine Va J J ?_;exact EK (1007 :: wKeys 1) (Res.t0 Tryz.results174) ⟨J, J⟩ (Wpp [_] kg spg J ‹_› J J J J J J J J) J (.blk J J (Wsub 5 J J J J J J J J J J J J J J J J (Bs 3 J J J J .nil))) XR
 ·rcases (by simp at hw; omega : who = 0 ∨ who = 1) with rfl | rfl
  ·refine OpP 1 1 J J J J fun bp bc br bs bg kp sp asd ksd aq0 kq0 aq1 kq1 kc spc kr spr ks sps kg spg hbg hmk => ?_; obtain ⟨g0, g1, rfl⟩ := len2 hbg; clear hbg; refine NM J J ?_; dsimp only [wEnts, wCels, procCs, regEs, WX.of, vi]
   refine Va J J ?_;refine Ds J J J ?_
   rcases ha with rfl | rfl <;>
   ·refine Da J J ?_
    refine Ns 12 J J J J J J J J J ?_;refine Da J J ?_;refine Ns 15 J J J J J J J J J ?_;refine DD ?_;refine Va J J ?_;exact EK (1007 :: wKeys 2) (Res.t0 Tryz.results174) ⟨J, J⟩ (Wpp [_, _] kg spg J ‹_› J J J J J J J J) J (.blk J J (Wsub 10 J J J J J J J J J J J J J J J J (Bs 3 J J J J (Bs 3 J J J J .nil)))) XR
  ·refine OpP 1 1 J J J J fun bp bc br bs bg kp sp asd ksd aq0 kq0 aq1 kq1 kc spc kr spr ks sps kg spg hbg hmk => ?_; obtain ⟨g0, g1, rfl⟩ := len2 hbg; clear hbg; refine NM J J ?_; dsimp only [wEnts, wCels, procCs, regEs, WX.of, vi]
   refine Va J J ?_;refine Ds J J J ?_
   rcases ha with rfl | rfl <;>
   ·refine Da J J ?_
    refine Ns 12 J J J J J J J J J ?_;refine Da J J ?_;refine Ns 15 J J J J J J J J J ?_;refine DD ?_;refine Va J J ?_;exact EK (1007 :: wKeys 2) (Res.t0 Tryz.results174) ⟨J, J⟩ (Wpp [_, _] kg spg J ‹_› J J J J J J J J) J (.blk J J (Wsub 10 J J J J J J J J J J J J J J J J (Bs 3 J J J J (Bs 3 J J J J .nil)))) XR
 ·rcases (by simp at hw; omega : who = 0 ∨ who = 1 ∨ who = 2) with rfl | rfl | rfl
  ·refine OpP 1 1 J J J J fun bp bc br bs bg kp sp asd ksd aq0 kq0 aq1 kq1 kc spc kr spr ks sps kg spg hbg hmk => ?_; obtain ⟨g0, g1, g2, rfl⟩ := len3 hbg; clear hbg; refine NM J J ?_; dsimp only [wEnts, wCels, procCs, regEs, WX.of, vi]
   refine Va J J ?_;refine Ds J J J ?_
   rcases ha with rfl | rfl <;>
   ·refine Da J J ?_
    refine Ns 12 J J J J J J J J J ?_;refine Da J J ?_;refine Ns 15 J J J J J J J J J ?_;refine DD ?_;refine Va J J ?_;exact EK (1007 :: wKeys 3) (Res.t0 Tryz.results174) ⟨J, J⟩ (Wpp [_, _, _] kg spg J ‹_› J J J J J J J J) J (.blk J J (Wsub 15 J J J J J J J J J J J J J J J J (Bs 3 J J J J (Bs 3 J J J J (Bs 3 J J J J .nil))))) XR
  ·refine OpP 1 1 J J J J fun bp bc br bs bg kp sp asd ksd aq0 kq0 aq1 kq1 kc spc kr spr ks sps kg spg hbg hmk => ?_; obtain ⟨g0, g1, g2, rfl⟩ := len3 hbg; clear hbg; refine NM J J ?_; dsimp only [wEnts, wCels, procCs, regEs, WX.of, vi]
   refine Va J J ?_;refine Ds J J J ?_
   rcases ha with rfl | rfl <;>
   ·refine Da J J ?_
    refine Ns 12 J J J J J J J J J ?_;refine Da J J ?_;refine Ns 15 J J J J J J J J J ?_;refine DD ?_;refine Va J J ?_;exact EK (1007 :: wKeys 3) (Res.t0 Tryz.results174) ⟨J, J⟩ (Wpp [_, _, _] kg spg J ‹_› J J J J J J J J) J (.blk J J (Wsub 15 J J J J J J J J J J J J J J J J (Bs 3 J J J J (Bs 3 J J J J (Bs 3 J J J J .nil))))) XR
  ·refine OpP 1 1 J J J J fun bp bc br bs bg kp sp asd ksd aq0 kq0 aq1 kq1 kc spc kr spr ks sps kg spg hbg hmk => ?_; obtain ⟨g0, g1, g2, rfl⟩ := len3 hbg; clear hbg; refine NM J J ?_; dsimp only [wEnts, wCels, procCs, regEs, WX.of, vi]
   refine Va J J ?_;refine Ds J J J ?_
   rcases ha with rfl | rfl <;>
   ·refine Da J J ?_
    refine Ns 12 J J J J J J J J J ?_;refine Da J J ?_;refine Ns 15 J J J J J J J J J ?_;refine DD ?_;refine Va J J ?_;exact EK (1007 :: wKeys 3) (Res.t0 Tryz.results174) ⟨J, J⟩ (Wpp [_, _, _] kg spg J ‹_› J J J J J J J J) J (.blk J J (Wsub 15 J J J J J J J J J J J J J J J J (Bs 3 J J J J (Bs 3 J J J J (Bs 3 J J J J .nil))))) XR
end
end Go.Proofs.YtlmkipckihgehaaGreat
