/- Walks of the program's functions, one after the other (part 7); without conditions of their own. -/
import Derived.Test.YtcbdilccmjpnbaaGreatWM6
import Derived.Test.YtcbdilccmjpnbaaGreatWM2
set_option linter.unusedVariables false
set_option linter.unusedSimpArgs false
set_option maxRecDepth 100000
set_option maxHeartbeats 4000000
open Go.RowKit
namespace Go.Proofs.YtcbdilccmjpnbaaGreat
section
attribute [local irreducible] X Pure Mod
theorem Tds_upd {G G' : PH} (hle : G.le G') (f : Prc → Prc) {tv : Value} : ∀ {ps : List Prc} {ts : List Value} {i : Nat} (hi : i < ps.length), Tds G ps ts → Sts G' (f ps[i]).todo tv → Tds G' (updL f i ps) (ts.set i tv)
 | p :: ps, t :: ts, 0, _, ht, hq => ⟨hq, Tds_le hle ht.2⟩
 | p :: ps, t :: ts, i + 1, hi, ht, hq => ⟨Sts_le hle ht.1, Tds_upd hle f (Nat.lt_of_succ_lt_succ hi) ht.2 hq⟩
 | [], _, _, hi, _, _ => absurd hi (by simp)
 | _ :: _, [], _, _, ht, _ => absurd ht id
theorem c_dIf (W : Wld) (who : Nat) (b : Nat) (ts : List Value) (G : PH) (h1 : 1 ≤ W.procs.length) (h3 : W.procs.length ≤ 3) (ht : Tds G W.procs ts) (hw : who < W.procs.length) (htl : ∀ p ∈ W.procs, p.todo.length ≤ 1000000) (k a bb n : Int) (x y : List Stm) (vx vy : Value) (hx : Sts G x vx) (hy : Sts G y vy) (hxl : x.length ≤ 1000) (hyl : y.length ≤ 1000) (ha : a = 0 ∨ a = 1 ∨ a = 2) :
  Mod Tryz.prog 128 [.agg #[.int .i64 k, .int .i64 a, .int .i64 bb, .int .i64 n, vx, vy], .pointer (some ⟨b, 0, none⟩), .int .i64 (who : Nat)] G (worldP b W ts) fun v G' A' => ∃ tv', A' = worldP b (W.upd who (fun p => { p with todo := (if W.reg who a = 0 then y else x) ++ p.todo })) (ts.set who tv') ∧ Tds G' (W.upd who (fun p => { p with todo := (if W.reg who a = 0 then y else x) ++ p.todo })).procs (ts.set who tv') := by
 obtain ⟨Ax, cx, rfl, _⟩ := id hx
 obtain ⟨Ay, cy, rfl, _⟩ := id hy
 refine Mod.intro Tryz.func128 Tryz.ntmps128 J J fun w S => ?_;refine Va J J ?_;refine S_box J J J J J fun b3 => ?_;obtain ⟨ps, x0, x1, x2, m0, m1, q0, q1, sd⟩ := W
 replace htl : ∀ p ∈ ps, p.todo.length ≤ 1000000 := htl
 rcases shape h1 h3 ht with ⟨⟨a0, a1, a2, td0, mo0, on0, ro0⟩, A0, k0, rfl, rfl, s0⟩ | ⟨⟨a0, a1, a2, td0, mo0, on0, ro0⟩, A0, k0, ⟨b0, b1, b2, td1, mo1, on1, ro1⟩, A1, k1, rfl, rfl, s0, s1⟩ | ⟨⟨a0, a1, a2, td0, mo0, on0, ro0⟩, A0, k0, ⟨b0, b1, b2, td1, mo1, on1, ro1⟩, A1, k1, ⟨d0, d1, d2, td2, mo2, on2, ro2⟩, A2, k2, rfl, rfl, s0, s1, s2⟩
 obtain rfl : who = 0 := by simpa using hw
 rotate_left
 rcases (by simp at hw; omega : who = 0 ∨ who = 1) with rfl | rfl
 rotate_left 2
 rcases (by simp at hw; omega : who = 0 ∨ who = 1 ∨ who = 2) with rfl | rfl | rfl
 all_goals
  refine OpP 1 1 J J J J fun bp bc br bs bg kp sp asd ksd aq0 kq0 aq1 kq1 kc spc kr spr ks sps kg spg hbg hmk => ?_; (first | obtain ⟨g0, rfl⟩ := len1 hbg | obtain ⟨g0, g1, rfl⟩ := len2 hbg | obtain ⟨g0, g1, g2, rfl⟩ := len3 hbg); clear hbg; refine NM J J ?_; dsimp only [wEnts, wCels, procCs, regEs, WX.of, vi]
  refine Va J J ?_
  rcases ha with rfl | rfl | rfl <;>
  ·refine Ds J J J ?_
   refine Da J J ?_;refine DD ?_;refine Va J J ?_
   refine S_condp J (fun h => ?_) (fun h => ?_) <;> refine Va J J ?_
   ·first | (refine S_callIns 1000 (5 * 0 + 1) Tryz.call114 J J (denL_spV 5 J J) (c_insertS 0 (by decide) _ [] _ _ _ J x _ _ _ hx s0 (by have := htl; simp only [List.mem_cons, forall_eq_or_imp] at this; simp only at this ⊢; omega)) rfl (fun _ => rfl) rfl rfl rfl ?_) | (refine S_callIns 1000 (5 * 0 + 1) Tryz.call114 rfl rfl (denL_spV 10 rfl rfl) (c_insertS 0 (by decide) _ [] _ _ _ rfl x _ _ _ hx s0 (by have := htl; simp only [List.mem_cons, forall_eq_or_imp] at this; simp only at this ⊢; omega)) rfl (fun _ => rfl) rfl rfl rfl ?_) | (refine S_callIns 1000 (5 * 1 + 1) Tryz.call114 rfl rfl (denL_spV 10 rfl rfl) (c_insertS 1 (by decide) _ [_,_,_,_,_] _ _ _ rfl x _ _ _ hx s1 (by have := htl; simp only [List.mem_cons, forall_eq_or_imp] at this; simp only at this ⊢; omega)) rfl (fun _ => rfl) rfl rfl rfl ?_) | (refine S_callIns 1000 (5 * 0 + 1) Tryz.call114 rfl rfl (denL_spV 15 rfl rfl) (c_insertS 0 (by decide) _ [] _ _ _ rfl x _ _ _ hx s0 (by have := htl; simp only [List.mem_cons, forall_eq_or_imp] at this; simp only at this ⊢; omega)) rfl (fun _ => rfl) rfl rfl rfl ?_) | (refine S_callIns 1000 (5 * 1 + 1) Tryz.call114 rfl rfl (denL_spV 15 rfl rfl) (c_insertS 1 (by decide) _ [_,_,_,_,_] _ _ _ rfl x _ _ _ hx s1 (by have := htl; simp only [List.mem_cons, forall_eq_or_imp] at this; simp only at this ⊢; omega)) rfl (fun _ => rfl) rfl rfl rfl ?_) | (refine S_callIns 1000 (5 * 2 + 1) Tryz.call114 rfl rfl (denL_spV 15 rfl rfl) (c_insertS 2 (by decide) _ [_,_,_,_,_,_,_,_,_,_] _ _ _ rfl x _ _ _ hx s2 (by have := htl; simp only [List.mem_cons, forall_eq_or_imp] at this; simp only at this ⊢; omega)) rfl (fun _ => rfl) rfl rfl rfl ?_)
    rintro v G' tv' hq hext
    refine Va J J ?_
    first | (exact EK (1007 :: wKeys 1) (Res.t0 Tryz.results128) ⟨_, J, Tds_upd hext.le _ hw ht (by have hq' := hq; simpa [Wld.reg, Prc.get, h] using hq')⟩ (Wpp [_] kg spg rfl ‹_› rfl rfl rfl rfl rfl rfl rfl rfl) rfl (.blk rfl rfl (Wsub 5 rfl rfl rfl rfl rfl rfl rfl rfl rfl rfl rfl rfl rfl rfl rfl rfl (Bs 3 rfl rfl rfl rfl .nil))) hext) | (exact EK (1007 :: wKeys 2) (Res.t0 Tryz.results128) ⟨_, rfl, Tds_upd hext.le _ hw ht (by have hq' := hq; simpa [Wld.reg, Prc.get, h] using hq')⟩ (Wpp [_, _] kg spg rfl ‹_› rfl rfl rfl rfl rfl rfl rfl rfl) rfl (.blk rfl rfl (Wsub 10 rfl rfl rfl rfl rfl rfl rfl rfl rfl rfl rfl rfl rfl rfl rfl rfl (Bs 3 rfl rfl rfl rfl (Bs 3 rfl rfl rfl rfl .nil)))) hext) | (exact EK (1007 :: wKeys 3) (Res.t0 Tryz.results128) ⟨_, rfl, Tds_upd hext.le _ hw ht (by have hq' := hq; simpa [Wld.reg, Prc.get, h] using hq')⟩ (Wpp [_, _, _] kg spg rfl ‹_› rfl rfl rfl rfl rfl rfl rfl rfl) rfl (.blk rfl rfl (Wsub 15 rfl rfl rfl rfl rfl rfl rfl rfl rfl rfl rfl rfl rfl rfl rfl rfl (Bs 3 rfl rfl rfl rfl (Bs 3 rfl rfl rfl rfl (Bs 3 rfl rfl rfl rfl .nil))))) hext)
   ·replace h := Classical.not_not.1 h
    first | (refine S_callIns 1000 (5 * 0 + 1) Tryz.call114 J J (denL_spV 5 J J) (c_insertS 0 (by decide) _ [] _ _ _ J y _ _ _ hy s0 (by have := htl; simp only [List.mem_cons, forall_eq_or_imp] at this; simp only at this ⊢; omega)) rfl (fun _ => rfl) rfl rfl rfl ?_) | (refine S_callIns 1000 (5 * 0 + 1) Tryz.call114 rfl rfl (denL_spV 10 rfl rfl) (c_insertS 0 (by decide) _ [] _ _ _ rfl y _ _ _ hy s0 (by have := htl; simp only [List.mem_cons, forall_eq_or_imp] at this; simp only at this ⊢; omega)) rfl (fun _ => rfl) rfl rfl rfl ?_) | (refine S_callIns 1000 (5 * 1 + 1) Tryz.call114 rfl rfl (denL_spV 10 rfl rfl) (c_insertS 1 (by decide) _ [_,_,_,_,_] _ _ _ rfl y _ _ _ hy s1 (by have := htl; simp only [List.mem_cons, forall_eq_or_imp] at this; simp only at this ⊢; omega)) rfl (fun _ => rfl) rfl rfl rfl ?_) | (refine S_callIns 1000 (5 * 0 + 1) Tryz.call114 rfl rfl (denL_spV 15 rfl rfl) (c_insertS 0 (by decide) _ [] _ _ _ rfl y _ _ _ hy s0 (by have := htl; simp only [List.mem_cons, forall_eq_or_imp] at this; simp only at this ⊢; omega)) rfl (fun _ => rfl) rfl rfl rfl ?_) | (refine S_callIns 1000 (5 * 1 + 1) Tryz.call114 rfl rfl (denL_spV 15 rfl rfl) (c_insertS 1 (by decide) _ [_,_,_,_,_] _ _ _ rfl y _ _ _ hy s1 (by have := htl; simp only [List.mem_cons, forall_eq_or_imp] at this; simp only at this ⊢; omega)) rfl (fun _ => rfl) rfl rfl rfl ?_) | (refine S_callIns 1000 (5 * 2 + 1) Tryz.call114 rfl rfl (denL_spV 15 rfl rfl) (c_insertS 2 (by decide) _ [_,_,_,_,_,_,_,_,_,_] _ _ _ rfl y _ _ _ hy s2 (by have := htl; simp only [List.mem_cons, forall_eq_or_imp] at this; simp only at this ⊢; omega)) rfl (fun _ => rfl) rfl rfl rfl ?_)
    rintro v G' tv' hq hext
    refine Va J J ?_
    first | (exact EK (1007 :: wKeys 1) (Res.t0 Tryz.results128) ⟨_, J, Tds_upd hext.le _ hw ht (by have hq' := hq; simpa [Wld.reg, Prc.get, h] using hq')⟩ (Wpp [_] kg spg rfl ‹_› rfl rfl rfl rfl rfl rfl rfl rfl) rfl (.blk rfl rfl (Wsub 5 rfl rfl rfl rfl rfl rfl rfl rfl rfl rfl rfl rfl rfl rfl rfl rfl (Bs 3 rfl rfl rfl rfl .nil))) hext) | (exact EK (1007 :: wKeys 2) (Res.t0 Tryz.results128) ⟨_, rfl, Tds_upd hext.le _ hw ht (by have hq' := hq; simpa [Wld.reg, Prc.get, h] using hq')⟩ (Wpp [_, _] kg spg rfl ‹_› rfl rfl rfl rfl rfl rfl rfl rfl) rfl (.blk rfl rfl (Wsub 10 rfl rfl rfl rfl rfl rfl rfl rfl rfl rfl rfl rfl rfl rfl rfl rfl (Bs 3 rfl rfl rfl rfl (Bs 3 rfl rfl rfl rfl .nil)))) hext) | (exact EK (1007 :: wKeys 3) (Res.t0 Tryz.results128) ⟨_, rfl, Tds_upd hext.le _ hw ht (by have hq' := hq; simpa [Wld.reg, Prc.get, h] using hq')⟩ (Wpp [_, _, _] kg spg rfl ‹_› rfl rfl rfl rfl rfl rfl rfl rfl) rfl (.blk rfl rfl (Wsub 15 rfl rfl rfl rfl rfl rfl rfl rfl rfl rfl rfl rfl rfl rfl rfl rfl (Bs 3 rfl rfl rfl rfl (Bs 3 rfl rfl rfl rfl (Bs 3 rfl rfl rfl rfl .nil))))) hext)
theorem one6 {k a bb n : Int} {A : Option Addr} {x c : Nat} {A' : Option Addr} {y c' : Nat} : ∀ u ∈ [Value.int .i64 k, Value.int .i64 a, Value.int .i64 bb, Value.int .i64 n, Value.slice A x c, Value.slice A' y c'], u.oneCell' = true := by
 intro u hu
 simp at hu
 rcases hu with rfl | rfl | rfl | rfl | rfl | rfl <;> rfl
theorem snoc_Sts {G G' : PH} {x : List Stm} {s : Stm} {vx : Value} {xs cs : List Value} {A' : Option Addr} {c' : Nat} (hxs : Sx G 6 vx x.length xs) (hcs : Cs 6 (Stm.rep G) x xs) (hs : Stm.rep G s cs) (hxl : x.length ≤ 1000) (hnc : x.length + 1 ≤ c') (hcm : c' ≤ maxLen) (hcells : x.length + 1 = 0 ∨ ∃ a, A' = some a ∧ gcells (newp G G') a (xs ++ cs)) (hle : G.le G') : Sts G' (x ++ [s]) (.slice A' (x.length + 1) c') := by
 have hl : cs.length = 6 := Stm.rep_len hs
 refine Sx_Sr (n := x.length + 1) (xs := xs ++ cs) ⟨A', c', J, by omega, hnc, hcm, ?_, ?_⟩ (by simp) ?_
 ·rw [List.length_append, Cs_length hcs, hl]; omega
 ·rcases hcells with h | ⟨a, h1, h2⟩
  ·omega
  ·exact .inr ⟨a, h1, gcells_le (newp_le _ _) h2⟩
 ·exact Cs_append (Cs_mono (Stm.reps_le hle x) hcs) (Stm.rep_le hle s cs hs) hl
theorem c_dWhile (W : Wld) (who : Nat) (b : Nat) (ts : List Value) (G : PH) (h1 : 1 ≤ W.procs.length) (h3 : W.procs.length ≤ 3) (ht : Tds G W.procs ts) (hw : who < W.procs.length) (htl : ∀ p ∈ W.procs, p.todo.length ≤ 1000000) (kk a bb n : Int) (x y : List Stm) (vx vy : Value) (hx : Sts G x vx) (hy : Sts G y vy) (hi : I64 kk ∧ I64 a ∧ I64 bb ∧ I64 n) (hxl : x.length ≤ 1000) (ha : a = 0 ∨ a = 1 ∨ a = 2) :
  Mod Tryz.prog 131 [.agg #[.int .i64 kk, .int .i64 a, .int .i64 bb, .int .i64 n, vx, vy], .pointer (some ⟨b, 0, none⟩), .int .i64 (who : Nat)] G (worldP b W ts) fun v G' A' => ∃ tv', A' = worldP b (W.upd who (fun p => { p with todo := (if W.reg who a = 0 then [] else x ++ [.mk kk a bb n x y]) ++ p.todo })) (ts.set who tv') ∧ Tds G' (W.upd who (fun p => { p with todo := (if W.reg who a = 0 then [] else x ++ [.mk kk a bb n x y]) ++ p.todo })).procs (ts.set who tv') := by
 have hs1 : Stm.rep G (.mk kk a bb n x y) [.int .i64 kk, .int .i64 a, .int .i64 bb, .int .i64 n, vx, vy] := Stm.rep_iff.2 ⟨vx, vy, rfl, hi.1, hi.2.1, hi.2.2.1, hi.2.2.2, hx, hy⟩
 obtain ⟨xs, hxs, hcs⟩ := Sr_Sx (fun s cs h => Stm.rep_len h) hx
 obtain ⟨Ax, cx, rfl, _⟩ := id hx
 obtain ⟨Ay, cy, rfl, _⟩ := id hy
 refine Mod.intro Tryz.func131 Tryz.ntmps131 J J fun w S => ?_;refine Va J J ?_;refine S_box J J J J J fun b3 => ?_;obtain ⟨ps, x0, x1, x2, m0, m1, q0, q1, sd⟩ := W
 replace htl : ∀ p ∈ ps, p.todo.length ≤ 1000000 := htl
 rcases shape h1 h3 ht with ⟨⟨a0, a1, a2, td0, mo0, on0, ro0⟩, A0, k0, rfl, rfl, s0⟩ | ⟨⟨a0, a1, a2, td0, mo0, on0, ro0⟩, A0, k0, ⟨b0, b1, b2, td1, mo1, on1, ro1⟩, A1, k1, rfl, rfl, s0, s1⟩ | ⟨⟨a0, a1, a2, td0, mo0, on0, ro0⟩, A0, k0, ⟨b0, b1, b2, td1, mo1, on1, ro1⟩, A1, k1, ⟨d0, d1, d2, td2, mo2, on2, ro2⟩, A2, k2, rfl, rfl, s0, s1, s2⟩
 obtain rfl : who = 0 := by simpa using hw
 rotate_left
 rcases (by simp at hw; omega : who = 0 ∨ who = 1) with rfl | rfl
 rotate_left 2
 rcases (by simp at hw; omega : who = 0 ∨ who = 1 ∨ who = 2) with rfl | rfl | rfl
 all_goals
  refine OpP 1 1 J J J J fun bp bc br bs bg kp sp asd ksd aq0 kq0 aq1 kq1 kc spc kr spr ks sps kg spg hbg hmk => ?_; (first | obtain ⟨g0, rfl⟩ := len1 hbg | obtain ⟨g0, g1, rfl⟩ := len2 hbg | obtain ⟨g0, g1, g2, rfl⟩ := len3 hbg); clear hbg; refine NM J J ?_; dsimp only [wEnts, wCels, procCs, regEs, WX.of, vi]
  refine Va J J ?_
  rcases ha with rfl | rfl | rfl <;>
  ·refine Ds J J J ?_
   refine Da J J ?_;refine DD ?_;refine Va J J ?_
   refine S_condp J (fun h => ?_) (fun h => ?_) <;> refine Va J J ?_
   ·refine Ds J J J ?_
    refine Da J J ?_;refine D_or 4 7 J J (N_turn Tk 4 J J J J fun back => ?_) (N_turn Tk 7 J J J J fun back => ?_)
    ·refine S_callN 55 Tryz.call132 (c_CloneStmN _ _ xs _ hxs (Cs_one Stm.rep_one hcs)) J J J ?_
     rintro v G' A'' ⟨A, c, base, rfl, rfl, rfl⟩ hext
     refine S_newRow 55 J J ?_;refine back _ _ _ _ (by kernel_rfl) ?_; clear back
     refine Da J J ?_;refine Nt 7 J J J J J J fun back => ?_;refine S_slice Tk ZT_ok J J J J (by decide) (by decide) J J J J fun b30 => ?_;refine back _ _ _ _ (by kernel_rfl) ?_; clear back
     refine Da J J ?_;refine Nt 8 J J J J J J fun back => ?_;refine S_appO (news := [.int .i64 kk, .int .i64 _, .int .i64 bb, .int .i64 n, .slice Ax x.length cx, .slice Ay y.length cy]) Tk 55 J J J J J J J J J J J (fun _ _ => J) (by exact src_blk 30 J J J J J) one6 (by simp only; omega) (by simp only [maxLen]; omega) (Nat.le_refl _) fun A' c' => ?_;refine back _ _ _ _ (by kernel_rfl) ?_; clear back
     refine Da J J ?_;refine Nt 9 J J J J J J fun back => ?_;refine S_freezeR 55 J J (Nat.le_refl _) fun G' hext2 hnc hcm hcells => ?_
     first | (refine S_callIns 1000 (5 * 0 + 1) Tryz.call114 J J (denL_spV 5 J J) (c_insertS 0 (by decide) _ [] _ _ _ J (x ++ [.mk kk _ bb n x y]) _ _ _ (snoc_Sts hxs hcs hs1 hxl hnc hcm hcells hext2.le) (Sts_le hext2.le s0) (by have := htl; simp only [List.mem_cons, forall_eq_or_imp] at this; simp only [List.length_append, List.length_singleton] at this ⊢; omega)) rfl (fun _ => rfl) rfl rfl rfl ?_) | (refine S_callIns 1000 (5 * 0 + 1) Tryz.call114 rfl rfl (denL_spV 10 rfl rfl) (c_insertS 0 (by decide) _ [] _ _ _ rfl (x ++ [.mk kk _ bb n x y]) _ _ _ (snoc_Sts hxs hcs hs1 hxl hnc hcm hcells hext2.le) (Sts_le hext2.le s0) (by have := htl; simp only [List.mem_cons, forall_eq_or_imp] at this; simp only [List.length_append, List.length_singleton] at this ⊢; omega)) rfl (fun _ => rfl) rfl rfl rfl ?_) | (refine S_callIns 1000 (5 * 1 + 1) Tryz.call114 rfl rfl (denL_spV 10 rfl rfl) (c_insertS 1 (by decide) _ [_,_,_,_,_] _ _ _ rfl (x ++ [.mk kk _ bb n x y]) _ _ _ (snoc_Sts hxs hcs hs1 hxl hnc hcm hcells hext2.le) (Sts_le hext2.le s1) (by have := htl; simp only [List.mem_cons, forall_eq_or_imp] at this; simp only [List.length_append, List.length_singleton] at this ⊢; omega)) rfl (fun _ => rfl) rfl rfl rfl ?_) | (refine S_callIns 1000 (5 * 0 + 1) Tryz.call114 rfl rfl (denL_spV 15 rfl rfl) (c_insertS 0 (by decide) _ [] _ _ _ rfl (x ++ [.mk kk _ bb n x y]) _ _ _ (snoc_Sts hxs hcs hs1 hxl hnc hcm hcells hext2.le) (Sts_le hext2.le s0) (by have := htl; simp only [List.mem_cons, forall_eq_or_imp] at this; simp only [List.length_append, List.length_singleton] at this ⊢; omega)) rfl (fun _ => rfl) rfl rfl rfl ?_) | (refine S_callIns 1000 (5 * 1 + 1) Tryz.call114 rfl rfl (denL_spV 15 rfl rfl) (c_insertS 1 (by decide) _ [_,_,_,_,_] _ _ _ rfl (x ++ [.mk kk _ bb n x y]) _ _ _ (snoc_Sts hxs hcs hs1 hxl hnc hcm hcells hext2.le) (Sts_le hext2.le s1) (by have := htl; simp only [List.mem_cons, forall_eq_or_imp] at this; simp only [List.length_append, List.length_singleton] at this ⊢; omega)) rfl (fun _ => rfl) rfl rfl rfl ?_) | (refine S_callIns 1000 (5 * 2 + 1) Tryz.call114 rfl rfl (denL_spV 15 rfl rfl) (c_insertS 2 (by decide) _ [_,_,_,_,_,_,_,_,_,_] _ _ _ rfl (x ++ [.mk kk _ bb n x y]) _ _ _ (snoc_Sts hxs hcs hs1 hxl hnc hcm hcells hext2.le) (Sts_le hext2.le s2) (by have := htl; simp only [List.mem_cons, forall_eq_or_imp] at this; simp only [List.length_append, List.length_singleton] at this ⊢; omega)) rfl (fun _ => rfl) rfl rfl rfl ?_)
     rintro v G3 tv' hq hext3
     refine back _ _ _ _ (by kernel_rfl) ?_; clear back
     refine DD ?_;refine Va J J ?_
     first | (exact EK (1007 :: wKeys 1) (Res.t0 Tryz.results131) ⟨_, J, Tds_upd (hext2.le.trans hext3.le) _ hw ht (by have hq' := hq; simpa [Wld.reg, Prc.get, h] using hq')⟩ (Wpp [_] kg spg rfl ‹_› rfl rfl rfl rfl rfl rfl rfl rfl) rfl (.blk rfl rfl (Wsub 5 rfl rfl rfl rfl rfl rfl rfl rfl rfl rfl rfl rfl rfl rfl rfl rfl (Bs 3 rfl rfl rfl rfl .nil))) (hext2.trans hext3)) | (exact EK (1007 :: wKeys 2) (Res.t0 Tryz.results131) ⟨_, rfl, Tds_upd (hext2.le.trans hext3.le) _ hw ht (by have hq' := hq; simpa [Wld.reg, Prc.get, h] using hq')⟩ (Wpp [_, _] kg spg rfl ‹_› rfl rfl rfl rfl rfl rfl rfl rfl) rfl (.blk rfl rfl (Wsub 10 rfl rfl rfl rfl rfl rfl rfl rfl rfl rfl rfl rfl rfl rfl rfl rfl (Bs 3 rfl rfl rfl rfl (Bs 3 rfl rfl rfl rfl .nil)))) (hext2.trans hext3)) | (exact EK (1007 :: wKeys 3) (Res.t0 Tryz.results131) ⟨_, rfl, Tds_upd (hext2.le.trans hext3.le) _ hw ht (by have hq' := hq; simpa [Wld.reg, Prc.get, h] using hq')⟩ (Wpp [_, _, _] kg spg rfl ‹_› rfl rfl rfl rfl rfl rfl rfl rfl) rfl (.blk rfl rfl (Wsub 15 rfl rfl rfl rfl rfl rfl rfl rfl rfl rfl rfl rfl rfl rfl rfl rfl (Bs 3 rfl rfl rfl rfl (Bs 3 rfl rfl rfl rfl (Bs 3 rfl rfl rfl rfl .nil))))) (hext2.trans hext3))
    ·refine S_slice Tk ZT_ok J J J J (by decide) (by decide) J J J J fun b30 => ?_
     refine back _ _ _ _ (by kernel_rfl) ?_; clear back
     refine Da J J ?_;refine Nt 4 J J J J J J fun back => ?_;refine S_callN 55 Tryz.call132 (c_CloneStmN _ _ xs _ hxs (Cs_one Stm.rep_one hcs)) J J J ?_;rintro v G' A'' ⟨A, c, base, rfl, rfl, rfl⟩ hext
     refine S_newRow 55 J J ?_;refine back _ _ _ _ (by kernel_rfl) ?_; clear back
     refine Da J J ?_;refine Nt 8 J J J J J J fun back => ?_;refine S_appO (news := [.int .i64 kk, .int .i64 _, .int .i64 bb, .int .i64 n, .slice Ax x.length cx, .slice Ay y.length cy]) Tk 55 J J J J J J J J J J J (fun _ _ => J) (by exact src_blk 30 J J J J J) one6 (by simp only; omega) (by simp only [maxLen]; omega) (Nat.le_refl _) fun A' c' => ?_;refine back _ _ _ _ (by kernel_rfl) ?_; clear back
     refine Da J J ?_;refine Nt 9 J J J J J J fun back => ?_;refine S_freezeR 55 J J (Nat.le_refl _) fun G' hext2 hnc hcm hcells => ?_
     first | (refine S_callIns 1000 (5 * 0 + 1) Tryz.call114 J J (denL_spV 5 J J) (c_insertS 0 (by decide) _ [] _ _ _ J (x ++ [.mk kk _ bb n x y]) _ _ _ (snoc_Sts hxs hcs hs1 hxl hnc hcm hcells hext2.le) (Sts_le hext2.le s0) (by have := htl; simp only [List.mem_cons, forall_eq_or_imp] at this; simp only [List.length_append, List.length_singleton] at this ⊢; omega)) rfl (fun _ => rfl) rfl rfl rfl ?_) | (refine S_callIns 1000 (5 * 0 + 1) Tryz.call114 rfl rfl (denL_spV 10 rfl rfl) (c_insertS 0 (by decide) _ [] _ _ _ rfl (x ++ [.mk kk _ bb n x y]) _ _ _ (snoc_Sts hxs hcs hs1 hxl hnc hcm hcells hext2.le) (Sts_le hext2.le s0) (by have := htl; simp only [List.mem_cons, forall_eq_or_imp] at this; simp only [List.length_append, List.length_singleton] at this ⊢; omega)) rfl (fun _ => rfl) rfl rfl rfl ?_) | (refine S_callIns 1000 (5 * 1 + 1) Tryz.call114 rfl rfl (denL_spV 10 rfl rfl) (c_insertS 1 (by decide) _ [_,_,_,_,_] _ _ _ rfl (x ++ [.mk kk _ bb n x y]) _ _ _ (snoc_Sts hxs hcs hs1 hxl hnc hcm hcells hext2.le) (Sts_le hext2.le s1) (by have := htl; simp only [List.mem_cons, forall_eq_or_imp] at this; simp only [List.length_append, List.length_singleton] at this ⊢; omega)) rfl (fun _ => rfl) rfl rfl rfl ?_) | (refine S_callIns 1000 (5 * 0 + 1) Tryz.call114 rfl rfl (denL_spV 15 rfl rfl) (c_insertS 0 (by decide) _ [] _ _ _ rfl (x ++ [.mk kk _ bb n x y]) _ _ _ (snoc_Sts hxs hcs hs1 hxl hnc hcm hcells hext2.le) (Sts_le hext2.le s0) (by have := htl; simp only [List.mem_cons, forall_eq_or_imp] at this; simp only [List.length_append, List.length_singleton] at this ⊢; omega)) rfl (fun _ => rfl) rfl rfl rfl ?_) | (refine S_callIns 1000 (5 * 1 + 1) Tryz.call114 rfl rfl (denL_spV 15 rfl rfl) (c_insertS 1 (by decide) _ [_,_,_,_,_] _ _ _ rfl (x ++ [.mk kk _ bb n x y]) _ _ _ (snoc_Sts hxs hcs hs1 hxl hnc hcm hcells hext2.le) (Sts_le hext2.le s1) (by have := htl; simp only [List.mem_cons, forall_eq_or_imp] at this; simp only [List.length_append, List.length_singleton] at this ⊢; omega)) rfl (fun _ => rfl) rfl rfl rfl ?_) | (refine S_callIns 1000 (5 * 2 + 1) Tryz.call114 rfl rfl (denL_spV 15 rfl rfl) (c_insertS 2 (by decide) _ [_,_,_,_,_,_,_,_,_,_] _ _ _ rfl (x ++ [.mk kk _ bb n x y]) _ _ _ (snoc_Sts hxs hcs hs1 hxl hnc hcm hcells hext2.le) (Sts_le hext2.le s2) (by have := htl; simp only [List.mem_cons, forall_eq_or_imp] at this; simp only [List.length_append, List.length_singleton] at this ⊢; omega)) rfl (fun _ => rfl) rfl rfl rfl ?_)
     rintro v G3 tv' hq hext3
     refine back _ _ _ _ (by kernel_rfl) ?_; clear back
     refine DD ?_;refine Va J J ?_
     first | (exact EK (1007 :: wKeys 1) (Res.t0 Tryz.results131) ⟨_, J, Tds_upd (hext2.le.trans hext3.le) _ hw ht (by have hq' := hq; simpa [Wld.reg, Prc.get, h] using hq')⟩ (Wpp [_] kg spg rfl ‹_› rfl rfl rfl rfl rfl rfl rfl rfl) rfl (.blk rfl rfl (Wsub 5 rfl rfl rfl rfl rfl rfl rfl rfl rfl rfl rfl rfl rfl rfl rfl rfl (Bs 3 rfl rfl rfl rfl .nil))) (hext2.trans hext3)) | (exact EK (1007 :: wKeys 2) (Res.t0 Tryz.results131) ⟨_, rfl, Tds_upd (hext2.le.trans hext3.le) _ hw ht (by have hq' := hq; simpa [Wld.reg, Prc.get, h] using hq')⟩ (Wpp [_, _] kg spg rfl ‹_› rfl rfl rfl rfl rfl rfl rfl rfl) rfl (.blk rfl rfl (Wsub 10 rfl rfl rfl rfl rfl rfl rfl rfl rfl rfl rfl rfl rfl rfl rfl rfl (Bs 3 rfl rfl rfl rfl (Bs 3 rfl rfl rfl rfl .nil)))) (hext2.trans hext3)) | (exact EK (1007 :: wKeys 3) (Res.t0 Tryz.results131) ⟨_, rfl, Tds_upd (hext2.le.trans hext3.le) _ hw ht (by have hq' := hq; simpa [Wld.reg, Prc.get, h] using hq')⟩ (Wpp [_, _, _] kg spg rfl ‹_› rfl rfl rfl rfl rfl rfl rfl rfl) rfl (.blk rfl rfl (Wsub 15 rfl rfl rfl rfl rfl rfl rfl rfl rfl rfl rfl rfl rfl rfl rfl rfl (Bs 3 rfl rfl rfl rfl (Bs 3 rfl rfl rfl rfl (Bs 3 rfl rfl rfl rfl .nil))))) (hext2.trans hext3))
   ·replace h := Classical.not_not.1 h
    first | (exact EK (1007 :: wKeys 1) (Res.t0 Tryz.results131) ⟨_, J, Tds_upd (PH.le.refl _) _ hw ht (by have hq' := s0; simpa [Wld.reg, Prc.get, h] using hq')⟩ (Wpp [_] kg spg rfl ‹_› rfl rfl rfl rfl rfl rfl rfl rfl) rfl (.blk rfl rfl (Wsub 5 rfl rfl rfl rfl rfl rfl rfl rfl rfl rfl rfl rfl rfl rfl rfl rfl (Bs 3 rfl rfl rfl rfl .nil))) XR) | (exact EK (1007 :: wKeys 2) (Res.t0 Tryz.results131) ⟨_, rfl, Tds_upd (PH.le.refl _) _ hw ht (by have hq' := s0; simpa [Wld.reg, Prc.get, h] using hq')⟩ (Wpp [_, _] kg spg rfl ‹_› rfl rfl rfl rfl rfl rfl rfl rfl) rfl (.blk rfl rfl (Wsub 10 rfl rfl rfl rfl rfl rfl rfl rfl rfl rfl rfl rfl rfl rfl rfl rfl (Bs 3 rfl rfl rfl rfl (Bs 3 rfl rfl rfl rfl .nil)))) XR) | (exact EK (1007 :: wKeys 2) (Res.t0 Tryz.results131) ⟨_, rfl, Tds_upd (PH.le.refl _) _ hw ht (by have hq' := s1; simpa [Wld.reg, Prc.get, h] using hq')⟩ (Wpp [_, _] kg spg rfl ‹_› rfl rfl rfl rfl rfl rfl rfl rfl) rfl (.blk rfl rfl (Wsub 10 rfl rfl rfl rfl rfl rfl rfl rfl rfl rfl rfl rfl rfl rfl rfl rfl (Bs 3 rfl rfl rfl rfl (Bs 3 rfl rfl rfl rfl .nil)))) XR) | (exact EK (1007 :: wKeys 3) (Res.t0 Tryz.results131) ⟨_, rfl, Tds_upd (PH.le.refl _) _ hw ht (by have hq' := s0; simpa [Wld.reg, Prc.get, h] using hq')⟩ (Wpp [_, _, _] kg spg rfl ‹_› rfl rfl rfl rfl rfl rfl rfl rfl) rfl (.blk rfl rfl (Wsub 15 rfl rfl rfl rfl rfl rfl rfl rfl rfl rfl rfl rfl rfl rfl rfl rfl (Bs 3 rfl rfl rfl rfl (Bs 3 rfl rfl rfl rfl (Bs 3 rfl rfl rfl rfl .nil))))) XR) | (exact EK (1007 :: wKeys 3) (Res.t0 Tryz.results131) ⟨_, rfl, Tds_upd (PH.le.refl _) _ hw ht (by have hq' := s1; simpa [Wld.reg, Prc.get, h] using hq')⟩ (Wpp [_, _, _] kg spg rfl ‹_› rfl rfl rfl rfl rfl rfl rfl rfl) rfl (.blk rfl rfl (Wsub 15 rfl rfl rfl rfl rfl rfl rfl rfl rfl rfl rfl rfl rfl rfl rfl rfl (Bs 3 rfl rfl rfl rfl (Bs 3 rfl rfl rfl rfl (Bs 3 rfl rfl rfl rfl .nil))))) XR) | (exact EK (1007 :: wKeys 3) (Res.t0 Tryz.results131) ⟨_, rfl, Tds_upd (PH.le.refl _) _ hw ht (by have hq' := s2; simpa [Wld.reg, Prc.get, h] using hq')⟩ (Wpp [_, _, _] kg spg rfl ‹_› rfl rfl rfl rfl rfl rfl rfl rfl) rfl (.blk rfl rfl (Wsub 15 rfl rfl rfl rfl rfl rfl rfl rfl rfl rfl rfl rfl rfl rfl rfl rfl (Bs 3 rfl rfl rfl rfl (Bs 3 rfl rfl rfl rfl (Bs 3 rfl rfl rfl rfl .nil))))) XR)
def leaveS (a : Int) : Stm := .mk 12 a 0 0 [] []
theorem leave_rep {G : PH} {a : Int} (ha : a = 0 ∨ a = 1) : Stm.rep G (leaveS a) [.int .i64 12, .int .i64 a, .int .i64 0, .int .i64 0, .slice none 0 0, .slice none 0 0] :=
 Stm.rep_iff.2 ⟨_, _, rfl, by unfold I64; omega, by unfold I64; omega, by unfold I64; omega, by unfold I64; omega, Sr_nil rfl, Sr_nil rfl⟩
theorem c_dIn (W : Wld) (who : Nat) (b : Nat) (ts : List Value) (G : PH) (h1 : 1 ≤ W.procs.length) (h3 : W.procs.length ≤ 3) (ht : Tds G W.procs ts) (hw : who < W.procs.length) (htl : ∀ p ∈ W.procs, p.todo.length ≤ 1000000) (kk a bb n : Int) (x : List Stm) (vx : Value) (Ay : Option Addr) (ny cy : Nat) (hx : Sts G x vx) (hxl : x.length ≤ 1000) (ha : a = 0 ∨ a = 1) :
  Mod Tryz.prog 133 [.agg #[.int .i64 kk, .int .i64 a, .int .i64 bb, .int .i64 n, vx, .slice Ay ny cy], .pointer (some ⟨b, 0, none⟩), .int .i64 (who : Nat)] G (worldP b W ts) fun v G' A' => ∃ tv', A' = worldP b ((W.setRm a ((who : Int) + 1)).upd who (fun p => { p with room := a, todo := (x ++ [leaveS a]) ++ p.todo })) (ts.set who tv') ∧ Tds G' ((W.setRm a ((who : Int) + 1)).upd who (fun p => { p with room := a, todo := (x ++ [leaveS a]) ++ p.todo })).procs (ts.set who tv') := by
 obtain ⟨xs, hxs, hcs⟩ := Sr_Sx (fun s cs h => Stm.rep_len h) hx
 obtain ⟨Ax, cx, rfl, _⟩ := id hx
 refine Mod.intro Tryz.func133 Tryz.ntmps133 J J fun w S => ?_;refine Va J J ?_;refine S_box J J J J J fun b3 => ?_;obtain ⟨ps, x0, x1, x2, m0, m1, q0, q1, sd⟩ := W
 replace htl : ∀ p ∈ ps, p.todo.length ≤ 1000000 := htl
 rcases shape h1 h3 ht with ⟨⟨a0, a1, a2, td0, mo0, on0, ro0⟩, A0, k0, rfl, rfl, s0⟩ | ⟨⟨a0, a1, a2, td0, mo0, on0, ro0⟩, A0, k0, ⟨b0, b1, b2, td1, mo1, on1, ro1⟩, A1, k1, rfl, rfl, s0, s1⟩ | ⟨⟨a0, a1, a2, td0, mo0, on0, ro0⟩, A0, k0, ⟨b0, b1, b2, td1, mo1, on1, ro1⟩, A1, k1, ⟨d0, d1, d2, td2, mo2, on2, ro2⟩, A2, k2, rfl, rfl, s0, s1, s2⟩
 obtain rfl : who = 0 := by simpa using hw
 rotate_left
 rcases (by simp at hw; omega : who = 0 ∨ who = 1) with rfl | rfl
 rotate_left 2
 rcases (by simp at hw; omega : who = 0 ∨ who = 1 ∨ who = 2) with rfl | rfl | rfl
 all_goals
  refine OpP 1 1 J J J J fun bp bc br bs bg kp sp asd ksd aq0 kq0 aq1 kq1 kc spc kr spr ks sps kg spg hbg hmk => ?_; (first | obtain ⟨g0, rfl⟩ := len1 hbg | obtain ⟨g0, g1, rfl⟩ := len2 hbg | obtain ⟨g0, g1, g2, rfl⟩ := len3 hbg); clear hbg; refine NM J J ?_; dsimp only [wEnts, wCels, procCs, regEs, WX.of, vi]
  refine Va J J ?_
  rcases ha with rfl | rfl <;>
  ·refine Ds J J J ?_
   refine Da J J ?_;refine D_val 9 J J J J J J J J J (V_add J J (by omega)) ?_;refine Da J J ?_;refine Ns 14 J J J J J J J J J ?_;refine Da J J ?_;refine Ns 17 J J J J J J J J J ?_;refine DD ?_;refine Va J J ?_;refine Ds J J J ?_;refine Da J J ?_;refine D_or 4 9 J J (N_turn Tk 4 J J J J fun back => ?_) (N_turn Tk 9 J J J J fun back => ?_)
   ·refine S_callN 55 Tryz.call132 (c_CloneStmN _ _ xs _ hxs (Cs_one Stm.rep_one hcs)) J J J ?_
    rintro v G' A'' ⟨A, c, base, rfl, rfl, rfl⟩ hext
    refine S_newRow 55 J J ?_;refine back _ _ _ _ (by kernel_rfl) ?_; clear back
    refine Da J J ?_;refine Nt 9 J J J J J J fun back => ?_;refine S_slice Tk ZT_ok J J J J (by decide) (by decide) J J J J fun b30 => ?_;refine back _ _ _ _ (by kernel_rfl) ?_; clear back
    refine Da J J ?_;refine Nt 10 J J J J J J fun back => ?_;refine S_appO (news := [.int .i64 12, .int .i64 _, .int .i64 0, .int .i64 0, .slice none 0 0, .slice none 0 0]) Tk 55 J J J J J J J J J J J (fun _ _ => J) (by exact src_blk 38 J J J J J) one6 (by simp only; omega) (by simp only [maxLen]; omega) (Nat.le_refl _) fun A' c' => ?_;refine back _ _ _ _ (by kernel_rfl) ?_; clear back
    refine Da J J ?_;refine Nt 11 J J J J J J fun back => ?_;refine S_freezeR 55 J J (Nat.le_refl _) fun G' hext2 hnc hcm hcells => ?_
    first | (refine S_callIns 1000 (5 * 0 + 1) Tryz.call114 J J (denL_spV 5 J J) (c_insertS 0 (by decide) _ [] _ _ _ J (x ++ [leaveS _]) _ _ _ (snoc_Sts hxs hcs (leave_rep (by decide)) hxl hnc hcm hcells hext2.le) (Sts_le hext2.le s0) (by have := htl; simp only [List.mem_cons, forall_eq_or_imp] at this; simp only [List.length_append, List.length_singleton] at this ⊢; omega)) rfl (fun _ => rfl) rfl rfl rfl ?_) | (refine S_callIns 1000 (5 * 0 + 1) Tryz.call114 rfl rfl (denL_spV 10 rfl rfl) (c_insertS 0 (by decide) _ [] _ _ _ rfl (x ++ [leaveS _]) _ _ _ (snoc_Sts hxs hcs (leave_rep (by decide)) hxl hnc hcm hcells hext2.le) (Sts_le hext2.le s0) (by have := htl; simp only [List.mem_cons, forall_eq_or_imp] at this; simp only [List.length_append, List.length_singleton] at this ⊢; omega)) rfl (fun _ => rfl) rfl rfl rfl ?_) | (refine S_callIns 1000 (5 * 1 + 1) Tryz.call114 rfl rfl (denL_spV 10 rfl rfl) (c_insertS 1 (by decide) _ [_,_,_,_,_] _ _ _ rfl (x ++ [leaveS _]) _ _ _ (snoc_Sts hxs hcs (leave_rep (by decide)) hxl hnc hcm hcells hext2.le) (Sts_le hext2.le s1) (by have := htl; simp only [List.mem_cons, forall_eq_or_imp] at this; simp only [List.length_append, List.length_singleton] at this ⊢; omega)) rfl (fun _ => rfl) rfl rfl rfl ?_) | (refine S_callIns 1000 (5 * 0 + 1) Tryz.call114 rfl rfl (denL_spV 15 rfl rfl) (c_insertS 0 (by decide) _ [] _ _ _ rfl (x ++ [leaveS _]) _ _ _ (snoc_Sts hxs hcs (leave_rep (by decide)) hxl hnc hcm hcells hext2.le) (Sts_le hext2.le s0) (by have := htl; simp only [List.mem_cons, forall_eq_or_imp] at this; simp only [List.length_append, List.length_singleton] at this ⊢; omega)) rfl (fun _ => rfl) rfl rfl rfl ?_) | (refine S_callIns 1000 (5 * 1 + 1) Tryz.call114 rfl rfl (denL_spV 15 rfl rfl) (c_insertS 1 (by decide) _ [_,_,_,_,_] _ _ _ rfl (x ++ [leaveS _]) _ _ _ (snoc_Sts hxs hcs (leave_rep (by decide)) hxl hnc hcm hcells hext2.le) (Sts_le hext2.le s1) (by have := htl; simp only [List.mem_cons, forall_eq_or_imp] at this; simp only [List.length_append, List.length_singleton] at this ⊢; omega)) rfl (fun _ => rfl) rfl rfl rfl ?_) | (refine S_callIns 1000 (5 * 2 + 1) Tryz.call114 rfl rfl (denL_spV 15 rfl rfl) (c_insertS 2 (by decide) _ [_,_,_,_,_,_,_,_,_,_] _ _ _ rfl (x ++ [leaveS _]) _ _ _ (snoc_Sts hxs hcs (leave_rep (by decide)) hxl hnc hcm hcells hext2.le) (Sts_le hext2.le s2) (by have := htl; simp only [List.mem_cons, forall_eq_or_imp] at this; simp only [List.length_append, List.length_singleton] at this ⊢; omega)) rfl (fun _ => rfl) rfl rfl rfl ?_)
    rintro v G3 tv' hq hext3
    refine back _ _ _ _ (by kernel_rfl) ?_; clear back
    refine DD ?_;refine Va J J ?_
    first | (exact EK (1007 :: wKeys 1) (Res.t0 Tryz.results133) ⟨_, J, Tds_upd (hext2.le.trans hext3.le) _ hw ht hq⟩ (Wpp [_] kg spg J ‹_› J J J J J J J J) J (.blk J J (Wsub 5 J J J J J J J J J J J J J J J J (Bs 3 J J J J .nil))) (hext2.trans hext3)) | (exact EK (1007 :: wKeys 2) (Res.t0 Tryz.results133) ⟨_, J, Tds_upd (hext2.le.trans hext3.le) _ hw ht hq⟩ (Wpp [_, _] kg spg J ‹_› J J J J J J J J) J (.blk J J (Wsub 10 J J J J J J J J J J J J J J J J (Bs 3 J J J J (Bs 3 J J J J .nil)))) (hext2.trans hext3)) | (exact EK (1007 :: wKeys 3) (Res.t0 Tryz.results133) ⟨_, J, Tds_upd (hext2.le.trans hext3.le) _ hw ht hq⟩ (Wpp [_, _, _] kg spg J ‹_› J J J J J J J J) J (.blk J J (Wsub 15 J J J J J J J J J J J J J J J J (Bs 3 J J J J (Bs 3 J J J J (Bs 3 J J J J .nil))))) (hext2.trans hext3))
   ·refine S_slice Tk ZT_ok J J J J (by decide) (by decide) J J J J fun b30 => ?_
    refine back _ _ _ _ (by kernel_rfl) ?_; clear back
    refine Da J J ?_;refine Nt 4 J J J J J J fun back => ?_;refine S_callN 55 Tryz.call132 (c_CloneStmN _ _ xs _ hxs (Cs_one Stm.rep_one hcs)) J J J ?_;rintro v G' A'' ⟨A, c, base, rfl, rfl, rfl⟩ hext
    refine S_newRow 55 J J ?_;refine back _ _ _ _ (by kernel_rfl) ?_; clear back
    refine Da J J ?_;refine Nt 10 J J J J J J fun back => ?_;refine S_appO (news := [.int .i64 12, .int .i64 _, .int .i64 0, .int .i64 0, .slice none 0 0, .slice none 0 0]) Tk 55 J J J J J J J J J J J (fun _ _ => J) (by exact src_blk 38 J J J J J) one6 (by simp only; omega) (by simp only [maxLen]; omega) (Nat.le_refl _) fun A' c' => ?_;refine back _ _ _ _ (by kernel_rfl) ?_; clear back
    refine Da J J ?_;refine Nt 11 J J J J J J fun back => ?_;refine S_freezeR 55 J J (Nat.le_refl _) fun G' hext2 hnc hcm hcells => ?_
    first | (refine S_callIns 1000 (5 * 0 + 1) Tryz.call114 J J (denL_spV 5 J J) (c_insertS 0 (by decide) _ [] _ _ _ J (x ++ [leaveS _]) _ _ _ (snoc_Sts hxs hcs (leave_rep (by decide)) hxl hnc hcm hcells hext2.le) (Sts_le hext2.le s0) (by have := htl; simp only [List.mem_cons, forall_eq_or_imp] at this; simp only [List.length_append, List.length_singleton] at this ⊢; omega)) rfl (fun _ => rfl) rfl rfl rfl ?_) | (refine S_callIns 1000 (5 * 0 + 1) Tryz.call114 rfl rfl (denL_spV 10 rfl rfl) (c_insertS 0 (by decide) _ [] _ _ _ rfl (x ++ [leaveS _]) _ _ _ (snoc_Sts hxs hcs (leave_rep (by decide)) hxl hnc hcm hcells hext2.le) (Sts_le hext2.le s0) (by have := htl; simp only [List.mem_cons, forall_eq_or_imp] at this; simp only [List.length_append, List.length_singleton] at this ⊢; omega)) rfl (fun _ => rfl) rfl rfl rfl ?_) | (refine S_callIns 1000 (5 * 1 + 1) Tryz.call114 rfl rfl (denL_spV 10 rfl rfl) (c_insertS 1 (by decide) _ [_,_,_,_,_] _ _ _ rfl (x ++ [leaveS _]) _ _ _ (snoc_Sts hxs hcs (leave_rep (by decide)) hxl hnc hcm hcells hext2.le) (Sts_le hext2.le s1) (by have := htl; simp only [List.mem_cons, forall_eq_or_imp] at this; simp only [List.length_append, List.length_singleton] at this ⊢; omega)) rfl (fun _ => rfl) rfl rfl rfl ?_) | (refine S_callIns 1000 (5 * 0 + 1) Tryz.call114 rfl rfl (denL_spV 15 rfl rfl) (c_insertS 0 (by decide) _ [] _ _ _ rfl (x ++ [leaveS _]) _ _ _ (snoc_Sts hxs hcs (leave_rep (by decide)) hxl hnc hcm hcells hext2.le) (Sts_le hext2.le s0) (by have := htl; simp only [List.mem_cons, forall_eq_or_imp] at this; simp only [List.length_append, List.length_singleton] at this ⊢; omega)) rfl (fun _ => rfl) rfl rfl rfl ?_) | (refine S_callIns 1000 (5 * 1 + 1) Tryz.call114 rfl rfl (denL_spV 15 rfl rfl) (c_insertS 1 (by decide) _ [_,_,_,_,_] _ _ _ rfl (x ++ [leaveS _]) _ _ _ (snoc_Sts hxs hcs (leave_rep (by decide)) hxl hnc hcm hcells hext2.le) (Sts_le hext2.le s1) (by have := htl; simp only [List.mem_cons, forall_eq_or_imp] at this; simp only [List.length_append, List.length_singleton] at this ⊢; omega)) rfl (fun _ => rfl) rfl rfl rfl ?_) | (refine S_callIns 1000 (5 * 2 + 1) Tryz.call114 rfl rfl (denL_spV 15 rfl rfl) (c_insertS 2 (by decide) _ [_,_,_,_,_,_,_,_,_,_] _ _ _ rfl (x ++ [leaveS _]) _ _ _ (snoc_Sts hxs hcs (leave_rep (by decide)) hxl hnc hcm hcells hext2.le) (Sts_le hext2.le s2) (by have := htl; simp only [List.mem_cons, forall_eq_or_imp] at this; simp only [List.length_append, List.length_singleton] at this ⊢; omega)) rfl (fun _ => rfl) rfl rfl rfl ?_)
    rintro v G3 tv' hq hext3
    refine back _ _ _ _ (by kernel_rfl) ?_; clear back
    refine DD ?_;refine Va J J ?_
    first | (exact EK (1007 :: wKeys 1) (Res.t0 Tryz.results133) ⟨_, J, Tds_upd (hext2.le.trans hext3.le) _ hw ht hq⟩ (Wpp [_] kg spg J ‹_› J J J J J J J J) J (.blk J J (Wsub 5 J J J J J J J J J J J J J J J J (Bs 3 J J J J .nil))) (hext2.trans hext3)) | (exact EK (1007 :: wKeys 2) (Res.t0 Tryz.results133) ⟨_, J, Tds_upd (hext2.le.trans hext3.le) _ hw ht hq⟩ (Wpp [_, _] kg spg J ‹_› J J J J J J J J) J (.blk J J (Wsub 10 J J J J J J J J J J J J J J J J (Bs 3 J J J J (Bs 3 J J J J .nil)))) (hext2.trans hext3)) | (exact EK (1007 :: wKeys 3) (Res.t0 Tryz.results133) ⟨_, J, Tds_upd (hext2.le.trans hext3.le) _ hw ht hq⟩ (Wpp [_, _, _] kg spg J ‹_› J J J J J J J J) J (.blk J J (Wsub 15 J J J J J J J J J J J J J J J J (Bs 3 J J J J (Bs 3 J J J J (Bs 3 J J J J .nil))))) (hext2.trans hext3))
theorem c_dYield (who : Int) (b : Nat) (G : PH) (A : HP) : Mod Tryz.prog 137 [.agg #[], .pointer (some ⟨b, 0, none⟩), .int .i64 who] G A fun v G' A' => G' = G ∧ A' = A := by
 refine Mod.intro Tryz.func137 Tryz.ntmps137 J J fun w S => ?_;refine Va J J ?_;refine S_box J J J J J fun b3 => ?_;refine Va J J ?_;exact S_endm 1 (Res.t0 Tryz.results137) J XR ⟨J, J⟩
end
section
attribute [local irreducible] X Pure Mod
theorem c_dNum (W : Wld) (who : Nat) (b : Nat) (ts : List Value) (G : PH) (h1 : 1 ≤ W.procs.length) (h3 : W.procs.length ≤ 3) (ht : Tds G W.procs ts) (hw : who < W.procs.length) (a n : Int) (ha : a = 0 ∨ a = 1 ∨ a = 2) :
  Mod Tryz.prog 115 [.agg #[.int .i64 a, .int .i64 n], .pointer (some ⟨b, 0, none⟩), .int .i64 (who : Nat)] G (worldP b W ts) fun v G' A' => G' = G ∧ A' = worldP b (W.upd who (·.set a n)) ts := by
 refine Mod.intro Tryz.func115 Tryz.ntmps115 J J fun w S => ?_;refine Va J J ?_;refine S_box J J J J J fun b3 => ?_;obtain ⟨ps, x0, x1, x2, m0, m1, q0, q1, sd⟩ := W
 rcases shape h1 h3 ht with ⟨⟨a0, a1, a2, td0, mo0, on0, ro0⟩, A0, k0, rfl, rfl, s0⟩ | ⟨⟨a0, a1, a2, td0, mo0, on0, ro0⟩, A0, k0, ⟨b0, b1, b2, td1, mo1, on1, ro1⟩, A1, k1, rfl, rfl, s0, s1⟩ | ⟨⟨a0, a1, a2, td0, mo0, on0, ro0⟩, A0, k0, ⟨b0, b1, b2, td1, mo1, on1, ro1⟩, A1, k1, ⟨d0, d1, d2, td2, mo2, on2, ro2⟩, A2, k2, rfl, rfl, s0, s1, s2⟩
 ·obtain rfl : who = 0 := by simpa using hw
  refine OpP 1 1 J J J J fun bp bc br bs bg kp sp asd ksd aq0 kq0 aq1 kq1 kc spc kr spr ks sps kg spg hbg hmk => ?_; obtain ⟨g0, rfl⟩ := len1 hbg; clear hbg; refine NM J J ?_; dsimp only [wEnts, wCels, procCs, regEs, WX.of, vi]
  refine Va J J ?_;refine Ds J J J ?_
  rcases ha with rfl | rfl | rfl <;>
  ·refine Da J J ?_
   refine Ns 13 J J J J J J J J J ?_;refine DD ?_;refine Va J J ?_;exact EK (1007 :: wKeys 1) (Res.t0 Tryz.results115) ⟨J, J⟩ (Wpp [_] kg spg J ‹_› J J J J J J J J) J (.blk J J (Wsub 5 J J J J J J J J J J J J J J J J (Bs 3 J J J J .nil))) XR
 ·rcases (by simp at hw; omega : who = 0 ∨ who = 1) with rfl | rfl
  ·refine OpP 1 1 J J J J fun bp bc br bs bg kp sp asd ksd aq0 kq0 aq1 kq1 kc spc kr spr ks sps kg spg hbg hmk => ?_; obtain ⟨g0, g1, rfl⟩ := len2 hbg; clear hbg; refine NM J J ?_; dsimp only [wEnts, wCels, procCs, regEs, WX.of, vi]
   refine Va J J ?_;refine Ds J J J ?_
   rcases ha with rfl | rfl | rfl <;>
   ·refine Da J J ?_
    refine Ns 13 J J J J J J J J J ?_;refine DD ?_;refine Va J J ?_;exact EK (1007 :: wKeys 2) (Res.t0 Tryz.results115) ⟨J, J⟩ (Wpp [_, _] kg spg J ‹_› J J J J J J J J) J (.blk J J (Wsub 10 J J J J J J J J J J J J J J J J (Bs 3 J J J J (Bs 3 J J J J .nil)))) XR
  ·refine OpP 1 1 J J J J fun bp bc br bs bg kp sp asd ksd aq0 kq0 aq1 kq1 kc spc kr spr ks sps kg spg hbg hmk => ?_; obtain ⟨g0, g1, rfl⟩ := len2 hbg; clear hbg; refine NM J J ?_; dsimp only [wEnts, wCels, procCs, regEs, WX.of, vi]
   refine Va J J ?_;refine Ds J J J ?_
   rcases ha with rfl | rfl | rfl <;>
   ·refine Da J J ?_
    refine Ns 13 J J J J J J J J J ?_;refine DD ?_;refine Va J J ?_;exact EK (1007 :: wKeys 2) (Res.t0 Tryz.results115) ⟨J, J⟩ (Wpp [_, _] kg spg J ‹_› J J J J J J J J) J (.blk J J (Wsub 10 J J J J J J J J J J J J J J J J (Bs 3 J J J J (Bs 3 J J J J .nil)))) XR
 ·rcases (by simp at hw; omega : who = 0 ∨ who = 1 ∨ who = 2) with rfl | rfl | rfl
  ·refine OpP 1 1 J J J J fun bp bc br bs bg kp sp asd ksd aq0 kq0 aq1 kq1 kc spc kr spr ks sps kg spg hbg hmk => ?_; obtain ⟨g0, g1, g2, rfl⟩ := len3 hbg; clear hbg; refine NM J J ?_; dsimp only [wEnts, wCels, procCs, regEs, WX.of, vi]
   refine Va J J ?_;refine Ds J J J ?_
   rcases ha with rfl | rfl | rfl <;>
   ·refine Da J J ?_
    refine Ns 13 J J J J J J J J J ?_;refine DD ?_;refine Va J J ?_;exact EK (1007 :: wKeys 3) (Res.t0 Tryz.results115) ⟨J, J⟩ (Wpp [_, _, _] kg spg J ‹_› J J J J J J J J) J (.blk J J (Wsub 15 J J J J J J J J J J J J J J J J (Bs 3 J J J J (Bs 3 J J J J (Bs 3 J J J J .nil))))) XR
  ·refine OpP 1 1 J J J J fun bp bc br bs bg kp sp asd ksd aq0 kq0 aq1 kq1 kc spc kr spr ks sps kg spg hbg hmk => ?_; obtain ⟨g0, g1, g2, rfl⟩ := len3 hbg; clear hbg; refine NM J J ?_; dsimp only [wEnts, wCels, procCs, regEs, WX.of, vi]
   refine Va J J ?_;refine Ds J J J ?_
   rcases ha with rfl | rfl | rfl <;>
   ·refine Da J J ?_
    refine Ns 13 J J J J J J J J J ?_;refine DD ?_;refine Va J J ?_;exact EK (1007 :: wKeys 3) (Res.t0 Tryz.results115) ⟨J, J⟩ (Wpp [_, _, _] kg spg J ‹_› J J J J J J J J) J (.blk J J (Wsub 15 J J J J J J J J J J J J J J J J (Bs 3 J J J J (Bs 3 J J J J (Bs 3 J J J J .nil))))) XR
  ·refine OpP 1 1 J J J J fun bp bc br bs bg kp sp asd ksd aq0 kq0 aq1 kq1 kc spc kr spr ks sps kg spg hbg hmk => ?_; obtain ⟨g0, g1, g2, rfl⟩ := len3 hbg; clear hbg; refine NM J J ?_; dsimp only [wEnts, wCels, procCs, regEs, WX.of, vi]
   refine Va J J ?_;refine Ds J J J ?_
   rcases ha with rfl | rfl | rfl <;>
   ·refine Da J J ?_
    refine Ns 13 J J J J J J J J J ?_;refine DD ?_;refine Va J J ?_;exact EK (1007 :: wKeys 3) (Res.t0 Tryz.results115) ⟨J, J⟩ (Wpp [_, _, _] kg spg J ‹_› J J J J J J J J) J (.blk J J (Wsub 15 J J J J J J J J J J J J J J J J (Bs 3 J J J J (Bs 3 J J J J (Bs 3 J J J J .nil))))) XR
theorem c_dOp (W : Wld) (who : Nat) (b : Nat) (ts : List Value) (G : PH) (h1 : 1 ≤ W.procs.length) (h3 : W.procs.length ≤ 3) (ht : Tds G W.procs ts) (hw : who < W.procs.length) (a bb op : Int) (ha : a = 0 ∨ a = 1 ∨ a = 2) (hb : bb = 0 ∨ bb = 1 ∨ bb = 2) :
  Mod Tryz.prog 116 [.agg #[.int .i64 a, .int .i64 bb, .int .i64 op], .pointer (some ⟨b, 0, none⟩), .int .i64 (who : Nat)] G (worldP b W ts) fun v G' A' => G' = G ∧ A' = worldP b (W.upd who (fun p => p.set a (numDo op (p.get a) (p.get bb)).1)) ts := by
 refine Mod.intro Tryz.func116 Tryz.ntmps116 J J fun w S => ?_;refine Va J J ?_;refine S_box J J J J J fun b3 => ?_;obtain ⟨ps, x0, x1, x2, m0, m1, q0, q1, sd⟩ := W
 rcases shape h1 h3 ht with ⟨⟨a0, a1, a2, td0, mo0, on0, ro0⟩, A0, k0, rfl, rfl, s0⟩ | ⟨⟨a0, a1, a2, td0, mo0, on0, ro0⟩, A0, k0, ⟨b0, b1, b2, td1, mo1, on1, ro1⟩, A1, k1, rfl, rfl, s0, s1⟩ | ⟨⟨a0, a1, a2, td0, mo0, on0, ro0⟩, A0, k0, ⟨b0, b1, b2, td1, mo1, on1, ro1⟩, A1, k1, ⟨d0, d1, d2, td2, mo2, on2, ro2⟩, A2, k2, rfl, rfl, s0, s1, s2⟩
 ·obtain rfl : who = 0 := by simpa using hw
  refine OpP 1 1 J J J J fun bp bc br bs bg kp sp asd ksd aq0 kq0 aq1 kq1 kc spc kr spr ks sps kg spg hbg hmk => ?_; obtain ⟨g0, rfl⟩ := len1 hbg; clear hbg; refine NM J J ?_; dsimp only [wEnts, wCels, procCs, regEs, WX.of, vi]
  refine Va J J ?_;refine Ds J J J ?_
  rcases ha with rfl | rfl | rfl <;> rcases hb with rfl | rfl | rfl <;>
  ·refine Da J J ?_
   refine D_sole 15 J J (N_call 15 Tryz.call117 (c_iNumDo _ _ _ _) J J J J J J J J J J ?_)
   rintro v G' ⟨rfl, rfl⟩ _
   refine Da J J ?_;refine Ns 20 J J J J J J J J J ?_;refine DD ?_;refine Va J J ?_;exact EK (1007 :: wKeys 1) (Res.t0 Tryz.results116) ⟨J, J⟩ (Wpp [_] kg spg J ‹_› J J J J J J J J) J (.blk J J (Wsub 5 J J J J J J J J J J J J J J J J (Bs 3 J J J J .nil))) XR
 ·rcases (by simp at hw; omega : who = 0 ∨ who = 1) with rfl | rfl
  ·refine OpP 1 1 J J J J fun bp bc br bs bg kp sp asd ksd aq0 kq0 aq1 kq1 kc spc kr spr ks sps kg spg hbg hmk => ?_; obtain ⟨g0, g1, rfl⟩ := len2 hbg; clear hbg; refine NM J J ?_; dsimp only [wEnts, wCels, procCs, regEs, WX.of, vi]
   refine Va J J ?_;refine Ds J J J ?_
   rcases ha with rfl | rfl | rfl <;> rcases hb with rfl | rfl | rfl <;>
   ·refine Da J J ?_
    refine D_sole 15 J J (N_call 15 Tryz.call117 (c_iNumDo _ _ _ _) J J J J J J J J J J ?_)
    rintro v G' ⟨rfl, rfl⟩ _
    refine Da J J ?_;refine Ns 20 J J J J J J J J J ?_;refine DD ?_;refine Va J J ?_;exact EK (1007 :: wKeys 2) (Res.t0 Tryz.results116) ⟨J, J⟩ (Wpp [_, _] kg spg J ‹_› J J J J J J J J) J (.blk J J (Wsub 10 J J J J J J J J J J J J J J J J (Bs 3 J J J J (Bs 3 J J J J .nil)))) XR
  ·refine OpP 1 1 J J J J fun bp bc br bs bg kp sp asd ksd aq0 kq0 aq1 kq1 kc spc kr spr ks sps kg spg hbg hmk => ?_; obtain ⟨g0, g1, rfl⟩ := len2 hbg; clear hbg; refine NM J J ?_; dsimp only [wEnts, wCels, procCs, regEs, WX.of, vi]
   refine Va J J ?_;refine Ds J J J ?_
   rcases ha with rfl | rfl | rfl <;> rcases hb with rfl | rfl | rfl <;>
   ·refine Da J J ?_
    refine D_sole 15 J J (N_call 15 Tryz.call117 (c_iNumDo _ _ _ _) J J J J J J J J J J ?_)
    rintro v G' ⟨rfl, rfl⟩ _
    refine Da J J ?_;refine Ns 20 J J J J J J J J J ?_;refine DD ?_;refine Va J J ?_;exact EK (1007 :: wKeys 2) (Res.t0 Tryz.results116) ⟨J, J⟩ (Wpp [_, _] kg spg J ‹_› J J J J J J J J) J (.blk J J (Wsub 10 J J J J J J J J J J J J J J J J (Bs 3 J J J J (Bs 3 J J J J .nil)))) XR
 ·rcases (by simp at hw; omega : who = 0 ∨ who = 1 ∨ who = 2) with rfl | rfl | rfl
  ·refine OpP 1 1 J J J J fun bp bc br bs bg kp sp asd ksd aq0 kq0 aq1 kq1 kc spc kr spr ks sps kg spg hbg hmk => ?_; obtain ⟨g0, g1, g2, rfl⟩ := len3 hbg; clear hbg; refine NM J J ?_; dsimp only [wEnts, wCels, procCs, regEs, WX.of, vi]
   refine Va J J ?_;refine Ds J J J ?_
   rcases ha with rfl | rfl | rfl <;> rcases hb with rfl | rfl | rfl <;>
   ·refine Da J J ?_
    refine D_sole 15 J J (N_call 15 Tryz.call117 (c_iNumDo _ _ _ _) J J J J J J J J J J ?_)
    rintro v G' ⟨rfl, rfl⟩ _
    refine Da J J ?_;refine Ns 20 J J J J J J J J J ?_;refine DD ?_;refine Va J J ?_;exact EK (1007 :: wKeys 3) (Res.t0 Tryz.results116) ⟨J, J⟩ (Wpp [_, _, _] kg spg J ‹_› J J J J J J J J) J (.blk J J (Wsub 15 J J J J J J J J J J J J J J J J (Bs 3 J J J J (Bs 3 J J J J (Bs 3 J J J J .nil))))) XR
  ·refine OpP 1 1 J J J J fun bp bc br bs bg kp sp asd ksd aq0 kq0 aq1 kq1 kc spc kr spr ks sps kg spg hbg hmk => ?_; obtain ⟨g0, g1, g2, rfl⟩ := len3 hbg; clear hbg; refine NM J J ?_; dsimp only [wEnts, wCels, procCs, regEs, WX.of, vi]
   refine Va J J ?_;refine Ds J J J ?_
   rcases ha with rfl | rfl | rfl <;> rcases hb with rfl | rfl | rfl <;>
   ·refine Da J J ?_
    refine D_sole 15 J J (N_call 15 Tryz.call117 (c_iNumDo _ _ _ _) J J J J J J J J J J ?_)
    rintro v G' ⟨rfl, rfl⟩ _
    refine Da J J ?_;refine Ns 20 J J J J J J J J J ?_;refine DD ?_;refine Va J J ?_;exact EK (1007 :: wKeys 3) (Res.t0 Tryz.results116) ⟨J, J⟩ (Wpp [_, _, _] kg spg J ‹_› J J J J J J J J) J (.blk J J (Wsub 15 J J J J J J J J J J J J J J J J (Bs 3 J J J J (Bs 3 J J J J (Bs 3 J J J J .nil))))) XR
  ·refine OpP 1 1 J J J J fun bp bc br bs bg kp sp asd ksd aq0 kq0 aq1 kq1 kc spc kr spr ks sps kg spg hbg hmk => ?_; obtain ⟨g0, g1, g2, rfl⟩ := len3 hbg; clear hbg; refine NM J J ?_; dsimp only [wEnts, wCels, procCs, regEs, WX.of, vi]
   refine Va J J ?_;refine Ds J J J ?_
   rcases ha with rfl | rfl | rfl <;> rcases hb with rfl | rfl | rfl <;>
   ·refine Da J J ?_
    refine D_sole 15 J J (N_call 15 Tryz.call117 (c_iNumDo _ _ _ _) J J J J J J J J J J ?_)
    rintro v G' ⟨rfl, rfl⟩ _
    refine Da J J ?_;refine Ns 20 J J J J J J J J J ?_;refine DD ?_;refine Va J J ?_;exact EK (1007 :: wKeys 3) (Res.t0 Tryz.results116) ⟨J, J⟩ (Wpp [_, _, _] kg spg J ‹_› J J J J J J J J) J (.blk J J (Wsub 15 J J J J J J J J J J J J J J J J (Bs 3 J J J J (Bs 3 J J J J (Bs 3 J J J J .nil))))) XR
theorem c_dLoad (W : Wld) (who : Nat) (b : Nat) (ts : List Value) (G : PH) (h1 : 1 ≤ W.procs.length) (h3 : W.procs.length ≤ 3) (ht : Tds G W.procs ts) (hw : who < W.procs.length) (a bb : Int) (ha : a = 0 ∨ a = 1 ∨ a = 2) (hb : bb = 0 ∨ bb = 1 ∨ bb = 2) :
  Mod Tryz.prog 125 [.agg #[.int .i64 a, .int .i64 bb], .pointer (some ⟨b, 0, none⟩), .int .i64 (who : Nat)] G (worldP b W ts) fun v G' A' => G' = G ∧ A' = worldP b (W.upd who (·.set a (W.cell bb))) ts := by
 refine Mod.intro Tryz.func125 Tryz.ntmps125 J J fun w S => ?_;refine Va J J ?_;refine S_box J J J J J fun b3 => ?_;obtain ⟨ps, x0, x1, x2, m0, m1, q0, q1, sd⟩ := W
 rcases shape h1 h3 ht with ⟨⟨a0, a1, a2, td0, mo0, on0, ro0⟩, A0, k0, rfl, rfl, s0⟩ | ⟨⟨a0, a1, a2, td0, mo0, on0, ro0⟩, A0, k0, ⟨b0, b1, b2, td1, mo1, on1, ro1⟩, A1, k1, rfl, rfl, s0, s1⟩ | ⟨⟨a0, a1, a2, td0, mo0, on0, ro0⟩, A0, k0, ⟨b0, b1, b2, td1, mo1, on1, ro1⟩, A1, k1, ⟨d0, d1, d2, td2, mo2, on2, ro2⟩, A2, k2, rfl, rfl, s0, s1, s2⟩
 ·obtain rfl : who = 0 := by simpa using hw
  refine OpP 1 1 J J J J fun bp bc br bs bg kp sp asd ksd aq0 kq0 aq1 kq1 kc spc kr spr ks sps kg spg hbg hmk => ?_; obtain ⟨g0, rfl⟩ := len1 hbg; clear hbg; refine NM J J ?_; dsimp only [wEnts, wCels, procCs, regEs, WX.of, vi]
  refine Va J J ?_;refine Ds J J J ?_
  rcases ha with rfl | rfl | rfl <;> rcases hb with rfl | rfl | rfl <;>
  ·refine Da J J ?_
   refine Ns 19 J J J J J J J J J ?_;refine DD ?_;refine Va J J ?_;exact EK (1007 :: wKeys 1) (Res.t0 Tryz.results125) ⟨J, J⟩ (Wpp [_] kg spg J ‹_› J J J J J J J J) J (.blk J J (Wsub 5 J J J J J J J J J J J J J J J J (Bs 3 J J J J .nil))) XR
 ·rcases (by simp at hw; omega : who = 0 ∨ who = 1) with rfl | rfl
  ·refine OpP 1 1 J J J J fun bp bc br bs bg kp sp asd ksd aq0 kq0 aq1 kq1 kc spc kr spr ks sps kg spg hbg hmk => ?_; obtain ⟨g0, g1, rfl⟩ := len2 hbg; clear hbg; refine NM J J ?_; dsimp only [wEnts, wCels, procCs, regEs, WX.of, vi]
   refine Va J J ?_;refine Ds J J J ?_
   rcases ha with rfl | rfl | rfl <;> rcases hb with rfl | rfl | rfl <;>
   ·refine Da J J ?_
    refine Ns 19 J J J J J J J J J ?_;refine DD ?_;refine Va J J ?_;exact EK (1007 :: wKeys 2) (Res.t0 Tryz.results125) ⟨J, J⟩ (Wpp [_, _] kg spg J ‹_› J J J J J J J J) J (.blk J J (Wsub 10 J J J J J J J J J J J J J J J J (Bs 3 J J J J (Bs 3 J J J J .nil)))) XR
  ·refine OpP 1 1 J J J J fun bp bc br bs bg kp sp asd ksd aq0 kq0 aq1 kq1 kc spc kr spr ks sps kg spg hbg hmk => ?_; obtain ⟨g0, g1, rfl⟩ := len2 hbg; clear hbg; refine NM J J ?_; dsimp only [wEnts, wCels, procCs, regEs, WX.of, vi]
   refine Va J J ?_;refine Ds J J J ?_
   rcases ha with rfl | rfl | rfl <;> rcases hb with rfl | rfl | rfl <;>
   ·refine Da J J ?_
    refine Ns 19 J J J J J J J J J ?_;refine DD ?_;refine Va J J ?_;exact EK (1007 :: wKeys 2) (Res.t0 Tryz.results125) ⟨J, J⟩ (Wpp [_, _] kg spg J ‹_› J J J J J J J J) J (.blk J J (Wsub 10 J J J J J J J J J J J J J J J J (Bs 3 J J J J (Bs 3 J J J J .nil)))) XR
 ·rcases (by simp at hw; omega : who = 0 ∨ who = 1 ∨ who = 2) with rfl | rfl | rfl
  ·refine OpP 1 1 J J J J fun bp bc br bs bg kp sp asd ksd aq0 kq0 aq1 kq1 kc spc kr spr ks sps kg spg hbg hmk => ?_; obtain ⟨g0, g1, g2, rfl⟩ := len3 hbg; clear hbg; refine NM J J ?_; dsimp only [wEnts, wCels, procCs, regEs, WX.of, vi]
   refine Va J J ?_;refine Ds J J J ?_
   rcases ha with rfl | rfl | rfl <;> rcases hb with rfl | rfl | rfl <;>
   ·refine Da J J ?_
    refine Ns 19 J J J J J J J J J ?_;refine DD ?_;refine Va J J ?_;exact EK (1007 :: wKeys 3) (Res.t0 Tryz.results125) ⟨J, J⟩ (Wpp [_, _, _] kg spg J ‹_› J J J J J J J J) J (.blk J J (Wsub 15 J J J J J J J J J J J J J J J J (Bs 3 J J J J (Bs 3 J J J J (Bs 3 J J J J .nil))))) XR
  ·refine OpP 1 1 J J J J fun bp bc br bs bg kp sp asd ksd aq0 kq0 aq1 kq1 kc spc kr spr ks sps kg spg hbg hmk => ?_; obtain ⟨g0, g1, g2, rfl⟩ := len3 hbg; clear hbg; refine NM J J ?_; dsimp only [wEnts, wCels, procCs, regEs, WX.of, vi]
   refine Va J J ?_;refine Ds J J J ?_
   rcases ha with rfl | rfl | rfl <;> rcases hb with rfl | rfl | rfl <;>
   ·refine Da J J ?_
    refine Ns 19 J J J J J J J J J ?_;refine DD ?_;refine Va J J ?_;exact EK (1007 :: wKeys 3) (Res.t0 Tryz.results125) ⟨J, J⟩ (Wpp [_, _, _] kg spg J ‹_› J J J J J J J J) J (.blk J J (Wsub 15 J J J J J J J J J J J J J J J J (Bs 3 J J J J (Bs 3 J J J J (Bs 3 J J J J .nil))))) XR
  ·refine OpP 1 1 J J J J fun bp bc br bs bg kp sp asd ksd aq0 kq0 aq1 kq1 kc spc kr spr ks sps kg spg hbg hmk => ?_; obtain ⟨g0, g1, g2, rfl⟩ := len3 hbg; clear hbg; refine NM J J ?_; dsimp only [wEnts, wCels, procCs, regEs, WX.of, vi]
   refine Va J J ?_;refine Ds J J J ?_
   rcases ha with rfl | rfl | rfl <;> rcases hb with rfl | rfl | rfl <;>
   ·refine Da J J ?_
    refine Ns 19 J J J J J J J J J ?_;refine DD ?_;refine Va J J ?_;exact EK (1007 :: wKeys 3) (Res.t0 Tryz.results125) ⟨J, J⟩ (Wpp [_, _, _] kg spg J ‹_› J J J J J J J J) J (.blk J J (Wsub 15 J J J J J J J J J J J J J J J J (Bs 3 J J J J (Bs 3 J J J J (Bs 3 J J J J .nil))))) XR
theorem c_dStore (W : Wld) (who : Nat) (b : Nat) (ts : List Value) (G : PH) (h1 : 1 ≤ W.procs.length) (h3 : W.procs.length ≤ 3) (ht : Tds G W.procs ts) (hw : who < W.procs.length) (a bb : Int) (ha : a = 0 ∨ a = 1 ∨ a = 2) (hb : bb = 0 ∨ bb = 1 ∨ bb = 2) :
  Mod Tryz.prog 126 [.agg #[.int .i64 a, .int .i64 bb], .pointer (some ⟨b, 0, none⟩), .int .i64 (who : Nat)] G (worldP b W ts) fun v G' A' => G' = G ∧ A' = worldP b (W.setCell a (W.reg who bb)) ts := by
 refine Mod.intro Tryz.func126 Tryz.ntmps126 J J fun w S => ?_;refine Va J J ?_;refine S_box J J J J J fun b3 => ?_;obtain ⟨ps, x0, x1, x2, m0, m1, q0, q1, sd⟩ := W
 rcases shape h1 h3 ht with ⟨⟨a0, a1, a2, td0, mo0, on0, ro0⟩, A0, k0, rfl, rfl, s0⟩ | ⟨⟨a0, a1, a2, td0, mo0, on0, ro0⟩, A0, k0, ⟨b0, b1, b2, td1, mo1, on1, ro1⟩, A1, k1, rfl, rfl, s0, s1⟩ | ⟨⟨a0, a1, a2, td0, mo0, on0, ro0⟩, A0, k0, ⟨b0, b1, b2, td1, mo1, on1, ro1⟩, A1, k1, ⟨d0, d1, d2, td2, mo2, on2, ro2⟩, A2, k2, rfl, rfl, s0, s1, s2⟩
 ·obtain rfl : who = 0 := by simpa using hw
  refine OpP 1 1 J J J J fun bp bc br bs bg kp sp asd ksd aq0 kq0 aq1 kq1 kc spc kr spr ks sps kg spg hbg hmk => ?_; obtain ⟨g0, rfl⟩ := len1 hbg; clear hbg; refine NM J J ?_; dsimp only [wEnts, wCels, procCs, regEs, WX.of, vi]
  refine Va J J ?_;refine Ds J J J ?_
  rcases ha with rfl | rfl | rfl <;> rcases hb with rfl | rfl | rfl <;>
  ·refine Da J J ?_
   refine Ns 19 J J J J J J J J J ?_;refine DD ?_;refine Va J J ?_;exact EK (1007 :: wKeys 1) (Res.t0 Tryz.results126) ⟨J, J⟩ (Wpp [_] kg spg J ‹_› J J J J J J J J) J (.blk J J (Wsub 5 J J J J J J J J J J J J J J J J (Bs 3 J J J J .nil))) XR
 ·rcases (by simp at hw; omega : who = 0 ∨ who = 1) with rfl | rfl
  ·refine OpP 1 1 J J J J fun bp bc br bs bg kp sp asd ksd aq0 kq0 aq1 kq1 kc spc kr spr ks sps kg spg hbg hmk => ?_; obtain ⟨g0, g1, rfl⟩ := len2 hbg; clear hbg; refine NM J J ?_; dsimp only [wEnts, wCels, procCs, regEs, WX.of, vi]
   refine Va J J ?_;refine Ds J J J ?_
   rcases ha with rfl | rfl | rfl <;> rcases hb with rfl | rfl | rfl <;>
   ·refine Da J J ?_
    refine Ns 19 J J J J J J J J J ?_;refine DD ?_;refine Va J J ?_;exact EK (1007 :: wKeys 2) (Res.t0 Tryz.results126) ⟨J, J⟩ (Wpp [_, _] kg spg J ‹_› J J J J J J J J) J (.blk J J (Wsub 10 J J J J J J J J J J J J J J J J (Bs 3 J J J J (Bs 3 J J J J .nil)))) XR
  ·refine OpP 1 1 J J J J fun bp bc br bs bg kp sp asd ksd aq0 kq0 aq1 kq1 kc spc kr spr ks sps kg spg hbg hmk => ?_; obtain ⟨g0, g1, rfl⟩ := len2 hbg; clear hbg; refine NM J J ?_; dsimp only [wEnts, wCels, procCs, regEs, WX.of, vi]
   refine Va J J ?_;refine Ds J J J ?_
   rcases ha with rfl | rfl | rfl <;> rcases hb with rfl | rfl | rfl <;>
   ·refine Da J J ?_
    refine Ns 19 J J J J J J J J J ?_;refine DD ?_;refine Va J J ?_;exact EK (1007 :: wKeys 2) (Res.t0 Tryz.results126) ⟨J, J⟩ (Wpp [_, _] kg spg J ‹_› J J J J J J J J) J (.blk J J (Wsub 10 J J J J J J J J J J J J J J J J (Bs 3 J J J J (Bs 3 J J J J .nil)))) XR
 ·rcases (by simp at hw; omega : who = 0 ∨ who = 1 ∨ who = 2) with rfl | rfl | rfl
  ·refine OpP 1 1 J J J J fun bp bc br bs bg kp sp asd ksd aq0 kq0 aq1 kq1 kc spc kr spr ks sps kg spg hbg hmk => ?_; obtain ⟨g0, g1, g2, rfl⟩ := len3 hbg; clear hbg; refine NM J J ?_; dsimp only [wEnts, wCels, procCs, regEs, WX.of, vi]
   refine Va J J ?_;refine Ds J J J ?_
   rcases ha with rfl | rfl | rfl <;> rcases hb with rfl | rfl | rfl <;>
   ·refine Da J J ?_
    refine Ns 19 J J J J J J J J J ?_;refine DD ?_;refine Va J J ?_;exact EK (1007 :: wKeys 3) (Res.t0 Tryz.results126) ⟨J, J⟩ (Wpp [_, _, _] kg spg J ‹_› J J J J J J J J) J (.blk J J (Wsub 15 J J J J J J J J J J J J J J J J (Bs 3 J J J J (Bs 3 J J J J (Bs 3 J J J J .nil))))) XR
  ·refine OpP 1 1 J J J J fun bp bc br bs bg kp sp asd ksd aq0 kq0 aq1 kq1 kc spc kr spr ks sps kg spg hbg hmk => ?_; obtain ⟨g0, g1, g2, rfl⟩ := len3 hbg; clear hbg; refine NM J J ?_; dsimp only [wEnts, wCels, procCs, regEs, WX.of, vi]
   refine Va J J ?_;refine Ds J J J ?_
   rcases ha with rfl | rfl | rfl <;> rcases hb with rfl | rfl | rfl <;>
   ·refine Da J J ?_
    refine Ns 19 J J J J J J J J J ?_;refine DD ?_;refine Va J J ?_;exact EK (1007 :: wKeys 3) (Res.t0 Tryz.results126) ⟨J, J⟩ (Wpp [_, _, _] kg spg J ‹_› J J J J J J J J) J (.blk J J (Wsub 15 J J J J J J J J J J J J J J J J (Bs 3 J J J J (Bs 3 J J J J (Bs 3 J J J J .nil))))) XR
  ·refine OpP 1 1 J J J J fun bp bc br bs bg kp sp asd ksd aq0 kq0 aq1 kq1 kc spc kr spr ks sps kg spg hbg hmk => ?_; obtain ⟨g0, g1, g2, rfl⟩ := len3 hbg; clear hbg; refine NM J J ?_; dsimp only [wEnts, wCels, procCs, regEs, WX.of, vi]
   refine Va J J ?_;refine Ds J J J ?_
   rcases ha with rfl | rfl | rfl <;> rcases hb with rfl | rfl | rfl <;>
   ·refine Da J J ?_
    refine Ns 19 J J J J J J J J J ?_;refine DD ?_;refine Va J J ?_;exact EK (1007 :: wKeys 3) (Res.t0 Tryz.results126) ⟨J, J⟩ (Wpp [_, _, _] kg spg J ‹_› J J J J J J J J) J (.blk J J (Wsub 15 J J J J J J J J J J J J J J J J (Bs 3 J J J J (Bs 3 J J J J (Bs 3 J J J J .nil))))) XR
theorem c_dLeave (W : Wld) (who : Nat) (b : Nat) (ts : List Value) (G : PH) (h1 : 1 ≤ W.procs.length) (h3 : W.procs.length ≤ 3) (ht : Tds G W.procs ts) (hw : who < W.procs.length) (a : Int) (ha : a = 0 ∨ a = 1) :
  Mod Tryz.prog 136 [.agg #[.int .i64 a], .pointer (some ⟨b, 0, none⟩), .int .i64 (who : Nat)] G (worldP b W ts) fun v G' A' => G' = G ∧ A' = worldP b ((W.setRm a 0).upd who (fun p => { p with room := -1 })) ts := by
 refine Mod.intro Tryz.func136 Tryz.ntmps136 J J fun w S => ?_;refine Va J J ?_;refine S_box J J J J J fun b3 => ?_;obtain ⟨ps, x0, x1, x2, m0, m1, q0, q1, sd⟩ := W
 rcases shape h1 h3 ht with ⟨⟨a0, a1, a2, td0, mo0, on0, ro0⟩, A0, k0, rfl, rfl, s0⟩ | ⟨⟨a0, a1, a2, td0, mo0, on0, ro0⟩, A0, k0, ⟨b0, b1, b2, td1, mo1, on1, ro1⟩, A1, k1, rfl, rfl, s0, s1⟩ | ⟨⟨a0, a1, a2, td0, mo0, on0, ro0⟩, A0, k0, ⟨b0, b1, b2, td1, mo1, on1, ro1⟩, A1, k1, ⟨d0, d1, d2, td2, mo2, on2, ro2⟩, A2, k2, rfl, rfl, s0, s1, s2⟩
 ·obtain rfl : who = 0 := by simpa using hw
  refine OpP 1 1 J J J J fun bp bc br bs bg kp sp asd ksd aq0 kq0 aq1 kq1 kc spc kr spr ks sps kg spg hbg hmk => ?_; obtain ⟨g0, rfl⟩ := len1 hbg; clear hbg; refine NM J J ?_; dsimp only [wEnts, wCels, procCs, regEs, WX.of, vi]
  refine Va J J ?_;refine Ds J J J ?_
  rcases ha with rfl | rfl <;>
  ·refine Da J J ?_
   refine Ns 12 J J J J J J J J J ?_;refine Da J J ?_;refine Ns 15 J J J J J J J J J ?_;refine DD ?_;refine Va J J ?_;exact EK (1007 :: wKeys 1) (Res.t0 Tryz.results136) ⟨J, J⟩ (Wpp [_] kg spg J ‹_› J J J J J J J J) J (.blk J J (Wsub 5 J J J J J J J J J J J J J J J J (Bs 3 J J J J .nil))) XR
 ·rcases (by simp at hw; omega : who = 0 ∨ who = 1) with rfl | rfl
  ·refine OpP 1 1 J J J J fun bp bc br bs bg kp sp asd ksd aq0 kq0 aq1 kq1 kc spc kr spr ks sps kg spg hbg hmk => ?_; obtain ⟨g0, g1, rfl⟩ := len2 hbg; clear hbg; refine NM J J ?_; dsimp only [wEnts, wCels, procCs, regEs, WX.of, vi]
   refine Va J J ?_;refine Ds J J J ?_
   rcases ha with rfl | rfl <;>
   ·refine Da J J ?_
    refine Ns 12 J J J J J J J J J ?_;refine Da J J ?_;refine Ns 15 J J J J J J J J J ?_;refine DD ?_;refine Va J J ?_;exact EK (1007 :: wKeys 2) (Res.t0 Tryz.results136) ⟨J, J⟩ (Wpp [_, _] kg spg J ‹_› J J J J J J J J) J (.blk J J (Wsub 10 J J J J J J J J J J J J J J J J (Bs 3 J J J J (Bs 3 J J J J .nil)))) XR
  ·refine OpP 1 1 J J J J fun bp bc br bs bg kp sp asd ksd aq0 kq0 aq1 kq1 kc spc kr spr ks sps kg spg hbg hmk => ?_; obtain ⟨g0, g1, rfl⟩ := len2 hbg; clear hbg; refine NM J J ?_; dsimp only [wEnts, wCels, procCs, regEs, WX.of, vi]
   refine Va J J ?_;refine Ds J J J ?_
   rcases ha with rfl | rfl <;>
   ·refine Da J J ?_
    refine Ns 12 J J J J J J J J J ?_;refine Da J J ?_;refine Ns 15 J J J J J J J J J ?_;refine DD ?_;refine Va J J ?_;exact EK (1007 :: wKeys 2) (Res.t0 Tryz.results136) ⟨J, J⟩ (Wpp [_, _] kg spg J ‹_› J J J J J J J J) J (.blk J J (Wsub 10 J J J J J J J J J J J J J J J J (Bs 3 J J J J (Bs 3 J J J J .nil)))) XR
 ·rcases (by simp at hw; omega : who = 0 ∨ who = 1 ∨ who = 2) with rfl | rfl | rfl
  ·refine OpP 1 1 J J J J fun bp bc br bs bg kp sp asd ksd aq0 kq0 aq1 kq1 kc spc kr spr ks sps kg spg hbg hmk => ?_; obtain ⟨g0, g1, g2, rfl⟩ := len3 hbg; clear hbg; refine NM J J ?_; dsimp only [wEnts, wCels, procCs, regEs, WX.of, vi]
   refine Va J J ?_;refine Ds J J J ?_
   rcases ha with rfl | rfl <;>
   ·refine Da J J ?_
    refine Ns 12 J J J J J J J J J ?_;refine Da J J ?_;refine Ns 15 J J J J J J J J J ?_;refine DD ?_;refine Va J J ?_;exact EK (1007 :: wKeys 3) (Res.t0 Tryz.results136) ⟨J, J⟩ (Wpp [_, _, _] kg spg J ‹_› J J J J J J J J) J (.blk J J (Wsub 15 J J J J J J J J J J J J J J J J (Bs 3 J J J J (Bs 3 J J J J (Bs 3 J J J J .nil))))) XR
  ·refine OpP 1 1 J J J J fun bp bc br bs bg kp sp asd ksd aq0 kq0 aq1 kq1 kc spc kr spr ks sps kg spg hbg hmk => ?_; obtain ⟨g0, g1, g2, rfl⟩ := len3 hbg; clear hbg; refine NM J J ?_; dsimp only [wEnts, wCels, procCs, regEs, WX.of, vi]
   refine Va J J ?_;refine Ds J J J ?_
   rcases ha with rfl | rfl <;>
   ·refine Da J J ?_
    refine Ns 12 J J J J J J J J J ?_;refine Da J J ?_;refine Ns 15 J J J J J J J J J ?_;refine DD ?_;refine Va J J ?_;exact EK (1007 :: wKeys 3) (Res.t0 Tryz.results136) ⟨J, J⟩ (Wpp [_, _, _] kg spg J ‹_› J J J J J J J J) J (.blk J J (Wsub 15 J J J J J J J J J J J J J J J J (Bs 3 J J J J (Bs 3 J J J J (Bs 3 J J J J .nil))))) XR
  ·refine OpP 1 1 J J J J fun bp bc br bs bg kp sp asd ksd aq0 kq0 aq1 kq1 kc spc kr spr ks sps kg spg hbg hmk => ?_; obtain ⟨g0, g1, g2, rfl⟩ := len3 hbg; clear hbg; refine NM J J ?_; dsimp only [wEnts, wCels, procCs, regEs, WX.of, vi]
   refine Va J J ?_;refine Ds J J J ?_
   rcases ha with rfl | rfl <;>
   ·refine Da J J ?_
    refine Ns 12 J J J J J J J J J ?_;refine Da J J ?_;refine Ns 15 J J J J J J J J J ?_;refine DD ?_;refine Va J J ?_;exact EK (1007 :: wKeys 3) (Res.t0 Tryz.results136) ⟨J, J⟩ (Wpp [_, _, _] kg spg J ‹_› J J J J J J J J) J (.blk J J (Wsub 15 J J J J J J J J J J J J J J J J (Bs 3 J J J J (Bs 3 J J J J (Bs 3 J J J J .nil))))) XR
end
section
attribute [local irreducible] X Pure Mod
def Wld.stepS (W : Wld) (who : Nat) (s : Stm) : Wld :=
 if s.kind = 1 then W.upd who (·.set s.a s.n)
 else if s.kind = 2 then W.upd who (fun p => p.set s.a (numDo s.n (p.get s.a) (p.get s.b)).1)
 else if s.kind = 3 then W.upd who (·.set s.a (W.cell s.b))
 else if s.kind = 4 then W.setCell s.a (W.reg who s.b)
 else if s.kind = 5 then { W with said := W.said ++ [((who : Int), W.reg who s.a)] }
 else if s.kind = 6 then W.upd who (fun p => { p with todo := (if W.reg who s.a = 0 then s.els else s.body) ++ p.todo })
 else if s.kind = 7 then W.upd who (fun p => { p with todo := (if W.reg who s.a = 0 then [] else s.body ++ [s]) ++ p.todo })
 else if s.kind = 8 then (W.setRm s.a ((who : Int) + 1)).upd who (fun p => { p with room := s.a, todo := (s.body ++ [leaveS s.a]) ++ p.todo })
 else if s.kind = 9 then ((W.setRm (W.room who) 0).upd who (fun p => { p with mode := 1, on := s.a })).setQue s.a (W.que s.a ++ [(who : Int)])
 else if s.kind = 10 then W.signal s.a
 else if s.kind = 12 then (W.setRm s.a 0).upd who (fun p => { p with room := -1 })
 else W
def pop (p : Prc) : Prc := { p with todo := p.todo.tail }
def Wld.step (W : Wld) (who : Nat) : Wld := match W.procs[who]? with
 | some p => if p.mode = 2 then (W.setRm p.room ((who : Int) + 1)).upd who (fun p => { p with mode := 0 }) else match p.todo with
  | [] => W
  | s :: _ => (W.upd who pop).stepS who s
 | none => W
def is2 (a : Int) : Prop := a = 0 ∨ a = 1
def is3 (a : Int) : Prop := a = 0 ∨ a = 1 ∨ a = 2
structure SOk (s : Stm) (room : Int) : Prop where
 r1 : s.kind = 1 ∨ s.kind = 5 → is3 s.a
 r2 : s.kind = 2 ∨ s.kind = 3 ∨ s.kind = 4 → is3 s.a ∧ is3 s.b
 r6 : s.kind = 6 ∨ s.kind = 7 → is3 s.a ∧ s.body.length ≤ 1000 ∧ s.els.length ≤ 1000
 r8 : s.kind = 8 → is2 s.a ∧ s.body.length ≤ 1000
 r9 : s.kind = 9 → is2 s.a ∧ is2 room
 r10 : s.kind = 10 ∨ s.kind = 12 → is2 s.a
structure Rdy (W : Wld) : Prop where
 n1 : 1 ≤ W.procs.length
 n3 : W.procs.length ≤ 3
 sd : W.said.length ≤ 1000000
 q0 : W.q0.length ≤ 1000000
 q1 : W.q1.length ≤ 1000000
 f0 : ∀ f ∈ W.q0, 0 ≤ f ∧ f < W.procs.length
 f1 : ∀ f ∈ W.q1, 0 ≤ f ∧ f < W.procs.length
 tl : ∀ p ∈ W.procs, p.todo.length ≤ 1000000
abbrev DoPost (b : Nat) (W' : Wld) : Value → PH → HP → Prop := fun _ G' A' => ∃ ts', A' = worldP b W' ts' ∧ Tds G' W'.procs ts'
theorem Mod.post {P : Program} {f : FuncId} {vs : List Value} {G : PH} {A : HP} {Post Post' : Value → PH → HP → Prop} (h : Mod P f vs G A Post) (hp : ∀ v G' A', Post v G' A' → Post' v G' A') : Mod P f vs G A Post' := by
 unfold Mod at h ⊢
 exact fun w S h1 h2 h3 => (h w S h1 h2 h3).mono fun e w' ⟨v, G', A', S', q1, q2, q3⟩ => ⟨v, G', A', S', q1, hp v G' A' q2, q3⟩
theorem upd_tds {G : PH} {f : Prc → Prc} (hf : ∀ p, (f p).todo = p.todo) : ∀ {ps : List Prc} {ts : List Value} {i : Nat}, Tds G ps ts → Tds G (updL f i ps) ts
 | [], _, i, h => by cases i <;> exact h
 | p :: ps, t :: ts, 0, h => ⟨by rw [hf]; exact h.1, h.2⟩
 | p :: ps, t :: ts, i + 1, h => ⟨h.1, upd_tds hf h.2⟩
 | _ :: _, [], _, h => absurd h id
theorem Prc.set_todo (p : Prc) (k v : Int) : (p.set k v).todo = p.todo := by
 unfold Prc.set
 split
 ·rfl
 ·split <;> rfl
theorem setRm_procs (W : Wld) (a v : Int) : (W.setRm a v).procs = W.procs := by unfold Wld.setRm; split <;> rfl
theorem setCell_procs (W : Wld) (a v : Int) : (W.setCell a v).procs = W.procs := by
 unfold Wld.setCell
 split
 ·rfl
 ·split <;> rfl
theorem setQue_procs (W : Wld) (a : Int) (q : List Int) : (W.setQue a q).procs = W.procs := by unfold Wld.setQue; split <;> rfl
theorem signal_tds {G : PH} {W : Wld} {ts : List Value} (a : Int) (h : Tds G W.procs ts) : Tds G (W.signal a).procs ts := by
 unfold Wld.signal
 split
 ·exact h
 ·rw [setQue_procs]; exact upd_tds (f := fun p => { p with mode := 2, on := 0 }) (fun _ => J) h
theorem do_any (W : Wld) (who : Nat) (b : Nat) (ts : List Value) (G : PH) (hr : Rdy W) (ht : Tds G W.procs ts) (hw : who < W.procs.length) (s : Stm) (hs : SOk s (W.room who)) (hi : I64 s.kind ∧ I64 s.a ∧ I64 s.b ∧ I64 s.n)
  (A1 : Option Addr) (c1 : Nat) (A2 : Option Addr) (c2 : Nat) (hx : Sts G s.body (.slice A1 s.body.length c1)) (hy : Sts G s.els (.slice A2 s.els.length c2)) :
  ∃ t rv f, deedV s.kind s.a s.b s.n (.slice A1 s.body.length c1) (.slice A2 s.els.length c2) = .iface t rv ∧ (∀ args w, (callMethod (.iface t rv) "loop.example/changeringer/impl.do" args).run Tryz.prog w = .ok (.enter f (#[rv] ++ args)) w) ∧
   Mod Tryz.prog f [rv, .pointer (some ⟨b, 0, none⟩), .int .i64 (who : Nat)] G (worldP b W ts) (DoPost b (W.stepS who s)) := by
 obtain ⟨k, a, bb, n, x, y⟩ := s
 simp only [Stm.kind, Stm.a, Stm.b, Stm.n, Stm.body, Stm.els] at hs hi hx hy ⊢
 by_cases e1 : k = 1
 ·subst e1
  exact ⟨_, _, 115, rfl, fun args w => by kernel_rfl, (c_dNum W who b ts G hr.n1 hr.n3 ht hw a n (hs.r1 (.inl rfl))).post fun v G' A' ⟨h1, h2⟩ => ⟨ts, h2, by rw [h1]; exact upd_tds (fun p => Prc.set_todo _ _ _) ht⟩⟩
 by_cases e2 : k = 2
 ·subst e2
  obtain ⟨h1, h2⟩ := hs.r2 (.inl rfl)
  exact ⟨_, _, 116, rfl, fun args w => by kernel_rfl, (c_dOp W who b ts G hr.n1 hr.n3 ht hw a bb n h1 h2).post fun v G' A' ⟨h1, h2⟩ => ⟨ts, h2, by rw [h1]; exact upd_tds (fun p => Prc.set_todo _ _ _) ht⟩⟩
 by_cases e3 : k = 3
 ·subst e3
  obtain ⟨h1, h2⟩ := hs.r2 (.inr (.inl rfl))
  exact ⟨_, _, 125, rfl, fun args w => by kernel_rfl, (c_dLoad W who b ts G hr.n1 hr.n3 ht hw a bb h1 h2).post fun v G' A' ⟨h1, h2⟩ => ⟨ts, h2, by rw [h1]; exact upd_tds (fun p => Prc.set_todo _ _ _) ht⟩⟩
 by_cases e4 : k = 4
 ·subst e4
  obtain ⟨h1, h2⟩ := hs.r2 (.inr (.inr rfl))
  exact ⟨_, _, 126, rfl, fun args w => by kernel_rfl, (c_dStore W who b ts G hr.n1 hr.n3 ht hw a bb h1 h2).post fun v G' A' ⟨h1, h2⟩ => ⟨ts, h2, by rw [h1]; show Tds G (W.setCell a (W.reg who bb)).procs ts; rw [setCell_procs]; exact ht⟩⟩
 by_cases e5 : k = 5
 ·subst e5
  exact ⟨_, _, 127, rfl, fun args w => by kernel_rfl, (c_dSay W who b ts G hr.n1 hr.n3 ht hw hr.sd a (hs.r1 (.inr rfl))).post fun v G' A' ⟨h1, h2⟩ => ⟨ts, h2, by rw [h1]; exact ht⟩⟩
 by_cases e6 : k = 6
 ·subst e6
  obtain ⟨h1, h2, h3⟩ := hs.r6 (.inl rfl)
  exact ⟨_, _, 128, rfl, fun args w => by kernel_rfl, (c_dIf W who b ts G hr.n1 hr.n3 ht hw hr.tl 6 a bb n x y _ _ hx hy h2 h3 h1).post fun v G' A' ⟨tv, h1, h2⟩ => ⟨_, h1, h2⟩⟩
 by_cases e7 : k = 7
 ·subst e7
  obtain ⟨h1, h2, h3⟩ := hs.r6 (.inr rfl)
  exact ⟨_, _, 131, rfl, fun args w => by kernel_rfl, (c_dWhile W who b ts G hr.n1 hr.n3 ht hw hr.tl 7 a bb n x y _ _ hx hy hi h2 h1).post fun v G' A' ⟨tv, h1, h2⟩ => ⟨_, h1, h2⟩⟩
 by_cases e8 : k = 8
 ·subst e8
  obtain ⟨h1, h2⟩ := hs.r8 rfl
  exact ⟨_, _, 133, rfl, fun args w => by kernel_rfl, (c_dIn W who b ts G hr.n1 hr.n3 ht hw hr.tl 8 a bb n x _ _ _ _ hx h2 h1).post fun v G' A' ⟨tv, h1, h2⟩ => ⟨_, h1, h2⟩⟩
 by_cases e9 : k = 9
 ·subst e9
  obtain ⟨h1, h2⟩ := hs.r9 rfl
  exact ⟨_, _, 134, rfl, fun args w => by kernel_rfl, (c_dWait W who b ts G hr.n1 hr.n3 ht hw hr.q0 hr.q1 h2 a h1).post fun v G' A' ⟨h1, h2⟩ => ⟨ts, h2, by
   rw [h1]
   show Tds G (((W.setRm (W.room who) 0).upd who (fun p => { p with mode := 1, on := a })).setQue a (W.que a ++ [(who : Int)])).procs ts
   rw [setQue_procs]
   refine upd_tds (f := fun p => { p with mode := 1, on := a }) (fun _ => J) ?_
   rw [setRm_procs]; exact ht⟩⟩
 by_cases e10 : k = 10
 ·subst e10
  exact ⟨_, _, 135, rfl, fun args w => by kernel_rfl, (c_dSignal W who b ts G hr.n1 hr.n3 ht hr.q0 hr.q1 hr.f0 hr.f1 a (hs.r10 (.inl rfl))).post fun v G' A' ⟨h1, h2⟩ => ⟨ts, h2, by rw [h1]; exact signal_tds a ht⟩⟩
 by_cases e12 : k = 12
 ·subst e12
  exact ⟨_, _, 136, rfl, fun args w => by kernel_rfl, (c_dLeave W who b ts G hr.n1 hr.n3 ht hw a (hs.r10 (.inr rfl))).post fun v G' A' ⟨h1, h2⟩ => ⟨ts, h2, by
   rw [h1]
   show Tds G ((W.setRm a 0).upd who (fun p => { p with room := -1 })).procs ts
   refine upd_tds (f := fun p => { p with room := -1 }) (fun _ => J) ?_
   rw [setRm_procs]; exact ht⟩⟩
 ·refine ⟨129, .agg #[], 137, by simp [deedV, e1, e2, e3, e4, e5, e6, e7, e8, e9, e10, e12], fun args w => by kernel_rfl, (c_dYield _ b G _).post fun v G' A' ⟨h1, h2⟩ => ⟨ts, ?_, ?_⟩⟩
  ·rw [h2]; simp [Wld.stepS, Stm.kind, e1, e2, e3, e4, e5, e6, e7, e8, e9, e10, e12]
  ·rw [h1]; simp [Wld.stepS, Stm.kind, e1, e2, e3, e4, e5, e6, e7, e8, e9, e10, e12]; exact ht
theorem Sts_tail {G : PH} {s : Stm} {r : List Stm} {A : Option Addr} {c : Nat} (h : Sts G (s :: r) (.slice A (r.length + 1) c)) : Sts G r (.slice (if c = 1 then A else A.map (·.add (1 * 6))) r.length (c - 1)) := by
 obtain ⟨A', c', e, h1, h2, h3, h4⟩ := h
 cases e
 simp only [List.length_cons] at h1 h2 h4
 refine ⟨_, _, J, by omega, by omega, by omega, ?_⟩
 rcases h4 with h4 | ⟨ad, rfl, h5⟩
 ·omega
 ·by_cases hr : r.length = 0
  ·exact .inl hr
  ·right
   rw [if_neg (by omega)]
   exact ⟨_, J, h5.2⟩
theorem mem_updL {α : Type} {f : α → α} {x : α} : ∀ {l : List α} {i : Nat}, x ∈ updL f i l → x ∈ l ∨ ∃ y ∈ l, x = f y
 | [], i, h => by cases i <;> cases h
 | y :: l, 0, h => by
  rcases List.mem_cons.1 h with rfl | h
  ·exact .inr ⟨y, List.mem_cons_self .., J⟩
  ·exact .inl (List.mem_cons_of_mem _ h)
 | y :: l, i + 1, h => by
  rcases List.mem_cons.1 h with rfl | h
  ·exact .inl (List.mem_cons_self ..)
  ·rcases mem_updL h with h | ⟨z, hz, rfl⟩
   ·exact .inl (List.mem_cons_of_mem _ h)
   ·exact .inr ⟨z, List.mem_cons_of_mem _ hz, J⟩
theorem length_updL {α : Type} {f : α → α} : ∀ (l : List α) (i : Nat), (updL f i l).length = l.length
 | [], i => by cases i <;> rfl
 | y :: l, 0 => rfl
 | y :: l, i + 1 => by simp [updL, length_updL l i]
theorem Rdy.pop {W : Wld} (h : Rdy W) (who : Nat) : Rdy (W.upd who pop) := by
 refine ⟨?_, ?_, h.sd, h.q0, h.q1, ?_, ?_, ?_⟩
 ·show 1 ≤ (updL _ _ _).length; rw [length_updL]; exact h.n1
 ·show (updL _ _ _).length ≤ 3; rw [length_updL]; exact h.n3
 ·show ∀ f ∈ W.q0, 0 ≤ f ∧ f < (updL _ _ _).length; rw [length_updL]; exact h.f0
 ·show ∀ f ∈ W.q1, 0 ≤ f ∧ f < (updL _ _ _).length; rw [length_updL]; exact h.f1
 ·intro p hp
  rcases mem_updL (show p ∈ updL Go.Proofs.YtcbdilccmjpnbaaGreat.pop who W.procs from hp) with hp | ⟨q, hq, rfl⟩
  ·exact h.tl p hp
  ·have := h.tl q hq
   simp only [Go.Proofs.YtcbdilccmjpnbaaGreat.pop, List.length_tail]; omega
theorem step_eq {W : Wld} {who : Nat} {p : Prc} {s : Stm} {r : List Stm} (hp : W.procs[who]? = some p) (hm : p.mode ≠ 2) (ht : p.todo = s :: r) : W.step who = (W.upd who pop).stepS who s := by
 simp [Wld.step, hp, hm, ht]
theorem c_step (W : Wld) (who : Nat) (b : Nat) (ts : List Value) (G : PH) (hr : Rdy W) (ht : Tds G W.procs ts) (hw : who < W.procs.length) (hc : ∀ p, W.procs[who]? = some p → (p.mode = 2 → is2 p.room) ∧ (p.mode ≠ 2 → ∃ s r, p.todo = s :: r ∧ SOk s p.room)) :
  Mod Tryz.prog 58 [.pointer (some ⟨b, 0, none⟩), .int .i64 (who : Nat)] G (worldP b W ts) (DoPost b (W.step who)) := by
 have hste : ∀ p s r, W.procs[who]? = some p → p.mode ≠ 2 → p.todo = s :: r → W.step who = (W.upd who pop).stepS who s := fun p s r h1 h2 h3 => step_eq h1 h2 h3
 refine Mod.intro Tryz.func58 Tryz.ntmps58 J J fun w S => ?_;obtain ⟨ps, x0, x1, x2, m0, m1, q0, q1, sd⟩ := W
 rcases shape hr.n1 hr.n3 ht with ⟨⟨a0, a1, a2, td0, mo0, on0, ro0⟩, A0, k0, rfl, rfl, s0⟩ | ⟨⟨a0, a1, a2, td0, mo0, on0, ro0⟩, A0, k0, ⟨b0, b1, b2, td1, mo1, on1, ro1⟩, A1, k1, rfl, rfl, s0, s1⟩ | ⟨⟨a0, a1, a2, td0, mo0, on0, ro0⟩, A0, k0, ⟨b0, b1, b2, td1, mo1, on1, ro1⟩, A1, k1, ⟨d0, d1, d2, td2, mo2, on2, ro2⟩, A2, k2, rfl, rfl, s0, s1, s2⟩
 ·obtain rfl : who = 0 := by simpa using hw
  have hc' := hc _ rfl
  simp only at hc'
  by_cases hm : mo0 = 2
  ·subst hm
   have hro := hc'.1 rfl
   refine OpP 1 0 J J J J fun bp bc br bs bg kp sp asd ksd aq0 kq0 aq1 kq1 kc spc kr spr ks sps kg spg hbg hmk => ?_; obtain ⟨g0, rfl⟩ := len1 hbg; clear hbg; refine NM J J ?_; dsimp only [wEnts, wCels, procCs, regEs, WX.of, vi]
   refine Va J J ?_
   rcases hro with rfl | rfl <;>
   ·refine RT J J ?_
    refine Va J J ?_;refine Ds J J J ?_;refine Da J J ?_;refine D_val 10 J J J J J J J J J (V_add J J (by omega)) ?_;refine Da J J ?_;refine Ns 12 J J J J J J J J J ?_;refine Da J J ?_;refine Ns 15 J J J J J J J J J ?_;refine DD ?_;refine Va J J ?_;exact RK (1007 :: wKeys 1) (Res.t0 Tryz.results58) ⟨[_], J, ht⟩ (Wpp [_] kg spg J ‹_› J J J J J J J J) J (.blk J J (Wsub 5 J J J J J J J J J J J J J J J J (Bs 3 J J J J .nil))) XR
  ·obtain ⟨s, r, rfl, hs⟩ := hc'.2 hm
   have hst := hste _ s r rfl hm rfl
   obtain ⟨ad, vx, vy, rfl, hcs, hx, hy, i1, i2, i3, i4⟩ := Sts_head s0
   obtain ⟨Ax, cx, rfl, _⟩ := id hx
   obtain ⟨Ay, cy, rfl, _⟩ := id hy
   obtain ⟨t, rv, f, hd, hcm, hmod⟩ := do_any _ 0 b [_] G (hr.pop 0) (Tds_upd (PH.le.refl G) pop hw ht (Sts_tail s0)) (by show 0 < (updL _ _ _).length; rw [length_updL]; exact hw) s hs ⟨i1, i2, i3, i4⟩ Ax cx Ay cy hx hy
   refine OpP 1 0 J J J J fun bp bc br bs bg kp sp asd ksd aq0 kq0 aq1 kq1 kc spc kr spr ks sps kg spg hbg hmk => ?_; obtain ⟨g0, rfl⟩ := len1 hbg; clear hbg; refine NM J J ?_; dsimp only [wEnts, wCels, procCs, regEs, WX.of, vi]
   refine Va J J ?_;refine RF J (by simp [hm]) ?_;refine Va J J ?_
   refine S_index Tk J J J J J J (by omega) (by simp <;> omega) ?_
   refine S_loadA Tk J J J J J (by simpa [add_zero'] using hcs) ?_;refine Va J J ?_;refine AZ ZT_ok J J J J fun b5 => ?_;refine Va J J ?_;refine S_valV J J J (V_slice1 Tk J J J) ?_;refine Va J J ?_;refine S_call Tryz.call74 (c_deedOf _ _ _ _ _ _ _ _ _ _ _) J J J ?_;rintro v G' ⟨rfl, rfl⟩ _
   rw [hd]
   refine Va J J ?_;refine S_invokePk 9 (1007 :: wKeys 1) hcm hmod (Wpp [_] kg spg J ‹_› J J J J J J J J) J (.blk J J (Wsub 5 J J J J J J J J J J J J J J J J (Bs 3 J J J J .nil))) J J J J ?_;rintro v G' A' ⟨ts', rfl, htd⟩ hext
   refine Va J J ?_;exact S_endm 9 (Res.t0 Tryz.results58) J hext ⟨ts', by rw [hst], by rw [hst]; exact htd⟩
 ·rcases (by simp at hw; omega : who = 0 ∨ who = 1) with rfl | rfl
  ·have hc' := hc _ rfl
   simp only at hc'
   by_cases hm : mo0 = 2
   ·subst hm
    have hro := hc'.1 rfl
    refine OpP 1 0 J J J J fun bp bc br bs bg kp sp asd ksd aq0 kq0 aq1 kq1 kc spc kr spr ks sps kg spg hbg hmk => ?_; obtain ⟨g0, g1, rfl⟩ := len2 hbg; clear hbg; refine NM J J ?_; dsimp only [wEnts, wCels, procCs, regEs, WX.of, vi]
    refine Va J J ?_
    rcases hro with rfl | rfl <;>
    ·refine RT J J ?_
     refine Va J J ?_;refine Ds J J J ?_;refine Da J J ?_;refine D_val 10 J J J J J J J J J (V_add J J (by omega)) ?_;refine Da J J ?_;refine Ns 12 J J J J J J J J J ?_;refine Da J J ?_;refine Ns 15 J J J J J J J J J ?_;refine DD ?_;refine Va J J ?_;exact RK (1007 :: wKeys 2) (Res.t0 Tryz.results58) ⟨[_,_], J, ht⟩ (Wpp [_, _] kg spg J ‹_› J J J J J J J J) J (.blk J J (Wsub 10 J J J J J J J J J J J J J J J J (Bs 3 J J J J (Bs 3 J J J J .nil)))) XR
   ·obtain ⟨s, r, rfl, hs⟩ := hc'.2 hm
    have hst := hste _ s r rfl hm rfl
    obtain ⟨ad, vx, vy, rfl, hcs, hx, hy, i1, i2, i3, i4⟩ := Sts_head s0
    obtain ⟨Ax, cx, rfl, _⟩ := id hx
    obtain ⟨Ay, cy, rfl, _⟩ := id hy
    obtain ⟨t, rv, f, hd, hcm, hmod⟩ := do_any _ 0 b [_,_] G (hr.pop 0) (Tds_upd (PH.le.refl G) pop hw ht (Sts_tail s0)) (by show 0 < (updL _ _ _).length; rw [length_updL]; exact hw) s hs ⟨i1, i2, i3, i4⟩ Ax cx Ay cy hx hy
    refine OpP 1 0 J J J J fun bp bc br bs bg kp sp asd ksd aq0 kq0 aq1 kq1 kc spc kr spr ks sps kg spg hbg hmk => ?_; obtain ⟨g0, g1, rfl⟩ := len2 hbg; clear hbg; refine NM J J ?_; dsimp only [wEnts, wCels, procCs, regEs, WX.of, vi]
    refine Va J J ?_;refine RF J (by simp [hm]) ?_;refine Va J J ?_
    refine S_index Tk J J J J J J (by omega) (by simp <;> omega) ?_
    refine S_loadA Tk J J J J J (by simpa [add_zero'] using hcs) ?_;refine Va J J ?_;refine AZ ZT_ok J J J J fun b5 => ?_;refine Va J J ?_;refine S_valV J J J (V_slice1 Tk J J J) ?_;refine Va J J ?_;refine S_call Tryz.call74 (c_deedOf _ _ _ _ _ _ _ _ _ _ _) J J J ?_;rintro v G' ⟨rfl, rfl⟩ _
    rw [hd]
    refine Va J J ?_;refine S_invokePk 9 (1007 :: wKeys 2) hcm hmod (Wpp [_, _] kg spg J ‹_› J J J J J J J J) J (.blk J J (Wsub 10 J J J J J J J J J J J J J J J J (Bs 3 J J J J (Bs 3 J J J J .nil)))) J J J J ?_;rintro v G' A' ⟨ts', rfl, htd⟩ hext
    refine Va J J ?_;exact S_endm 9 (Res.t0 Tryz.results58) J hext ⟨ts', by rw [hst], by rw [hst]; exact htd⟩
  ·have hc' := hc _ rfl
   simp only at hc'
   by_cases hm : mo1 = 2
   ·subst hm
    have hro := hc'.1 rfl
    refine OpP 1 0 J J J J fun bp bc br bs bg kp sp asd ksd aq0 kq0 aq1 kq1 kc spc kr spr ks sps kg spg hbg hmk => ?_; obtain ⟨g0, g1, rfl⟩ := len2 hbg; clear hbg; refine NM J J ?_; dsimp only [wEnts, wCels, procCs, regEs, WX.of, vi]
    refine Va J J ?_
    rcases hro with rfl | rfl <;>
    ·refine RT J J ?_
     refine Va J J ?_;refine Ds J J J ?_;refine Da J J ?_;refine D_val 10 J J J J J J J J J (V_add J J (by omega)) ?_;refine Da J J ?_;refine Ns 12 J J J J J J J J J ?_;refine Da J J ?_;refine Ns 15 J J J J J J J J J ?_;refine DD ?_;refine Va J J ?_;exact RK (1007 :: wKeys 2) (Res.t0 Tryz.results58) ⟨[_,_], J, ht⟩ (Wpp [_, _] kg spg J ‹_› J J J J J J J J) J (.blk J J (Wsub 10 J J J J J J J J J J J J J J J J (Bs 3 J J J J (Bs 3 J J J J .nil)))) XR
   ·obtain ⟨s, r, rfl, hs⟩ := hc'.2 hm
    have hst := hste _ s r rfl hm rfl
    obtain ⟨ad, vx, vy, rfl, hcs, hx, hy, i1, i2, i3, i4⟩ := Sts_head s1
    obtain ⟨Ax, cx, rfl, _⟩ := id hx
    obtain ⟨Ay, cy, rfl, _⟩ := id hy
    obtain ⟨t, rv, f, hd, hcm, hmod⟩ := do_any _ 1 b [_,_] G (hr.pop 1) (Tds_upd (PH.le.refl G) pop hw ht (Sts_tail s1)) (by show 1 < (updL _ _ _).length; rw [length_updL]; exact hw) s hs ⟨i1, i2, i3, i4⟩ Ax cx Ay cy hx hy
    refine OpP 1 0 J J J J fun bp bc br bs bg kp sp asd ksd aq0 kq0 aq1 kq1 kc spc kr spr ks sps kg spg hbg hmk => ?_; obtain ⟨g0, g1, rfl⟩ := len2 hbg; clear hbg; refine NM J J ?_; dsimp only [wEnts, wCels, procCs, regEs, WX.of, vi]
    refine Va J J ?_;refine RF J (by simp [hm]) ?_;refine Va J J ?_
    refine S_index Tk J J J J J J (by omega) (by simp <;> omega) ?_
    refine S_loadA Tk J J J J J (by simpa [add_zero'] using hcs) ?_;refine Va J J ?_;refine AZ ZT_ok J J J J fun b5 => ?_;refine Va J J ?_;refine S_valV J J J (V_slice1 Tk J J J) ?_;refine Va J J ?_;refine S_call Tryz.call74 (c_deedOf _ _ _ _ _ _ _ _ _ _ _) J J J ?_;rintro v G' ⟨rfl, rfl⟩ _
    rw [hd]
    refine Va J J ?_;refine S_invokePk 9 (1007 :: wKeys 2) hcm hmod (Wpp [_, _] kg spg J ‹_› J J J J J J J J) J (.blk J J (Wsub 10 J J J J J J J J J J J J J J J J (Bs 3 J J J J (Bs 3 J J J J .nil)))) J J J J ?_;rintro v G' A' ⟨ts', rfl, htd⟩ hext
    refine Va J J ?_;exact S_endm 9 (Res.t0 Tryz.results58) J hext ⟨ts', by rw [hst], by rw [hst]; exact htd⟩
 ·rcases (by simp at hw; omega : who = 0 ∨ who = 1 ∨ who = 2) with rfl | rfl | rfl
  ·have hc' := hc _ rfl
   simp only at hc'
   by_cases hm : mo0 = 2
   ·subst hm
    have hro := hc'.1 rfl
    refine OpP 1 0 J J J J fun bp bc br bs bg kp sp asd ksd aq0 kq0 aq1 kq1 kc spc kr spr ks sps kg spg hbg hmk => ?_; obtain ⟨g0, g1, g2, rfl⟩ := len3 hbg; clear hbg; refine NM J J ?_; dsimp only [wEnts, wCels, procCs, regEs, WX.of, vi]
    refine Va J J ?_
    rcases hro with rfl | rfl <;>
    ·refine RT J J ?_
     refine Va J J ?_;refine Ds J J J ?_;refine Da J J ?_;refine D_val 10 J J J J J J J J J (V_add J J (by omega)) ?_;refine Da J J ?_;refine Ns 12 J J J J J J J J J ?_;refine Da J J ?_;refine Ns 15 J J J J J J J J J ?_;refine DD ?_;refine Va J J ?_;exact RK (1007 :: wKeys 3) (Res.t0 Tryz.results58) ⟨[_,_,_], J, ht⟩ (Wpp [_, _, _] kg spg J ‹_› J J J J J J J J) J (.blk J J (Wsub 15 J J J J J J J J J J J J J J J J (Bs 3 J J J J (Bs 3 J J J J (Bs 3 J J J J .nil))))) XR
   ·obtain ⟨s, r, rfl, hs⟩ := hc'.2 hm
    have hst := hste _ s r rfl hm rfl
    obtain ⟨ad, vx, vy, rfl, hcs, hx, hy, i1, i2, i3, i4⟩ := Sts_head s0
    obtain ⟨Ax, cx, rfl, _⟩ := id hx
    obtain ⟨Ay, cy, rfl, _⟩ := id hy
    obtain ⟨t, rv, f, hd, hcm, hmod⟩ := do_any _ 0 b [_,_,_] G (hr.pop 0) (Tds_upd (PH.le.refl G) pop hw ht (Sts_tail s0)) (by show 0 < (updL _ _ _).length; rw [length_updL]; exact hw) s hs ⟨i1, i2, i3, i4⟩ Ax cx Ay cy hx hy
    refine OpP 1 0 J J J J fun bp bc br bs bg kp sp asd ksd aq0 kq0 aq1 kq1 kc spc kr spr ks sps kg spg hbg hmk => ?_; obtain ⟨g0, g1, g2, rfl⟩ := len3 hbg; clear hbg; refine NM J J ?_; dsimp only [wEnts, wCels, procCs, regEs, WX.of, vi]
    refine Va J J ?_;refine RF J (by simp [hm]) ?_;refine Va J J ?_
    refine S_index Tk J J J J J J (by omega) (by simp <;> omega) ?_
    refine S_loadA Tk J J J J J (by simpa [add_zero'] using hcs) ?_;refine Va J J ?_;refine AZ ZT_ok J J J J fun b5 => ?_;refine Va J J ?_;refine S_valV J J J (V_slice1 Tk J J J) ?_;refine Va J J ?_;refine S_call Tryz.call74 (c_deedOf _ _ _ _ _ _ _ _ _ _ _) J J J ?_;rintro v G' ⟨rfl, rfl⟩ _
    rw [hd]
    refine Va J J ?_;refine S_invokePk 9 (1007 :: wKeys 3) hcm hmod (Wpp [_, _, _] kg spg J ‹_› J J J J J J J J) J (.blk J J (Wsub 15 J J J J J J J J J J J J J J J J (Bs 3 J J J J (Bs 3 J J J J (Bs 3 J J J J .nil))))) J J J J ?_;rintro v G' A' ⟨ts', rfl, htd⟩ hext
    refine Va J J ?_;exact S_endm 9 (Res.t0 Tryz.results58) J hext ⟨ts', by rw [hst], by rw [hst]; exact htd⟩
  ·have hc' := hc _ rfl
   simp only at hc'
   by_cases hm : mo1 = 2
   ·subst hm
    have hro := hc'.1 rfl
    refine OpP 1 0 J J J J fun bp bc br bs bg kp sp asd ksd aq0 kq0 aq1 kq1 kc spc kr spr ks sps kg spg hbg hmk => ?_; obtain ⟨g0, g1, g2, rfl⟩ := len3 hbg; clear hbg; refine NM J J ?_; dsimp only [wEnts, wCels, procCs, regEs, WX.of, vi]
    refine Va J J ?_
    rcases hro with rfl | rfl <;>
    ·refine RT J J ?_
     refine Va J J ?_;refine Ds J J J ?_;refine Da J J ?_;refine D_val 10 J J J J J J J J J (V_add J J (by omega)) ?_;refine Da J J ?_;refine Ns 12 J J J J J J J J J ?_;refine Da J J ?_;refine Ns 15 J J J J J J J J J ?_;refine DD ?_;refine Va J J ?_;exact RK (1007 :: wKeys 3) (Res.t0 Tryz.results58) ⟨[_,_,_], J, ht⟩ (Wpp [_, _, _] kg spg J ‹_› J J J J J J J J) J (.blk J J (Wsub 15 J J J J J J J J J J J J J J J J (Bs 3 J J J J (Bs 3 J J J J (Bs 3 J J J J .nil))))) XR
   ·obtain ⟨s, r, rfl, hs⟩ := hc'.2 hm
    have hst := hste _ s r rfl hm rfl
    obtain ⟨ad, vx, vy, rfl, hcs, hx, hy, i1, i2, i3, i4⟩ := Sts_head s1
    obtain ⟨Ax, cx, rfl, _⟩ := id hx
    obtain ⟨Ay, cy, rfl, _⟩ := id hy
    obtain ⟨t, rv, f, hd, hcm, hmod⟩ := do_any _ 1 b [_,_,_] G (hr.pop 1) (Tds_upd (PH.le.refl G) pop hw ht (Sts_tail s1)) (by show 1 < (updL _ _ _).length; rw [length_updL]; exact hw) s hs ⟨i1, i2, i3, i4⟩ Ax cx Ay cy hx hy
    refine OpP 1 0 J J J J fun bp bc br bs bg kp sp asd ksd aq0 kq0 aq1 kq1 kc spc kr spr ks sps kg spg hbg hmk => ?_; obtain ⟨g0, g1, g2, rfl⟩ := len3 hbg; clear hbg; refine NM J J ?_; dsimp only [wEnts, wCels, procCs, regEs, WX.of, vi]
    refine Va J J ?_;refine RF J (by simp [hm]) ?_;refine Va J J ?_
    refine S_index Tk J J J J J J (by omega) (by simp <;> omega) ?_
    refine S_loadA Tk J J J J J (by simpa [add_zero'] using hcs) ?_;refine Va J J ?_;refine AZ ZT_ok J J J J fun b5 => ?_;refine Va J J ?_;refine S_valV J J J (V_slice1 Tk J J J) ?_;refine Va J J ?_;refine S_call Tryz.call74 (c_deedOf _ _ _ _ _ _ _ _ _ _ _) J J J ?_;rintro v G' ⟨rfl, rfl⟩ _
    rw [hd]
    refine Va J J ?_;refine S_invokePk 9 (1007 :: wKeys 3) hcm hmod (Wpp [_, _, _] kg spg J ‹_› J J J J J J J J) J (.blk J J (Wsub 15 J J J J J J J J J J J J J J J J (Bs 3 J J J J (Bs 3 J J J J (Bs 3 J J J J .nil))))) J J J J ?_;rintro v G' A' ⟨ts', rfl, htd⟩ hext
    refine Va J J ?_;exact S_endm 9 (Res.t0 Tryz.results58) J hext ⟨ts', by rw [hst], by rw [hst]; exact htd⟩
  ·have hc' := hc _ rfl
   simp only at hc'
   by_cases hm : mo2 = 2
   ·subst hm
    have hro := hc'.1 rfl
    refine OpP 1 0 J J J J fun bp bc br bs bg kp sp asd ksd aq0 kq0 aq1 kq1 kc spc kr spr ks sps kg spg hbg hmk => ?_; obtain ⟨g0, g1, g2, rfl⟩ := len3 hbg; clear hbg; refine NM J J ?_; dsimp only [wEnts, wCels, procCs, regEs, WX.of, vi]
    refine Va J J ?_
    rcases hro with rfl | rfl <;>
    ·refine RT J J ?_
     refine Va J J ?_;refine Ds J J J ?_;refine Da J J ?_;refine D_val 10 J J J J J J J J J (V_add J J (by omega)) ?_;refine Da J J ?_;refine Ns 12 J J J J J J J J J ?_;refine Da J J ?_;refine Ns 15 J J J J J J J J J ?_;refine DD ?_;refine Va J J ?_;exact RK (1007 :: wKeys 3) (Res.t0 Tryz.results58) ⟨[_,_,_], J, ht⟩ (Wpp [_, _, _] kg spg J ‹_› J J J J J J J J) J (.blk J J (Wsub 15 J J J J J J J J J J J J J J J J (Bs 3 J J J J (Bs 3 J J J J (Bs 3 J J J J .nil))))) XR
   ·obtain ⟨s, r, rfl, hs⟩ := hc'.2 hm
    have hst := hste _ s r rfl hm rfl
    obtain ⟨ad, vx, vy, rfl, hcs, hx, hy, i1, i2, i3, i4⟩ := Sts_head s2
    obtain ⟨Ax, cx, rfl, _⟩ := id hx
    obtain ⟨Ay, cy, rfl, _⟩ := id hy
    obtain ⟨t, rv, f, hd, hcm, hmod⟩ := do_any _ 2 b [_,_,_] G (hr.pop 2) (Tds_upd (PH.le.refl G) pop hw ht (Sts_tail s2)) (by show 2 < (updL _ _ _).length; rw [length_updL]; exact hw) s hs ⟨i1, i2, i3, i4⟩ Ax cx Ay cy hx hy
    refine OpP 1 0 J J J J fun bp bc br bs bg kp sp asd ksd aq0 kq0 aq1 kq1 kc spc kr spr ks sps kg spg hbg hmk => ?_; obtain ⟨g0, g1, g2, rfl⟩ := len3 hbg; clear hbg; refine NM J J ?_; dsimp only [wEnts, wCels, procCs, regEs, WX.of, vi]
    refine Va J J ?_;refine RF J (by simp [hm]) ?_;refine Va J J ?_
    refine S_index Tk J J J J J J (by omega) (by simp <;> omega) ?_
    refine S_loadA Tk J J J J J (by simpa [add_zero'] using hcs) ?_;refine Va J J ?_;refine AZ ZT_ok J J J J fun b5 => ?_;refine Va J J ?_;refine S_valV J J J (V_slice1 Tk J J J) ?_;refine Va J J ?_;refine S_call Tryz.call74 (c_deedOf _ _ _ _ _ _ _ _ _ _ _) J J J ?_;rintro v G' ⟨rfl, rfl⟩ _
    rw [hd]
    refine Va J J ?_;refine S_invokePk 9 (1007 :: wKeys 3) hcm hmod (Wpp [_, _, _] kg spg J ‹_› J J J J J J J J) J (.blk J J (Wsub 15 J J J J J J J J J J J J J J J J (Bs 3 J J J J (Bs 3 J J J J (Bs 3 J J J J .nil))))) J J J J ?_;rintro v G' A' ⟨ts', rfl, htd⟩ hext
    refine Va J J ?_;exact S_endm 9 (Res.t0 Tryz.results58) J hext ⟨ts', by rw [hst], by rw [hst]; exact htd⟩
end
end Go.Proofs.YtcbdilccmjpnbaaGreat
