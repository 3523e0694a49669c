/- Walks of the program's functions, one after the other (part 11); without conditions of their own. -/
import Derived.Test.YtphbcboejmhaoaaGreatWM2
import Derived.Test.YtphbcboejmhaoaaGreatWM3
import Derived.Test.YtphbcboejmhaoaaGreatWM4
import Derived.Test.YtphbcboejmhaoaaGreatWM7
import Derived.Test.YtphbcboejmhaoaaGreatWM10
set_option linter.unusedVariables false
set_option linter.unusedSimpArgs false
set_option maxRecDepth 100000
set_option maxHeartbeats 4000000
open Go.RowKit
namespace Go.Proofs.YtphbcboejmhaoaaGreat
section
theorem denC_slc {ι : Ids} {j o n c : Nat} {v : Value} (h : denC ι (.s j o n c) = some v) : ∃ A, v = .slice A n c := by
 simp only [denC] at h
 cases hl : lookI j ι with
 | none => simp [hl] at h
 | some b => simp [hl] at h; exact ⟨_, h.symm⟩
theorem procCs_all {ι : Ids} {kg : Nat → Nat} {sp : List Value} : ∀ {ps : List Prc} {ts : List Value} {j i : Nat} {p : Prc} {t : Value} {vs : List Value}, denL ι (procCs kg sp j ps ts) = some vs → ts[i]? = some t → ps[i]? = some p → ∃ A cr, ∀ o v, [Value.slice A 3 cr, t, .int .i64 p.mode, .int .i64 p.on, .int .i64 p.room][o]? = some v → vs[5 * i + o]? = some v
 | [], _, _, i, _, _, _, _, _, hi => by simp at hi
 | p :: ps, [], _, i, _, _, _, h, ht, _ => by simp at ht
 | p :: ps, t0 :: ts, j, i, q, t, vs, h, ht, hp => by
  simp only [procCs] at h
  obtain ⟨v1, r1, e1, h1, rfl⟩ := denL_cons' h
  obtain ⟨v2, r2, e2, h2, rfl⟩ := denL_cons' h1
  obtain ⟨v3, r3, e3, h3, rfl⟩ := denL_cons' h2
  obtain ⟨v4, r4, e4, h4, rfl⟩ := denL_cons' h3
  obtain ⟨v5, r5, e5, h5, rfl⟩ := denL_cons' h4
  cases i with
  | zero =>
   simp only [List.getElem?_cons_zero, Option.some.injEq] at ht hp
   subst ht hp
   obtain ⟨A, rfl⟩ := denC_slc e1
   simp only [denC, vi, Option.some.injEq] at e2 e3 e4 e5
   subst e2 e3 e4 e5
   refine ⟨A, kg j, fun o v hv => ?_⟩
   match o, hv with
   | 0, hv => simpa using hv
   | 1, hv => simpa using hv
   | 2, hv => simpa using hv
   | 3, hv => simpa using hv
   | 4, hv => simpa using hv
   | o + 5, hv => simp at hv
  | succ i =>
   obtain ⟨A, cr, hh⟩ := procCs_all h5 (i := i) (by simpa using ht) (by simpa using hp)
   refine ⟨A, cr, fun o v hv => ?_⟩
   have := hh o v hv
   rw [show 5 * (i + 1) + o = (5 * i + o) + 1 + 1 + 1 + 1 + 1 by omega]
   simpa using this
theorem S_procW {C : Ctx} {k : List It} {E : Env} {ι : Ids} {L : List Ent} {G : PH} {all : Array Oper} {l : List Oper} {W : Wld} {ts : List Value} {d t : Nat} {ty : Nat} {pos : String} {af : Array Edge} {g : Option (Nat × Bool)} {T : Tab} (hT : tabOk C.P T) (κ : Nat) {os : List Nat} {x : Operand} {bp nn kp n : Nat} {c2 c3 c4 c5 v : Value} {ad : Addr} {p : Prc}
  (hL : getH κ L = some (worldV [.slice (some ⟨bp, 0, none⟩) nn kp, c2, c3, c4, c5] W ts)) (hx : ev E x = some (.val (.pointer (some ad)))) (ha : ad = ⟨bp, 5 * n, none⟩) (ht : lookT t T = some ⟨.agg, 5, os⟩) (hv : ts[n]? = some v) (hp : W.procs[n]? = some p) (hg : guardOf all E g = .on) (hN : Nat.ble (d + 1) C.n = true)
  (hk : ∀ A cr, X C (.ops all l :: k) ((d, .val (.agg #[.slice A 3 cr, v, .int .i64 p.mode, .int .i64 p.on, .int .i64 p.room])) :: E) ι L G) : X C (.ops all (⟨some d, .load t x, ty, pos, af, g⟩ :: l) :: k) E ι L G := by
 intro act w h1 h2 h3 h4
 obtain ⟨Ss, ho, _⟩ := h4.own
 obtain ⟨S, ⟨ι0, L0, Ss0, ⟨bp', bc, br, bs, bg, m, x', hl, hmk, hx', rfl, rfl, hcs⟩, hown, _⟩, _⟩ := owns_split ho hL
 have ex := ev_sound h3 hx
 simp only [denO, Option.some.injEq] at ex
 subst ha
 have hb : bp' = bp := by
  obtain ⟨v1, r1, e1, _, e2⟩ := denL_cons' hcs
  simp only [List.cons.injEq] at e2
  rw [← e2.1] at e1
  simp [denC, wIds, lookI] at e1
  exact e1.1
 subst hb
 cases Ss0 with
 | nil => exact absurd hown id
 | cons S1 Ss1 =>
  obtain ⟨⟨b, vs, q1, q2, q3, _⟩, _⟩ := hown
  have hbb : b = bp' := by simpa [wIds, lookI] using q1.symm
  subst hbb
  obtain ⟨A, cr, hh⟩ := procCs_all q2 hv hp
  have hcell : ∀ j u, [Value.slice A 3 cr, v, .int .i64 p.mode, .int .i64 p.on, .int .i64 p.room][j]? = some u → w.cell? ((⟨b, 5 * n, none⟩ : Addr).add j) = some u := by
   intro j u hj
   rw [add_lit']
   simp [World.cell?, q3, hh j u hj]
  have hr := run_loadCells_list (P := C.P) (w := w) ⟨b, 5 * n, none⟩ _ hcell
  have hrun : (execOp act.eval ⟨some d, .load t x, ty, pos, af, g⟩).run C.P w = .ok (.value (.agg #[.slice A 3 cr, v, .int .i64 p.mode, .int .i64 p.on, .int .i64 p.room])) w := by
   simp only [execOp, ← ex]
   simp only [List.length_cons, List.length_nil, Nat.zero_add, Nat.reduceAdd] at hr
   simp [Instr.loadAt, loadVar, Instr.sureAddr, tyOk_agg (hT _ _ ht), TK.isAgg, tyOk_size (hT _ _ ht), hr]
  refine wpE_val (guardOf_on h3 hg) (by intro c h; cases h) hrun ?_
  have hdn : d < act.tmps.size := by rw [h2]; exact Nat.le_of_ble_eq_true hN
  exact hk A cr _ _ h1 (by simp [Act.put, h2]) (h3.put hdn J) h4
end
section
attribute [local irreducible] X Pure Mod
def CkRow (G : PH) (n : Nat) (f : Nat → Nat → Int) (m : Nat) (vs : List Value) : Prop := vs.length = m ∧ ∀ i v, vs[i]? = some v → Ints G (clkL n (f i)) v
theorem CkRow_le {G G' : PH} (hl : G.le G') {n m : Nat} {f : Nat → Nat → Int} {vs : List Value} (h : CkRow G n f m vs) : CkRow G' n f m vs := ⟨h.1, fun i v hv => Ints_le hl (h.2 i v hv)⟩
theorem CkRow_nil (G : PH) (n : Nat) (f : Nat → Nat → Int) : CkRow G n f 0 [] := ⟨rfl, fun i v h => by simp at h⟩
theorem CkRow_snoc {G : PH} {n m : Nat} {f : Nat → Nat → Int} {vs : List Value} {v : Value} (h : CkRow G n f m vs) (hv : Ints G (clkL n (f m)) v) : CkRow G n f (m + 1) (vs ++ [v]) := by
 refine ⟨by rw [List.length_append, h.1]; rfl, fun i u hu => ?_⟩
 rw [List.getElem?_append] at hu
 split at hu
 ·exact h.2 i u hu
 ·have hi : i - vs.length = 0 := by
   rcases hq : i - vs.length with _ | j
   ·rfl
   ·rw [hq] at hu; simp at hu
  rw [hi] at hu
  have : i = m := by have := h.1; omega
  subst this
  simp only [List.getElem?_cons_zero, Option.some.injEq] at hu
  exact hu ▸ hv
theorem CkRow_set {G : PH} {n m i : Nat} {f : Nat → Nat → Int} {x : Nat → Int} {vs : List Value} {v : Value} (h : CkRow G n f m vs) (hv : Ints G (clkL n x) v) : CkRow G n (upF f i x) m (vs.set i v) := by
 refine ⟨by rw [List.length_set]; exact h.1, fun j u hu => ?_⟩
 rw [List.getElem?_set] at hu
 unfold upF
 split at hu
 ·rename_i e
  rw [if_pos e.symm]
  split at hu
  ·cases hu; exact hv
  ·cases hu
 ·rename_i e
  rw [if_neg (fun h => e h.symm)]
  exact h.2 j u hu
theorem CkRow_get {G : PH} {n m i : Nat} {f : Nat → Nat → Int} {vs : List Value} (h : CkRow G n f m vs) (hi : i < m) : ∃ A c, vs[i]? = some (.slice A n c) ∧ Ints G (clkL n (f i)) (.slice A n c) := by
 have hl : i < vs.length := by rw [h.1]; exact hi
 have e : vs[i]? = some vs[i] := List.getElem?_eq_getElem hl
 have := h.2 i _ e
 obtain ⟨A, c, hs⟩ := clk_sl this
 exact ⟨A, c, by rw [e, hs], hs ▸ this⟩
def mkRep (G : PH) (m : Mk) (cs : List Value) : Prop := ∃ A c, cs = [.int .i64 (m.who : Nat), .int .i64 (m.at_ : Nat), .bool m.store, .int .i64 m.cell, .slice A m.clock.length c] ∧ Ints G m.clock (.slice A m.clock.length c) ∧ I64 m.cell ∧ m.who < 3 ∧ m.at_ ≤ 200
theorem mkRep_le {G G' : PH} (hl : G.le G') {m : Mk} {cs : List Value} (h : mkRep G m cs) : mkRep G' m cs := by
 obtain ⟨A, c, e, h1, h2⟩ := h
 exact ⟨A, c, e, Ints_le hl h1, h2⟩
theorem mkRep_len {G : PH} (m : Mk) (cs : List Value) (h : mkRep G m cs) : cs.length = 5 := by
 obtain ⟨A, c, e, _⟩ := h
 rw [e]; rfl
theorem mkRep_one {G : PH} (m : Mk) (cs : List Value) (h : mkRep G m cs) : ∀ u ∈ cs, u.oneCell' = true := by
 obtain ⟨A, c, e, _⟩ := h
 rw [e]
 intro u hu
 simp at hu
 rcases hu with rfl | rfl | rfl | rfl | rfl <;> rfl
abbrev Mks (G : PH) (ms : List Mk) (v : Value) : Prop := Sr G 5 (mkRep G) ms v
theorem Mks_le {G G' : PH} (hl : G.le G') {ms : List Mk} {v : Value} (h : Mks G ms v) : Mks G' ms v := Sr_mono hl (fun _ _ _ h => mkRep_le hl h) h
def clkHP (n : Nat) (Ap : Option Addr) (cp : Nat) (vp : List Value) (Ar : Option Addr) (cr : Nat) (vr : List Value) (Am : Option Addr) (nm cm : Nat) (xm : List Value) : HP :=
 pairHP (rowO 0 24 1 Ap n cp vp) (pairHP (rowO 0 24 1 Ar 2 cr vr) (rowO 0 32 5 Am nm cm xm))
def ClkP (n : Nat) (C : Ck) (ms : List Mk) (v : Value) (G : PH) (A : HP) : Prop := ∃ Ap cp vp Ar cr vr Am cm xm, v = .agg #[.slice Ap n cp, .slice Ar 2 cr, .slice Am ms.length cm] ∧ A = clkHP n Ap cp vp Ar cr vr Am ms.length cm xm ∧ CkRow G n C.pr n vp ∧ CkRow G n C.rm 2 vr ∧ Cs 5 (mkRep G) ms xm
theorem repL_int (n : Nat) : repL n [.int .i64 0] = intC (clkL n fun _ => 0) := by
 induction n with
 | zero => rfl
 | succ n ih =>
  have e : ∀ m, repL m [Value.int .i64 0] ++ [.int .i64 0] = repL (m + 1) [.int .i64 0] := by
   intro m
   induction m with
   | zero => rfl
   | succ m ihm =>
    show (.int .i64 0 :: repL m [.int .i64 0]) ++ [.int .i64 0] = .int .i64 0 :: repL (m + 1) [.int .i64 0]
    rw [← ihm]; rfl
  rw [← e, ih, clkL_succ, intC_append]; rfl
theorem zero_ints {G : PH} {b n : Nat} (hn : n ≤ 3) : Ints (G.add b (.cells (repL n [.int .i64 0]).toArray 3 (0, 0))) (clkL n fun _ => 0) (.slice (some ⟨b, 0, none⟩) n n) := by
 have hg := gcells_add (G := G) (b := b) (ty := 3) (vs := repL n [.int .i64 0]) (pre := [])
 rw [List.nil_append] at hg
 refine Sx_Ints ⟨_, n, J, by omega, Nat.le_refl _, by simp only [maxLen]; omega, ?_, .inr ⟨_, rfl, ?_⟩⟩ (clkL_len _ _).symm ?_
 ·rw [← repL_int, repL_length]; simp
 ·rw [← repL_int]; exact hg
 ·intro x hx
  simp only [clkL, List.mem_map] at hx
  obtain ⟨_, _, rfl⟩ := hx
  exact ⟨by omega, by omega⟩
structure L7 where
 i : Nat
 A : Option Addr
 c : Nat
 vs : List Value
 G : PH
theorem c_l7Open (n : Nat) (G : PH) (h1 : 1 ≤ n) (hn : n ≤ 3) : Mod Tryz.prog 34 [.int .i64 (n : Nat)] G emptyHP (ClkP n Ck.zero []) := by
 refine Mod.intro0 Tryz.func34 Tryz.ntmps34 J J fun w => ?_;refine Va J J ?_;refine AZ ZT_ok J J J J fun b2 => ?_;refine Va J J ?_;refine S_emptyO Tk 12 J J J J fun Am => ?_;refine Va J J ?_;refine AZ ZT_ok J J J J fun b3 => ?_;refine Va J J ?_;refine S_nilO (base := w.heap.size) (e := 24) (size := 1) 20 ?_;refine S_pick [20, 3, 2, 12, 1] J ?_;refine S_loop (α := L7) (fun y => y.i ≤ n ∧ PH.ext w.heap.size G y.G ∧ CkRow y.G n (fun _ _ => 0) y.i y.vs) (fun y => n - y.i) [(2, b2), (3, b3)]
  (fun y => [(4, .val (.int .i64 (y.i : Nat))), (0, .val (.int .i64 (n : Nat))), (2, .ptr 2 0), (3, .ptr 3 0)])
  (fun y => [.hp 20 (rowO w.heap.size 24 1 y.A y.i y.c y.vs), .blk 3 59 (vL [.slice y.A y.i y.c, .slice none 0 0, .slice Am 0 0]), .blk 2 59 (vL [.slice none 0 0, .slice none 0 0, .slice none 0 0]), .hp 12 (rowO w.heap.size 32 5 Am 0 0 []), .hp 1 emptyHP]) (fun y => y.G) ⟨0, none, 0, [], G⟩ ⟨Nat.zero_le _, PH.ext.refl _ _, CkRow_nil _ _ _⟩ rfl ?_ ?_ ?_
 ·exact ⟨⟨_, J, J⟩, ⟨_, J, J⟩, ⟨_, J, J⟩, ⟨_, J, J⟩, trivial⟩
 ·exact .hp (.blk J J (.blk J J (.hp (.hp .nil))))
 rintro ⟨i, A1, c1, vs, G1⟩ ⟨hi, hext, hrow⟩
 simp only at hi hext hrow ⊢
 refine Va J J ?_
 refine S_condp J (fun h5 => ?_) (fun h5 => ?_) <;> refine Va J J ?_
 ·refine Ds J J J ?_
  refine Da J J ?_;refine Nt 3 J J J J J J fun back => ?_;refine S_make Tk ZT_ok J J J J J J (by show 8 * n ≤ _; omega) (by omega) rfl rfl rfl fun bm => ?_;refine back _ _ _ _ (by kernel_rfl) ?_; clear back
  refine Da J J ?_;refine Nt 4 J J J J J J fun back => ?_;refine S_slice Tk ZT_ok J J J J (by decide) (by decide) J J J J fun b17 => ?_;refine back _ _ _ _ (by kernel_rfl) ?_; clear back
  refine Da J J ?_;refine Nt 5 J J J J J J fun back => ?_;refine S_app1 Tk 20 17 J J J J J J J J J J J J J J (by intro u hu; simp at hu; rcases hu with rfl; rfl) rfl (fun _ _ => rfl) (by omega) (Nat.le_refl _) fun A5 c5 => ?_;refine back _ _ _ _ (by kernel_rfl) ?_; clear back
  refine Da J J ?_;refine Ns 7 J J J J J J J J J ?_;refine DD ?_;refine Va J J ?_;refine S_freezeB 16 J J (denL_vL _ _) J (fun _ h => h) fun hextb => ?_;refine S_add J J J J (by omega) ?_;refine Va J J ?_;refine S_again ⟨i + 1, A5, c5, vs ++ [.slice (some ⟨bm, 0, none⟩) n n], G1.add bm (.cells (repL n [.int .i64 0]).toArray 3 (0, 0))⟩ ⟨by simp only; omega, hext.trans hextb, CkRow_snoc (CkRow_le hextb.le hrow) (zero_ints hn)⟩ (by simp only; omega) rfl ⟨⟨_, rfl, by simp [denO]⟩, ⟨_, rfl, rfl⟩, ⟨_, rfl, rfl⟩, ⟨_, rfl, rfl⟩, trivial⟩ ?_
  exact .drop (.hp (.blk J J (.blk J J (.hp (.hp .nil)))))
 obtain rfl : n = i := by omega
 refine S_nilO (base := w.heap.size) (e := 24) (size := 1) 21 ?_;refine S_pick [20, 21, 3, 2, 12, 1] J ?_;refine S_loop (α := L7) (fun y => y.i ≤ 2 ∧ PH.ext w.heap.size G y.G ∧ CkRow y.G n (fun _ _ => 0) n vs ∧ CkRow y.G n (fun _ _ => 0) y.i y.vs) (fun y => 2 - y.i) [(2, b2), (3, b3)]
  (fun y => [(5, .val (.int .i64 (y.i : Nat))), (0, .val (.int .i64 (n : Nat))), (2, .ptr 2 0), (3, .ptr 3 0)])
  (fun y => [.hp 20 (rowO w.heap.size 24 1 A1 n c1 vs), .hp 21 (rowO w.heap.size 24 1 y.A y.i y.c y.vs), .blk 3 59 (vL [.slice A1 n c1, .slice y.A y.i y.c, .slice Am 0 0]), .blk 2 59 (vL [.slice none 0 0, .slice none 0 0, .slice none 0 0]), .hp 12 (rowO w.heap.size 32 5 Am 0 0 []), .hp 1 emptyHP]) (fun y => y.G) ⟨0, none, 0, [], G1⟩ ⟨Nat.zero_le _, hext, hrow, CkRow_nil _ _ _⟩ rfl ?_ ?_ ?_
 ·exact ⟨⟨_, J, J⟩, ⟨_, J, J⟩, ⟨_, J, J⟩, ⟨_, J, J⟩, trivial⟩
 ·exact .hp (.hp (.blk J J (.blk J J (.hp (.hp .nil)))))
 rintro ⟨j, A2, c2, vr, G2⟩ ⟨hj, hext2, hrow1, hrow2⟩
 simp only at hj hext2 hrow1 hrow2 ⊢
 refine Va J J ?_
 refine S_condp J (fun h6 => ?_) (fun h6 => ?_) <;> refine Va J J ?_
 ·refine Ds J J J ?_
  refine Da J J ?_;refine Nt 3 J J J J J J fun back => ?_;refine S_make Tk ZT_ok J J J J J J (by show 8 * n ≤ _; omega) (by omega) rfl rfl rfl fun bm => ?_;refine back _ _ _ _ (by kernel_rfl) ?_; clear back
  refine Da J J ?_;refine Nt 4 J J J J J J fun back => ?_;refine S_slice Tk ZT_ok J J J J (by decide) (by decide) J J J J fun b17 => ?_;refine back _ _ _ _ (by kernel_rfl) ?_; clear back
  refine Da J J ?_;refine Nt 5 J J J J J J fun back => ?_;refine S_app1 Tk 21 28 J J J J J J J J J J J J J J (by intro u hu; simp at hu; rcases hu with rfl; rfl) rfl (fun _ _ => rfl) (by omega) (Nat.le_refl _) fun A5 c5 => ?_;refine back _ _ _ _ (by kernel_rfl) ?_; clear back
  refine Da J J ?_;refine Ns 7 J J J J J J J J J ?_;refine DD ?_;refine Va J J ?_;refine S_freezeB 27 J J (denL_vL _ _) J (fun _ h => h) fun hextb => ?_;refine S_add J J J J (by omega) ?_;refine Va J J ?_;refine S_again ⟨j + 1, A5, c5, vr ++ [.slice (some ⟨bm, 0, none⟩) n n], G2.add bm (.cells (repL n [.int .i64 0]).toArray 3 (0, 0))⟩ ⟨by simp only; omega, hext2.trans hextb, CkRow_le hextb.le hrow1, CkRow_snoc (CkRow_le hextb.le hrow2) (zero_ints hn)⟩ (by simp only; omega) rfl ⟨⟨_, rfl, by simp [denO]⟩, ⟨_, rfl, rfl⟩, ⟨_, rfl, rfl⟩, ⟨_, rfl, rfl⟩, trivial⟩ ?_
  exact .drop (.hp (.hp (.blk J J (.blk J J (.hp (.hp .nil))))))
 obtain rfl : j = 2 := by omega
 refine S_base0 20 J J ?_;refine S_base0 21 J J ?_;refine S_base0 12 J J ?_;refine S_pair 21 12 30 J J J J ?_;refine S_pair 20 30 31 J J J J ?_;exact S_retm 31 (Res.c1 Tk Tryz.results34 J J) J hext2 ⟨A1, c1, vs, A2, c2, vr, Am, 0, [], J, J, hrow1, hrow2, J⟩
end
section
theorem cell_loc {w w' : World} {x : Addr} (h : w'.heap[x.block]? = w.heap[x.block]?) : w'.cell? x = w.cell? x := by simp only [World.cell?, h]
def queHP (cs : List Value) (W : Wld) (ts : List Value) (bs : Nat) (a : Int) (A : Option Addr) (c : Nat) : HP where
 holds w S := (worldV cs W ts).holds w S ∧ (S bs ∧ w.cell? ⟨bs, a.toNat, none⟩ = some (.slice A (W.que a).length c)) ∧ (W.que a = [] ∨ ∃ g off, A = some ⟨g, off, none⟩ ∧ S g ∧ ∀ j v, (intC (W.que a))[j]? = some v → w.cell? ((⟨g, off, none⟩ : Addr).add j) = some v)
 loc w w' S h hs := by
  obtain ⟨h1, ⟨h2, h3⟩, h4⟩ := h
  refine ⟨(worldV cs W ts).loc w w' S h1 hs, ⟨h2, by rw [cell_loc (hs bs h2)]; exact h3⟩, ?_⟩
  rcases h4 with h4 | ⟨g, off, e, hg, h5⟩
  ·exact .inl h4
  ·refine .inr ⟨g, off, e, hg, fun j v hj => ?_⟩
   have := h5 j v hj
   rw [add_lit'] at this ⊢
   rw [cell_loc (hs g hg)]; exact this
 lt w S h := (worldV cs W ts).lt w S h.1
section
variable {C : Ctx} {k : List It} {E : Env} {ι : Ids} {L : List Ent} {G : PH} {W : Wld} {ts : List Value} {L' : List Ent}
theorem row_cells {base e : Nat} {A : Option Addr} {n c : Nat} {xs : List Value} {w : World} {S : Nat → Prop} (h : (rowO base e 1 A n c xs).holds w S) : xs = [] ∨ ∃ g off, A = some ⟨g, off, none⟩ ∧ S g ∧ ∀ j v, xs[j]? = some v → w.cell? ((⟨g, off, none⟩ : Addr).add j) = some v := by
 obtain ⟨q1, q2, q3, q4⟩ := h
 rcases q4 with ⟨q4, q5, q6⟩ | ⟨g', off', cur, q, _, q5, q6, q7, q8⟩
 ·exact .inl (List.eq_nil_of_length_eq_zero (by omega))
 ·exact .inr ⟨g', off', q, (q8 _).2 rfl, fun j v hj => cells_at q5 q7 j v hj⟩
theorem S_queW (κ : Nat) {bs n2 ks : Nat} {c1 c2 c3 c5 : Value} (a : Int) (ha : is2 a) (hL : getH κ L = some (worldV [c1, c2, c3, .slice (some ⟨bs, 0, none⟩) n2 ks, c5] W ts))
  {L2 : Option Addr → Nat → List Ent} (hL' : ∀ A c, setH κ (queHP [c1, c2, c3, .slice (some ⟨bs, 0, none⟩) n2 ks, c5] W ts bs a A c) L = some (L2 A c))
  (hk : ∀ A c, X C k E ι (L2 A c) G) : X C k E ι L G := by
 intro act w h1 h2 h3 h4
 obtain ⟨S, hA, hSG, hturn⟩ := h4.turn hL
 have hA' := hA
 obtain ⟨ι0, L0, Ss0, ⟨bp', bc, br, bs', bg, m, x', hl, hmk, hx', rfl, rfl, hcs⟩, hown, hU⟩ := hA
 have hb : bs' = bs := by
  have : denL (wIds bp' bc br bs' bg) (wCels W m x') = some [.slice (some ⟨bp', 0, none⟩) W.procs.length m.kp, .slice (some ⟨bc, 0, none⟩) 3 m.kc, .slice (some ⟨br, 0, none⟩) 2 m.kr, .slice (some ⟨bs', 0, none⟩) 2 m.ks, .slice m.asd x'.ns m.ksd] := rfl
  rw [hcs] at this
  simp only [Option.some.injEq, List.cons.injEq, Value.slice.injEq, Addr.mk.injEq] at this
  exact this.2.2.2.1.1.1.symm
 subst hb
 match Ss0, hown, hU with
 | [], hown, _ => exact absurd hown id
 | [_], hown, _ => exact absurd hown.2.2 id
 | [_, _], hown, _ => exact absurd hown.2.2.2.2 id
 | [_, _, _], hown, _ => exact absurd hown.2.2.2.2.2.2 id
 | [_, _, _, _], hown, _ => exact absurd hown.2.2.2.2.2.2.2.2 id
 | [_, _, _, _, _], hown, _ => exact absurd hown.2.2.2.2.2.2.2.2.2.2 id
 | [_, _, _, _, _, _], hown, _ => exact absurd hown.2.2.2.2.2.2.2.2.2.2.2.2 id
 | T1 :: T2 :: T3 :: T4 :: T5 :: T6 :: T7 :: Tr, hown, hU =>
  obtain ⟨_, _, _, _, _, _, ⟨b, vs, q1, q2, q3, q4⟩, _, _, _, hq0, _, hq1, _, _⟩ := hown
  have hbb : b = bs' := by simpa [wIds, lookI] using q1.symm
  subst hbb
  obtain ⟨v1, r1, e1, e2, rfl⟩ := denL_cons' q2
  obtain ⟨v2, r2, e3, e4, rfl⟩ := denL_cons' e2
  simp only [denC, Option.some.injEq] at e1 e3
  rw [WX.ok_eq hx'] at e1 e3 hq0 hq1
  have hSb : S b := (hU b).2 ⟨T4, by simp, (q4 b).2 rfl⟩
  have hS6 : ∀ g, T6 g → S g := fun g hg => (hU g).2 ⟨T6, by simp, hg⟩
  have hS7 : ∀ g, T7 g → S g := fun g hg => (hU g).2 ⟨T7, by simp, hg⟩
  rcases ha with rfl | rfl
  ·refine hk m.aq0 m.kq0 act w h1 h2 h3 (hturn _ _ G w S (hL' _ _) ⟨hA', ⟨hSb, ?_⟩, ?_⟩ h4.emb XR (fun b hb => ⟨hSG b hb, .inl hb⟩) J J J (Nat.le_refl _) fun _ _ _ => J)
   ·simp [World.cell?, q3, ← e1, Wld.que, WX.of]
   ·have : W.que 0 = W.q0 := rfl
    rw [this]
    rcases row_cells hq0 with h | ⟨g, off, e, hg, hc⟩
    ·left
     cases hq : W.q0 with
     | nil => rfl
     | cons f r => simp [WX.of, hq, intC] at h
    ·exact .inr ⟨g, off, e, hS6 g hg, hc⟩
  ·refine hk m.aq1 m.kq1 act w h1 h2 h3 (hturn _ _ G w S (hL' _ _) ⟨hA', ⟨hSb, ?_⟩, ?_⟩ h4.emb XR (fun b hb => ⟨hSG b hb, .inl hb⟩) J J J (Nat.le_refl _) fun _ _ _ => J)
   ·simp [World.cell?, q3, ← e3, Wld.que, WX.of]
   ·have : W.que 1 = W.q1 := rfl
    rw [this]
    rcases row_cells hq1 with h | ⟨g, off, e, hg, hc⟩
    ·left
     cases hq : W.q1 with
     | nil => rfl
     | cons f r => simp [WX.of, hq, intC] at h
    ·exact .inr ⟨g, off, e, hS7 g hg, hc⟩
theorem S_unQ (κ : Nat) {bs c : Nat} {cs : List Value} {a : Int} {A : Option Addr} (hL : getH κ L = some (queHP cs W ts bs a A c)) (hL' : setH κ (worldV cs W ts) L = some L') (hk : X C k E ι L' G) : X C k E ι L G := by
 intro act w h1 h2 h3 h4
 obtain ⟨S, hA, hSG, hturn⟩ := h4.turn hL
 exact hk act w h1 h2 h3 (hturn _ _ G w S hL' hA.1 h4.emb XR (fun b hb => ⟨hSG b hb, .inl hb⟩) J J J (Nat.le_refl _) fun _ _ _ => J)
theorem V_signQ {d : Option Nat} {ty : Nat} {pos : String} {af : Array Edge} {g : Option (Nat × Bool)} {T : Tab} (hT : tabOk C.P T) (κ : Nat) {t : Nat} {i : TyI} {x : Operand} {bs c : Nat} {cs : List Value} {a : Int} {A : Option Addr} {ad : Addr}
  (hL : getH κ L = some (queHP cs W ts bs a A c)) (hx : ev E x = some (.val (.pointer (some ad)))) (ha : ad = ⟨bs, a.toNat, none⟩) (ht : lookT t T = some i) (hk0 : i.k.isAgg = false) : Vl C ι E L G ⟨d, .load t x, ty, pos, af, g⟩ (.slice A (W.que a).length c) := by
 intro act w hE hw
 obtain ⟨Ss, ho, _⟩ := hw.own
 obtain ⟨S, ⟨_, ⟨_, hc⟩, _⟩, _⟩ := owns_split ho hL
 have ex := ev_sound hE hx
 simp only [denO, Option.some.injEq] at ex
 subst ha
 simp only [execOp, ← ex]
 simp [Instr.loadAt, loadVar, Instr.sureAddr, tyOk_agg (hT _ _ ht), hk0, hc]
theorem V_headQ {d : Option Nat} {ty : Nat} {pos : String} {af : Array Edge} {g : Option (Nat × Bool)} {T : Tab} (hT : tabOk C.P T) (κ : Nat) {t : Nat} {i : TyI} {x : Operand} {bs c : Nat} {r : List Int} {fi : Int} {cs : List Value} {a : Int} {ad : Addr}
  (hL : getH κ L = some (queHP cs W ts bs a (some ad) c)) (hx : ev E x = some (.val (.pointer (some ad)))) (hq : W.que a = fi :: r) (ht : lookT t T = some i) (hk0 : i.k.isAgg = false) : Vl C ι E L G ⟨d, .load t x, ty, pos, af, g⟩ (.int .i64 fi) := by
 intro act w hE hw
 obtain ⟨Ss, ho, _⟩ := hw.own
 obtain ⟨S, ⟨_, _, hc⟩, _⟩ := owns_split ho hL
 have ex := ev_sound hE hx
 simp only [denO, Option.some.injEq] at ex
 rcases hc with hc | ⟨g0, off, e, _, hc⟩
 ·rw [hq] at hc; cases hc
 have h0 := hc 0 (.int .i64 fi) (by rw [hq]; rfl)
 rw [add_zero'] at h0
 simp only [Option.some.injEq] at e
 rw [← e] at h0
 simp only [execOp, ← ex]
 simp [Instr.loadAt, loadVar, Instr.sureAddr, tyOk_agg (hT _ _ ht), hk0, h0]
theorem S_someQ (κ : Nat) {bs c : Nat} {cs : List Value} {a : Int} {A : Option Addr} (hL : getH κ L = some (queHP cs W ts bs a A c)) (hq : W.que a ≠ []) (hk : ∀ ad, A = some ad → X C k E ι L G) : X C k E ι L G := by
 intro act w h1 h2 h3 h4
 obtain ⟨Ss, ho, _⟩ := h4.own
 obtain ⟨S, ⟨_, _, hc⟩, _⟩ := owns_split ho hL
 rcases hc with hc | ⟨g0, off, e, _, hc⟩
 ·exact absurd hc hq
 ·exact hk _ e act w h1 h2 h3 h4
end
end
section
attribute [local irreducible] X Pure Mod
theorem Tds_at {G : PH} : ∀ {ps : List Prc} {ts : List Value} {i : Nat} {p : Prc}, Tds G ps ts → ps[i]? = some p → ∃ t, ts[i]? = some t ∧ Sts G p.todo t
 | [], _, i, _, _, h => by simp at h
 | _ :: _, [], _, _, h, _ => absurd h id
 | p :: ps, t :: ts, 0, q, h, hp => by
  simp only [List.getElem?_cons_zero, Option.some.injEq] at hp
  exact ⟨t, J, hp ▸ h.1⟩
 | p :: ps, t :: ts, i + 1, q, h, hp => by
  simpa using Tds_at h.2 (i := i) (by simpa using hp)
theorem intC_get {n k : Nat} {x : Nat → Int} (h : k < n) : (intC (clkL n x))[k]? = some (.int .i64 (x k)) := by
 have e : ∀ l : List Int, intC l = l.map fun z => .int .i64 z := by
  intro l
  induction l with
  | nil => rfl
  | cons a l ih => simp [intC, ih]
 rw [e]
 simp [clkL, h]
theorem intC_set {n who : Nat} {C : Ck} (h : who < n) : (intC (clkL n (C.pr who))).set who (.int .i64 (C.pr who who + 1)) = intC (clkL n (C.own who)) := by
 have e : ∀ l : List Int, intC l = l.map fun z => .int .i64 z := by
  intro l
  induction l with
  | nil => rfl
  | cons a l ih => simp [intC, ih]
 apply List.ext_getElem?
 intro k
 rw [List.getElem?_set, e, e]
 by_cases hk : k < n
 ·by_cases hw : who = k
  ·subst hw
   simp [clkL, h, Ck.own]
  ·simp [clkL, hk, hw, Ck.own, show ¬ k = who from fun h => hw h.symm]
 ·simp [clkL, hk, show ¬ who = k by omega]
theorem clk_cells {G : PH} {n c : Nat} {x : Nat → Int} {A : Option Addr} (h : Ints G (clkL n x) (.slice A n c)) : (intC (clkL n x)).length = n * 1 ∧ (n = 0 ∨ ∃ a, A = some a ∧ gcells G a (intC (clkL n x))) := by
 obtain ⟨hx, _⟩ := Ints_Sx h
 rw [clkL_len] at hx
 obtain ⟨A', c', e, _, _, _, hl, hr⟩ := hx
 cases e
 exact ⟨hl, hr⟩
theorem CkRow_one {G : PH} {n m : Nat} {f : Nat → Nat → Int} {vs : List Value} (h : CkRow G n f m vs) : ∀ u ∈ vs, u.oneCell' = true := by
 intro u hu
 obtain ⟨i, hi⟩ := List.getElem?_of_mem hu
 obtain ⟨A, c, rfl⟩ := clk_sl (h.2 i u hi)
 rfl
theorem ahead_eq {C : Ck} {W : Wld} {who : Nat} {p : Prc} (hp : W.procs[who]? = some p) : C.ahead W who = if p.mode = 2 then { C with pr := upF C.pr who (jn (C.own who) (C.rm p.room.toNat)) }
  else if fstP p = 8 then { C with pr := upF C.pr who (jn (C.own who) (C.rm (fstA p).toNat)) }
  else if fstP p = 12 then ⟨upF C.pr who (C.own who), upF C.rm (fstA p).toNat (C.own who)⟩
  else if fstP p = 9 then ⟨upF C.pr who (C.own who), upF C.rm p.room.toNat (C.own who)⟩
  else if fstP p = 10 then C.sig who (C.own who) (W.que (fstA p))
  else { C with pr := upF C.pr who (C.own who) } := by
 unfold Ck.ahead; rw [hp]
theorem markP_eq {n : Nat} {C : Ck} {W : Wld} {who i : Nat} {p : Prc} (hp : W.procs[who]? = some p) : markP n C W who i = if fstP p = 3 then [⟨who, i, false, fstB p, clkL n (C.pr who)⟩] else if fstP p = 4 then [⟨who, i, true, fstA p, clkL n (C.pr who)⟩] else [] := by
 unfold markP; rw [hp]
theorem upF_self (f : Nat → Nat → Int) (i : Nat) (x : Nat → Int) : upF f i x i = x := by unfold upF; rw [if_pos rfl]
theorem c_l7Step' (n : Nat) (C C' : Ck) (ms ms' : List Mk) (W : Wld) (who i B : Nat) (cv : Value) (cs ts : List Value) (A : HP) (G : PH) (hI : Inv W B) (hB : B ≤ 1000000) (hn : W.procs.length = n) (ht : Tds G W.procs ts) (hw : who < n) (hc : codeOf W (who : Nat) = 0)
  (hC : C.ok 1000) (hclk : ClkP n C ms cv G A) (hi : i ≤ 200) (hml : ms.length ≤ 200) (hah : C' = C.ahead W who) (hmk : ms' = ms ++ markP n C' W who i) :
  Mod Tryz.prog 36 [cv, .agg cs.toArray, .int .i64 (who : Nat), .int .i64 (i : Nat)] G (pairHP A (worldV cs W ts)) fun v G' A' => ∃ A1, A' = pairHP A1 (worldV cs W ts) ∧ ClkP n C' ms' v G' A1 := by
 obtain ⟨Ap, cp, vp, Ar, cr, vr, Am, cm, xm, rfl, rfl, hp, hr, hm⟩ := hclk
 have hn3 := hI.n3
 have hn1 := hI.n1
 have hO := hC.own who
 have hO2 : ∀ k, 0 ≤ C.own who k ∧ C.own who k ≤ 1000000 := fun k => by have := hO k; omega
 refine Mod.intro Tryz.func36 Tryz.ntmps36 J J fun w S => ?_
 unfold clkHP
 refine S_unpair 1 2 3 J J ?_;refine S_unpair 2 4 5 J J ?_;refine S_unpair 5 6 7 J J ?_;refine S_csV 3 J ?_;rintro bp bc br bs kp asd ksd kc kr ks rfl
 refine S_capO 4 J fun hnc4 _ hx4 => ?_;refine S_someO 4 J (by omega) fun gp op hAp => ?_
 subst hAp
 refine S_capO 6 J fun hnc6 _ hx6 => ?_;refine S_someO 6 J (by omega) fun gr or_ hAr => ?_
 subst hAr
 refine Va J J ?_;refine S_box J J J J J fun b4 => ?_;refine Va J J ?_;refine S_box J J J J J fun b5 => ?_;refine Va J J ?_;refine AZ ZT_ok J J J J fun b8 => ?_;refine Va J J ?_
 have hp0 : W.procs[who]? = some (W.procs[who]'(by omega)) := List.getElem?_eq_getElem (by omega)
 have hgo := hI.go hc _ hp0
 rw [ahead_eq hp0] at hah
 rw [markP_eq hp0] at hmk
 generalize hP : W.procs[who]'(by omega) = p at hp0 hgo hah hmk
 obtain ⟨tv, htv, hst⟩ := Tds_at ht hp0
 obtain ⟨At, ct, rfl, _⟩ := id hst
 refine S_index Tk J J J J J J (by omega) (by omega) ?_;refine Va J J ?_;refine S_procW Tk 3 J J (by simp [add_lit']; omega) rfl htv hp0 rfl rfl fun Ag cg => ?_;refine Va J J ?_;refine AZ ZT_ok J J J J fun b9 => ?_;refine Va J J ?_;refine S_emptyO Tk 10 J J J J fun A10 => ?_;refine Va J J ?_;obtain ⟨Ao, co, hget, hown⟩ := CkRow_get hp hw
 obtain ⟨hol, hog⟩ := clk_cells hown
 refine S_index Tk J J J J J J (by omega) (by omega) ?_;refine Va J J ?_;refine S_valV J J J (V_loadR' Tk 4 J J (by simp [add_lit']) J J hget) ?_;refine Va J J ?_;refine S_appO Tk 10 J J J J J J J J J J J (fun _ _ => J) (src_G hol hog) (intC_one _) (by simp only; omega) (by simp only [maxLen]; omega) (Nat.le_refl _) fun A11 c11 => ?_
 rw [Nat.zero_add n]
 refine S_capO 10 J fun hnc10 _ _ => ?_;refine S_someO 10 J (by omega) fun go oo hAo => ?_
 subst hAo
 refine Va J J ?_;refine S_index Tk J J J J J J (by omega) (by omega) ?_;refine Va J J ?_;refine S_valV J J J (V_loadR' Tk 10 J J (by simp [add_lit']) J J (intC_get hw)) ?_;refine Va J J ?_;refine S_add J J J J (by have := hC.p who who; omega) ?_;refine Va J J ?_;refine S_index Tk J J J J J J (by omega) (by omega) ?_;refine Va J J ?_;refine S_storeO (o := who) Tk 10 J J J (by simp [add_lit']) J J J J J (by rw [List.nil_append, hol]; omega) rfl ?_
 rw [List.nil_append, intC_set hw]
 refine S_freezeR 10 J J (Nat.le_refl _) fun G1 hext1 hnc1 hcm1 hcl1 => ?_
 have hown1 : Ints G1 (clkL n (C.own who)) (.slice (some ⟨go, oo, none⟩) n c11) := frz (Cs_intC (clk_i64 hO2)) (clkL_len _ _).symm (by omega) hnc1 hcm1 hcl1
 obtain ⟨hol1, hog1⟩ := clk_cells hown1
 replace hp := CkRow_le hext1.le hp
 replace hr := CkRow_le hext1.le hr
 replace hm := Cs_mono (fun _ _ _ h => mkRep_le hext1.le h) hm
 replace hst := Sts_le hext1.le hst
 have hbr : ∀ a k, 0 ≤ C.rm a k ∧ C.rm a k ≤ 1000000 := fun a k => by have := hC.r a k; omega
 have hbp : ∀ a k, 0 ≤ C.pr a k ∧ C.pr a k ≤ 1000000 := fun a k => by have := hC.p a k; omega
 refine Va J J ?_
 refine S_condp J (fun hm2 => ?_) (fun hm2 => ?_) <;> refine Va J J ?_
 ·have hro := hgo.1 hm2
  have hro2 : 0 ≤ p.room ∧ p.room < 2 := by rcases hro with h | h <;> omega
  have hf0 : fstP p = 0 := by simp [fstP, hm2]
  rw [if_pos hm2] at hah
  simp only [hf0] at hmk
  obtain rfl : ms' = ms := by simpa using hmk
  subst hah
  obtain ⟨Aq, cq, hgq, hrq⟩ := CkRow_get hr (i := p.room.toNat) (by omega)
  refine Ds J J J ?_;refine Da J J ?_;refine D_val 8 J J J J J J J J J (V_index Tk J J J J (by omega) (by omega)) ?_;refine Da J J ?_;refine D_val 9 J J J J J J J J J (V_loadR' Tk 6 J J (by simp [add_lit']) J J hgq) ?_;refine Da J J ?_;refine D_sole 10 J J (N_call 10 Tryz.call64 (c_ClockJoin n _ _ _ _ _ (by omega) hown1 hrq hO2 (hbr _)) J J J J J J J J J J ?_)
  rintro v G2 hj hext2
  obtain ⟨Aj, cj, rfl⟩ := clk_sl hj
  refine Da J J ?_;refine D_val 11 J J J J J J J J J (V_index Tk J J J J (by omega) (by omega)) ?_;refine Da J J ?_;refine Nt 12 J J J J J J fun back => ?_;refine S_storeO (o := who) Tk 4 J J J (by simp [add_lit']) J J J J J (by rw [hp.1]; omega) rfl ?_;refine back _ _ _ _ (by kernel_rfl) ?_; clear back
  refine DD ?_;refine Va J J ?_;refine S_pair 6 7 20 J J J J ?_;refine S_pair 4 20 21 J J J J ?_;refine S_pair 21 3 22 J J J J ?_;exact S_retm 22 (Res.c1 Tk Tryz.results36 rfl rfl) rfl (hext1.trans hext2) ⟨_, rfl, _, _, _, _, _, _, _, _, _, rfl, rfl, CkRow_set (CkRow_le hext2.le hp) hj, CkRow_le hext2.le hr, Cs_mono (fun _ _ _ h => mkRep_le hext2.le h) hm⟩
 rw [if_neg hm2] at hah
 obtain ⟨s, r, hT, hsok⟩ := hgo.2 hm2
 rw [hT] at hst
 obtain ⟨ad, vx, vy, e, hcs, hx, hy, i1, i2, i3, i4⟩ := Sts_head hst
 subst e
 obtain ⟨Ax, cx, rfl, _⟩ := id hx
 obtain ⟨Ay, cy, rfl, _⟩ := id hy
 have hk : fstP p = s.kind := by simp [fstP, hm2, hT]
 have hka : fstA p = s.a := by simp [fstA, hm2, hT]
 have hkb : fstB p = s.b := by simp [fstB, hm2, hT]
 rw [hk, hka] at hah
 rw [hk, hka, hkb] at hmk
 refine S_index Tk J J J J J J (by omega) (by rw [hT]; simp) ?_;refine S_loadA Tk J J J J J (by simpa [add_zero'] using hcs) ?_;refine Va J J ?_;refine AZ ZT_ok J J J J fun b11 => ?_;refine Va J J ?_
 refine S_condp J (fun h8 => ?_) (fun h8 => ?_) <;> refine Va J J ?_
 ·have ha2 : 0 ≤ s.a ∧ s.a < 2 := by rcases (hsok.r8 h8).1 with h | h <;> omega
  rw [h8] at hah hmk
  obtain rfl : ms' = ms := by simpa using hmk
  rw [if_pos rfl] at hah
  subst hah
  obtain ⟨Aq, cq, hgq, hrq⟩ := CkRow_get hr (i := s.a.toNat) (by omega)
  refine S_index Tk J J J J J J (by omega) (by omega) ?_;refine Va J J ?_;refine S_valV J J J (V_loadR' Tk 6 J J (by simp [add_lit']) J J hgq) ?_;refine Va J J ?_;refine S_call Tryz.call64 (c_ClockJoin n _ _ _ _ _ (by omega) hown1 hrq hO2 (hbr _)) J J J ?_;rintro v G2 hj hext2
  obtain ⟨Aj, cj, rfl⟩ := clk_sl hj
  refine Va J J ?_;refine S_index Tk J J J J J J (by omega) (by omega) ?_;refine Va J J ?_;refine S_storeO (o := who) Tk 4 J J J (by simp [add_lit']) J J J J J (by simp only [List.length_set, hp.1]; omega) rfl ?_;refine Va J J ?_;refine S_pair 6 7 20 J J J J ?_;refine S_pair 4 20 21 J J J J ?_;refine S_pair 21 3 22 J J J J ?_;exact S_retm 22 (Res.c1 Tk Tryz.results36 rfl rfl) rfl (hext1.trans hext2) ⟨_, rfl, _, _, _, _, _, _, _, _, _, rfl, rfl, CkRow_set (CkRow_le hext2.le hp) hj, CkRow_le hext2.le hr, Cs_mono (fun _ _ _ h => mkRep_le hext2.le h) hm⟩
 rw [if_neg h8] at hah
 refine S_condp J (fun h12 => ?_) (fun h12 => ?_) <;> refine Va J J ?_
 ·have ha2 : 0 ≤ s.a ∧ s.a < 2 := by rcases hsok.r10 (.inr h12) with h | h <;> omega
  rw [h12] at hah hmk
  obtain rfl : ms' = ms := by simpa using hmk
  rw [if_pos rfl] at hah
  subst hah
  refine S_index Tk J J J J J J (by omega) (by omega) ?_;refine Va J J ?_;refine S_storeO (o := s.a.toNat) Tk 6 J J J (by simp [add_lit']) J J J J J (by rw [hr.1]; omega) rfl ?_;refine Va J J ?_;refine S_index Tk J J J J J J (by omega) (by omega) ?_;refine Va J J ?_;refine S_storeO (o := who) Tk 4 J J J (by simp [add_lit']) J J J J J (by simp only [List.length_set, hp.1]; omega) rfl ?_;refine Va J J ?_
  refine S_pair 6 7 20 J J J J ?_;refine S_pair 4 20 21 J J J J ?_;refine S_pair 21 3 22 J J J J ?_;exact S_retm 22 (Res.c1 Tk Tryz.results36 J J) J hext1 ⟨_, J, _, _, _, _, _, _, _, _, _, J, J, CkRow_set hp hown1, CkRow_set hr hown1, hm⟩
 rw [if_neg h12] at hah
 refine S_condp J (fun h9 => ?_) (fun h9 => ?_) <;> refine Va J J ?_
 ·have hro2 : 0 ≤ p.room ∧ p.room < 2 := by rcases (hsok.r9 h9).2 with h | h <;> omega
  rw [h9] at hah hmk
  obtain rfl : ms' = ms := by simpa using hmk
  rw [if_pos rfl] at hah
  subst hah
  refine S_index Tk J J J J J J (by omega) (by omega) ?_;refine Va J J ?_;refine S_storeO (o := p.room.toNat) Tk 6 J J J (by simp [add_lit']) J J J J J (by rw [hr.1]; omega) rfl ?_;refine Va J J ?_;refine S_index Tk J J J J J J (by omega) (by omega) ?_;refine Va J J ?_;refine S_storeO (o := who) Tk 4 J J J (by simp [add_lit']) J J J J J (by simp only [List.length_set, hp.1]; omega) rfl ?_;refine Va J J ?_
  refine S_pair 6 7 20 J J J J ?_;refine S_pair 4 20 21 J J J J ?_;refine S_pair 21 3 22 J J J J ?_;exact S_retm 22 (Res.c1 Tk Tryz.results36 J J) J hext1 ⟨_, J, _, _, _, _, _, _, _, _, _, J, J, CkRow_set hp hown1, CkRow_set hr hown1, hm⟩
 rw [if_neg h9] at hah
 refine S_condp J (fun h10 => ?_) (fun h10 => ?_) <;> refine Va J J ?_
 ·have hia : is2 s.a := hsok.r10 (.inl h10)
  have ha2 : 0 ≤ s.a ∧ s.a < 2 := by rcases hia with h | h <;> omega
  rw [h10] at hah hmk
  obtain rfl : ms' = ms := by simpa using hmk
  rw [if_pos rfl] at hah
  have hrd := hI.rdy hB
  have hfq : ∀ f ∈ W.que s.a, 0 ≤ f ∧ f < W.procs.length := by
   intro f hf
   unfold Wld.que at hf
   split at hf
   ·exact hrd.f0 f hf
   ·exact hrd.f1 f hf
  have hql : (W.que s.a).length ≤ 1000000 := by
   unfold Wld.que
   split
   ·exact hrd.q0
   ·exact hrd.q1
  refine S_index Tk J J J J J J (by omega) (by omega) ?_;refine Va J J ?_;refine S_queW 3 s.a hia J (fun _ _ => J) fun Asq csq => ?_;refine S_valV J J J (V_signQ Tk 3 J J (by simp [add_lit']) J J) ?_;refine Va J J ?_
  cases hq : W.que s.a with
  | nil =>
   rw [hq] at hah
   subst hah
   refine RF J (by simp) ?_;refine Va J J ?_;refine S_unQ 3 J J ?_;refine S_index Tk J J J J J J (by omega) (by omega) ?_;refine Va J J ?_;refine S_storeO (o := who) Tk 4 J J J (by simp [add_lit']) J J J J J (by simp only [List.length_set, hp.1]; omega) rfl ?_;refine Va J J ?_;refine S_pair 6 7 20 J J J J ?_;refine S_pair 4 20 21 J J J J ?_;refine S_pair 21 3 22 J J J J ?_;exact S_retm 22 (Res.c1 Tk Tryz.results36 J J) J hext1 ⟨_, J, _, _, _, _, _, _, _, _, _, J, J, CkRow_set hp hown1, hr, hm⟩
  | cons f rq =>
   rw [hq] at hah
   subst hah
   have hf := hfq f (by rw [hq]; exact List.mem_cons_self ..)
   refine S_someQ 3 J (by rw [hq]; simp) fun adq e => ?_
   subst e
   refine RT J (by simp <;> omega) ?_
   refine Va J J ?_;refine S_index Tk J J J J J J (by omega) (by omega) ?_;refine Va J J ?_;refine S_valV J J J (V_signQ Tk 3 J J (by simp [add_lit']) J J) ?_
   rw [hq]
   refine Va J J ?_;refine S_index Tk J J J J J J (by omega) (by simp) ?_;refine Va J J ?_;refine S_valV J J J (V_headQ Tk 3 J (by simp [add_zero']; rfl) hq rfl rfl) ?_;refine Va J J ?_;refine S_unQ 3 J J ?_;obtain ⟨Af, cf, hgf, hrf⟩ := CkRow_get hp (i := f.toNat) (by omega)
   refine Ds J J J ?_;refine Da J J ?_;refine D_val 6 J J J J J J J J J (V_index Tk J J J J (by omega) (by omega)) ?_;refine Da J J ?_;refine D_val 7 J J J J J J J J J (V_loadR' Tk 4 J J (by simp [add_lit']) J J hgf) ?_;refine Da J J ?_;refine D_sole 9 J J (N_call 9 Tryz.call64 (c_ClockJoin n _ _ _ _ _ (by omega) hrf hown1 (hbp _) hO2) J J J J J J J J J J ?_)
   rintro v G2 hj hext2
   obtain ⟨Aj, cj, rfl⟩ := clk_sl hj
   refine Da J J ?_;refine D_val 10 J J J J J J J J J (V_index Tk J J J J (by omega) (by omega)) ?_;refine Da J J ?_;refine Nt 11 J J J J J J fun back => ?_;refine S_storeO (o := f.toNat) Tk 4 J J J (by simp [add_lit']) J J J J J (by rw [hp.1]; omega) rfl ?_;refine back _ _ _ _ (by kernel_rfl) ?_; clear back
   refine DD ?_;refine Va J J ?_;refine S_index Tk J J J J J J (by omega) (by omega) ?_;refine Va J J ?_;refine S_storeO (o := who) Tk 4 J J J (by simp [add_lit']) J J J J J (by simp only [List.length_set, hp.1]; omega) rfl ?_;refine Va J J ?_;refine S_pair 6 7 20 J J J J ?_;refine S_pair 4 20 21 J J J J ?_;refine S_pair 21 3 22 J J J J ?_;exact S_retm 22 (Res.c1 Tk Tryz.results36 rfl rfl) rfl (hext1.trans hext2) ⟨_, rfl, _, _, _, _, _, _, _, _, _, rfl, rfl, CkRow_set (CkRow_set (CkRow_le hext2.le hp) hj) (Ints_le hext2.le hown1), CkRow_le hext2.le hr, Cs_mono (fun _ _ _ h => mkRep_le hext2.le h) hm⟩
 rw [if_neg h10] at hah
 have hpr : C'.pr who = C.own who := by rw [hah]; exact upF_self _ _ _
 rw [hpr] at hmk
 subst hah
 refine S_condp J (fun h3 => ?_) (fun h3 => ?_) <;> refine Va J J ?_
 ·rw [if_pos h3] at hmk
  subst hmk
  refine Ds J J J ?_;refine Da J J ?_;refine Nt 6 J J J J J J fun back => ?_;refine S_emptyO Tk 30 J J J J fun A30 => ?_;refine back _ _ _ _ (by kernel_rfl) ?_; clear back
  refine Da J J ?_;refine Nt 8 J J J J J J fun back => ?_;refine S_appO Tk 30 J J J J J J J J J J J (fun _ _ => J) (src_G hol1 hog1) (intC_one _) (by simp only; omega) (by simp only [maxLen]; omega) (Nat.le_refl _) fun A31 c31 => ?_;refine back _ _ _ _ (by kernel_rfl) ?_; clear back
  refine Da J J ?_;refine Nt 10 J J J J J J fun back => ?_;refine S_slice Tk ZT_ok J J J J (by decide) (by decide) J J J J fun b32 => ?_;refine back _ _ _ _ (by kernel_rfl) ?_; clear back
  refine Da J J ?_;refine Nt 11 J J J J J J fun back => ?_
  refine S_app1 Tk 7 122 J J J J J J J J J J J J J J (by intro u hu; simp at hu; rcases hu with rfl | rfl | rfl | rfl | rfl <;> rfl) rfl (fun _ _ => rfl) (by omega) (Nat.zero_le _) fun A33 c33 => ?_
  refine back _ _ _ _ (by kernel_rfl) ?_; clear back
  refine Da J J ?_;refine Ns 13 J J J J J J J J J ?_;refine DD ?_;refine Va J J ?_;refine S_freezeR 30 J J (Nat.le_refl _) fun G2 hext2 hnc2 hcm2 hcl2 => ?_
  have hclk2 : Ints G2 (clkL n (C.own who)) (.slice A31 (0 + n) c31) := frz (Cs_intC (clk_i64 hO2)) (by rw [clkL_len]; omega) (by omega) hnc2 hcm2 (by simpa using hcl2)
  refine S_index Tk J J J J J J (by omega) (by omega) ?_;refine Va J J ?_;refine S_storeO (o := who) Tk 4 J J J (by simp [add_lit']) J J J J J (by simp only [List.length_set, hp.1]; omega) rfl ?_;refine Va J J ?_;refine S_pair 6 7 20 J J J J ?_;refine S_pair 4 20 21 J J J J ?_;refine S_pair 21 3 22 J J J J ?_;exact S_retm 22 (Res.c1 Tk Tryz.results36 J J) J (hext1.trans hext2) ⟨_, J, _, _, _, _, _, _, _, _, _, by rw [List.length_append]; rfl, by rw [List.length_append]; rfl, CkRow_set (CkRow_le hext2.le hp) (Ints_le hext2.le hown1), CkRow_le hext2.le hr, Cs_append (Cs_mono (fun _ _ _ h => mkRep_le hext2.le h) hm) ⟨_, _, by rw [clkL_len, Nat.zero_add], by rw [clkL_len]; simpa using hclk2, i3, by simp only; omega, hi⟩ rfl⟩
 rw [if_neg h3] at hmk
 refine S_condp J (fun h4 => ?_) (fun h4 => ?_) <;> refine Va J J ?_
 ·rw [if_pos h4] at hmk
  subst hmk
  refine Ds J J J ?_;refine Da J J ?_;refine Nt 6 J J J J J J fun back => ?_;refine S_emptyO Tk 30 J J J J fun A30 => ?_;refine back _ _ _ _ (by kernel_rfl) ?_; clear back
  refine Da J J ?_;refine Nt 8 J J J J J J fun back => ?_;refine S_appO Tk 30 J J J J J J J J J J J (fun _ _ => J) (src_G hol1 hog1) (intC_one _) (by simp only; omega) (by simp only [maxLen]; omega) (Nat.le_refl _) fun A31 c31 => ?_;refine back _ _ _ _ (by kernel_rfl) ?_; clear back
  refine Da J J ?_;refine Nt 10 J J J J J J fun back => ?_;refine S_slice Tk ZT_ok J J J J (by decide) (by decide) J J J J fun b32 => ?_;refine back _ _ _ _ (by kernel_rfl) ?_; clear back
  refine Da J J ?_;refine Nt 11 J J J J J J fun back => ?_
  refine S_app1 Tk 7 137 J J J J J J J J J J J J J J (by intro u hu; simp at hu; rcases hu with rfl | rfl | rfl | rfl | rfl <;> rfl) rfl (fun _ _ => rfl) (by omega) (Nat.zero_le _) fun A33 c33 => ?_
  refine back _ _ _ _ (by kernel_rfl) ?_; clear back
  refine Da J J ?_;refine Ns 13 J J J J J J J J J ?_;refine DD ?_;refine Va J J ?_;refine S_freezeR 30 J J (Nat.le_refl _) fun G2 hext2 hnc2 hcm2 hcl2 => ?_
  have hclk2 : Ints G2 (clkL n (C.own who)) (.slice A31 (0 + n) c31) := frz (Cs_intC (clk_i64 hO2)) (by rw [clkL_len]; omega) (by omega) hnc2 hcm2 (by simpa using hcl2)
  refine S_index Tk J J J J J J (by omega) (by omega) ?_;refine Va J J ?_;refine S_storeO (o := who) Tk 4 J J J (by simp [add_lit']) J J J J J (by simp only [List.length_set, hp.1]; omega) rfl ?_;refine Va J J ?_;refine S_pair 6 7 20 J J J J ?_;refine S_pair 4 20 21 J J J J ?_;refine S_pair 21 3 22 J J J J ?_;exact S_retm 22 (Res.c1 Tk Tryz.results36 J J) J (hext1.trans hext2) ⟨_, J, _, _, _, _, _, _, _, _, _, by rw [List.length_append]; rfl, by rw [List.length_append]; rfl, CkRow_set (CkRow_le hext2.le hp) (Ints_le hext2.le hown1), CkRow_le hext2.le hr, Cs_append (Cs_mono (fun _ _ _ h => mkRep_le hext2.le h) hm) ⟨_, _, by rw [clkL_len, Nat.zero_add], by rw [clkL_len]; simpa using hclk2, i2, by simp only; omega, hi⟩ rfl⟩
 rw [if_neg h4] at hmk
 obtain rfl : ms' = ms := by simpa using hmk
 refine S_index Tk J J J J J J (by omega) (by omega) ?_;refine Va J J ?_;refine S_storeO (o := who) Tk 4 J J J (by simp [add_lit']) J J J J J (by simp only [List.length_set, hp.1]; omega) rfl ?_;refine Va J J ?_;refine S_pair 6 7 20 J J J J ?_;refine S_pair 4 20 21 J J J J ?_;refine S_pair 21 3 22 J J J J ?_;exact S_retm 22 (Res.c1 Tk Tryz.results36 J J) J hext1 ⟨_, J, _, _, _, _, _, _, _, _, _, J, J, CkRow_set hp hown1, hr, hm⟩
theorem c_l7Step (n : Nat) (C : Ck) (ms : List Mk) (W : Wld) (who i B : Nat) (cv : Value) (cs ts : List Value) (A : HP) (G : PH) (hI : Inv W B) (hB : B ≤ 1000000) (hn : W.procs.length = n) (ht : Tds G W.procs ts) (hw : who < n) (hc : codeOf W (who : Nat) = 0)
  (hC : C.ok 1000) (hclk : ClkP n C ms cv G A) (hi : i ≤ 200) (hml : ms.length ≤ 200) :
  Mod Tryz.prog 36 [cv, .agg cs.toArray, .int .i64 (who : Nat), .int .i64 (i : Nat)] G (pairHP A (worldV cs W ts)) fun v G' A' => ∃ A1, A' = pairHP A1 (worldV cs W ts) ∧ ClkP n (C.ahead W who) (ms ++ markP n (C.ahead W who) W who i) v G' A1 :=
 c_l7Step' n C _ ms _ W who i B cv cs ts A G hI hB hn ht hw hc hC hclk hi hml rfl rfl
end
section
attribute [local irreducible] X Pure Mod
theorem c_join (x0 x1 x2 y0 y1 y2 : Int) (G : PH) : Pure Tryz.prog 77 [.agg #[.int .i64 x0, .int .i64 x1, .int .i64 x2], .agg #[.int .i64 y0, .int .i64 y1, .int .i64 y2]] G fun v G' => v = .agg #[.int .i64 (max x0 y0), .int .i64 (max x1 y1), .int .i64 (max x2 y2)] ∧ G' = G := by
 refine Pure.intro Tryz.func77 Tryz.ntmps77 J J fun w => ?_;refine Va J J ?_;refine S_box J J J J J fun b2 => ?_;refine Va J J ?_;refine S_box J J J J J fun b3 => ?_;refine Va J J ?_;refine AZ ZT_ok J J J J fun b4 => ?_;refine Va J J ?_;refine S_unroll 3 ?_;refine Va J J ?_;refine RT J J ?_;refine Va J J ?_;refine Ds J J J ?_;refine Da J J ?_;refine D_val 7 J J J J J J J J J (V_max J J) ?_;refine Da J J ?_
 refine Ns 9 J J J J J J J J J ?_;refine DD ?_;refine Va J J ?_;refine S_add J J J J (by omega) ?_;refine Va J J ?_;refine S_next ?_;refine Va J J ?_;refine RT J J ?_;refine Va J J ?_;refine Ds J J J ?_;refine Da J J ?_;refine D_val 7 J J J J J J J J J (V_max J J) ?_;refine Da J J ?_;refine Ns 9 J J J J J J J J J ?_;refine DD ?_;refine Va J J ?_;refine S_add J J J J (by omega) ?_;refine Va J J ?_;refine S_next ?_
 refine Va J J ?_;refine RT J J ?_;refine Va J J ?_;refine Ds J J J ?_;refine Da J J ?_;refine D_val 7 J J J J J J J J J (V_max J J) ?_;refine Da J J ?_;refine Ns 9 J J J J J J J J J ?_;refine DD ?_;refine Va J J ?_;refine S_add J J J J (by omega) ?_;refine Va J J ?_;refine S_next ?_;refine Va J J ?_;refine RF J J ?_;refine Va J J ?_;exact S_retp (Res.c1 Tk Tryz.results77 J J) XR ⟨J, J⟩
def KAB (k a b : Int) (v : Value) : Prop := ∃ n A1 n1 c1 A2 n2 c2, v = .agg #[.int .i64 k, .int .i64 a, .int .i64 b, .int .i64 n, .slice A1 n1 c1, .slice A2 n2 c2]
def fstAW (W : Wld) (who : Nat) : Int := match W.procs[who]? with
 | some p => fstA p
 | none => 0
def fstBW (W : Wld) (who : Nat) : Int := match W.procs[who]? with
 | some p => fstB p
 | none => 0
theorem c_firstAB (W : Wld) (who : Nat) (b : Nat) (ts : List Value) (G : PH) (h1 : 1 ≤ W.procs.length) (h3 : W.procs.length ≤ 3) (ht : Tds G W.procs ts) (hw : who < W.procs.length) :
  Mod Tryz.prog 58 [.pointer (some ⟨b, 0, none⟩), .int .i64 (who : Nat)] G (worldP b W ts) fun v G' A' => G' = G ∧ A' = worldP b W ts ∧ KAB (fstK W who) (fstAW W who) (fstBW W who) v := by
 refine Mod.intro Tryz.func58 Tryz.ntmps58 J J fun w S => ?_;obtain ⟨ps, x0, x1, x2, m0, m1, q0, q1, sd⟩ := W
 rcases shape h1 h3 ht with ⟨⟨a0, a1, a2, td0, mo0, on0, ro0⟩, A0, k0, rfl, rfl, s0⟩ | ⟨⟨a0, a1, a2, td0, mo0, on0, ro0⟩, A0, k0, ⟨b0, b1, b2, td1, mo1, on1, ro1⟩, A1, k1, rfl, rfl, s0, s1⟩ | ⟨⟨a0, a1, a2, td0, mo0, on0, ro0⟩, A0, k0, ⟨b0, b1, b2, td1, mo1, on1, ro1⟩, A1, k1, ⟨d0, d1, d2, td2, mo2, on2, ro2⟩, A2, k2, rfl, rfl, s0, s1, s2⟩
 ·obtain rfl : who = 0 := by simpa using hw
  refine OpP 1 0 J J J J fun bp bc br bs bg kp sp asd ksd aq0 kq0 aq1 kq1 kc spc kr spr ks sps kg spg hbg hmk => ?_; obtain ⟨g0, rfl⟩ := len1 hbg; clear hbg; refine NM J J ?_; dsimp only [wEnts, wCels, procCs, regEs, WX.of, vi]
  refine Va J J ?_;refine AZ ZT_ok J J J J fun b4 => ?_;refine Va J J ?_;refine AZ ZT_ok J J J J fun b5 => ?_;refine Va J J ?_
  by_cases hm : mo0 = 2
  ·subst hm
   refine RT J J ?_;refine Va J J ?_;exact RK (1007 :: wKeys 1) (Res.c1 Tk Tryz.results58 J J) ⟨J, J, 0, none, 0, 0, none, 0, 0, J⟩ (Wpp [_] kg spg J ‹_› J J J J J J J J) J (.blk J J (Wsub 5 J J J J J J J J J J J J J J J J (Bs 3 J J J J .nil))) XR
  rcases td0 with _ | ⟨⟨kk, a, bb, n, x, y⟩, r⟩
  ·refine RT J (by simp) ?_
   refine Va J J ?_;exact RK (1007 :: wKeys 1) (Res.c1 Tk Tryz.results58 J J) ⟨J, J, 0, none, 0, 0, none, 0, 0, by rw [show fstK _ _ = 0 by simp [fstK, fstP], show fstAW _ _ = 0 by simp [fstAW, fstA], show fstBW _ _ = 0 by simp [fstBW, fstB]]⟩ (Wpp [_] kg spg J ‹_› J J J J J J J J) J (.blk J J (Wsub 5 J J J J J J J J J J J J J J J J (Bs 3 J J J J .nil))) XR
  ·obtain ⟨ad, vx, vy, rfl, hcs, hx, hy, i1, i2, i3, i4⟩ := Sts_head s0
   simp only [Stm.kind, Stm.a, Stm.b, Stm.n, Stm.body, Stm.els] at hcs hx hy
   obtain ⟨Ax, cx, rfl, _⟩ := id hx
   obtain ⟨Ay, cy, rfl, _⟩ := id hy
   refine RF J (by simp [hm]; omega) ?_;refine Va J J ?_
   refine S_index Tk J J J J J J (by omega) (by simp <;> omega) ?_
   refine S_loadA Tk J J J J J (by simpa [add_zero'] using hcs) ?_;refine Va J J ?_;exact RK (1007 :: wKeys 1) (Res.c1 Tk Tryz.results58 J J) ⟨J, J, by rw [show fstK _ _ = kk by simp [fstK, fstP, hm, Stm.kind], show fstAW _ _ = a by simp [fstAW, fstA, hm, Stm.a], show fstBW _ _ = bb by simp [fstBW, fstB, hm, Stm.b]]; exact ⟨_, _, _, _, _, _, _, J⟩⟩ (Wpp [_] kg spg J ‹_› J J J J J J J J) J (.blk J J (Wsub 5 J J J J J J J J J J J J J J J J (Bs 3 J J J J .nil))) XR
 ·rcases (by simp at hw; omega : who = 0 ∨ who = 1) with rfl | rfl
  ·refine OpP 1 0 J J J J fun bp bc br bs bg kp sp asd ksd aq0 kq0 aq1 kq1 kc spc kr spr ks sps kg spg hbg hmk => ?_; obtain ⟨g0, g1, rfl⟩ := len2 hbg; clear hbg; refine NM J J ?_; dsimp only [wEnts, wCels, procCs, regEs, WX.of, vi]
   refine Va J J ?_;refine AZ ZT_ok J J J J fun b4 => ?_;refine Va J J ?_;refine AZ ZT_ok J J J J fun b5 => ?_;refine Va J J ?_
   by_cases hm : mo0 = 2
   ·subst hm
    refine RT J J ?_;refine Va J J ?_;exact RK (1007 :: wKeys 2) (Res.c1 Tk Tryz.results58 J J) ⟨J, J, 0, none, 0, 0, none, 0, 0, J⟩ (Wpp [_, _] kg spg J ‹_› J J J J J J J J) J (.blk J J (Wsub 10 J J J J J J J J J J J J J J J J (Bs 3 J J J J (Bs 3 J J J J .nil)))) XR
   rcases td0 with _ | ⟨⟨kk, a, bb, n, x, y⟩, r⟩
   ·refine RT J (by simp) ?_
    refine Va J J ?_;exact RK (1007 :: wKeys 2) (Res.c1 Tk Tryz.results58 J J) ⟨J, J, 0, none, 0, 0, none, 0, 0, by rw [show fstK _ _ = 0 by simp [fstK, fstP], show fstAW _ _ = 0 by simp [fstAW, fstA], show fstBW _ _ = 0 by simp [fstBW, fstB]]⟩ (Wpp [_, _] kg spg J ‹_› J J J J J J J J) J (.blk J J (Wsub 10 J J J J J J J J J J J J J J J J (Bs 3 J J J J (Bs 3 J J J J .nil)))) XR
   ·obtain ⟨ad, vx, vy, rfl, hcs, hx, hy, i1, i2, i3, i4⟩ := Sts_head s0
    simp only [Stm.kind, Stm.a, Stm.b, Stm.n, Stm.body, Stm.els] at hcs hx hy
    obtain ⟨Ax, cx, rfl, _⟩ := id hx
    obtain ⟨Ay, cy, rfl, _⟩ := id hy
    refine RF J (by simp [hm]; omega) ?_;refine Va J J ?_
    refine S_index Tk J J J J J J (by omega) (by simp <;> omega) ?_
    refine S_loadA Tk J J J J J (by simpa [add_zero'] using hcs) ?_;refine Va J J ?_;exact RK (1007 :: wKeys 2) (Res.c1 Tk Tryz.results58 J J) ⟨J, J, by rw [show fstK _ _ = kk by simp [fstK, fstP, hm, Stm.kind], show fstAW _ _ = a by simp [fstAW, fstA, hm, Stm.a], show fstBW _ _ = bb by simp [fstBW, fstB, hm, Stm.b]]; exact ⟨_, _, _, _, _, _, _, J⟩⟩ (Wpp [_, _] kg spg J ‹_› J J J J J J J J) J (.blk J J (Wsub 10 J J J J J J J J J J J J J J J J (Bs 3 J J J J (Bs 3 J J J J .nil)))) XR
  ·refine OpP 1 0 J J J J fun bp bc br bs bg kp sp asd ksd aq0 kq0 aq1 kq1 kc spc kr spr ks sps kg spg hbg hmk => ?_; obtain ⟨g0, g1, rfl⟩ := len2 hbg; clear hbg; refine NM J J ?_; dsimp only [wEnts, wCels, procCs, regEs, WX.of, vi]
   refine Va J J ?_;refine AZ ZT_ok J J J J fun b4 => ?_;refine Va J J ?_;refine AZ ZT_ok J J J J fun b5 => ?_;refine Va J J ?_
   by_cases hm : mo1 = 2
   ·subst hm
    refine RT J J ?_;refine Va J J ?_;exact RK (1007 :: wKeys 2) (Res.c1 Tk Tryz.results58 J J) ⟨J, J, 0, none, 0, 0, none, 0, 0, J⟩ (Wpp [_, _] kg spg J ‹_› J J J J J J J J) J (.blk J J (Wsub 10 J J J J J J J J J J J J J J J J (Bs 3 J J J J (Bs 3 J J J J .nil)))) XR
   rcases td1 with _ | ⟨⟨kk, a, bb, n, x, y⟩, r⟩
   ·refine RT J (by simp) ?_
    refine Va J J ?_;exact RK (1007 :: wKeys 2) (Res.c1 Tk Tryz.results58 J J) ⟨J, J, 0, none, 0, 0, none, 0, 0, by rw [show fstK _ _ = 0 by simp [fstK, fstP], show fstAW _ _ = 0 by simp [fstAW, fstA], show fstBW _ _ = 0 by simp [fstBW, fstB]]⟩ (Wpp [_, _] kg spg J ‹_› J J J J J J J J) J (.blk J J (Wsub 10 J J J J J J J J J J J J J J J J (Bs 3 J J J J (Bs 3 J J J J .nil)))) XR
   ·obtain ⟨ad, vx, vy, rfl, hcs, hx, hy, i1, i2, i3, i4⟩ := Sts_head s1
    simp only [Stm.kind, Stm.a, Stm.b, Stm.n, Stm.body, Stm.els] at hcs hx hy
    obtain ⟨Ax, cx, rfl, _⟩ := id hx
    obtain ⟨Ay, cy, rfl, _⟩ := id hy
    refine RF J (by simp [hm]; omega) ?_;refine Va J J ?_
    refine S_index Tk J J J J J J (by omega) (by simp <;> omega) ?_
    refine S_loadA Tk J J J J J (by simpa [add_zero'] using hcs) ?_;refine Va J J ?_;exact RK (1007 :: wKeys 2) (Res.c1 Tk Tryz.results58 J J) ⟨J, J, by rw [show fstK _ _ = kk by simp [fstK, fstP, hm, Stm.kind], show fstAW _ _ = a by simp [fstAW, fstA, hm, Stm.a], show fstBW _ _ = bb by simp [fstBW, fstB, hm, Stm.b]]; exact ⟨_, _, _, _, _, _, _, J⟩⟩ (Wpp [_, _] kg spg J ‹_› J J J J J J J J) J (.blk J J (Wsub 10 J J J J J J J J J J J J J J J J (Bs 3 J J J J (Bs 3 J J J J .nil)))) XR
 ·rcases (by simp at hw; omega : who = 0 ∨ who = 1 ∨ who = 2) with rfl | rfl | rfl
  ·refine OpP 1 0 J J J J fun bp bc br bs bg kp sp asd ksd aq0 kq0 aq1 kq1 kc spc kr spr ks sps kg spg hbg hmk => ?_; obtain ⟨g0, g1, g2, rfl⟩ := len3 hbg; clear hbg; refine NM J J ?_; dsimp only [wEnts, wCels, procCs, regEs, WX.of, vi]
   refine Va J J ?_;refine AZ ZT_ok J J J J fun b4 => ?_;refine Va J J ?_;refine AZ ZT_ok J J J J fun b5 => ?_;refine Va J J ?_
   by_cases hm : mo0 = 2
   ·subst hm
    refine RT J J ?_;refine Va J J ?_;exact RK (1007 :: wKeys 3) (Res.c1 Tk Tryz.results58 J J) ⟨J, J, 0, none, 0, 0, none, 0, 0, J⟩ (Wpp [_, _, _] kg spg J ‹_› J J J J J J J J) J (.blk J J (Wsub 15 J J J J J J J J J J J J J J J J (Bs 3 J J J J (Bs 3 J J J J (Bs 3 J J J J .nil))))) XR
   rcases td0 with _ | ⟨⟨kk, a, bb, n, x, y⟩, r⟩
   ·refine RT J (by simp) ?_
    refine Va J J ?_;exact RK (1007 :: wKeys 3) (Res.c1 Tk Tryz.results58 J J) ⟨J, J, 0, none, 0, 0, none, 0, 0, by rw [show fstK _ _ = 0 by simp [fstK, fstP], show fstAW _ _ = 0 by simp [fstAW, fstA], show fstBW _ _ = 0 by simp [fstBW, fstB]]⟩ (Wpp [_, _, _] kg spg J ‹_› J J J J J J J J) J (.blk J J (Wsub 15 J J J J J J J J J J J J J J J J (Bs 3 J J J J (Bs 3 J J J J (Bs 3 J J J J .nil))))) XR
   ·obtain ⟨ad, vx, vy, rfl, hcs, hx, hy, i1, i2, i3, i4⟩ := Sts_head s0
    simp only [Stm.kind, Stm.a, Stm.b, Stm.n, Stm.body, Stm.els] at hcs hx hy
    obtain ⟨Ax, cx, rfl, _⟩ := id hx
    obtain ⟨Ay, cy, rfl, _⟩ := id hy
    refine RF J (by simp [hm]; omega) ?_;refine Va J J ?_
    refine S_index Tk J J J J J J (by omega) (by simp <;> omega) ?_
    refine S_loadA Tk J J J J J (by simpa [add_zero'] using hcs) ?_;refine Va J J ?_;exact RK (1007 :: wKeys 3) (Res.c1 Tk Tryz.results58 J J) ⟨J, J, by rw [show fstK _ _ = kk by simp [fstK, fstP, hm, Stm.kind], show fstAW _ _ = a by simp [fstAW, fstA, hm, Stm.a], show fstBW _ _ = bb by simp [fstBW, fstB, hm, Stm.b]]; exact ⟨_, _, _, _, _, _, _, J⟩⟩ (Wpp [_, _, _] kg spg J ‹_› J J J J J J J J) J (.blk J J (Wsub 15 J J J J J J J J J J J J J J J J (Bs 3 J J J J (Bs 3 J J J J (Bs 3 J J J J .nil))))) XR
  ·refine OpP 1 0 J J J J fun bp bc br bs bg kp sp asd ksd aq0 kq0 aq1 kq1 kc spc kr spr ks sps kg spg hbg hmk => ?_; obtain ⟨g0, g1, g2, rfl⟩ := len3 hbg; clear hbg; refine NM J J ?_; dsimp only [wEnts, wCels, procCs, regEs, WX.of, vi]
   refine Va J J ?_;refine AZ ZT_ok J J J J fun b4 => ?_;refine Va J J ?_;refine AZ ZT_ok J J J J fun b5 => ?_;refine Va J J ?_
   by_cases hm : mo1 = 2
   ·subst hm
    refine RT J J ?_;refine Va J J ?_;exact RK (1007 :: wKeys 3) (Res.c1 Tk Tryz.results58 J J) ⟨J, J, 0, none, 0, 0, none, 0, 0, J⟩ (Wpp [_, _, _] kg spg J ‹_› J J J J J J J J) J (.blk J J (Wsub 15 J J J J J J J J J J J J J J J J (Bs 3 J J J J (Bs 3 J J J J (Bs 3 J J J J .nil))))) XR
   rcases td1 with _ | ⟨⟨kk, a, bb, n, x, y⟩, r⟩
   ·refine RT J (by simp) ?_
    refine Va J J ?_;exact RK (1007 :: wKeys 3) (Res.c1 Tk Tryz.results58 J J) ⟨J, J, 0, none, 0, 0, none, 0, 0, by rw [show fstK _ _ = 0 by simp [fstK, fstP], show fstAW _ _ = 0 by simp [fstAW, fstA], show fstBW _ _ = 0 by simp [fstBW, fstB]]⟩ (Wpp [_, _, _] kg spg J ‹_› J J J J J J J J) J (.blk J J (Wsub 15 J J J J J J J J J J J J J J J J (Bs 3 J J J J (Bs 3 J J J J (Bs 3 J J J J .nil))))) XR
   ·obtain ⟨ad, vx, vy, rfl, hcs, hx, hy, i1, i2, i3, i4⟩ := Sts_head s1
    simp only [Stm.kind, Stm.a, Stm.b, Stm.n, Stm.body, Stm.els] at hcs hx hy
    obtain ⟨Ax, cx, rfl, _⟩ := id hx
    obtain ⟨Ay, cy, rfl, _⟩ := id hy
    refine RF J (by simp [hm]; omega) ?_;refine Va J J ?_
    refine S_index Tk J J J J J J (by omega) (by simp <;> omega) ?_
    refine S_loadA Tk J J J J J (by simpa [add_zero'] using hcs) ?_;refine Va J J ?_;exact RK (1007 :: wKeys 3) (Res.c1 Tk Tryz.results58 J J) ⟨J, J, by rw [show fstK _ _ = kk by simp [fstK, fstP, hm, Stm.kind], show fstAW _ _ = a by simp [fstAW, fstA, hm, Stm.a], show fstBW _ _ = bb by simp [fstBW, fstB, hm, Stm.b]]; exact ⟨_, _, _, _, _, _, _, J⟩⟩ (Wpp [_, _, _] kg spg J ‹_› J J J J J J J J) J (.blk J J (Wsub 15 J J J J J J J J J J J J J J J J (Bs 3 J J J J (Bs 3 J J J J (Bs 3 J J J J .nil))))) XR
  ·refine OpP 1 0 J J J J fun bp bc br bs bg kp sp asd ksd aq0 kq0 aq1 kq1 kc spc kr spr ks sps kg spg hbg hmk => ?_; obtain ⟨g0, g1, g2, rfl⟩ := len3 hbg; clear hbg; refine NM J J ?_; dsimp only [wEnts, wCels, procCs, regEs, WX.of, vi]
   refine Va J J ?_;refine AZ ZT_ok J J J J fun b4 => ?_;refine Va J J ?_;refine AZ ZT_ok J J J J fun b5 => ?_;refine Va J J ?_
   by_cases hm : mo2 = 2
   ·subst hm
    refine RT J J ?_;refine Va J J ?_;exact RK (1007 :: wKeys 3) (Res.c1 Tk Tryz.results58 J J) ⟨J, J, 0, none, 0, 0, none, 0, 0, J⟩ (Wpp [_, _, _] kg spg J ‹_› J J J J J J J J) J (.blk J J (Wsub 15 J J J J J J J J J J J J J J J J (Bs 3 J J J J (Bs 3 J J J J (Bs 3 J J J J .nil))))) XR
   rcases td2 with _ | ⟨⟨kk, a, bb, n, x, y⟩, r⟩
   ·refine RT J (by simp) ?_
    refine Va J J ?_;exact RK (1007 :: wKeys 3) (Res.c1 Tk Tryz.results58 J J) ⟨J, J, 0, none, 0, 0, none, 0, 0, by rw [show fstK _ _ = 0 by simp [fstK, fstP], show fstAW _ _ = 0 by simp [fstAW, fstA], show fstBW _ _ = 0 by simp [fstBW, fstB]]⟩ (Wpp [_, _, _] kg spg J ‹_› J J J J J J J J) J (.blk J J (Wsub 15 J J J J J J J J J J J J J J J J (Bs 3 J J J J (Bs 3 J J J J (Bs 3 J J J J .nil))))) XR
   ·obtain ⟨ad, vx, vy, rfl, hcs, hx, hy, i1, i2, i3, i4⟩ := Sts_head s2
    simp only [Stm.kind, Stm.a, Stm.b, Stm.n, Stm.body, Stm.els] at hcs hx hy
    obtain ⟨Ax, cx, rfl, _⟩ := id hx
    obtain ⟨Ay, cy, rfl, _⟩ := id hy
    refine RF J (by simp [hm]; omega) ?_;refine Va J J ?_
    refine S_index Tk J J J J J J (by omega) (by simp <;> omega) ?_
    refine S_loadA Tk J J J J J (by simpa [add_zero'] using hcs) ?_;refine Va J J ?_;exact RK (1007 :: wKeys 3) (Res.c1 Tk Tryz.results58 J J) ⟨J, J, by rw [show fstK _ _ = kk by simp [fstK, fstP, hm, Stm.kind], show fstAW _ _ = a by simp [fstAW, fstA, hm, Stm.a], show fstBW _ _ = bb by simp [fstBW, fstB, hm, Stm.b]]; exact ⟨_, _, _, _, _, _, _, J⟩⟩ (Wpp [_, _, _] kg spg J ‹_› J J J J J J J J) J (.blk J J (Wsub 15 J J J J J J J J J J J J J J J J (Bs 3 J J J J (Bs 3 J J J J (Bs 3 J J J J .nil))))) XR
end
section
attribute [local irreducible] X Pure Mod
def ckC (C : Ck) : List Value := [.int .i64 (C.pr 0 0), .int .i64 (C.pr 0 1), .int .i64 (C.pr 0 2), .int .i64 (C.pr 1 0), .int .i64 (C.pr 1 1), .int .i64 (C.pr 1 2), .int .i64 (C.pr 2 0), .int .i64 (C.pr 2 1), .int .i64 (C.pr 2 2),
 .int .i64 (C.rm 0 0), .int .i64 (C.rm 0 1), .int .i64 (C.rm 0 2), .int .i64 (C.rm 1 0), .int .i64 (C.rm 1 1), .int .i64 (C.rm 1 2)]
abbrev AhPost (bC bW : Nat) (C' : Ck) (W : Wld) (ts : List Value) (G : PH) : Value → PH → HP → Prop := fun v G' A' => G' = G ∧ A' = pairHP (blkHP bC 92 (ckC C')) (worldP bW W ts)
theorem c_ahead (C C' : Ck) (W : Wld) (who B bC bW : Nat) (ts : List Value) (G : PH) (hI : Inv W B) (hB : B ≤ 1000000) (ht : Tds G W.procs ts) (hw : who < W.procs.length) (hc : codeOf W (who : Nat) = 0) (hC : C.ok 1000) (hah : C' = C.ahead W who) :
  Mod Tryz.prog 59 [.pointer (some ⟨bC, 0, none⟩), .pointer (some ⟨bW, 0, none⟩), .int .i64 (who : Nat)] G (pairHP (blkHP bC 92 (ckC C)) (worldP bW W ts)) (AhPost bC bW C' W ts G) := by
 have hn3 := hI.n3
 have hn1 := hI.n1
 have hp0 : W.procs[who]? = some W.procs[who] := List.getElem?_eq_getElem hw
 have hgo := hI.go hc _ hp0
 have hk1 : fstK W who = fstP W.procs[who] := by simp [fstK, hp0]
 have hk2 : fstAW W who = fstA W.procs[who] := by simp [fstAW, hp0]
 have hk3 : fstBW W who = fstB W.procs[who] := by simp [fstBW, hp0]
 have hrd := hI.rdy hB
 have hfq : ∀ a, ∀ f ∈ W.que a, 0 ≤ f ∧ f < W.procs.length := by
  intro a f hf
  unfold Wld.que at hf
  split at hf
  ·exact hrd.f0 f hf
  ·exact hrd.f1 f hf
 rw [ahead_eq hp0] at hah
 obtain ⟨tv, htv, hst⟩ := Tds_at ht hp0
 obtain ⟨At, ct, rfl, _⟩ := id hst
 generalize hP : W.procs[who] = p at *
 have hg1 := hgo.1
 have hg2 : p.mode ≠ 2 → (fstP p = 8 → is2 (fstA p)) ∧ (fstP p = 9 → is2 p.room) ∧ (fstP p = 10 ∨ fstP p = 12 → is2 (fstA p)) := by
  intro hm
  obtain ⟨s, r, hT, hs⟩ := hgo.2 hm
  have e1 : fstP p = s.kind := by simp [fstP, hm, hT]
  have e2 : fstA p = s.a := by simp [fstA, hm, hT]
  rw [e1, e2]
  exact ⟨fun h => (hs.r8 h).1, fun h => (hs.r9 h).2, fun h => hs.r10 h⟩
 generalize fstP p = kk at *
 generalize fstA p = aa at *
 generalize fstB p = bb at *
 obtain ⟨r0, r1, r2, td, md, on, rm⟩ := p
 simp only at hah hg1 hg2 htv hst hgo
 clear hgo hP
 refine Mod.intro Tryz.func59 Tryz.ntmps59 J J fun w S => ?_
 unfold ckC
 have hbb := hC.p who who
 rcases (by omega : who = 0 ∨ who = 1 ∨ who = 2) with rfl | rfl | rfl
 all_goals
  refine S_unpair 1 2 3 J J ?_;refine S_hpB 2 100 J J J ?_;refine S_reE 0 (.ptr 100 0) J J ?_;refine Va J J ?_;refine Ds J J J ?_;refine Da J J ?_;refine D_val 5 J J J J J J J J J (V_add J J (by omega)) ?_;refine Da J J ?_;refine Ns 8 J J J J J J J J J ?_;refine DD ?_;refine S_P2V 3 101 4 J J J fun cs => ?_;refine S_csV 4 J ?_;rintro bp bc br bs kp asd ksd kc kr ks rfl
  refine S_reE 1 (.ptr 101 0) J J ?_;refine Va J J ?_;refine S_index Tk J J J J J J (by omega) (by omega) ?_;refine Va J J ?_;refine S_procW Tk 4 J J (by simp [add_lit']) J htv hp0 J J fun Ag cg => ?_;refine Va J J ?_;refine AZ ZT_ok J J J J fun b7 => ?_;refine Va J J ?_;refine S_V2P 101 4 3 J J (denL_vL _ _) J J J ?_;refine S_callM 3 Tryz.call58 (c_firstAB W _ bW ts _ hn1 hn3 ht hw) J J J J (fun _ => J) ?_
  rintro v1 G1 A1 ⟨rfl, rfl, hkab⟩ _
  rw [hk1, hk2, hk3] at hkab
  obtain ⟨nn, Ax, nx, cx, Ay, ny, cy, rfl⟩ := hkab
  refine AZ ZT_ok J J J J fun b8 => ?_;refine Va J J ?_
  by_cases hm2 : md = 2
  ·subst hm2
   refine RT J J ?_;refine Va J J ?_
   rw [if_pos rfl] at hah
   rcases hg1 rfl with rfl | rfl
   all_goals
    refine Ds J J J ?_;refine Da J J ?_;refine D_sole 11 J J (N_call 11 Tryz.call77 (c_join _ _ _ _ _ _ _) J J J J J J J J J J ?_)
    rintro v G' ⟨rfl, rfl⟩ _
    refine Da J J ?_;refine Ns 13 J J J J J J J J J ?_;refine DD ?_;refine Va J J ?_;refine S_Bhp 100 2 J J J J ?_;refine S_pair 2 3 5 J J J J ?_;exact S_endm 5 (Res.t0 Tryz.results59) rfl XR ⟨rfl, congrArg (fun z => pairHP (blkHP bC 92 z) (worldP bW W ts)) (by rw [hah]; simp [ckC, upF, jn, Ck.own, Ck.sig])⟩
  rw [if_neg hm2] at hah
  have hg3 := hg2 hm2
  clear hg2 hg1
  refine RF J (by simp [hm2]) ?_;refine Va J J ?_
  by_cases h8 : kk = 8
  ·subst h8
   refine RT J J ?_;refine Va J J ?_
   rw [if_pos rfl] at hah
   rcases hg3.1 rfl with rfl | rfl
   all_goals
    refine Ds J J J ?_;refine Da J J ?_;refine D_sole 11 J J (N_call 11 Tryz.call77 (c_join _ _ _ _ _ _ _) J J J J J J J J J J ?_)
    rintro v G' ⟨rfl, rfl⟩ _
    refine Da J J ?_;refine Ns 13 J J J J J J J J J ?_;refine DD ?_;refine Va J J ?_;refine S_Bhp 100 2 J J J J ?_;refine S_pair 2 3 5 J J J J ?_;exact S_endm 5 (Res.t0 Tryz.results59) rfl XR ⟨rfl, congrArg (fun z => pairHP (blkHP bC 92 z) (worldP bW W ts)) (by rw [hah]; simp [ckC, upF, jn, Ck.own, Ck.sig])⟩
  rw [if_neg h8] at hah
  refine RF J (by simp [h8]) ?_;refine Va J J ?_
  by_cases h12 : kk = 12
  ·subst h12
   refine RT J J ?_;refine Va J J ?_
   rw [if_pos rfl] at hah
   rcases hg3.2.2 (.inr rfl) with rfl | rfl
   all_goals
    refine Ds J J J ?_;refine Da J J ?_;refine Ns 9 J J J J J J J J J ?_;refine DD ?_;refine Va J J ?_;refine S_Bhp 100 2 J J J J ?_;refine S_pair 2 3 5 J J J J ?_;exact S_endm 5 (Res.t0 Tryz.results59) rfl XR ⟨rfl, congrArg (fun z => pairHP (blkHP bC 92 z) (worldP bW W ts)) (by rw [hah]; simp [ckC, upF, jn, Ck.own, Ck.sig])⟩
  rw [if_neg h12] at hah
  refine RF J (by simp [h12]) ?_;refine Va J J ?_
  by_cases h9 : kk = 9
  ·subst h9
   refine RT J J ?_;refine Va J J ?_
   rw [if_pos rfl] at hah
   rcases hg3.2.1 rfl with rfl | rfl
   all_goals
    refine Ds J J J ?_;refine Da J J ?_;refine Ns 9 J J J J J J J J J ?_;refine DD ?_;refine Va J J ?_;refine S_Bhp 100 2 J J J J ?_;refine S_pair 2 3 5 J J J J ?_;exact S_endm 5 (Res.t0 Tryz.results59) rfl XR ⟨rfl, congrArg (fun z => pairHP (blkHP bC 92 z) (worldP bW W ts)) (by rw [hah]; simp [ckC, upF, jn, Ck.own, Ck.sig])⟩
  rw [if_neg h9] at hah
  refine RF J (by simp [h9]) ?_;refine S_P2V 3 102 4 J J J fun cs => ?_;refine S_csV 4 J ?_;rintro bp bc br bs kp asd ksd kc kr ks rfl
  refine S_reE 1 (.ptr 102 0) J J ?_;refine Va J J ?_
  by_cases h10 : kk = 10
  ·subst h10
   rw [if_pos rfl] at hah
   have hia := hg3.2.2 (.inl rfl)
   have ha2 : 0 ≤ aa ∧ aa < 2 := by rcases hia with h | h <;> omega
   refine S_queW 4 aa hia J (fun _ _ => J) fun Asq csq => ?_
   cases hq : W.que aa with
   | nil =>
    rw [hq] at hah
    refine Ds J J J ?_;refine Da J J ?_;refine D_split 97 J (fun _ => J) (fun hh => ?_) (fun hh => absurd hh (by simp))
    refine Da J J ?_;refine D_val 10 J J J J J J J J J (V_index Tk J J J J (by omega) (by omega)) ?_;refine Da J J ?_;refine D_val 11 J J J J J J J J J (V_signQ Tk 4 J J (by simp [add_lit']) J J) ?_;refine Da J J ?_;refine DD ?_;refine Va J J ?_;refine RF J (by simp [hq]) ?_;refine S_unQ 4 J J ?_;refine S_V2P 102 4 3 J J (denL_vL _ _) J J J ?_;refine Va J J ?_;refine S_Bhp 100 2 J J J J ?_;refine S_pair 2 3 5 J J J J ?_
    exact S_endm 5 (Res.t0 Tryz.results59) rfl XR ⟨rfl, congrArg (fun z => pairHP (blkHP bC 92 z) (worldP bW W ts)) (by rw [hah]; simp [ckC, upF, jn, Ck.own, Ck.sig])⟩
   | cons f rq =>
    have hf := hfq aa f (by rw [hq]; exact List.mem_cons_self ..)
    have hqn : W.que aa ≠ [] := by rw [hq]; simp
    rw [hq] at hah
    refine S_someQ 4 J hqn fun adq e => ?_
    subst e
    refine Ds J J J ?_;refine Da J J ?_;refine D_split 97 J (fun _ => J) (fun hh => ?_) (fun hh => absurd hh (by simp))
    refine Da J J ?_;refine D_val 10 J J J J J J J J J (V_index Tk J J J J (by omega) (by omega)) ?_;refine Da J J ?_;refine D_val 11 J J J J J J J J J (V_signQ Tk 4 J J (by simp [add_lit']) J J) ?_;refine Da J J ?_;refine DD ?_;refine Va J J ?_
    refine RT J (by simp [hq] <;> omega) ?_
    refine Va J J ?_
    rcases (by omega : f = 0 ∨ f = 1 ∨ f = 2) with rfl | rfl | rfl
    all_goals
     refine Ds J J J ?_;refine Da J J ?_;refine D_val 7 J J J J J J J J J (V_index Tk J J J J (by omega) (by omega)) ?_;refine Da J J ?_;refine D_val 8 J J J J J J J J J (V_signQ Tk 4 J J (by simp [add_lit']) J J) ?_;refine Da J J ?_;refine D_val 9 J J J J J J J J J (V_index Tk J J J J (by omega) (by rw [hq]; simp)) ?_;refine Da J J ?_;refine D_val 10 J J J J J J J J J (V_headQ Tk 4 J (by simp [add_zero']; rfl) hq rfl rfl) ?_
     refine Da J J ?_;refine DD ?_;refine Va J J ?_;refine S_unQ 4 J J ?_;refine S_V2P 102 4 3 J J (denL_vL _ _) J J J ?_;refine Ds J J J ?_;refine Da J J ?_;refine D_sole 7 J J (N_call 7 Tryz.call77 (c_join _ _ _ _ _ _ _) J J J J J J J J J J ?_)
     rintro v G' ⟨rfl, rfl⟩ _
     refine Da J J ?_;refine Ns 9 J J J J J J J J J ?_;refine DD ?_;refine Va J J ?_;refine S_Bhp 100 2 J J J J ?_;refine S_pair 2 3 5 J J J J ?_;exact S_endm 5 (Res.t0 Tryz.results59) rfl XR ⟨rfl, congrArg (fun z => pairHP (blkHP bC 92 z) (worldP bW W ts)) (by rw [hah]; simp [ckC, upF, jn, Ck.own, Ck.sig])⟩
  rw [if_neg h10] at hah
  refine Ds J J J ?_;refine Da J J ?_;refine D_split 97 J (fun _ => J) (fun hh => absurd hh (by simp [h10])) (fun hh => ?_)
  refine Da J J ?_;refine DD ?_;refine S_V2P 102 4 3 J J (denL_vL _ _) J J J ?_;refine Va J J ?_;refine S_Bhp 100 2 J J J J ?_;refine S_pair 2 3 5 J J J J ?_;exact S_endm 5 (Res.t0 Tryz.results59) rfl XR ⟨rfl, congrArg (fun z => pairHP (blkHP bC 92 z) (worldP bW W ts)) (by rw [hah]; simp [ckC, upF, jn, Ck.own, Ck.sig])⟩
end
section
attribute [local irreducible] X Pure Mod
theorem drop_at' {α : Type} {l : List α} {i : Nat} (h : i < l.length) : l.drop i = l[i] :: l.drop (i + 1) := List.drop_eq_getElem_cons h
theorem ahead_ok' {C : Ck} {i : Nat} (h : C.ok (i : Nat)) (W : Wld) (who : Nat) : (C.ahead W who).ok ((i + 1 : Nat) : Int) := by
 have := h.ahead W who
 rwa [show ((i : Nat) : Int) + 1 = ((i + 1 : Nat) : Int) by omega] at this
theorem markP_len (n : Nat) (C : Ck) (W : Wld) (who i : Nat) : (markP n C W who i).length ≤ 1 := by
 unfold markP
 split
 ·simp
 ·split
  ·simp
  ·split <;> simp
theorem marksF_cons_go {n : Nat} {q : Int} {k : Nat} {r : List Int} {i : Nat} {C : Ck} {W : Wld} (hq : q = k) (h : codeOf W (k : Nat) = 0) : marksF n (q :: r) i C W = markP n (C.ahead W k) W k i ++ marksF n r (i + 1) (C.ahead W k) (W.step k) := by
 subst hq
 rw [marksF, if_pos h, Int.toNat_natCast]
theorem marksF_cons_no {n : Nat} {q : Int} {r : List Int} {i : Nat} {C : Ck} {W : Wld} (h : ¬ codeOf W q = 0) : marksF n (q :: r) i C W = marksF n r (i + 1) C W := by
 rw [marksF, if_neg h]
structure MS where
 i : Nat
 V : Wld
 B : Nat
 x : WV
 ts : List Value
 C : Ck
 ms : List Mk
 Ap : Option Addr
 cp : Nat
 vp : List Value
 Ar : Option Addr
 cr : Nat
 vr : List Value
 Am : Option Addr
 cm : Nat
 xm : List Value
 G : PH
theorem c_sMarksOf (p : List (List Stm)) (q : List Int) (pv qv : Value) (G : PH) (hp : PrgS G p pv) (hq : Ints G q qv) : Pure Tryz.prog 14 [pv, qv] G fun v G' => Mks G' (marksL p q) v := by
 obtain ⟨Ap, cp, rfl, _⟩ := id hp.1
 obtain ⟨Aq, cq, rfl, _⟩ := id hq
 refine Pure.intro Tryz.func14 Tryz.ntmps14 J J fun w => ?_;refine Va J J ?_;refine S_call Tryz.call13 (c_ProgOk p _ G hp.1) J J J ?_;rintro v G5 ⟨rfl, rfl⟩ _
 refine Va J J ?_
 refine S_cond J (fun h => ?_) (fun h => ?_) <;> refine Va J J ?_
 ·have hnone : marksL p q = [] := by
   simp only [Bool.or_eq_true, Bool.not_eq_true', decide_eq_true_eq] at h
   unfold marksL
   rw [if_neg]
   rintro ⟨h1, h2⟩
   rcases h with h | h
   ·rw [h1] at h; cases h
   ·omega
  refine S_emptyO Tk 5 J J J J fun A0 => ?_;refine S_freezeR 5 J J (Nat.le_refl _) fun G1 hext1 _ _ _ => ?_;refine Va J J ?_;exact S_retp (Res.t1 Tryz.results14 J J) hext1 (by rw [hnone]; exact ⟨A0, 0, J, by simp, Nat.le_refl _, by simp [maxLen], .inl J⟩)
 simp only [Bool.or_eq_false_iff, Bool.not_eq_false', decide_eq_false_iff_not] at h
 obtain ⟨hpo, hq2⟩ := h
 have hml : marksL p q = marksF p.length q 0 Ck.zero (open0 p) := by
  unfold marksL
  rw [if_pos ⟨hpo, by omega⟩]
 have hp13 := (prog_parts hpo).2
 refine S_callN 1 Tryz.call33 (c_l3Open p _ G5 hp) J J J ?_;rintro v1 G1 A1 (⟨_, cs, ts, rfl, rfl, htd⟩ | ⟨hpf, _⟩) hext1
 rotate_left
 ·rw [hpo] at hpf; cases hpf
 have hI0 := Inv_open hpo hp.2.1
 have hpl : (open0 p).procs.length = p.length := by simp [open0]
 refine S_newHP 1 J J ?_;refine S_csV 1 J ?_;rintro bp bc br bs kp asd ksd kc kr ks rfl
 refine Va J J ?_;refine AZ ZT_ok J J J J fun b5 => ?_;refine Va J J ?_;refine S_callN 40 Tryz.call34 (c_l7Open p.length _ hp13.1 hp13.2) J J J ?_;rintro v2 G2 A2 ⟨Ap2, cp2, vp2, Ar2, cr2, vr2, Am2, cm2, xm2, rfl, rfl, hp2, hr2, hm2⟩ hext2
 refine S_newHP 40 J J ?_;refine Va J J ?_;refine AZ ZT_ok J J J J fun b6 => ?_;refine Va J J ?_;refine S_pick [6, 5, 40, 1] J ?_;refine S_loop (α := MS) (fun y => y.i ≤ q.length ∧ PH.ext w.heap.size G5 y.G ∧ (Inv y.V y.B ∧ y.B ≤ y.i) ∧ Tds y.G y.V.procs y.ts ∧ y.V.procs.length = p.length ∧ (y.C.ok (y.i : Nat) ∧ y.ms.length ≤ y.i) ∧ (CkRow y.G p.length y.C.pr p.length y.vp ∧ CkRow y.G p.length y.C.rm 2 y.vr ∧ Cs 5 (mkRep y.G) y.ms y.xm) ∧ marksL p q = y.ms ++ marksF p.length (q.drop y.i) y.i y.C y.V) (fun y => q.length - y.i) [(6, b6), (5, b5)]
  (fun y => [(7, .val (.int .i64 (y.i : Nat))), (1, .val (.slice Aq q.length cq)), (6, .ptr 6 0), (5, .ptr 5 0)])
  (fun y => [.blk 6 59 (vL [.slice y.Ap p.length y.cp, .slice y.Ar 2 y.cr, .slice y.Am y.ms.length y.cm]), .blk 5 56 (vL (y.x.cs y.V)), .hp 40 (clkHP p.length y.Ap y.cp y.vp y.Ar y.cr y.vr y.Am y.ms.length y.cm y.xm), .hp 1 (worldV (y.x.cs y.V) y.V y.ts)]) (fun y => y.G) ⟨0, open0 p, 0, ⟨bp, bc, br, bs, kp, asd, ksd, kc, kr, ks⟩, ts, Ck.zero, [], Ap2, cp2, vp2, Ar2, cr2, vr2, Am2, cm2, xm2, G2⟩ ⟨Nat.zero_le _, hext1.trans hext2, ⟨hI0, Nat.le_refl _⟩, Tds_le hext2.le htd, hpl, ⟨Ck.ok.zero, Nat.le_refl _⟩, ⟨hp2, hr2, hm2⟩, hml⟩ rfl ?_ ?_ ?_
 ·exact ⟨⟨_, J, J⟩, ⟨_, J, J⟩, ⟨_, J, J⟩, ⟨_, J, J⟩, trivial⟩
 ·exact .blk J J (.blk J J (.hp (.hp .nil)))
 rintro ⟨i, V, B1, ⟨bp1, bc1, br1, bs1, kp1, asd1, ksd1, kc1, kr1, ks1⟩, ts1, C1, ms1, Ap1, cp1, vp1, Ar1, cr1, vr1, Am1, cm1, xm1, G3⟩ ⟨hi, hext, ⟨h1, hB1⟩, ht1, hlen, ⟨hC, hmsl⟩, ⟨hp1, hr1, hm1⟩, heq⟩
 simp only [WV.cs] at hi hext h1 hB1 ht1 hlen hC hmsl hp1 hr1 hm1 heq ⊢
 have hn1 := h1.n1
 have hn3 := h1.n3
 refine Va J J ?_
 refine S_condp J (fun h5 => ?_) (fun h5 => ?_) <;> refine Va J J ?_
 ·have hil : i < q.length := by omega
  rw [drop_at' hil] at heq
  obtain ⟨ad, cs5, e, hcs, rfl, hi5⟩ := Sr_at (Ints_le hext.le hq) hil
  cases e
  generalize hwe : q[i] = who at hcs hi5 heq
  have hcell : gcell G3 (ad.add (i * 1)) = some (.int .i64 who) := hcs.1
  refine Ds J J J ?_;refine Da J J ?_;refine Nt 3 J J J J J J fun back => ?_;refine S_index Tk J J J J J J (by omega) (by omega) ?_;refine back _ _ _ _ (by kernel_rfl) ?_; clear back
  refine Da J J ?_;refine Nt 4 J J J J J J fun back => ?_;refine S_load Tk J J J J J (by simpa using hcell) ?_;refine back _ _ _ _ (by kernel_rfl) ?_; clear back
  refine Da J J ?_;refine Nt 5 J J J J J J fun back => ?_;refine S_callM 1 Tryz.call35 (c_l3Code V who _ ts1 _ h1.n1 h1.n3 ht1 h1.head ⟨h1.m0, h1.m1⟩) J J J J (fun _ => J) ?_;rintro v G7 A' ⟨rfl, rfl, rfl⟩ _
  refine back _ _ _ _ (by kernel_rfl) ?_; clear back
  refine Da J J ?_;refine DD ?_;refine Va J J ?_
  refine S_condp J (fun h7 => ?_) (fun h7 => ?_) <;> refine Va J J ?_
  ·obtain ⟨k, hk, hkl⟩ := code0_who h7
   subst hk
   rw [marksF_cons_go rfl h7, ← List.append_assoc] at heq
   refine S_pair 40 1 41 J J J J ?_;refine Ds J J J ?_;refine Da J J ?_;refine Nt 4 J J J J J J fun back => ?_;refine S_index Tk J J J J J J (by omega) (by omega) ?_;refine back _ _ _ _ (by kernel_rfl) ?_; clear back
   refine Da J J ?_;refine Nt 5 J J J J J J fun back => ?_;refine S_load Tk J J J J J (by simpa using hcell) ?_;refine back _ _ _ _ (by kernel_rfl) ?_; clear back
   refine Da J J ?_;refine Nt 7 J J J J J J fun back => ?_;refine S_callM 41 Tryz.call36 (c_l7Step p.length C1 ms1 V k i B1 _ _ ts1 _ _ h1 (by omega) hlen ht1 (by omega) h7 (hC.mono (by omega)) ⟨_, _, _, _, _, _, _, _, _, rfl, rfl, hp1, hr1, hm1⟩ (by omega) (by omega)) rfl rfl rfl rfl (fun _ => rfl) ?_;rintro v G8 A' ⟨A8, rfl, Ap8, cp8, vp8, Ar8, cr8, vr8, Am8, cm8, xm8, rfl, rfl, hp8, hr8, hm8⟩ hext8
   refine back _ _ _ _ (by kernel_rfl) ?_; clear back
   refine Da J J ?_;refine Ns 8 J J J J J J J J J ?_;refine DD ?_;refine S_unpair 41 40 1 J J ?_
   have hcell8 := gcell_le hext8.le hcell
   refine Va J J ?_;refine Ds J J J ?_;refine Da J J ?_;refine Nt 3 J J J J J J fun back => ?_;refine S_index Tk J J J J J J (by omega) (by omega) ?_;refine back _ _ _ _ (by kernel_rfl) ?_; clear back
   refine Da J J ?_;refine Nt 4 J J J J J J fun back => ?_;refine S_load Tk J J J J J (by simpa using hcell8) ?_;refine back _ _ _ _ (by kernel_rfl) ?_; clear back
   refine Da J J ?_;refine Nt 5 J J J J J J fun back => ?_;refine S_callM 1 Tryz.call37 (c_l3Step V k _ ts1 _ (h1.rdy (by omega)) (Tds_le hext8.le ht1) hkl (h1.go h7)) J J J J (fun _ => J) ?_;rintro v G9 A' ⟨cs9, ts9, rfl, rfl, ht9⟩ hext9
   refine S_csV 1 J ?_;rintro bp9 bc9 br9 bs9 kp9 asd9 ksd9 kc9 kr9 ks9 rfl
   refine back _ _ _ _ (by kernel_rfl) ?_; clear back
   refine Da J J ?_;refine Ns 6 J J J J J J J J J ?_;refine DD ?_;refine Va J J ?_;refine S_add J J J J (by omega) ?_;refine Va J J ?_;refine S_pick [6, 5, 40, 1] J ?_
   have hmp := markP_len p.length (C1.ahead V k) V k i
   exact S_again ⟨i + 1, V.step k, B1 + 1, ⟨bp9, bc9, br9, bs9, kp9, asd9, ksd9, kc9, kr9, ks9⟩, ts9, C1.ahead V k, ms1 ++ markP p.length (C1.ahead V k) V k i, Ap8, cp8, vp8, Ar8, cr8, vr8, Am8, cm8, xm8, G9⟩ ⟨by simp only; omega, (hext.trans hext8).trans hext9, ⟨h1.step hkl h7, by simp only; omega⟩, ht9, by rw [Wld.step_len]; exact hlen, ⟨ahead_ok' hC V k, by simp only [List.length_append]; omega⟩, ⟨CkRow_le hext9.le hp8, CkRow_le hext9.le hr8, Cs_mono (fun _ _ _ h => mkRep_le hext9.le h) hm8⟩, heq⟩ (by simp only; omega) rfl ⟨⟨_, rfl, by simp [denO]⟩, ⟨_, rfl, rfl⟩, ⟨_, rfl, rfl⟩, ⟨_, rfl, rfl⟩, trivial⟩ (by simp only [WV.cs]; exact .blk J J (.blk J J (.hp (.hp .nil))))
  ·rw [marksF_cons_no h7] at heq
   refine S_add J J J J (by omega) ?_;refine Va J J ?_;refine S_pick [6, 5, 40, 1] J ?_;exact S_again ⟨i + 1, V, B1, ⟨bp1, bc1, br1, bs1, kp1, asd1, ksd1, kc1, kr1, ks1⟩, ts1, C1, ms1, Ap1, cp1, vp1, Ar1, cr1, vr1, Am1, cm1, xm1, G7⟩ ⟨by simp only; omega, hext, ⟨h1, by simp only; omega⟩, ht1, hlen, ⟨hC.mono (by simp only; omega), by simp only; omega⟩, ⟨hp1, hr1, hm1⟩, heq⟩ (by simp only; omega) rfl ⟨⟨_, rfl, by simp [denO]⟩, ⟨_, rfl, rfl⟩, ⟨_, rfl, rfl⟩, ⟨_, rfl, rfl⟩, trivial⟩ (by simp only [WV.cs]; exact .blk J J (.blk J J (.hp (.hp .nil))))
 ·have hin : i = q.length := by omega
  subst hin
  rw [List.drop_length, marksF, List.append_nil] at heq
  unfold clkHP
  refine S_unpair 40 2 3 J J ?_;refine S_unpair 3 4 7 J J ?_;refine S_rebase 7 (fun _ h => h) J J ?_;refine S_freezeR 7 J J (Nat.le_refl _) fun Gf hextf hncf hcmf hclf => ?_;exact S_retp (Res.t1 Tryz.results14 J J) (hext.trans hextf) (by rw [heq]; exact frz (Cs_mono (fun _ _ _ h => mkRep_le hextf.le h) hm1) J (by omega) hncf hcmf hclf)
end
section
def YieldM (P : Program) (l : Nat) (vs : List Value) (G : PH) (A At Af : HP) : Prop :=
 ∀ W S, Emb G W → A.holds W S → (∀ b, S b → G b = none) → YieldAt (FW none) 0 P l vs.toArray W (YieldR W S At Af)
theorem YieldM.le {P : Program} {l : Nat} {vs : List Value} {G G' : PH} {A At Af : HP} (h : YieldM P l vs G A At Af) (hG : G.le G') : YieldM P l vs G' A At Af := fun W S hE hA hS =>
 h W S (fun b o hb => hE b o (hG b o hb)) hA fun b hb => by
  cases hq : G b with
  | none => rfl
  | some o => have := hG b o hq; rw [hS b hb] at this; cases this
section
variable {C : Ctx} {k : List It} {E : Env} {ι : Ids} {L : List Ent} {G : PH} {all : Array Oper} {l : List Oper}
theorem S_yield (κ y : Nat) {A At Af : HP} {L' : HP → List Ent} {d : Nat} {x : Operand} {xs : Array Operand} {ats : Array TypeId} {ty : Nat} {pos : String} {af : Array Edge} {g : Option (Nat × Bool)} {vs : List Value} (hr : C.r = none) (hx : ev E x = some (.val (.func (.yield y) #[] #[])))
  (hy : YieldM C.P y vs G A At Af) (hg : guardOf all E g = .on) (hN : Nat.ble (d + 1) C.n = true) (hxs : evs ι E xs.toList = some vs) (hL : getH κ L = some A) (hL' : ∀ A', setH κ A' L = some (L' A'))
  (ht : X C (.ops all l :: k) ((d, .val (.bool true)) :: E) ι (L' At) G) (hf : X C (.ops all l :: k) ((d, .val (.bool false)) :: E) ι (L' Af) G) : X C (.ops all (⟨some d, .call ⟨.value x, xs, ats⟩, ty, pos, af, g⟩ :: l) :: k) E ι L G := by
 intro a w h1 h2 h3 h4
 have hdn : d < a.tmps.size := by rw [h2]; exact Nat.le_of_ble_eq_true hN
 obtain ⟨S, hA, hSG, hturn⟩ := h4.turn hL
 obtain ⟨fn, tmps, assign, body, hrun, hround⟩ := hy w S h4.emb hA hSG
 have hfv := ev_sound h3 hx
 simp only [denO, Option.some.injEq] at hfv
 have hvs := evs_sound h3 hxs
 show wpListIn _ _ _ _ _ _ _ _
 unfold wpListIn
 rw [if_pos (guardOf_on h3 hg)]
 refine ⟨fun _ _ => trivial, ?_⟩
 rw [Oper.semAt_eq _ _ _ (by intro c h; cases h)]
 have hrun2 : (execOp a.eval ⟨some d, .call ⟨.value x, xs, ats⟩, ty, pos, af, g⟩).run C.P w = .ok (.round y fn tmps assign body) w := by
  have e1 : xs.map a.eval = vs.toArray := by
   rw [← hvs]; cases xs; simp
  simp only [execOp, resolve, ← hfv]
  simp [Deferred.ofValue, invoke, e1, callFunc, hrun]
  done
 rw [hrun2]
 simp only [Oper.uponIn]
 refine ⟨fun h => by simp [FW, Fence.wide] at h, ?_⟩
 refine RoundIn.mono (F := FW C.r) (by rw [hr]; exact hround) ?_
 have fin : ∀ (v : Value) (A' : HP) (w' : World) (S' : Nat → Prop), (∀ b, S' b → S b ∨ w.heap.size ≤ b) → Frm S w w' → A'.holds w' S' → SatW C ι (L' A') G w' := by
  intro v A' w' S' hS' hF hA'
  refine hturn A' _ G w' S' (hL' A') hA' (fun b o hb => ?_) XR (fun b hb => ⟨?_, hS' b hb⟩) hF.os hF.tape hF.output hF.size hF.keep
  ·have hlt : b < w.heap.size := (Array.getElem?_eq_some_iff.1 (h4.emb b o hb)).1
   rw [hF.keep b hlt (fun hs => by rw [hSG b hs] at hb; cases hb)]
   exact h4.emb b o hb
  ·cases hq : G b with
   | none => rfl
   | some o =>
    rcases hS' b hb with h | h
    ·rw [hSG b h] at hq; cases hq
    ·have hlt : b < w.heap.size := (Array.getElem?_eq_some_iff.1 (h4.emb b o hq)).1
     omega
 rintro e w' ⟨S', hS', hF, ⟨rfl, hA'⟩ | ⟨rfl, hA'⟩⟩
 ·exact ht (a.put (some d) (.bool true)) w' h1 (by simp [Act.put, h2]) (h3.put hdn J) (fin (.bool true) _ _ _ hS' hF hA')
 ·exact hf (a.put (some d) (.bool false)) w' h1 (by simp [Act.put, h2]) (h3.put hdn J) (fin (.bool false) _ _ _ hS' hF hA')
theorem S_newB {d t : Nat} {op : Op} {ty : Nat} {pos : String} {af : Array Edge} {g : Option (Nat × Bool)} (hg : guardOf all E g = .on) (hnd : ∀ c, op ≠ .defer c) (hN : Nat.ble (d + 1) C.n = true) (hd : lookI d ι = none) {cs : List Cel}
  (hr : ∀ a w, AgE ι E a → SatW C ι L G w → ∃ vs, denL ι cs = some vs ∧ (execOp a.eval ⟨some d, op, ty, pos, af, g⟩).run C.P w = .ok (.value (.pointer (some ⟨w.heap.size, 0, none⟩))) (w.alloc (.cells vs.toArray t)))
  (hx : ∀ b, C.w0.heap.size ≤ b → X C (.ops all l :: k) ((d, .ptr d 0) :: E) ((d, b) :: ι) (.blk d t cs :: L) G) : X C (.ops all (⟨some d, op, ty, pos, af, g⟩ :: l) :: k) E ι L G := by
 intro a w h1 h2 h3 h4
 obtain ⟨vs, hvs, hrun⟩ := hr a w h3 h4
 refine wpE_val (guardOf_on h3 hg) hnd hrun ?_
 have hdn : d < a.tmps.size := by rw [h2]; exact Nat.le_of_ble_eq_true hN
 exact hx w.heap.size h4.size _ _ h1 (by simp [Act.put, h2]) ((h3.ids hd).put hdn (by simp [denO, lookI])) (h4.alloc hd cs hvs)
theorem S_boxB {d t : Nat} {x : Operand} {ty : Nat} {pos : String} {af : Array Edge} {g : Option (Nat × Bool)} {s : Sym} {cs : List Cel} (hg : guardOf all E g = .on) (hN : Nat.ble (d + 1) C.n = true) (hd : lookI d ι = none)
  (hx : ev E x = some s) (hc : cellsS s = some cs) (hk : ∀ b, C.w0.heap.size ≤ b → X C (.ops all l :: k) ((d, .ptr d 0) :: E) ((d, b) :: ι) (.blk d t cs :: L) G) : X C (.ops all (⟨some d, .box t x, ty, pos, af, g⟩ :: l) :: k) E ι L G := by
 refine S_newB (t := t) (cs := cs) hg (by intro c h; cases h) hN hd ?_ hk
 intro a w hE hw
 have ex := ev_sound hE hx
 exact ⟨_, cellsS_eq hc ex, by simp [execOp, Instr.box, newVar, newRow]⟩
theorem S_allocB {Z : ZTab} (hZ : zOk C.P Z) {d t : Nat} {z : ZI} {ty : Nat} {pos : String} {af : Array Edge} {g : Option (Nat × Bool)} (hz : lookZ t Z = some z) (hg : guardOf all E g = .on) (hN : Nat.ble (d + 1) C.n = true) (hd : lookI d ι = none)
  (hk : ∀ b, C.w0.heap.size ≤ b → X C (.ops all l :: k) ((d, .ptr d 0) :: E) ((d, b) :: ι) (.blk d t (vL z.zs) :: L) G) : X C (.ops all (⟨some d, .alloc t, ty, pos, af, g⟩ :: l) :: k) E ι L G := by
 obtain ⟨inf, v, hi, hv, hb, hc, _⟩ := viewZ_eq (hZ _ _ hz)
 refine S_newB (t := t) (cs := vL z.zs) hg (by intro c h; cases h) hN hd ?_ hk
 intro a w hE hw
 exact ⟨z.zs, denL_vL ι z.zs, by simp [execOp, Instr.alloc, newVar, newRow, zeroValue, typeInfo, hi, hv, hc]⟩
end
theorem IterR_of {α : Type} {P : Program} {gf : Nat} {cap : Array Value} {G : PH} {enc : α → List Value → Prop} {xs : List α}
  (h : ∀ (l : Nat) (A Ax : List α → HP), (∀ pre x vs, (pre ++ [x]) <+: xs → enc x vs → YieldM P l vs G (A pre) (A (pre ++ [x])) (Ax (pre ++ [x]))) →
   Mod P gf (.func (.yield l) #[] #[] :: cap.toList) G (A []) fun v G' A' => A' = A xs ∨ ∃ pre, A' = Ax pre) : IterR P gf cap G enc xs := by
 intro l A Ax W0 S0 hE hA hS hY
 have := h l A Ax (fun pre x vs hpre henc W S hE hA hS => hY pre x vs W S hpre henc hE hA hS) W0 S0 hE hA hS
 rw [show (.func (.yield l) #[] #[] :: cap.toList).toArray = #[.func (.yield l) #[] #[]] ++ cap by cases cap; simp] at this
 refine this.mono ?_;rintro e w' ⟨v, G', A', S', rfl, hp, hA', hext, hemb, hS', e1, e2, e3, e4, hkeep⟩
 refine ⟨v, S', rfl, fun b hb => (hS' b hb).2, ⟨e1, e2, e3, e4, hkeep⟩, ?_⟩
 rcases hp with rfl | ⟨pre, rfl⟩
 ·exact .inl hA'
 ·exact .inr ⟨pre, hA'⟩
end
section
def KC (P : Program) (n : Nat) (fn : Func) (G : PH) (Post : Value → Prop) (w : World) : Ctx := ⟨P, none, n, bodyPostM (FW none) 0 P fn (PureR G w fun v G' => Post v ∧ G' = G), w, fun _ => False, true⟩
theorem Pure.introM {P : Program} {f : FuncId} {fn : Func} {c : Code} {vs : List Value} {G : PH} {Post : Value → Prop} {n : Nat} (hf : P.funcs[f]? = some fn) (hn : fn.ntmps = n) (hb : fn.body = some c) (hle : Nat.ble vs.length n = true)
  (hx : ∀ w, Emb G w → X (KC P n fn G Post w) [.code c] (envOf 0 vs) [] [] G) : Pure P f vs G fun v G' => Post v ∧ G' = G := by
 intro w hw
 have hle' : vs.length ≤ n := Nat.le_of_ble_eq_true hle
 refine (callsIn_FW (r := none) (n := 0)).1 (callsIn_of_wp_marks hf hb trivial ?_ J)
 refine hx w hw { tmps := vs.toArray ++ Array.replicate (fn.ntmps - vs.toArray.size) undef, defers := [] } w DfsOk.nil (by simp [hn, KC]; omega) ?_ ?_
 ·intro i s hi
  obtain ⟨_, v, hv, rfl⟩ := look_envOf hi
  refine ⟨v, J, ?_⟩
  simp only [Nat.sub_zero] at hv
  rw [Array.getElem?_append_left (by
   have := (List.getElem?_eq_some_iff.1 hv).1
   simpa using this)]
  simpa using hv
 ·exact ⟨rfl, rfl, rfl, Nat.le_refl _, fun _ _ _ => rfl, hw, [], trivial, fun T hT => by cases hT⟩
theorem leaveM {P : Program} {fn : Func} {tmps : Array Value} {R : Ending → World → Prop} {w0 : World} {v : Value} (hres : ∀ w, (results fn tmps).run P w = .ok v w) (hR : ∀ w, Below w0.heap.size w0 w → R (.returned v) w) :
  ∀ (Ds : List Nat) (w : World), Ds.Nodup → (∀ D ∈ Ds, w0.heap.size ≤ D ∧ w.heap[D]? = some (.deferred (some []))) → Below w0.heap.size w0 w → LeavesInM (FW none) 0 P fn tmps R (Ds.map fun D => { target := .collected D, args := #[] }) .returning w := by
 intro Ds
 induction Ds with
 | nil => intro w _ _ hb; exact ⟨v, hres w, hR w hb⟩
 | cons D Ds ih =>
  intro w hn hD hb
  obtain ⟨h1, h2⟩ := hD D (List.mem_cons_self ..)
  refine ⟨by simp, .inl ⟨_, _, J, run_takeDeferred h2, ih _ (List.nodup_cons.1 hn).2 ?_ ?_⟩⟩
  ·intro D' hD'
   obtain ⟨h3, h4⟩ := hD D' (List.mem_cons_of_mem _ hD')
   refine ⟨h3, ?_⟩
   rw [World.putObj_heap_other (by rintro rfl; exact (List.nodup_cons.1 hn).1 hD')]
   exact h4
  ·refine ⟨hb.os, hb.tape, hb.output, ?_, fun b hb' => ?_⟩
   ·have := hb.size; simp; omega
   ·rw [World.putObj_heap_other (by omega)]
    exact hb.block b hb'
section
variable {P : Program} {fn : Func} {n : Nat} {G0 G : PH} {Post : Value → Prop} {w0 : World} {k : List It} {E : Env} {ι : Ids} {L : List Ent}
theorem S_retK {t : Nat} {s : Sym} {v : Value} (hw0 : Emb G0 w0) (hr : fn.results = #[.tmp t]) (hl : look t E = some s) (hv : denO ι s = some v) (hp : Post v) : X (KC P n fn G0 Post w0) (.code .ret :: k) E ι L G := by
 intro a w h1 h2 h3 h4
 refine wpE_ret (wpE_out k ?_)
 obtain ⟨Ds, d1, d2, d3⟩ := h1
 show LeavesInM _ _ _ _ _ _ a.defers .returning w
 rw [d2]
 refine leaveM (w0 := w0) (v := v) (fun w' => ?_) (fun w' hb => ?_) Ds w d1 (fun D hD => ⟨(d3 D hD).1, h4.emb _ _ (d3 D hD).2⟩) (h4.below fun _ h => h)
 ·obtain ⟨u, hu, ht⟩ := h3 t s hl
  rw [hv] at hu; cases hu
  rw [results_tmp hr]
  simp [Array.getD_eq_getD_getElem?, ht]
 ·refine ⟨v, G0, rfl, ⟨hp, rfl⟩, PH.ext.refl _ _, fun b o hbo => ?_, hb⟩
  have hlt : b < w0.heap.size := (Array.getElem?_eq_some_iff.1 (hw0 b o hbo)).1
  rw [hb.block b hlt]
  exact hw0 b o hbo
end
def deadHP : HP where
 holds _ _ := False
 loc _ _ _ h _ := h
 lt _ _ h := h.elim
theorem S_dead {C : Ctx} {k : List It} {E : Env} {ι : Ids} {L : List Ent} {G : PH} (κ : Nat) (hL : getH κ L = some deadHP) : X C k E ι L G := by
 intro a w h1 h2 h3 h4
 obtain ⟨S, hA, _⟩ := h4.turn hL
 exact hA.elim
end
section
def IterQ {α : Type} (P : Program) (gf : Nat) (cap : Array Value) (G : PH) (enc : α → List Value → Prop) (ok : List α → Prop) (Q : PH → List α → Prop) : Prop :=
 ∀ (l : Nat) (A Ax : List α → HP) (W0 : World) (S0 : Nat → Prop), Emb G W0 → (A []).holds W0 S0 → (∀ b, S0 b → G b = none) →
  (∀ pre x vs W S, ok (pre ++ [x]) → enc x vs → Emb G W → (A pre).holds W S → (∀ b, S b → G b = none) → YieldAt (FW none) 0 P l vs.toArray W (YieldR W S (A (pre ++ [x])) (Ax (pre ++ [x])))) →
  Calls P gf (#[.func (.yield l) #[] #[]] ++ cap) W0 fun e W' => ∃ v S' G', e = .returned v ∧ (∀ b, S' b → G' b = none ∧ (S0 b ∨ W0.heap.size ≤ b)) ∧ Frm S0 W0 W' ∧ PH.ext W0.heap.size G G' ∧ Emb G' W' ∧ ((∃ pre, Q G' pre ∧ (A pre).holds W' S') ∨ ∃ pre, (Ax pre).holds W' S')
theorem IterQ_of {α : Type} {P : Program} {gf : Nat} {cap : Array Value} {G : PH} {enc : α → List Value → Prop} {ok : List α → Prop} {Q : PH → List α → Prop}
  (h : ∀ (l : Nat) (A Ax : List α → HP), (∀ pre x vs, ok (pre ++ [x]) → enc x vs → YieldM P l vs G (A pre) (A (pre ++ [x])) (Ax (pre ++ [x]))) →
   Mod P gf (.func (.yield l) #[] #[] :: cap.toList) G (A []) fun v G' A' => (∃ pre, A' = A pre ∧ Q G' pre) ∨ ∃ pre, A' = Ax pre) : IterQ P gf cap G enc ok Q := by
 intro l A Ax W0 S0 hE hA hS hY
 have := h l A Ax (fun pre x vs hpre henc W S hE hA hS => hY pre x vs W S hpre henc hE hA hS) W0 S0 hE hA hS
 rw [show (.func (.yield l) #[] #[] :: cap.toList).toArray = #[.func (.yield l) #[] #[]] ++ cap by cases cap; simp] at this
 refine this.mono ?_;rintro e w' ⟨v, G', A', S', rfl, hp, hA', hext, hemb, hS', e1, e2, e3, e4, hkeep⟩
 refine ⟨v, S', G', J, hS', ⟨e1, e2, e3, e4, hkeep⟩, hext, hemb, ?_⟩
 rcases hp with ⟨pre, rfl, hq⟩ | ⟨pre, rfl⟩
 ·exact .inl ⟨pre, hq, hA'⟩
 ·exact .inr ⟨pre, hA'⟩
section
variable {C : Ctx} {k : List It} {E : Env} {ι : Ids} {L : List Ent} {G : PH}
theorem S_rangeQ {α : Type} {g : Operand} {ps : Array Tmp} {assign body : Code} {gf : Nat} {cap : Array Value} {enc : α → List Value → Prop} {ok : List α → Prop} {Q : PH → List α → Prop} (L' Lr : List α → List Ent) (hr : C.r = none) (hms : C.ms = true) (hg : ev E g = some (.val (.func (.func gf) #[] cap)))
  (hcf : ∀ args w, (callFunc gf args).run C.P w = .ok (.enter gf args) w) (hI : IterQ C.P gf cap G enc ok Q) (hps : ∀ x vs, enc x vs → vs.length = ps.size) (hpn : allLt C.n ps.toList = true) (h0 : subL ι ι L (L' []))
  (round : ∀ (l : Nat) (pre : List α) (x : α) (vs : List Value) (W : World) (S : Nat → Prop) (I : Act → World → Prop), ok (pre ++ [x]) → enc x vs → C.w0.heap.size ≤ W.heap.size →
   (∀ (E' : Env) (ι' : Ids) (L'' : List Ent), (∀ W2 S2, C.w0.heap.size ≤ W2.heap.size → X (RCx C l (roundQ C ι G (L' (pre ++ [x])) (Lr (pre ++ [x])) W2 S2) W2 S2) [.code body] E' ι' L'' G) → X (RCx C l (fun _ _ _ => False) W S) [.stop I] E' ι' L'' G) →
   X (RCx C l (fun _ _ _ => False) W S) [.code assign, .stop I] (setE ps.toList vs E) ι (L' pre) G)
  (hdone : ∀ D G' pre, Q G' pre → PH.ext C.w0.heap.size G G' → G' D = none → C.w0.heap.size ≤ D → X C k E ι (L' pre) (G'.add D (.deferred (some [])))) (hstop : ∀ D G' pre, PH.ext C.w0.heap.size G G' → G' D = none → C.w0.heap.size ≤ D → X C (.code .ret :: k) E ι (Lr pre) (G'.add D (.deferred (some [])))) : X C (.code (.rangeFunc g ps assign body) :: k) E ι L G := by
 intro a w h1 h2 h3 h4
 have eg := ev_sound h3 hg
 simp only [denO, Option.some.injEq] at eg
 show (Code.rangeFunc g ps assign body).wpIn (FW C.r) 0 C.P (wpE C k) a w
 refine wpIn_rangeFunc ?_
 intro fn hfn
 have hFr : (FW C.r).round = none := hr
 rw [hFr]
 obtain ⟨rec, hrec⟩ : ∃ rec : LoopState → Option Code → Loop, rec = fun st pe => { state := st, pending := pe, fn, tmps := a.tmps, params := ps, assign, body, defers := w.heap.size } := ⟨_, rfl⟩
 obtain ⟨W1, hW1⟩ : ∃ W1, (w.alloc (.deferred (some []))).alloc (.loop (rec .ready none)) = W1 := ⟨_, rfl⟩
 obtain ⟨Ss0, ho0, hS0⟩ := h4.own
 obtain ⟨Ss, ho, hSsub⟩ := subL_sound h0 ho0
 have hS : ∀ T ∈ Ss, ∀ b, T b → G b = none ∧ (C.S0 b ∨ C.w0.heap.size ≤ b) := fun T hT => hS0 T (hSsub T hT)
 have hlt := owns_lt ho
 have hGlt : ∀ b o, G b = some o → b < w.heap.size := fun b o hb => (Array.getElem?_eq_some_iff.1 (h4.emb b o hb)).1
 have hold : ∀ x, x < w.heap.size → W1.heap[x]? = w.heap[x]? := by
  intro x hx
  rw [← hW1]
  show ((w.heap.push _).push _)[x]? = _
  rw [Array.getElem?_push, if_neg (by simp; omega), Array.getElem?_push, if_neg (by omega)]
 have hsz1 : W1.heap.size = w.heap.size + 2 := by rw [← hW1]; simp
 have hL1 : W1.heap[w.heap.size + 1]? = some (.loop (rec .ready none)) := by
  rw [← hW1]; have := World.alloc_heap_new (w.alloc (.deferred (some []))) (.loop (rec .ready none)); rwa [World.size_alloc] at this
 have hD1 : W1.heap[w.heap.size]? = some (.deferred (some [])) := by
  rw [← hW1]
  show ((w.heap.push _).push _)[w.heap.size]? = _
  rw [Array.getElem?_push, if_neg (by simp), Array.getElem?_push, if_pos rfl]
 have ho1 : owns ι W1 (L' []) Ss := owns_far ho (fun x => w.heap.size ≤ x) (fun x hx => hold x (by omega)) (fun T hT x hx hge => by have := hlt T hT x hx; omega)
 have hemb1 : Emb G W1 := fun b o hb => by rw [hold b (hGlt b o hb)]; exact h4.emb b o hb
 have hGl : G (w.heap.size + 1) = none := by
  cases hq : G (w.heap.size + 1) with
  | none => rfl
  | some o => have := hGlt _ _ hq; omega
 have hGD : G w.heap.size = none := by
  cases hq : G w.heap.size with
  | none => rfl
  | some o => have := hGlt _ _ hq; omega
 -- behind the loop
 have behind : ∀ (G' : PH) (Lx : List Ent) (pe : Option Code) (st : LoopState) (W' : World) (S' : Nat → Prop), Emb G' W' → (∀ b, S' b → G' b = none ∧ (((∃ T ∈ Ss, T b) ∨ b = w.heap.size + 1 ∨ b = w.heap.size) ∨ W1.heap.size ≤ b)) → Frm (fun b => (∃ T ∈ Ss, T b) ∨ b = w.heap.size + 1 ∨ b = w.heap.size) W1 W' →
   (entsHP ι Lx (w.heap.size + 1) w.heap.size (.loop (rec st pe))).holds W' S' → SatW C ι Lx (G'.add w.heap.size (.deferred (some []))) (W'.putObj (w.heap.size + 1) (.loop { rec st pe with state := .exhausted })) ∧ G' w.heap.size = none := by
  intro G' Lx pe st W' S' hE' hS' hf hA
  obtain ⟨Ss', hos, hdis, hl, hD, hSS⟩ := hA
  have hlt' : w.heap.size + 2 ≤ W'.heap.size := by have := hf.size; omega
  have hkeep : ∀ b, b < w.heap.size → (∀ T ∈ Ss, ¬ T b) → (W'.putObj (w.heap.size + 1) (.loop { rec st pe with state := .exhausted })).heap[b]? = w.heap[b]? := by
   intro b hb hn
   rw [World.putObj_heap_other (by omega), hf.keep b (by omega) (by rintro (⟨T, hT, hTb⟩ | h | h); exact hn T hT hTb; omega; omega), hold b hb]
  have hGl' : G' (w.heap.size + 1) = none := (hS' _ ((hSS _).2 (.inr (.inl rfl)))).1
  refine ⟨⟨?_, ?_, ?_, ?_, ?_, ?_, Ss', owns_putObj hos (fun T hT => (hdis T hT).1), ?_⟩, (hS' _ ((hSS _).2 (.inr (.inr J)))).1⟩
  ·show W'.os = _; rw [hf.os, ← hW1]; exact h4.os
  ·show W'.tape = _; rw [hf.tape, ← hW1]; exact h4.tape
  ·show W'.output = _; rw [hf.output, ← hW1]; exact h4.output
  ·have := h4.size; simp; omega
  ·intro b hb hn
   have := h4.size
   rw [hkeep b (by omega) (fun T hT hTb => by
    rcases (hS T hT b hTb).2 with h | h
    ·exact hn h
    ·omega)]
   exact h4.keep b hb hn
  ·intro b o hb
   unfold PH.add at hb
   split at hb
   ·rename_i e
    cases hb
    rw [e, World.putObj_heap_other (by omega)]; exact hD
   ·rw [World.putObj_heap_other (by rintro rfl; rw [hGl'] at hb; cases hb)]
    exact hE' b o hb
  ·intro T hT b hb
   have hb' : S' b := (hSS b).2 (.inl ⟨T, hT, hb⟩)
   have hne : b ≠ w.heap.size := by rintro rfl; exact (hdis T hT).2 hb
   have hne2 : b ≠ w.heap.size + 1 := by rintro rfl; exact (hdis T hT).1 hb
   unfold PH.add
   rw [if_neg hne]
   refine ⟨(hS' b hb').1, ?_⟩
   rcases (hS' b hb').2 with (⟨T', hT', hTb⟩ | h | h) | h
   ·exact (hS T' hT' b hTb).2
   ·exact absurd h hne2
   ·exact absurd h hne
   ·exact .inr (by have := h4.size; omega)
 have hdfs : ∀ G' : PH, G.le G' → G' w.heap.size = none → DfsOk C (G'.add w.heap.size (.deferred (some []))) ({ target := .collected w.heap.size, args := #[] } :: a.defers) := by
  intro G' hle hGD'
  unfold DfsOk at h1 ⊢
  rw [hms] at h1 ⊢
  obtain ⟨Ds, d1, d2, d3⟩ := h1
  refine ⟨w.heap.size :: Ds, List.nodup_cons.2 ⟨fun hm => ?_, d1⟩, by rw [d2]; rfl, ?_⟩
  ·have := (d3 _ hm).2; rw [hGD] at this; cases this
  ·intro D hD
   rcases List.mem_cons.1 hD with rfl | hD
   ·exact ⟨h4.size, PH.add_self _ _ _⟩
   ·refine ⟨(d3 D hD).1, ?_⟩
    unfold PH.add
    rw [if_neg (by rintro rfl; have := (d3 _ hD).2; rw [hGD] at this; cases this)]
    exact hle _ _ (d3 D hD).2
 refine ⟨w.heap.size + 1, [{ target := .collected w.heap.size, args := #[] }], W1, { target := .fn (.func gf) cap, args := #[.func (.yield (w.heap.size + 1)) #[] #[]] }, W1, gf,
  #[.func (.yield (w.heap.size + 1)) #[] #[]] ++ cap, W1, ?_, ?_, ?_, ?_, fun h => by simp [FW, Fence.wide] at h, ?_⟩
 ·rw [← hW1, hrec]; exact run_enterLoop_outer _ _ _ _ _
 ·simp only [resolve, ← eg]
  simp [go_sem]
 ·intro f' hf'; trivial
 ·simp [invoke, go_sem, hcf]
 ·refine callsIn_FW.2 ?_
  have hA0 : (entsHP ι (L' []) (w.heap.size + 1) w.heap.size (.loop (rec .ready none))).holds W1 (fun b => (∃ T ∈ Ss, T b) ∨ b = w.heap.size + 1 ∨ b = w.heap.size) :=
   ⟨Ss, ho1, fun T hT => ⟨fun h => by have := hlt T hT _ h; omega, fun h => by have := hlt T hT _ h; omega⟩, hL1, hD1, fun x => Iff.rfl⟩
  refine (hI (w.heap.size + 1) (fun pre => entsHP ι (L' pre) (w.heap.size + 1) w.heap.size (.loop (rec .ready none))) (fun pre => entsHP ι (Lr pre) (w.heap.size + 1) w.heap.size (.loop (rec .done (some .ret)))) W1 _ hemb1 hA0 ?_ ?_).mono ?_
  ·rintro b (⟨T, hT, hTb⟩ | rfl | rfl)
   ·exact (hS T hT b hTb).1
   ·exact hGl
   ·exact hGD
  ·-- one round
   intro pre x vs W S hpre henc hE hA hSG
   obtain ⟨Ss2, ho2, hd2, hl2, hD2, hS2⟩ := hA
   have hszW : w.heap.size + 2 ≤ W.heap.size := by have := (Array.getElem?_eq_some_iff.1 hl2).1; omega
   have hlen := hps x vs henc
   have hy := run_yield (P := C.P) (args := vs.toArray) hl2 (by rw [hrec]; simpa using hlen)
   rw [hrec] at hy
   refine ⟨fn, _, assign, body, hy, roundIn_of_wpIn hfn ?_⟩
   obtain ⟨I, hIdef⟩ : ∃ I : Act → World → Prop, I = fun a₁ w₁ => ∃ w₂, (Instr.beginRound (w.heap.size + 1)).run C.P w₁ = .ok () w₂ ∧ body.wpIn ((FW none).inRound (w.heap.size + 1)) 0 C.P (roundPost C.P (w.heap.size + 1) (YieldR W S (entsHP ι (L' (pre ++ [x])) (w.heap.size + 1) w.heap.size (.loop (rec .ready none))) (entsHP ι (Lr (pre ++ [x])) (w.heap.size + 1) w.heap.size (.loop (rec .done (some .ret)))))) a₁ w₂ := ⟨_, rfl⟩
   have hx := round (w.heap.size + 1) pre x vs W (fun b => ∃ T ∈ Ss2, T b) I hpre henc (by have := h4.size; omega) ?_
   ·obtain ⟨he, hsz⟩ := setE_sound (vs := vs) h3 h2 hpn
    have := hx { tmps := (ps.toList.zip vs).foldl (fun t (x : Nat × Value) => t.setIfInBounds x.1 x.2) a.tmps, defers := [] } W DfsOk.nil hsz he (SatW.round ho2 (fun T hT b hb => (hSG b ((hS2 b).2 (.inl ⟨T, hT, hb⟩)))) hE)
    have hfold : (ps.zip vs.toArray).foldl (fun tmps (x : Nat × Value) => tmps.setIfInBounds x.1 x.2) a.tmps = (ps.toList.zip vs).foldl (fun t (x : Nat × Value) => t.setIfInBounds x.1 x.2) a.tmps := by
     rw [← Array.foldl_toList, Array.toList_zip]
    have hw := wpIn_mono (Q' := Exit.then (fun a₁ w₁ => I a₁ w₁) (fun _ _ _ => False)) (show assign.wpIn (FW (some (w.heap.size + 1))) 0 C.P _ _ W from this) (by
     intro e a' w' q
     cases e <;> exact q)
    rw [hIdef] at hw
    rw [show (fun tmps (x : Nat × Value) => match x with | (t, a) => tmps.setIfInBounds t a) = (fun (tmps : Array Value) (x : Nat × Value) => tmps.setIfInBounds x.1 x.2) from rfl, hfold]
    exact hw
   ·intro E' ι' L'' hbody a1 w1 g1 g2 g3 g4
    show I a1 w1
    rw [hIdef]
    obtain ⟨Ss3, ho3, hS3⟩ := g4.own
    have hsz1' : W.heap.size ≤ w1.heap.size := g4.size
    have hkeep1 : ∀ b, b < W.heap.size → (¬ ∃ T ∈ Ss2, T b) → w1.heap[b]? = W.heap[b]? := fun b hb hn => g4.keep b hb hn
    have hnl : ¬ ∃ T ∈ Ss2, T (w.heap.size + 1) := fun ⟨T, hT, h⟩ => (hd2 T hT).1 h
    have hnD : ¬ ∃ T ∈ Ss2, T w.heap.size := fun ⟨T, hT, h⟩ => (hd2 T hT).2 h
    have hl3 : w1.heap[w.heap.size + 1]? = some (.loop (rec .ready none)) := by rw [hkeep1 _ (by omega) hnl]; exact hl2
    have hD3 : w1.heap[w.heap.size]? = some (.deferred (some [])) := by rw [hkeep1 _ (by omega) hnD]; exact hD2
    have hn3 : ∀ T ∈ Ss3, ¬ T (w.heap.size + 1) ∧ ¬ T w.heap.size := by
     intro T hT
     refine ⟨fun h => ?_, fun h => ?_⟩
     ·rcases (hS3 T hT _ h).2 with h' | h'
      ·exact hnl h'
      ·have : W.heap.size ≤ w.heap.size + 1 := h'; omega
     ·rcases (hS3 T hT _ h).2 with h' | h'
      ·exact hnD h'
      ·have : W.heap.size ≤ w.heap.size := h'; omega
    refine ⟨_, run_beginRound hl3 (by rw [hrec]), ?_⟩
    obtain ⟨w2, hw2⟩ : ∃ w2, w1.putObj (w.heap.size + 1) (.loop { rec .ready none with state := .busy }) = w2 := ⟨_, rfl⟩
    rw [hw2]
    have hsz2 : w2.heap.size = w1.heap.size := by rw [← hw2]; simp
    have hoth2 : ∀ b, b ≠ w.heap.size + 1 → w2.heap[b]? = w1.heap[b]? := fun b hb => by rw [← hw2]; exact World.putObj_heap_other hb
    have hl4 : w2.heap[w.heap.size + 1]? = some (.loop { rec .ready none with state := .busy }) := by rw [← hw2]; exact World.putObj_heap_same (by omega)
    have hD4 : w2.heap[w.heap.size]? = some (.deferred (some [])) := by rw [hoth2 _ (by omega)]; exact hD3
    have hE2 : Emb G w2 := by
     intro b o hb
     rw [hoth2 b (by rintro rfl; rw [hGl] at hb; cases hb)]
     exact g4.emb b o hb
    have ho4 : owns ι' w2 L'' Ss3 := by rw [← hw2]; exact owns_putObj ho3 (fun T hT => (hn3 T hT).1)
    have hb2 := hbody w2 (fun b => ∃ T ∈ Ss3, T b) (by have := h4.size; omega) a1 w2 (by rw [g1.eq rfl]; exact DfsOk.nil) g2 g3 (SatW.round ho4 (fun T hT b hb => (hS3 T hT b hb).1) hE2)
    refine wpIn_mono (show body.wpIn (FW (some (w.heap.size + 1))) 0 C.P _ a1 w2 from hb2) ?_
    have fin : ∀ (jump : Option Code) (st : LoopState) (Lx : List Ent) (W3 : World), (st = if jump.isNone then .ready else .done) → SatW (RCx C 0 (fun _ _ _ => False) w2 (fun b => ∃ T ∈ Ss3, T b)) ι Lx G W3 →
      ∃ w', (Instr.endRound (w.heap.size + 1) jump).run C.P W3 = .ok (.bool jump.isNone) w' ∧ ∃ S', (∀ b, S' b → S b ∨ W.heap.size ≤ b) ∧ Frm S W w' ∧ (entsHP ι Lx (w.heap.size + 1) w.heap.size (.loop (rec st jump))).holds w' S' := by
     intro jump st Lx W3 hst hsat
     obtain ⟨Ss4, ho5, hS5⟩ := hsat.own
     have hsz3 : w2.heap.size ≤ W3.heap.size := hsat.size
     have hk3 : ∀ b, b < w2.heap.size → (¬ ∃ T ∈ Ss3, T b) → W3.heap[b]? = w2.heap[b]? := fun b hb hn => hsat.keep b hb hn
     have hl5 : W3.heap[w.heap.size + 1]? = some (.loop { rec .ready none with state := .busy }) := by rw [hk3 _ (by omega) (fun ⟨T, hT, h⟩ => (hn3 T hT).1 h)]; exact hl4
     have hD5 : W3.heap[w.heap.size]? = some (.deferred (some [])) := by rw [hk3 _ (by omega) (fun ⟨T, hT, h⟩ => (hn3 T hT).2 h)]; exact hD4
     have hn5 : ∀ T ∈ Ss4, ¬ T (w.heap.size + 1) ∧ ¬ T w.heap.size := by
      intro T hT
      refine ⟨fun h => ?_, fun h => ?_⟩
      ·rcases (hS5 T hT _ h).2 with ⟨T', hT', h'⟩ | h'
       ·exact (hn3 T' hT').1 h'
       ·have : w2.heap.size ≤ w.heap.size + 1 := h'; omega
      ·rcases (hS5 T hT _ h).2 with ⟨T', hT', h'⟩ | h'
       ·exact (hn3 T' hT').2 h'
       ·have : w2.heap.size ≤ w.heap.size := h'; omega
     have hend := run_endRound (P := C.P) jump hl5
     have hrr : ({ ({ rec .ready none with state := .busy } : Loop) with state := if jump.isNone then .ready else .done, pending := jump } : Loop) = rec st jump := by rw [hrec, hst]
     rw [hrr] at hend
     refine ⟨_, hend, (fun b => (∃ T ∈ Ss4, T b) ∨ b = w.heap.size + 1 ∨ b = w.heap.size), ?_, ?_, ?_⟩
     ·rintro b (⟨T, hT, h⟩ | rfl | rfl)
      ·rcases (hS5 T hT _ h).2 with ⟨T', hT', h'⟩ | h'
       ·rcases (hS3 T' hT' _ h').2 with h6 | h6
        ·exact .inl ((hS2 b).2 (.inl h6))
        ·exact .inr h6
       ·have : w2.heap.size ≤ b := h'
        exact .inr (by omega)
      ·exact .inl ((hS2 _).2 (.inr (.inl J)))
      ·exact .inl ((hS2 _).2 (.inr (.inr J)))
     ·refine ⟨?_, ?_, ?_, by simp; omega, ?_⟩
      ·show W3.os = _; rw [hsat.os]; show w2.os = _; rw [← hw2]; exact g4.os
      ·show W3.tape = _; rw [hsat.tape]; show w2.tape = _; rw [← hw2]; exact g4.tape
      ·show W3.output = _; rw [hsat.output]; show w2.output = _; rw [← hw2]; exact g4.output
      ·intro b hb hn
       have hne : b ≠ w.heap.size + 1 := by rintro rfl; exact hn ((hS2 _).2 (.inr (.inl J)))
       have hns2 : ¬ ∃ T ∈ Ss2, T b := fun h => hn ((hS2 b).2 (.inl h))
       have hns3 : ¬ ∃ T ∈ Ss3, T b := by
        rintro ⟨T, hT, h⟩
        rcases (hS3 T hT _ h).2 with h6 | h6
        ·exact hns2 h6
        ·have : W.heap.size ≤ b := h6; omega
       rw [World.putObj_heap_other hne, hk3 b (by omega) hns3, hoth2 b hne, hkeep1 b hb hns2]
     ·exact ⟨Ss4, owns_putObj ho5 (fun T hT => (hn5 T hT).1), hn5, World.putObj_heap_same (by omega), by rw [World.putObj_heap_other (by omega)]; exact hD5, fun x => Iff.rfl⟩
    intro e a3 W3 hp
    cases e with
    | normal =>
     obtain ⟨w', he, S', f1, f2, f3⟩ := fin none .ready _ W3 rfl hp
     exact ⟨_, w', he, S', f1, f2, .inl ⟨J, f3⟩⟩
    | ret =>
     obtain ⟨w', he, S', f1, f2, f3⟩ := fin (some .ret) .done _ W3 rfl hp
     exact ⟨_, w', he, S', f1, f2, .inr ⟨J, f3⟩⟩
    | exit id => exact hp.elim
    | goto t => exact hp.elim
    | panic ch => exact hp.elim
    | outgrown => exact hp.elim
  ·-- behind the iterator
   rintro e W' ⟨v, S', G', rfl, hS', hf, hx', hE', ⟨pre, hQ, hA⟩ | ⟨pre, hA⟩⟩
   ·have hx : PH.ext C.w0.heap.size G G' := ⟨hx'.le, fun b o h1 h2 => by have := hx'.new b o h1 h2; have := h4.size; omega⟩
    have hend := run_endLoop (P := C.P) (l := w.heap.size + 1) (w := W') (r := rec .ready none) (by obtain ⟨_, _, _, h, _⟩ := hA; exact h) (by rw [hrec]; simp)
    rw [show (rec .ready none).pending = none from by rw [hrec]] at hend
    refine ⟨none, _, hend, ?_⟩
    obtain ⟨hb, hD⟩ := behind _ _ _ _ _ _ hE' hS' hf hA
    subst hrec
    exact hdone _ G' pre hQ hx hD h4.size _ _ (hdfs G' hx.le hD) h2 h3 hb
   ·have hx : PH.ext C.w0.heap.size G G' := ⟨hx'.le, fun b o h1 h2 => by have := hx'.new b o h1 h2; have := h4.size; omega⟩
    have hend := run_endLoop (P := C.P) (l := w.heap.size + 1) (w := W') (r := rec .done (some .ret)) (by obtain ⟨_, _, _, h, _⟩ := hA; exact h) (by rw [hrec]; simp)
    rw [show (rec .done (some .ret)).pending = some .ret from by rw [hrec]] at hend
    refine ⟨some .ret, _, hend, ?_⟩
    obtain ⟨hb, hD⟩ := behind _ _ _ _ _ _ hE' hS' hf hA
    subst hrec
    exact hstop _ G' pre hx hD h4.size _ _ (hdfs G' hx.le hD) h2 h3 hb
end
def KG (P : Program) (n : Nat) (fn : Func) (G : PH) (Post : Value → PH → Prop) (w : World) : Ctx := ⟨P, none, n, bodyPostM (FW none) 0 P fn (PureR G w Post), w, fun _ => False, true⟩
theorem Pure.introG {P : Program} {f : FuncId} {fn : Func} {c : Code} {vs : List Value} {G : PH} {Post : Value → PH → Prop} {n : Nat} (hf : P.funcs[f]? = some fn) (hn : fn.ntmps = n) (hb : fn.body = some c) (hle : Nat.ble vs.length n = true)
  (hx : ∀ w, Emb G w → X (KG P n fn G Post w) [.code c] (envOf 0 vs) [] [] G) : Pure P f vs G Post := by
 intro w hw
 have hle' : vs.length ≤ n := Nat.le_of_ble_eq_true hle
 refine (callsIn_FW (r := none) (n := 0)).1 (callsIn_of_wp_marks hf hb trivial ?_ J)
 refine hx w hw { tmps := vs.toArray ++ Array.replicate (fn.ntmps - vs.toArray.size) undef, defers := [] } w DfsOk.nil (by simp [hn, KG]; omega) ?_ ?_
 ·intro i s hi
  obtain ⟨_, v, hv, rfl⟩ := look_envOf hi
  refine ⟨v, J, ?_⟩
  simp only [Nat.sub_zero] at hv
  rw [Array.getElem?_append_left (by
   have := (List.getElem?_eq_some_iff.1 hv).1
   simpa using this)]
  simpa using hv
 ·exact ⟨rfl, rfl, rfl, Nat.le_refl _, fun _ _ _ => rfl, hw, [], trivial, fun T hT => by cases hT⟩
def cellsOf (B : Nat) (G : PH) : PH := fun b => if b < B then G b else match G b with
 | some (.cells c t f) => some (.cells c t f)
 | _ => none
theorem cellsOf_gcell (B : Nat) (G : PH) (a : Addr) : gcell (cellsOf B G) a = gcell G a := by
 unfold gcell cellsOf
 by_cases h : a.block < B
 ·simp [h]
 ·simp only [h, if_false]
  cases hg : G a.block with
  | none => rfl
  | some o => cases o <;> rfl
theorem leaveG {P : Program} {fn : Func} {tmps : Array Value} {R : Ending → World → Prop} {w0 : World} {v : Value} {H : PH} (hres : ∀ w, (results fn tmps).run P w = .ok v w) (hR : ∀ w, Below w0.heap.size w0 w → Emb H w → R (.returned v) w) :
  ∀ (Ds : List Nat) (w : World), Ds.Nodup → (∀ D ∈ Ds, w0.heap.size ≤ D ∧ H D = none ∧ w.heap[D]? = some (.deferred (some []))) → Below w0.heap.size w0 w → Emb H w → LeavesInM (FW none) 0 P fn tmps R (Ds.map fun D => { target := .collected D, args := #[] }) .returning w := by
 intro Ds
 induction Ds with
 | nil => intro w _ _ hb hE; exact ⟨v, hres w, hR w hb hE⟩
 | cons D Ds ih =>
  intro w hn hD hb hE
  obtain ⟨h1, h0, h2⟩ := hD D (List.mem_cons_self ..)
  refine ⟨by simp, .inl ⟨_, _, J, run_takeDeferred h2, ih _ (List.nodup_cons.1 hn).2 ?_ ?_ ?_⟩⟩
  ·intro D' hD'
   obtain ⟨h3, h3', h4⟩ := hD D' (List.mem_cons_of_mem _ hD')
   refine ⟨h3, h3', ?_⟩
   rw [World.putObj_heap_other (by rintro rfl; exact (List.nodup_cons.1 hn).1 hD')]
   exact h4
  ·refine ⟨hb.os, hb.tape, hb.output, ?_, fun b hb' => ?_⟩
   ·have := hb.size; simp; omega
   ·rw [World.putObj_heap_other (by omega)]
    exact hb.block b hb'
  ·intro b o hbo
   rw [World.putObj_heap_other (by rintro rfl; rw [h0] at hbo; cases hbo)]
   exact hE b o hbo
section
variable {P : Program} {fn : Func} {n : Nat} {G0 G : PH} {Post : Value → PH → Prop} {w0 : World} {k : List It} {E : Env} {ι : Ids} {L : List Ent}
theorem S_retG {t : Nat} {s : Sym} {v : Value} (hw0 : Emb G0 w0) (hext : PH.ext w0.heap.size G0 G) (hr : fn.results = #[.tmp t]) (hl : look t E = some s) (hv : denO ι s = some v) (hp : ∀ H : PH, (∀ a, gcell H a = gcell G a) → Post v H) : X (KG P n fn G0 Post w0) (.code .ret :: k) E ι L G := by
 intro a w h1 h2 h3 h4
 refine wpE_ret (wpE_out k ?_)
 obtain ⟨Ds, d1, d2, d3⟩ := h1
 show LeavesInM _ _ _ _ _ _ a.defers .returning w
 rw [d2]
 have hsub : ∀ b o, cellsOf w0.heap.size G b = some o → G b = some o := by
  intro b o hbo
  unfold cellsOf at hbo
  split at hbo
  ·exact hbo
  ·split at hbo
   ·rename_i h; rw [h]; exact hbo
   ·cases hbo
 refine leaveG (w0 := w0) (v := v) (H := cellsOf w0.heap.size G) (fun w' => ?_) (fun w' hb hE => ?_) Ds w d1 (fun D hD => ⟨(d3 D hD).1, ?_, h4.emb _ _ (d3 D hD).2⟩) (h4.below fun _ h => h) (fun b o hbo => h4.emb b o (hsub b o hbo))
 ·obtain ⟨u, hu, ht⟩ := h3 t s hl
  rw [hv] at hu; cases hu
  rw [results_tmp hr]
  simp [Array.getD_eq_getD_getElem?, ht]
 ·refine ⟨v, cellsOf w0.heap.size G, rfl, hp _ (cellsOf_gcell _ _), ⟨fun b o hbo => ?_, fun b o hbo hn => hext.new b o (hsub b o hbo) hn⟩, hE, hb⟩
  have hlt : b < w0.heap.size := (Array.getElem?_eq_some_iff.1 (hw0 b o hbo)).1
  unfold cellsOf
  rw [if_pos hlt]
  exact hext.le b o hbo
 ·have h5 : w0.heap.size ≤ D := (d3 D hD).1
  unfold cellsOf
  rw [if_neg (by omega), (d3 D hD).2]
end
end
section
section
variable {C : Ctx} {ι : Ids} {E : Env} {L : List Ent} {G : PH} {d : Option Nat} {ty : Nat} {pos : String} {af : Array Edge} {g : Option (Nat × Bool)}
theorem V_sliceArr {T : Tab} (hT : tabOk C.P T) {t e N sz sz' m : Nat} {os os' : List Nat} {tk : TK} {x y : Operand} {s : Sym} {ad : Addr} (ht : lookT t T = some ⟨.arr N e, sz', os'⟩) (he : lookT e T = some ⟨tk, sz, os⟩) (hx : ev E x = some s) (hs : denO ι s = some (.pointer (some ad))) (hy : ev E y = some (.val (.int .i64 (m : Nat)))) (hm : m ≤ N) :
  Vl C ι E L G ⟨d, .slice t x none (some y) none, ty, pos, af, g⟩ (.slice (some ad) m N) := by
 intro a w hE hw
 have ex := ev_sound hE hx
 have ey := ev_sound hE hy
 rw [hs] at ex
 simp only [denO, Option.some.injEq] at ex ey
 have hu := tyOk_arr (hT _ _ ht) rfl
 have h1 : (m : Int) ≤ (N : Int) := by omega
 have h2 : ¬ ((m : Int) < 0) := by omega
 have h3 : ¬ ((N : Int) < m) := by omega
 simp only [execOp, ← ex, Option.map_some, Option.map_none, ← ey]
 simp only [Instr.sliceAt, Sem.run_bind, run_underlying hu, Result.andThen_ok]
 simp [Instr.sureAddr, Instr.sliceBounds, Instr.sliceBound, asIntOf, tyOk_size (hT _ _ he), h1, h2, h3, Addr.add]
 intro h4
 omega
end
end
end Go.Proofs.YtphbcboejmhaoaaGreat
