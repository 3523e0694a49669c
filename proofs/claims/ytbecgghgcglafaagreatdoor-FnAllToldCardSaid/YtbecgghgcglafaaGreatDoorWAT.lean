/- Walks of the program's functions, one after the other (part 13); without conditions of their own. -/
import Derived.Test.YtbecgghgcglafaaGreatDoorWM11
import Derived.Test.YtbecgghgcglafaaGreatDoorWM12
import Derived.Test.YtbecgghgcglafaaGreatDoorWM2
set_option linter.unusedVariables false
set_option linter.unusedSimpArgs false
set_option maxRecDepth 100000
set_option maxHeartbeats 4000000
open Go.RowKit
namespace Go.Proofs.YtbecgghgcglafaaGreatDoor
section
attribute [local irreducible] X Pure Mod
theorem c_leftC (p : Prc) (cs : List Value) (G : PH) (h : prcRep G p cs) : Pure Tryz.prog 18 [.agg cs.toArray] G fun v' G' => v' = .bool (leftP p) ∧ G' = G := by
 obtain ⟨vr, vt, rfl, hr, ht⟩ := h
 obtain ⟨A1, c1, rfl, _⟩ := id hr
 obtain ⟨A2, c2, rfl, _⟩ := id ht
 refine Pure.intro Tryz.func18 Tryz.ntmps18 J J fun w => ?_; refine Va J J ?_;refine S_box J J J J J fun b1 => ?_;refine Va J J ?_;refine S_retp (Res.t1 Tryz.results18 J J) XR ⟨?_, J⟩
 congr 1
 unfold leftP
 rw [show (decide (p.mode ≠ 0)) = !decide (p.mode = 0) by simp]
 cases htd : p.todo <;> simp [htd]
 all_goals omega
theorem c_IndexProc (L : List Prc) (v : Value) (G : PH) (hv : Sr G 5 (prcRep G) L v) :
  Pure Tryz.prog 37 [v, .func (.func 18) #[] #[]] G fun v G' => (∃ r : Int, v = .int .i64 r ∧ (0 ≤ r ↔ L.any leftP = true)) ∧ G' = G := by
 obtain ⟨A, c, rfl, hn, hc1, hc2, hr⟩ := id hv
 refine Pure.intro Tryz.func37 Tryz.ntmps37 J J fun w => ?_; refine Va J J ?_;refine S_loop (α := Nat) (fun k => k ≤ L.length ∧ (L.take k).any leftP = false) (fun k => L.length - k) []
  (fun k => [(8, .val (.int .i64 (k : Nat))), (7, .val (.int .i64 (L.length : Nat))), (0, .val (.slice A L.length c)), (1, .val (.func (.func 18) #[] #[]))]) (fun _ => []) (fun _ => G) 0 ⟨Nat.zero_le _, rfl⟩ rfl
  ⟨⟨_, rfl, rfl⟩, ⟨_, rfl, rfl⟩, ⟨_, rfl, rfl⟩, ⟨_, rfl, rfl⟩, trivial⟩ .nil ?_
 rintro k ⟨hk, hall⟩
 refine Va J J ?_
 refine S_condp J (fun h => ?_) (fun h => ?_) <;> refine Va J J ?_
 ·have hkl : k < L.length := by omega
  obtain ⟨ad, cs, rfl, hcs, hrep⟩ := Sr_at hv hkl
  have hnx : (L.take (k + 1)).any leftP = ((L.take k).any leftP || leftP L[k]) := by rw [List.take_succ_eq_append_getElem hkl, List.any_append]; simp
  have hany : leftP L[k] = true → L.any leftP = true := fun h => List.any_eq_true.2 ⟨_, List.getElem_mem hkl, h⟩
  rw [hall, Bool.false_or] at hnx
  generalize L[k] = p at hcs hrep hnx hany
  have hcl := c_leftC p cs G hrep
  obtain ⟨vr, vt, rfl, hr1, ht1⟩ := hrep
  obtain ⟨A1, c1, rfl, _⟩ := id hr1
  obtain ⟨A2, c2, rfl, _⟩ := id ht1
  refine S_index Tk J J J J J J (by omega) (by omega) ?_;refine Va J J ?_;refine S_loadA Tk J J J J J (by simpa using hcs) ?_;refine Va J J ?_;refine S_callV (vs := [.agg #[.slice A1 3 c1, .slice A2 p.todo.length c2, .int .i64 p.mode, .int .i64 p.on, .int .i64 p.room]]) J Tryz.call18 hcl J J J ?_;rintro v1 G1 ⟨rfl, rfl⟩ _
  refine Va J J ?_
  cases hl : leftP p
  ·refine RF J J ?_
   refine Va J J ?_;refine S_add J J J J (by omega) ?_;refine Va J J ?_;exact S_again (k + 1) ⟨by omega, by rw [hnx, hl]⟩ (by omega) J ⟨⟨_, J, by simp [denO]⟩, ⟨_, J, J⟩, ⟨_, J, J⟩, ⟨_, J, J⟩, trivial⟩ .nil
  ·refine RT J J ?_
   refine Va J J ?_;exact S_retp (Res.t1 Tryz.results37 J J) XR ⟨⟨_, J, by rw [hany hl]; simp⟩, rfl⟩
 ·have e0 : k = L.length := by omega
  subst e0
  rw [List.take_length] at hall
  exact S_retp (Res.t1 Tryz.results37 J J) XR ⟨⟨_, J, by rw [hall]; simp⟩, rfl⟩
theorem c_ContainsProc (L : List Prc) (v : Value) (G : PH) (hv : Sr G 5 (prcRep G) L v) : Pure Tryz.prog 17 [v, .func (.func 18) #[] #[]] G fun v G' => v = .bool (L.any leftP) ∧ G' = G := by
 obtain ⟨A, c, rfl, hn, hc1, hc2, hr⟩ := id hv
 refine Pure.intro Tryz.func17 Tryz.ntmps17 J J fun w => ?_; refine Va J J ?_;refine S_call Tryz.call37 (c_IndexProc L _ _ hv) J J J ?_;rintro v1 G1 ⟨⟨r, rfl, hrr⟩, rfl⟩ _
 refine Va J J ?_;refine S_retp (Res.t1 Tryz.results17 J J) XR ⟨?_, J⟩
 congr 1
 exact (Bool.eq_iff_iff.2 (by rw [← hrr]; simp))
theorem c_iAllStuck (p : List (List Stm)) (pv : Value) (G : PH) (hp : PrgS G p pv) (hTab : TabG G) : Pure Tryz.prog 8 [pv] G fun v' G' => v' = .tuple #[.bool (stuckP p), .bool (endsP p).isSome] ∧ G' = G := by
 have hok := @explP_ok p
 have he := c_explore p pv G hp hTab
 obtain ⟨Ap, cp, rfl, _⟩ := id hp.1
 refine Pure.introM Tryz.func8 Tryz.ntmps8 J J fun w hw => ?_;refine Va J J ?_;refine AZ ZT_ok J J J J fun b2 => ?_;refine Va J J ?_;refine AZ ZT_ok J J J J fun b3 => ?_;refine Va J J ?_;refine S_call Tryz.call15 he J J J ?_;rintro v1 G1 ⟨pt, rfl, hpt⟩ hext1
 unfold stuckP
 rw [endsP_of]
 cases hx : explP p with
 | none =>
  refine Va J J ?_;refine RT J (by simp) ?_;refine Va J J ?_;refine S_freezeB 2 J J J J (fun _ h => h) fun hx2 => ?_;refine S_freezeB 3 J J J J (fun _ h => h) fun hx3 => ?_;refine S_retC2 (v := .bool false) (v' := .bool false) Tk hw Tryz.results8 J J J J (gcell_le hx3.le (by simp [gcell, PH.add_self])) J J J J (by simp [gcell, PH.add_self]) ?_
  rfl
 | some Ws =>
  have hWok := hok hp hx
  obtain ⟨b, mb, lv, rfl, hg, hWs⟩ := hpt Ws hx
  refine Va J J ?_;refine RF J (by simp) ?_;refine Va J J ?_;refine S_call Tryz.call16 (c_ends b _) J J J ?_;rintro v2 G2 ⟨b1, rfl, hb1⟩ hext2
  refine Va J J ?_
  have hWs2 := WsG_le hext2.le hWs
  simp only [Option.map_some, Option.getD_some, Option.isSome_some]
  refine S_range (fun pre => bif pre.any leftW then [.hp 4 deadHP] else [.blk 3 4 (vL [.bool false]), .blk 2 4 (vL [.bool false])]) (fun pre => bif (endsW Ws).any leftW then [.blk 3 4 (vL [.bool true]), .blk 2 4 (vL [.bool true])] else [.hp 4 deadHP])
   rfl rfl rfl Tryz.call35 (c_ends1 p Ws b b1 mb lv G2 hWok hb1 (gcells_le hext2.le hg) hWs2) (fun x vs h => by obtain ⟨cs, _, rfl⟩ := h; rfl) rfl (.blk rfl rfl (.blk rfl rfl .nil)) ?_ ?_ ?_
  ·intro l pre x vs W S I hpre henc hW hI
   obtain ⟨cs, hrep, rfl⟩ := henc
   cases hpa : pre.any leftW
   rotate_left
   ·exact S_dead 4 J
   simp only [cond_false]
   have hxm : x ∈ endsW Ws := hpre.subset (by simp)
   obtain ⟨vp, vc, vr, vs, vd, ev, hpr, _⟩ := id hrep
   obtain ⟨fa, fb, fc, fd, fe, ff, fg, fh, fi, fj, rfl⟩ := wRep_sl hrep
   obtain rfl : vp = .slice fa x.procs.length fb := by
    have := congrArg (fun v => match v with | .agg x => x.toList | _ => []) ev
    simp at this
    exact this.1.symm
   refine Va J J ?_;refine AZ ZT_ok J J J J fun b7 => ?_;refine Va J J ?_;refine hI _ _ _ fun W2 S2 hW2 => ?_;refine Va J J ?_;refine S_call Tryz.call17 (c_ContainsProc x.procs _ _ hpr) J J J ?_;rintro v3 G5 ⟨rfl, rfl⟩ _
   refine Va J J ?_
   cases hl : x.procs.any leftP
   ·refine RF J J ?_
    refine Va J J ?_;refine S_roundEnd ?_
    rw [show (pre ++ [x]).any leftW = false by simp [hpa, leftW, hl]]
    exact .drop (.blk J J (.blk J J .nil))
   ·refine RT J J ?_
    refine Va J J ?_;refine S_roundRet ?_
    rw [show (endsW Ws).any leftW = true from List.any_eq_true.2 ⟨x, hxm, hl⟩]
    exact .drop (.blk J J (.blk J J .nil))
  ·intro D hD hDs
   cases hf : (endsW Ws).any leftW
   rotate_left
   ·exact S_dead 4 J
   simp only [cond_false]
   refine Va J J ?_;refine S_freezeB 2 J J J J (fun _ h => h) fun hx2 => ?_;refine S_freezeB 3 J J J J (fun _ h => h) fun hx3 => ?_;refine S_retC2 (v := .bool false) (v' := .bool true) Tk hw Tryz.results8 J J J J (gcell_le hx3.le (by simp [gcell, PH.add_self])) J J J J (by simp [gcell, PH.add_self]) ?_
   rfl
  ·intro D pre hD hDs
   cases hf : (endsW Ws).any leftW
   ·exact S_dead 4 J
   simp only [cond_true]
   refine S_freezeB 2 J J J J (fun _ h => h) fun hx2 => ?_;refine S_freezeB 3 J J J J (fun _ h => h) fun hx3 => ?_;refine S_retC2 (v := .bool true) (v' := .bool true) Tk hw Tryz.results8 J J J J (gcell_le hx3.le (by simp [gcell, PH.add_self])) J J J J (by simp [gcell, PH.add_self]) ?_
   rfl
end
section
attribute [local irreducible] X Pure Mod
theorem g_boolT : Tryz.prog.eqGuardType Tryz.prog.depth 4 = false := by kernel_rfl
theorem u_boolT : Tryz.prog.underlying 4 = some .bool := by kernel_rfl
def tdP (p : Prc) : Bool := !p.todo.isEmpty
def tdW (W : Wld) : Bool := W.procs.any tdP
theorem TOk.ne {room : Int} {L : List Stm} (h : TOk room L) (hr : is2 room) : L ≠ [] := by
 rintro rfl
 cases h
 rcases hr with h | h <;> cases h
theorem left_td {W : Wld} {B : Nat} (h : Wok W B) : leftW W = tdW W := by
 unfold leftW tdW
 have : ∀ p ∈ W.procs, leftP p = tdP p := fun p hp => by
  have hP := h.inv.pr p hp
  unfold leftP tdP
  by_cases hm : p.mode = 0
  ·simp [hm]
  ·have := hP.td.ne (hP.rm hm)
   simp [hm, this]
 have aux : ∀ (l : List Prc), (∀ p ∈ l, leftP p = tdP p) → l.any leftP = l.any tdP := by
  intro l
  induction l with
  | nil => intro _; rfl
  | cons x l ih =>
   intro h
   rw [List.any_cons, List.any_cons, h x (List.mem_cons_self ..), ih fun p hp => h p (List.mem_cons_of_mem _ hp)]
 exact aux _ this
theorem any_take {α : Type} {l : List α} {f : α → Bool} {i : Nat} (h : i < l.length) : (l.take (i + 1)).any f = ((l.take i).any f || f l[i]) := by
 rw [List.take_succ_eq_append_getElem h, List.any_append]; simp
theorem stuck_td {p : List (List Stm)} {G : PH} {pv : Value} (hp : PrgS G p pv) : stuckP p = ((endsP p).getD []).any tdW := by
 unfold stuckP
 have : ∀ W ∈ (endsP p).getD [], leftW W = tdW W := fun W hW => by
  obtain ⟨i, _, h, _⟩ := endsP_mem hp hW
  exact left_td h
 revert this
 generalize (endsP p).getD [] = l
 intro this
 induction l with
 | nil => rfl
 | cons x l ih =>
  rw [List.any_cons, List.any_cons, this x (List.mem_cons_self ..), ih fun W hW => this W (List.mem_cons_of_mem _ hW)]
theorem c_FnAllTold (A : Option Addr) (n c : Nat) (G : PH) (hTab : TabG G) (hl : n ≤ 1048576 → ∃ l, Byts G l (.slice A n c) ∧ l.length = n) : Pure Tryz.prog 3 [.slice A n c] G fun v G' => v = .bool true := by
 refine Pure.intro Tryz.func3 Tryz.ntmps3 J J fun w => ?_; refine Va J J ?_
 refine S_condp J (fun h => ?_) (fun h => ?_) <;> refine Va J J ?_
 ·exact S_retp (Res.t1 Tryz.results3 J J) XR J
 obtain ⟨l, hb, hll⟩ := hl (by omega)
 refine S_call Tryz.call7 (c_DrawAllStuck l _ _ hb) J J J ?_;rintro v1 G1 ⟨p, hp⟩ hext1
 obtain ⟨Ap, cp, rfl, _⟩ := id hp.1
 have hTab1 := TabG_le hext1.le hTab
 refine Va J J ?_;refine S_call Tryz.call8 (c_iAllStuck p _ _ hp hTab1) J J J ?_;rintro v2 G2 ⟨rfl, rfl⟩ _
 refine Va J J ?_;refine S_call Tryz.call9 (c_sAllStuck p _ _ hp) J J J ?_;rintro v3 G3 rfl hext3
 have hst := stuck_td hp
 have hmem := @endsP_mem p G2 _ hp
 have hlen := endsP_len hp
 have hends := c_iAllEnds p _ G3 (PrgS_le hext3.le hp) (TabG_le hext3.le hTab1)
 generalize stuckP p = st at hst ⊢
 generalize hok : (endsP p).isSome = ok at hends ⊢
 refine Va J J ?_;refine S_valV J J J (V_neqB g_boolT u_boolT J J) ?_;refine Va J J ?_;refine GF J J (by simp) ?_;refine Va J J ?_;refine S_valV J J J (V_neqB g_boolT u_boolT J J) ?_;refine Va J J ?_
 cases ok
 ·refine RT J (by simp) ?_
  refine Va J J ?_;refine S_valV J J J (V_eqB g_boolT u_boolT J J) ?_;refine Va J J ?_;refine GT J J (by simp) ?_;refine Va J J ?_;refine S_valV J J J (V_eqB g_boolT u_boolT J J) ?_;refine Va J J ?_;exact S_retp (Res.t1 Tryz.results3 J J) (hext1.trans hext3) (by simp)
 refine RF J (by simp) ?_;refine Va J J ?_;refine S_call Tryz.call10 hends J J J ?_;rintro v4 G4 ⟨lv, rfl, hlv⟩ hext4
 generalize (endsP p).getD [] = Ws at hst hmem hlen hlv
 obtain ⟨Al, cl, rfl, _⟩ := id hlv
 refine Va J J ?_;refine S_loop (α := Nat) (fun i => i ≤ Ws.length) (fun i => Ws.length - i) []
  (fun i => [(11, .val (.int .i64 (i : Nat))), (10, .val (.bool ((Ws.take i).any tdW))), (8, .val (.slice Al Ws.length cl)), (4, .val (.bool st))]) (fun _ => []) (fun _ => G4) 0 (Nat.zero_le _) rfl ⟨⟨_, rfl, rfl⟩, ⟨_, rfl, rfl⟩, ⟨_, rfl, rfl⟩, ⟨_, rfl, rfl⟩, trivial⟩ .nil ?_
 intro i hi
 refine Va J J ?_
 refine S_condp J (fun h5 => ?_) (fun h5 => ?_) <;> refine Va J J ?_
 ·have hil : i < Ws.length := by omega
  have hnx := any_take (f := tdW) hil
  obtain ⟨j, _, hWok, _, _⟩ := hmem (List.getElem_mem hil)
  obtain ⟨ad, cs5, e5, hc5, hW5⟩ := Sr_at hlv hil
  subst e5
  generalize Ws[i] = W at hnx hWok hW5
  have hn3 := hWok.inv.n3
  obtain ⟨vp, vc, vr, vs, vd, ev, hpr, _⟩ := id hW5
  obtain ⟨fa, fb, fc, fd, fe, ff, fg, fh, fi, fj, rfl⟩ := wRep_sl hW5
  obtain rfl : vp = .slice fa W.procs.length fb := by
   have := congrArg (fun v => match v with | .agg x => x.toList | _ => []) ev
   simp at this
   exact this.1.symm
  generalize (Ws.take i).any tdW = acc at hnx ⊢
  refine S_loop (α := Nat) (fun k => k ≤ W.procs.length) (fun k => W.procs.length - k) []
   (fun k => [(12, .val (.int .i64 (k : Nat))), (11, .val (.int .i64 (i : Nat))), (10, .val (.bool (acc || (W.procs.take k).any tdP))), (8, .val (.slice (some ad) Ws.length cl)), (4, .val (.bool st))]) (fun _ => []) (fun _ => G4) 0 (Nat.zero_le _) rfl ⟨⟨_, rfl, rfl⟩, ⟨_, rfl, rfl⟩, ⟨_, rfl, by simp [denO]⟩, ⟨_, rfl, rfl⟩, ⟨_, rfl, rfl⟩, trivial⟩ .nil ?_
  intro k hk
  refine Va J J ?_;refine S_index Tk J J J J J J (by omega) (by omega) ?_;refine Va J J ?_;refine S_load Tk J J J J J (by simpa [add_zero', add_add'] using gcells_at hc5 0 _ J) ?_;refine Va J J ?_
  refine S_condp J (fun h7 => ?_) (fun h7 => ?_) <;> refine Va J J ?_
  ·have hkl : k < W.procs.length := by omega
   have hnk := any_take (f := tdP) hkl
   obtain ⟨adp, csp, ep, hcp, vr', vt, rfl, hrg, htd⟩ := Sr_at hpr hkl
   subst ep
   generalize W.procs[k] = q at hnk hcp hrg htd
   obtain ⟨A2, c2, rfl, _⟩ := id htd
   cases hacc : (acc || (W.procs.take k).any tdP)
   ·refine GF J J J ?_
    refine Va J J ?_;refine S_index Tk J J J J J J (by omega) (by omega) ?_;refine Va J J ?_;refine S_load Tk J J J J J (by simpa [add_zero', add_add'] using gcells_at hc5 0 _ J) ?_;refine Va J J ?_;refine S_index Tk J J J J J J (by omega) (by omega) ?_;refine Va J J ?_;refine S_load Tk J J J J J (by simpa [add_zero', add_add'] using gcells_at hcp 1 _ J) ?_;refine Va J J ?_;refine S_add J J J J (by omega) ?_
    refine Va J J ?_
    have htq : decide ((0 : Int) < (q.todo.length : Int)) = tdP q := by
     unfold tdP
     cases q.todo <;> simp
     all_goals omega
    exact S_again (k + 1) (by omega) (by omega) J ⟨⟨_, J, by simp [denO]⟩, ⟨_, J, J⟩, ⟨_, J, by rw [hnk, ← Bool.or_assoc, hacc, Bool.false_or, ← htq]⟩, ⟨_, J, J⟩, ⟨_, J, J⟩, trivial⟩ .nil
   ·refine GT J J J ?_
    refine Va J J ?_;refine S_add J J J J (by omega) ?_;refine Va J J ?_;exact S_again (k + 1) (by omega) (by omega) J ⟨⟨_, J, by simp [denO]⟩, ⟨_, J, J⟩, ⟨_, J, by rw [hnk, ← Bool.or_assoc, hacc, Bool.true_or]; rfl⟩, ⟨_, rfl, rfl⟩, ⟨_, rfl, rfl⟩, trivial⟩ .nil
  ·have e0 : k = W.procs.length := by omega
   subst e0
   rw [List.take_length]
   refine S_add J J J J (by omega) ?_;refine Va J J ?_;exact S_again (i + 1) (by omega) (by omega) J ⟨⟨_, J, by simp [denO]⟩, ⟨_, J, by rw [hnx]; rfl⟩, ⟨_, rfl, rfl⟩, ⟨_, rfl, rfl⟩, trivial⟩ .nil
 ·have e0 : i = Ws.length := by omega
  subst e0
  rw [List.take_length, ← hst]
  refine S_valV J J J (V_eqB g_boolT u_boolT J J) ?_;refine Va J J ?_;exact S_retp (Res.t1 Tryz.results3 J J) ((hext1.trans hext3).trans hext4) (by simp)
end
end Go.Proofs.YtbecgghgcglafaaGreatDoor
