/- Walks of the program's functions, one after the other (part 11); without conditions of their own. -/
import Derived.Test.YtcbdilccmjpnbaaGreatWM3
import Derived.Test.YtcbdilccmjpnbaaGreatWM4
import Derived.Test.YtcbdilccmjpnbaaGreatWM5
import Derived.Test.YtcbdilccmjpnbaaGreatWM9
import Derived.Test.YtcbdilccmjpnbaaGreatWM10
import Derived.Test.YtcbdilccmjpnbaaGreatWM2
import Derived.Below
import Derived.ChangeOld
import Derived.OpenShut
import Derived.ProofKit
import Derived.ShutString
import Derived.Test.YtcbdilccmjpnbaaGreatRows
import Derived.WalkKit
set_option linter.unusedVariables false
set_option linter.unusedSimpArgs false
set_option maxRecDepth 100000
set_option maxHeartbeats 4000000
open Go.RowKit
namespace Go.Proofs.YtcbdilccmjpnbaaGreat
section
attribute [local irreducible] X Pure Mod
theorem c_eqIntS (L : List Int) (v u : Value) (G : PH) (hv : IntsU G L v) (hu : IntsU G L u) : Pure Tryz.prog 11 [v, u] G fun v' G' => v' = .bool true ∧ G' = G := by
 obtain ⟨A, c, rfl, hnL, _⟩ := id hv
 obtain ⟨B, e, rfl, _⟩ := id hu
 refine Pure.intro Tryz.func11 Tryz.ntmps11 J J fun w => ?_; refine Va J J ?_;refine RF J (by simp) ?_;refine Va J J ?_;refine S_loop (α := Nat) (fun k => k ≤ L.length) (fun k => L.length - k) []
  (fun k => [(5, .val (.int .i64 (k : Nat))), (0, .val (.slice A L.length c)), (1, .val (.slice B L.length e))]) (fun _ => []) (fun _ => G) 0 (Nat.zero_le _) rfl ⟨⟨_, rfl, rfl⟩, ⟨_, rfl, rfl⟩, ⟨_, rfl, rfl⟩, trivial⟩ .nil ?_
 rintro k hk
 refine Va J J ?_
 refine S_condp J (fun h5 => ?_) (fun h5 => ?_) <;> refine Va J J ?_
 ·have hkl : k < L.length := by omega
  obtain ⟨ad, cs, rfl, hcell, rfl⟩ := Sr_at hv hkl
  obtain ⟨ae, ds, rfl, dcell, rfl⟩ := Sr_at hu hkl
  generalize L[k] = q at hcell dcell
  refine Ds J J J ?_;refine Da J J ?_;refine D_val 2 J J J J J J J J J (V_index Tk J J J J (by omega) (by omega)) ?_;refine D_val 6 J J J J J J J J J (V_index Tk J J J J (by omega) (by omega)) ?_;refine Da J J ?_;refine D_val 3 J J J J J J J J J (V_load Tk J J J (by simpa [add_zero'] using gcells_at hcell 0 _ J)) ?_;refine D_val 7 J J J J J J J J J (V_load Tk J J J (by simpa [add_zero'] using gcells_at dcell 0 _ J)) ?_
  refine Da J J ?_;refine DD ?_;refine Va J J ?_;refine RF J (by simp) ?_;refine Va J J ?_;refine S_add J J J J (by omega) ?_;refine Va J J ?_;exact S_again (k + 1) (by omega) (by omega) J ⟨⟨_, J, by simp [denO]⟩, ⟨_, J, J⟩, ⟨_, J, J⟩, trivial⟩ .nil
 ·exact S_retp (Res.t1 Tryz.results11 J J) XR ⟨J, J⟩
abbrev IntsS (G : PH) (l : List (List Int)) (v : Value) : Prop := Sr G 1 (intsRep G) l v
theorem c_eqIntSS (L : List (List Int)) (v u : Value) (G : PH) (hv : IntsS G L v) (hu : IntsS G L u) : Pure Tryz.prog 31 [v, u] G fun v' G' => v' = .bool true ∧ G' = G := by
 obtain ⟨A, c, rfl, hnL, _⟩ := id hv
 obtain ⟨B, e, rfl, _⟩ := id hu
 refine Pure.intro Tryz.func31 Tryz.ntmps31 J J fun w => ?_; refine Va J J ?_;refine RF J (by simp) ?_;refine Va J J ?_;refine S_loop (α := Nat) (fun k => k ≤ L.length) (fun k => L.length - k) []
  (fun k => [(5, .val (.int .i64 (k : Nat))), (0, .val (.slice A L.length c)), (1, .val (.slice B L.length e))]) (fun _ => []) (fun _ => G) 0 (Nat.zero_le _) rfl ⟨⟨_, rfl, rfl⟩, ⟨_, rfl, rfl⟩, ⟨_, rfl, rfl⟩, trivial⟩ .nil ?_
 rintro k hk
 refine Va J J ?_
 refine S_condp J (fun h5 => ?_) (fun h5 => ?_) <;> refine Va J J ?_
 ·have hkl : k < L.length := by omega
  obtain ⟨ad, cs, rfl, hcell, x1, rfl, hx1⟩ := Sr_at hv hkl
  obtain ⟨ae, ds, rfl, dcell, x2, rfl, hx2⟩ := Sr_at hu hkl
  have hq := c_eqIntS L[k] _ _ G hx1 hx2
  generalize L[k] = q at hq hx1 hx2
  obtain ⟨A1, c1, rfl, _⟩ := id hx1
  obtain ⟨A2, c2, rfl, _⟩ := id hx2
  refine Ds J J J ?_;refine Da J J ?_;refine D_val 2 J J J J J J J J J (V_index Tk J J J J (by omega) (by omega)) ?_;refine D_val 6 J J J J J J J J J (V_index Tk J J J J (by omega) (by omega)) ?_;refine Da J J ?_;refine D_val 3 J J J J J J J J J (V_load Tk J J J (by simpa [add_zero'] using gcells_at hcell 0 _ J)) ?_;refine D_val 7 J J J J J J J J J (V_load Tk J J J (by simpa [add_zero'] using gcells_at dcell 0 _ J)) ?_
  refine Da J J ?_;refine D_sole 8 J J (N_call 8 Tryz.call11 (hq) J J J J J J J J J J ?_)
  rintro v1 G1 ⟨rfl, rfl⟩ _
  refine Da J J ?_;refine DD ?_;refine Va J J ?_;refine RF J J ?_;refine Va J J ?_;refine S_add J J J J (by omega) ?_;refine Va J J ?_;exact S_again (k + 1) (by omega) (by omega) J ⟨⟨_, J, by simp [denO]⟩, ⟨_, J, J⟩, ⟨_, J, J⟩, trivial⟩ .nil
 ·exact S_retp (Res.t1 Tryz.results31 J J) XR ⟨J, J⟩
theorem c_eqSay (x : Int × Int) (G : PH) : Pure Tryz.prog 63 [.agg #[.int .i64 x.1, .int .i64 x.2], .agg #[.int .i64 x.1, .int .i64 x.2]] G fun v' G' => v' = .bool true ∧ G' = G := by
 refine Pure.intro Tryz.func63 Tryz.ntmps63 J J fun w => ?_; refine Va J J ?_;refine S_box J J J J J fun b1 => ?_;refine Va J J ?_;refine S_box J J J J J fun b2 => ?_;refine Va J J ?_;refine RF J (by simp) ?_;refine Va J J ?_;refine RF J (by simp) ?_;refine Va J J ?_;exact S_retp (Res.t1 Tryz.results63 J J) XR ⟨J, J⟩
theorem c_eqSayS (L : List (Int × Int)) (v u : Value) (G : PH) (hv : SaysU G L v) (hu : SaysU G L u) : Pure Tryz.prog 32 [v, u] G fun v' G' => v' = .bool true ∧ G' = G := by
 obtain ⟨A, c, rfl, hnL, _⟩ := id hv
 obtain ⟨B, e, rfl, _⟩ := id hu
 refine Pure.intro Tryz.func32 Tryz.ntmps32 J J fun w => ?_; refine Va J J ?_;refine RF J (by simp) ?_;refine Va J J ?_;refine S_loop (α := Nat) (fun k => k ≤ L.length) (fun k => L.length - k) []
  (fun k => [(5, .val (.int .i64 (k : Nat))), (0, .val (.slice A L.length c)), (1, .val (.slice B L.length e))]) (fun _ => []) (fun _ => G) 0 (Nat.zero_le _) rfl ⟨⟨_, rfl, rfl⟩, ⟨_, rfl, rfl⟩, ⟨_, rfl, rfl⟩, trivial⟩ .nil ?_
 rintro k hk
 refine Va J J ?_
 refine S_condp J (fun h5 => ?_) (fun h5 => ?_) <;> refine Va J J ?_
 ·have hkl : k < L.length := by omega
  obtain ⟨ad, cs, rfl, hcell, rfl⟩ := Sr_at hv hkl
  obtain ⟨ae, ds, rfl, dcell, rfl⟩ := Sr_at hu hkl
  have hq := c_eqSay L[k] G
  generalize L[k] = q at hq hcell dcell
  refine Ds J J J ?_;refine Da J J ?_;refine D_val 2 J J J J J J J J J (V_index Tk J J J J (by omega) (by omega)) ?_;refine D_val 6 J J J J J J J J J (V_index Tk J J J J (by omega) (by omega)) ?_;refine Da J J ?_;refine D_val 3 J J J J J J J J J (V_loadA Tk J J J (by simpa using hcell)) ?_;refine D_val 7 J J J J J J J J J (V_loadA Tk J J J (by simpa using dcell)) ?_;refine Da J J ?_;refine D_sole 8 J J (N_call 8 Tryz.call63 (hq) J J J J J J J J J J ?_)
  rintro v1 G1 ⟨rfl, rfl⟩ _
  refine Da J J ?_;refine DD ?_;refine Va J J ?_;refine RF J J ?_;refine Va J J ?_;refine S_add J J J J (by omega) ?_;refine Va J J ?_;exact S_again (k + 1) (by omega) (by omega) J ⟨⟨_, J, by simp [denO]⟩, ⟨_, J, J⟩, ⟨_, J, J⟩, trivial⟩ .nil
 ·exact S_retp (Res.t1 Tryz.results32 J J) XR ⟨J, J⟩
abbrev PrcsG (G : PH) (l : List Prc) (v : Value) : Prop := Sr G 5 (prcRep G) l v
theorem c_eqProc (p : Prc) (cs ds : List Value) (G : PH) (h1 : prcRep G p cs) (h2 : prcRep G p ds) : Pure Tryz.prog 62 [.agg cs.toArray, .agg ds.toArray] G fun v' G' => v' = .bool true ∧ G' = G := by
 obtain ⟨vr, vt, rfl, hr, ht⟩ := h1
 obtain ⟨ur, ut, rfl, hr', ht'⟩ := h2
 have e1 := c_eqIntS _ _ _ G hr hr'
 have e2 := EqL_all p.todo _ _ G ht ht'
 obtain ⟨A1, c1, rfl, _⟩ := id hr
 obtain ⟨A2, c2, rfl, _⟩ := id ht
 obtain ⟨A3, c3, rfl, _⟩ := id hr'
 obtain ⟨A4, c4, rfl, _⟩ := id ht'
 refine Pure.intro Tryz.func62 Tryz.ntmps62 J J fun w => ?_; refine Va J J ?_;refine S_box J J J J J fun b1 => ?_;refine Va J J ?_;refine S_box J J J J J fun b2 => ?_;refine Va J J ?_;refine S_call Tryz.call11 e1 J J J ?_;rintro v1 G1 ⟨rfl, rfl⟩ _
 refine Va J J ?_;refine RF J J ?_;refine Va J J ?_;refine S_call Tryz.call33 e2 J J J ?_;rintro v1 G1 ⟨rfl, rfl⟩ _
 refine Va J J ?_;refine RF J J ?_;refine Va J J ?_;refine RF J (by simp) ?_;refine Va J J ?_;refine RF J (by simp) ?_;refine Va J J ?_;refine RF J (by simp) ?_;refine Va J J ?_;exact S_retp (Res.t1 Tryz.results62 J J) XR ⟨J, J⟩
theorem prcRep_len {G : PH} {p : Prc} {cs : List Value} (h : prcRep G p cs) : cs.length = 5 := by
 obtain ⟨vr, vt, rfl, _⟩ := h; rfl
theorem c_eqProcS (L : List Prc) (v u : Value) (G : PH) (hv : PrcsG G L v) (hu : PrcsG G L u) : Pure Tryz.prog 30 [v, u] G fun v' G' => v' = .bool true ∧ G' = G := by
 obtain ⟨A, c, rfl, hnL, _⟩ := id hv
 obtain ⟨B, e, rfl, _⟩ := id hu
 refine Pure.intro Tryz.func30 Tryz.ntmps30 J J fun w => ?_; refine Va J J ?_;refine RF J (by simp) ?_;refine Va J J ?_;refine S_loop (α := Nat) (fun k => k ≤ L.length) (fun k => L.length - k) []
  (fun k => [(5, .val (.int .i64 (k : Nat))), (0, .val (.slice A L.length c)), (1, .val (.slice B L.length e))]) (fun _ => []) (fun _ => G) 0 (Nat.zero_le _) rfl ⟨⟨_, rfl, rfl⟩, ⟨_, rfl, rfl⟩, ⟨_, rfl, rfl⟩, trivial⟩ .nil ?_
 rintro k hk
 refine Va J J ?_
 refine S_condp J (fun h5 => ?_) (fun h5 => ?_) <;> refine Va J J ?_
 ·have hkl : k < L.length := by omega
  obtain ⟨ad, cs, rfl, hcell, h1⟩ := Sr_at hv hkl
  obtain ⟨ae, ds, rfl, dcell, h2⟩ := Sr_at hu hkl
  have hq := c_eqProc L[k] _ _ G h1 h2
  generalize L[k] = q at hq h1 h2
  refine Ds J J J ?_;refine Da J J ?_;refine D_val 2 J J J J J J J J J (V_index Tk J J J J (by omega) (by omega)) ?_;refine D_val 6 J J J J J J J J J (V_index Tk J J J J (by omega) (by omega)) ?_;refine Da J J ?_;refine D_val 3 J J J J J J J J J (V_loadA Tk J J (prcRep_len h1) (by simpa using hcell)) ?_;refine D_val 7 J J J J J J J J J (V_loadA Tk J J (prcRep_len h2) (by simpa using dcell)) ?_;refine Da J J ?_
  refine D_sole 8 J J (N_call 8 Tryz.call62 (hq) J J J J J J J J J J ?_)
  rintro v1 G1 ⟨rfl, rfl⟩ _
  refine Da J J ?_;refine DD ?_;refine Va J J ?_;refine RF J J ?_;refine Va J J ?_;refine S_add J J J J (by omega) ?_;refine Va J J ?_;exact S_again (k + 1) (by omega) (by omega) J ⟨⟨_, J, by simp [denO]⟩, ⟨_, J, J⟩, ⟨_, J, J⟩, trivial⟩ .nil
 ·exact S_retp (Res.t1 Tryz.results30 J J) XR ⟨J, J⟩
end
section
attribute [local irreducible] X Pure Mod
theorem cells_dn {G H : PH} (hl : H.le G) : ∀ (r : List Shp) (cs : List Value) (ad : Addr), cs.length = r.length → gcells G ad cs → LiesR H r ad → gcells H ad cs ∧ LiesL H r cs
 | [], [], _, _, _, _ => ⟨trivial, by simp [LiesL]⟩
 | s :: r, v :: cs, ad, hn, hg, hr => by
  simp only [LiesR] at hr
  obtain ⟨⟨u, h1, h2⟩, h3⟩ := hr
  have hu := wcell_g h1
  have hv : gcell G ad = some v := hg.1
  rw [gcell_le hl hu] at hv
  cases hv
  obtain ⟨i1, i2⟩ := cells_dn hl r cs (ad.add 1) (by simpa using hn) hg.2 h3
  exact ⟨⟨hu, i1⟩, by simp only [LiesL]; exact ⟨h2, i2⟩⟩
 | [], _ :: _, _, hn, _, _ => by simp at hn
 | _ :: _, [], _, hn, _, _ => by simp at hn
theorem Rw_dn {α : Type} {G H : PH} (hl : H.le G) {sz : Nat} {rep rep' : α → List Value → Prop} {f : α → List Shp} (hf : ∀ x, (f x).length = sz) (hc : ∀ x cs, rep x cs → cs.length = sz) : ∀ (l : List α) (ad : Addr), Rw G sz rep l ad → LiesR H (l.flatMap f) ad → (∀ x ∈ l, ∀ cs, rep x cs → LiesL H (f x) cs → rep' x cs) → Rw H sz rep' l ad
 | [], _, _, _, _ => trivial
 | x :: l, ad, h, hL, hr => by
  obtain ⟨⟨cs, h1, h2⟩, h3⟩ := h
  rw [List.flatMap_cons] at hL
  obtain ⟨g1, g2⟩ := LiesR_append.1 hL
  rw [hf] at g2
  obtain ⟨i1, i2⟩ := cells_dn hl (f x) cs ad (by rw [hc x cs h2, hf]) h1 g1
  exact ⟨⟨cs, i1, hr x (List.mem_cons_self ..) cs h2 i2⟩, Rw_dn hl hf hc l _ h3 g2 fun y hy => hr y (List.mem_cons_of_mem _ hy)⟩
theorem Sr_dn {α : Type} {G H : PH} (hl : H.le G) {sz : Nat} {rep rep' : α → List Value → Prop} {f : α → List Shp} (hf : ∀ x, (f x).length = sz) (hc : ∀ x cs, rep x cs → cs.length = sz) {l : List α} {v : Value} (h : Sr G sz rep l v) (hL : Lies H (.sl sz (l.flatMap f)) v) (hr : ∀ x ∈ l, ∀ cs, rep x cs → LiesL H (f x) cs → rep' x cs) : Sr H sz rep' l v := by
 obtain ⟨A, c, rfl, h2, h3, h4, h5⟩ := h
 refine ⟨A, c, J, h2, h3, h4, ?_⟩
 rcases h5 with h5 | ⟨ad, rfl, h6⟩
 ·exact .inl h5
 ·by_cases hn : l.length = 0
  ·exact .inl hn
  refine .inr ⟨ad, J, Rw_dn hl hf hc l ad h6 ?_ hr⟩
  simp only [Lies] at hL
  obtain ⟨A', n', c', e, _, _, _, _, h7⟩ := hL
  cases e
  rcases h7 with h7 | ⟨ad', e, h8⟩
  ·exact absurd h7 hn
  ·cases e; exact h8
theorem fm_int {α : Type} : ∀ l : List α, l.flatMap (fun _ => [Shp.int]) = tcI l.length
 | [] => rfl
 | x :: l => by rw [List.flatMap_cons, fm_int l]; rfl
theorem fm_int2 {α : Type} : ∀ l : List α, l.flatMap (fun _ => [Shp.int, Shp.int]) = tcI (l.length * 2)
 | [] => rfl
 | x :: l => by rw [List.flatMap_cons, fm_int2 l, List.length_cons, Nat.succ_mul]; rfl
theorem fm_tcT : ∀ l : List Stm, l.flatMap tcS = tcT l
 | [] => rfl
 | x :: l => by rw [List.flatMap_cons, fm_tcT l]; rfl
theorem IntsU_dn {G H : PH} (hl : H.le G) {l : List Int} {v : Value} (h : IntsU G l v) (hL : Lies H (shI l.length) v) : IntsU H l v :=
 Sr_dn (f := fun _ => [Shp.int]) hl (fun _ => rfl) (fun x cs h => by rw [show cs = _ from h]; rfl) h (by rw [fm_int]; exact hL) fun _ _ _ h _ => h
theorem SaysU_dn {G H : PH} (hl : H.le G) {l : List (Int × Int)} {v : Value} (h : SaysU G l v) (hL : Lies H (shY l.length) v) : SaysU H l v :=
 Sr_dn (f := fun _ => [Shp.int, Shp.int]) hl (fun _ => rfl) (fun x cs h => by rw [show cs = _ from h]; rfl) h (by rw [fm_int2]; exact hL) fun _ _ _ h _ => h
mutual
theorem Stm.rep_dn {G H : PH} (hl : H.le G) : ∀ (s : Stm) (cs : List Value), Stm.rep G s cs → LiesL H (tcS s) cs → Stm.rep H s cs
 | .mk k a b n x y, cs, h, hL => by
  obtain ⟨vx, vy, rfl, h1, h2, h3, h4, h5, h6⟩ := Stm.rep_iff.1 h
  simp only [tcS, LiesL] at hL
  obtain ⟨_, _, _, _, g5, g6, _⟩ := hL
  refine Stm.rep_iff.2 ⟨vx, vy, J, h1, h2, h3, h4, ?_, ?_⟩
  ·exact Sr_dn (f := tcS) hl tcS_len (fun x cs h => Stm.rep_len h) h5 (by rw [fm_tcT]; exact g5) (Stm.reps_dn hl x)
  ·exact Sr_dn (f := tcS) hl tcS_len (fun x cs h => Stm.rep_len h) h6 (by rw [fm_tcT]; exact g6) (Stm.reps_dn hl y)
theorem Stm.reps_dn {G H : PH} (hl : H.le G) : ∀ (L : List Stm), ∀ s ∈ L, ∀ cs, Stm.rep G s cs → LiesL H (tcS s) cs → Stm.rep H s cs
 | [], s, hs, _, _, _ => by cases hs
 | t :: L, s, hs, cs, h, hL => by
  rcases List.mem_cons.1 hs with e | hs'
  ·rw [e] at h hL ⊢; exact Stm.rep_dn hl t cs h hL
  ·exact Stm.reps_dn hl L s hs' cs h hL
end
theorem Sts_dn {G H : PH} (hl : H.le G) {L : List Stm} {v : Value} (h : Sts G L v) (hL : Lies H (shT L) v) : Sts H L v :=
 Sr_dn (f := tcS) hl tcS_len (fun x cs h => Stm.rep_len h) h (by rw [fm_tcT]; exact hL) (Stm.reps_dn hl L)
theorem numR_fm {α : Type} {f : α → List Shp} {b : Nat} : ∀ (l : List α), (∀ x ∈ l, numR (f x) ≤ b) → numR (l.flatMap f) ≤ l.length * b
 | [], _ => by simp [numR]
 | x :: l, h => by
  rw [List.flatMap_cons, numR_append, List.length_cons, Nat.succ_mul]
  have h1 := h x (List.mem_cons_self ..)
  have h2 := numR_fm l fun y hy => h y (List.mem_cons_of_mem _ hy)
  omega
mutual
theorem num_cntS : ∀ s : Stm, numR (tcS s) ≤ 4 * (1 + s.cnt)
 | .mk k a b n x y => by
  have h1 := num_cntL x
  have h2 := num_cntL y
  simp only [tcS, numR, numC, Stm.cnt]
  omega
theorem num_cntL : ∀ L : List Stm, numR (tcT L) ≤ 4 * cntL L
 | [] => by simp [tcT, numR]
 | s :: r => by
  have h1 := num_cntS s
  have h2 := num_cntL r
  simp only [tcT, numR_append, cntL]
  omega
end
theorem num_cntP : ∀ p : List (List Stm), numV (shTT p) ≤ 4 * cntP p
 | [] => by simp [shTT, numV, numR]
 | l :: r => by
  have h1 := num_cntL l
  have h2 := num_cntP r
  simp only [shTT, numV, List.map_cons, numR, numC, shT, cntP] at h2 ⊢
  omega
def NB : Nat → Nat
 | 0 => 0
 | n + 1 => 1000 * (4 + 2 * NB n)
theorem num_mx : ∀ (n : Nat) (L : List Stm), dpL L ≤ n → mx L ≤ 1000 → numR (tcT L) ≤ NB n
 | 0, [], _, _ => by simp [tcT, numR]
 | 0, s :: L, h, _ => by simp only [dpL, dpS_eq] at h; omega
 | n + 1, L, h, hm => by
  obtain ⟨K, hK⟩ : ∃ K, K = 4 + 2 * NB n := ⟨_, rfl⟩
  have key : ∀ (L : List Stm), dpL L ≤ n + 1 → mx L ≤ 1000 → numR (tcT L) ≤ L.length * K := by
   intro L
   induction L with
   | nil => intro _ _; simp [tcT, numR]
   | cons s L ih =>
    intro h hm
    simp only [dpL, mx] at h hm
    have a1 := ih (by omega) (by omega)
    obtain ⟨k, a, b, m, x, y⟩ := s
    simp only [dpS, mxS] at h hm
    have b1 := num_mx n x (by omega) (by omega)
    have b2 := num_mx n y (by omega) (by omega)
    simp only [tcT, tcS, numR_append, List.cons_append, List.nil_append, numR, numC, List.length_cons, Nat.succ_mul]
    omega
  have hk := key L h hm
  have hl := len_mx L
  have := Nat.mul_le_mul_right K (show L.length ≤ 1000 by omega)
  simp only [NB, ← hK]
  omega
end
section
attribute [local irreducible] X Pure Mod
theorem rests_valid : ∀ (l : List Nat) {W W' : Wld} {B : Nat}, Inv W B → (∀ x ∈ l, x < W.procs.length) → rests l W = some W' → Inv W' (B + 200 * l.length) ∧ W'.procs.length = W.procs.length
 | [], W, W', B, h, _, e => by cases e; exact ⟨h.mono (by simp), J⟩
 | who :: r, W, W', B, h, hx, e => by
  unfold rests at e
  have ha := h.rest (who := who) 200 (hx who (List.mem_cons_self ..))
  generalize Go.Proofs.YtcbdilccmjpnbaaGreat.restP who 200 W = t at e ha
  obtain ⟨V, ok⟩ := t
  cases ok
  ·cases e
  ·obtain ⟨h1, h2⟩ := rests_valid r ha.1 (fun x h' => by rw [ha.2]; exact hx x (List.mem_cons_of_mem _ h')) e
   exact ⟨h1.mono (by simp only [List.length_cons]; omega), h2.trans ha.2⟩
theorem wrun_parts {p : List (List Stm)} {q : List Int} {W : Wld} (h : wrun p q = some W) (hs : ∀ l ∈ p, Sh l) : Inv W 100000 ∧ W.procs.length = p.length := by
 unfold wrun at h
 split at h
 ·rename_i hc
  have hI := Inv_open hc.1 hs
  have hl : (open0 p).procs.length = p.length := by simp [open0]
  have hp3 := (prog_parts hc.1).2.2
  cases hr : runs q (open0 p) with
  | none => rw [hr] at h; cases h
  | some V =>
   rw [hr] at h
   obtain ⟨_, h2, h3⟩ := runs_valid q hI hr
   obtain ⟨h4, h5⟩ := rests_valid _ h2 (fun x hx => by rw [h3, hl]; exact List.mem_range.1 hx) h
   refine ⟨h4.mono ?_, by omega⟩
   have := hc.2
   simp only [List.length_range]
   omega
 ·cases h
end
section
attribute [local irreducible] X Pure Mod
structure Wp where
 ps : List Prc
 c : List Int
 r : List Int
 s : List (List Int)
 d : List (Int × Int)
def wpOf : Option Wld → Wp
 | some W => ⟨W.procs, [W.c0, W.c1, W.c2], [W.m0, W.m1], [W.q0, W.q1], W.said⟩
 | none => ⟨[], [], [], [], []⟩
def wpsh (P : Wp) : WSh := ⟨P.ps.map psh, P.c.length, P.r.length, P.s.map List.length, P.d.length⟩
def WpG (G : PH) (P : Wp) (cs : List Value) : Prop := ∃ vp vc vr vs vd, cs = [vp, vc, vr, vs, vd] ∧ PrcsG G P.ps vp ∧ IntsU G P.c vc ∧ IntsU G P.r vr ∧ IntsS G P.s vs ∧ SaysU G P.d vd
theorem WpG_le {G G' : PH} (hl : G.le G') {P : Wp} {cs : List Value} (h : WpG G P cs) : WpG G' P cs := by
 obtain ⟨a, b, c, d, e, h0, h1, h2, h3, h4, h5⟩ := h
 exact ⟨a, b, c, d, e, h0, Sr_mono hl (fun _ _ _ h => prcRep_le hl h) h1, IntsU_le hl h2, IntsU_le hl h3, Sr_mono hl (fun _ _ _ h => intsRep_le hl h) h4, Sr_mono hl (fun _ _ _ h => h) h5⟩
theorem WpG_of {G : PH} {W : Wld} {v : Value} (h : WG G W v) : ∃ cs : List Value, v = .agg cs.toArray ∧ WpG G (wpOf (some W)) cs := by
 obtain ⟨a, b, c, d, e, rfl, h1, h2, h3, h4, h5⟩ := h
 exact ⟨[a, b, c, d, e], J, a, b, c, d, e, J, h1, h2, h3, h4, h5⟩
def zCells : List Value := [.slice none 0 0, .slice none 0 0, .slice none 0 0, .slice none 0 0, .slice none 0 0]
theorem WpG_none (G : PH) : WpG G (wpOf none) zCells := ⟨_, _, _, _, _, rfl, Sr_nil rfl, Sr_nil rfl, Sr_nil rfl, Sr_nil rfl, Sr_nil rfl⟩
theorem FL_none (G G' : PH) : FL G G' (tcW (wpsh (wpOf none))) zCells := by
 have h : ∀ w, Lies (newp G G') (.sl w []) (.slice none 0 0) := fun w => (FT_nil (G := G) (G' := G') (w := w)).1
 refine ⟨⟨h 5, h 1, h 1, h 1, h 2, by simp [LiesL]⟩, ?_⟩
 have : adsL (newp G G') (tcW (wpsh (wpOf none))) zCells = [] := by
  simp [tcW, wpsh, wpOf, shP, shI, shII, shY, tcI, zCells, adsL, adsV, adsR]
 rw [this]
 exact List.nodup_nil
theorem WpG_dn {G H : PH} (hl : H.le G) {P : Wp} {cs : List Value} (h : WpG G P cs) (hL : LiesL H (tcW (wpsh P)) cs) : WpG H P cs := by
 obtain ⟨vp, vc, vr, vs, vd, rfl, h1, h2, h3, h4, h5⟩ := h
 simp only [tcW, LiesL] at hL
 obtain ⟨g1, g2, g3, g4, g5, _⟩ := hL
 refine ⟨_, _, _, _, _, J, ?_, IntsU_dn hl h2 g2, IntsU_dn hl h3 g3, ?_, SaysU_dn hl h5 g5⟩
 ·refine Sr_dn (f := fun p => tcP (psh p)) hl (fun _ => J) (fun x cs h => prcRep_len h) h1 (by
   have := g1
   simp only [shP, wpsh, List.flatMap_map] at this
   exact this) fun p _ cs hp hL => ?_
  obtain ⟨u, t, rfl, i1, i2⟩ := hp
  simp only [tcP, psh, LiesL] at hL
  exact ⟨u, t, J, IntsU_dn hl i1 hL.1, Sts_dn hl i2 hL.2.1⟩
 ·have e : ∀ l : List (List Int), (l.map List.length).map shI = l.flatMap fun q => [shI q.length] := by
   intro l
   induction l with
   | nil => rfl
   | cons q l ih => rw [List.map_cons, List.map_cons, ih]; rfl
  refine Sr_dn (f := fun q : List Int => [shI q.length]) hl (fun _ => rfl) (fun x cs h => by obtain ⟨u, rfl, _⟩ := h; rfl) h4 (by
   have := g4
   simp only [shII, wpsh] at this
   rw [e] at this
   exact this) fun q _ cs hq hL => ?_
  obtain ⟨u, rfl, i1⟩ := hq
  simp only [LiesL] at hL
  exact ⟨u, J, IntsU_dn hl i1 hL.1⟩
theorem c_eqWorldP (P : Wp) (cs ds : List Value) (G : PH) (h1 : WpG G P cs) (h2 : WpG G P ds) : Pure Tryz.prog 9 [.agg cs.toArray, .agg ds.toArray] G fun v' G' => v' = .bool true ∧ G' = G := by
 obtain ⟨vp, vc, vr, vs, vd, rfl, hp, hc, hr, hs, hd⟩ := h1
 obtain ⟨up, uc, ur, us, ud, rfl, hp', hc', hr', hs', hd'⟩ := h2
 have e1 := c_eqProcS _ _ _ G hp hp'
 have e2 := c_eqIntS _ _ _ G hc hc'
 have e3 := c_eqIntS _ _ _ G hr hr'
 have e4 := c_eqIntSS _ _ _ G hs hs'
 have e5 := c_eqSayS _ _ _ G hd hd'
 obtain ⟨A1, k1, rfl, _⟩ := id hp
 obtain ⟨A2, k2, rfl, _⟩ := id hc
 obtain ⟨A3, k3, rfl, _⟩ := id hr
 obtain ⟨A4, k4, rfl, _⟩ := id hs
 obtain ⟨A5, k5, rfl, _⟩ := id hd
 obtain ⟨B1, l1, rfl, _⟩ := id hp'
 obtain ⟨B2, l2, rfl, _⟩ := id hc'
 obtain ⟨B3, l3, rfl, _⟩ := id hr'
 obtain ⟨B4, l4, rfl, _⟩ := id hs'
 obtain ⟨B5, l5, rfl, _⟩ := id hd'
 refine Pure.intro Tryz.func9 Tryz.ntmps9 J J fun w => ?_; refine Va J J ?_;refine S_box J J J J J fun b1 => ?_;refine Va J J ?_;refine S_box J J J J J fun b2 => ?_;refine Va J J ?_;refine S_call Tryz.call30 e1 J J J ?_;rintro v1 G1 ⟨rfl, rfl⟩ _
 refine Va J J ?_;refine RF J J ?_;refine Va J J ?_;refine S_call Tryz.call11 e2 J J J ?_;rintro v1 G1 ⟨rfl, rfl⟩ _
 refine Va J J ?_;refine RF J J ?_;refine Va J J ?_;refine S_call Tryz.call11 e3 J J J ?_;rintro v1 G1 ⟨rfl, rfl⟩ _
 refine Va J J ?_;refine RF J J ?_;refine Va J J ?_;refine S_call Tryz.call31 e4 J J J ?_;rintro v1 G1 ⟨rfl, rfl⟩ _
 refine Va J J ?_;refine RF J J ?_;refine Va J J ?_;refine S_call Tryz.call32 e5 J J J ?_;rintro v1 G1 ⟨rfl, rfl⟩ _
 refine Va J J ?_;refine RF J J ?_;refine Va J J ?_;exact S_retp (Res.t1 Tryz.results9 J J) XR ⟨J, J⟩
theorem wrun_shl {p : List (List Stm)} {q : List Int} {W : Wld} (h : wrun p q = some W) : Shl W := by
 have runs_shl : ∀ (q : List Int) {V U : Wld}, Shl V → runs q V = some U → Shl U := by
  intro q
  induction q with
  | nil => intro V U hV h; cases h; exact hV
  | cons who r ih =>
   intro V U hV h
   rw [runs] at h
   split at h
   ·cases h
   ·have ha : Shl (atom who.toNat 200 false V).1 := by
     rw [atom_out]
     split
     ·exact Shl_till _ _ (Shl_till _ _ hV)
     ·exact Shl_till _ _ hV
    split at h
    ·cases h
    ·rename_i W' e
     rw [e] at ha
     exact ih ha h
 unfold wrun at h
 split at h
 ·rename_i hpq
  split at h
  ·cases h
  ·rename_i V hV
   exact Shl_rests _ (runs_shl q (Shl_open hpq.1) hV) h
 ·cases h
theorem num_inv {W : Wld} {B : Nat} (hs : Shl W) (hI : Inv W B) (hB : B ≤ 1000000) : numR (tcW (wpsh (wpOf (some W)))) ≤ 100000000000 := by
 have hn := hI.n3
 have hq := hI.ql
 have hd := hI.sd
 have hp : numR ((W.procs.map psh).flatMap tcP) ≤ W.procs.length * (6 + NB 3) := by
  rw [List.flatMap_map]
  refine numR_fm W.procs fun p hp => ?_
  have := num_mx 3 p.todo (hs p hp) (hI.pr p hp).mx
  simp only [tcP, psh, numR, numC, shI, shT, numR_I]
  omega
 have e3 : NB 3 = 16008004000 := by decide
 rw [e3] at hp
 have := Nat.mul_le_mul_right (6 + 16008004000) hn
 simp only [tcW, wpsh, wpOf, numR, numC, shP, shI, shII, shY, numR_I, List.map_cons, List.map_nil, List.length_cons, List.length_nil]
 omega
theorem num_wrun {p : List (List Stm)} (q : List Int) (hs : ∀ l ∈ p, Sh l) : numR (tcW (wpsh (wpOf (wrun p q)))) ≤ 100000000000 := by
 cases h : wrun p q with
 | none => decide
 | some W => exact num_inv (wrun_shl h) (wrun_parts h hs).1 (by omega)
theorem resV_parts {r : Option Wld} {v : Value} {G : PH} (h : resV r v G) : ∃ cs : List Value, v = .tuple #[.agg cs.toArray, .bool r.isSome] ∧ WpG G (wpOf r) cs := by
 cases r with
 | none => exact ⟨zCells, h, WpG_none G⟩
 | some W =>
  obtain ⟨wv, rfl, hW⟩ := h
  obtain ⟨cs, rfl, h2⟩ := WpG_of hW
  exact ⟨cs, J, h2⟩
end
section
attribute [local irreducible] X Pure Mod
theorem FL.low {G G1 G2 : PH} (h01 : G.le G1) (h12 : G1.le G2) {r : List Shp} {vs : List Value} (h : FL G1 G2 r vs) : FL G G2 r vs := by
 have ht := Tn.of_le (newp_mono h01 h12)
 exact ⟨LiesL_tn ht h.1, by rw [adsL_tn ht h.1]; exact h.2⟩
def resN (r : Option Wld) (G : PH) (v : Value) (G' : PH) : Prop := ∃ cs : List Value, v = .tuple #[.agg cs.toArray, .bool r.isSome] ∧ WpG G' (wpOf r) cs ∧ FL G G' (tcW (wpsh (wpOf r))) cs
theorem c_iWholeRunN (p : List (List Stm)) (q : List Int) (pv qv : Value) (G : PH) (hp : PrgS G p pv) (hq : Ints G q qv) : Pure Tryz.prog 8 [pv, qv] G (resN (wrun p q) G) := by
 obtain ⟨Ap, cp, rfl, _⟩ := id hp.1
 obtain ⟨Aq, cq, rfl, _⟩ := id hq
 refine Pure.intro Tryz.func8 Tryz.ntmps8 J J fun w => ?_; refine Va J J ?_;refine S_box J J J J J fun b2 => ?_;refine Va J J ?_;refine AZ ZT_ok J J J J fun b4 => ?_;refine Va J J ?_;refine S_call Tryz.call23 (c_playable p q _ _ _ hp hq) J J J ?_;rintro v G5 ⟨rfl, rfl⟩ _
 refine Va J J ?_
 cases hpl0 : (progOk p && decide (q.length ≤ 200))
 ·refine GT J J J ?_
  refine Va J J ?_
  have hnone : wrun p q = none := by
   unfold wrun
   rw [if_neg]
   rintro ⟨h1, h2⟩
   simp [h1, h2] at hpl0
  exact S_retp (Res.c2 Tk Tryz.results8 J J J J) XR (by rw [hnone]; exact ⟨zCells, J, WpG_none _, FL_none _ _⟩)
 refine GF J J J ?_;refine Va J J ?_
 simp only [Bool.and_eq_true, decide_eq_true_eq] at hpl0
 obtain ⟨hpo, hq2⟩ := hpl0
 have hp13 := (prog_parts hpo).2
 have hI0 := Inv_open hpo hp.2.1
 have hpl : (open0 p).procs.length = p.length := by simp [open0]
 have hwr : wrun p q = (match runs q (open0 p) with
  | none => none
  | some W => rests (List.range p.length) W) := by
  unfold wrun
  rw [if_pos ⟨hpo, hq2⟩]
  all_goals (cases runs q (open0 p) <;> rfl)
 refine S_valV J J J (V_makeFunc J) ?_;refine Va J J ?_;refine S_freezeB 2 J J J J (fun _ h => h) fun hext2 => ?_
 generalize hG6 : G5.add b2 _ = G6 at hext2 ⊢
 have hp6 : Prg G6 p (.slice Ap p.length cp) := Prg_le hext2.le hp.1
 have hb6 : gcell G6 ⟨b2, 0, none⟩ = some (.slice Ap p.length cp) := by rw [← hG6]; simp [gcell, PH.add_self]
 refine S_reE 2 (.val (.pointer (some ⟨b2, 0, none⟩))) J J ?_;refine S_call Tryz.call24 (c_ContainsInt q (fun who => decide (who < 0) || decide ((p.length : Int) ≤ who)) 25 #[.pointer (some ⟨b2, 0, none⟩)] _ _ (Ints_le hext2.le hq) Tryz.call25 fun k hk hi => c_outOf p _ _ b2 _ hp6 hb6) J J J ?_;rintro v G7 ⟨rfl, rfl⟩ _
 refine Va J J ?_
 cases hany : q.any fun who => decide (who < 0) || decide ((p.length : Int) ≤ who)
 rotate_left
 ·refine RT J J ?_
  refine Va J J ?_
  have hnone : wrun p q = none := by
   rw [hwr]
   cases hr : runs q (open0 p) with
   | none => rfl
   | some W =>
    obtain ⟨x, hx, hxo⟩ := List.any_eq_true.1 hany
    have := (runs_valid q hI0 hr).1 x hx
    rw [hpl] at this
    simp only [Bool.or_eq_true, decide_eq_true_eq] at hxo
    omega
  exact S_retp (Res.c2 Tk Tryz.results8 J J J J) hext2 (by rw [hnone]; exact ⟨zCells, J, WpG_none _, FL_none _ _⟩)
 refine RF J J ?_;refine Va J J ?_
 have hin : ∀ x ∈ q, 0 ≤ x ∧ x < p.length := by
  intro x hx
  have := List.any_eq_false.1 hany x hx
  simp only [Bool.or_eq_true, decide_eq_true_eq, not_or] at this
  omega
 refine S_load Tk J J J J J hb6 ?_;refine Va J J ?_;refine S_callN 1 Tryz.call26 (c_opened p _ _ hp6 hp13) J J J ?_;rintro v1 G1 A1 ⟨cs, ts, rfl, rfl, htd⟩ hext1
 refine S_newHP 1 J J ?_;refine S_csV 1 J ?_;rintro bp bc br bs kp asd ksd kc kr ks rfl
 refine Va J J ?_;refine AZ ZT_ok J J J J fun b6 => ?_;refine Va J J ?_;refine S_V2P 6 1 1 J J J J J J ?_;refine S_reE 6 (.val (.pointer (some ⟨b6, 0, none⟩))) J J ?_;refine S_call Tryz.call27 (c_atomicF _) J J J ?_;rintro v2 G2 ⟨be, rfl, hbe⟩ hext3
 refine Va J J ?_;refine S_loop (α := WSi) (fun y => y.i ≤ q.length ∧ PH.ext w.heap.size G2 y.G ∧ (Inv y.V y.B ∧ y.B ≤ 400 * y.i) ∧ Tds y.G y.V.procs y.ts ∧ y.V.procs.length = p.length ∧ runs q (open0 p) = runs (q.drop y.i) y.V) (fun y => q.length - y.i) [(4, b4), (6, b6)]
  (fun y => [(27, .val (.int .i64 (y.i : Nat))), (25, .val (.slice Aq q.length cq)), (26, .val (.int .i64 (q.length : Nat))), (7, .val (.func (.func 54) #[] #[.pointer (some ⟨be, 0, none⟩)])), (6, .val (.pointer (some ⟨b6, 0, none⟩))), (2, .val (.pointer (some ⟨b2, 0, none⟩))), (4, .ptr 4 0)])
  (fun y => [.hp 1 (worldP b6 y.V y.ts), .blk 4 29 (vL [.slice none 0 0, .slice none 0 0, .slice none 0 0, .slice none 0 0, .slice none 0 0])]) (fun y => y.G) ⟨0, open0 p, 0, ts, G2⟩ ⟨Nat.zero_le _, PH.ext.refl _ _, ⟨hI0, Nat.le_refl _⟩, Tds_le hext3.le htd, hpl, rfl⟩ rfl ?_ ?_ ?_
 ·exact ⟨⟨_, J, J⟩, ⟨_, J, J⟩, ⟨_, J, J⟩, ⟨_, J, J⟩, ⟨_, J, J⟩, ⟨_, J, J⟩, ⟨_, J, J⟩, trivial⟩
 ·exact .hp (.blk J J .nil)
 rintro ⟨i, V, B1, ts1, G3⟩ ⟨hi, hext, ⟨h1, hB1⟩, ht1, hlen, heq⟩
 simp only at hi hext h1 hB1 ht1 hlen heq ⊢
 have hn1 := h1.n1
 have hn3 := h1.n3
 have hextA := ((hext2.trans hext1).trans hext3).trans hext
 refine Va J J ?_
 refine S_condp J (fun h5 => ?_) (fun h5 => ?_) <;> refine Va J J ?_
 ·have hil : i < q.length := by omega
  rw [drop_at hil] at heq
  have hxr := hin q[i] (List.getElem_mem hil)
  obtain ⟨ad, cs5, rfl, hcs, rfl, hi5⟩ := Sr_at (Ints_le hextA.le hq) hil
  generalize hwe : q[i] = who at hcs hi5 heq hxr
  obtain ⟨k, rfl⟩ := Int.eq_ofNat_of_zero_le hxr.1
  have hkl : k < V.procs.length := by omega
  refine S_index Tk J J J J J J (by omega) (by omega) ?_;refine Va J J ?_;refine S_load Tk J J J J J (by simpa using hcs.1) ?_;refine Va J J ?_
  rw [runs_cons hkl] at heq
  have hIa := Inv_atom h1 hkl
  refine S_callMV 1 (vs := [.pointer (some ⟨b6, 0, none⟩), .int .i64 (k : Nat)]) (cap := #[.pointer (some ⟨be, 0, none⟩)]) J Tryz.call54 (c_atom V k B1 b6 be ts1 _ h1 (by omega) ht1 hkl (EndsAt_le hext.le hbe)) J J J J (fun _ => J) ?_;rintro v G4 A' ⟨ts4, rfl, rfl, ht4⟩ hext4
  generalize atom k 200 false V = r at heq hIa ht4 ⊢
  obtain ⟨V4, ok⟩ := r
  simp only at heq hIa ht4 ⊢
  refine Va J J ?_
  cases ok
  ·refine RT J J ?_
   refine Va J J ?_
   have hnone : wrun p q = none := by rw [hwr, heq]
   exact S_retp (Res.c2 Tk Tryz.results8 J J J J) (hextA.trans hext4) (by rw [hnone]; exact ⟨zCells, J, WpG_none _, FL_none _ _⟩)
  refine RF J J ?_;refine Va J J ?_;refine S_add J J J J (by omega) ?_;refine Va J J ?_;exact S_again ⟨i + 1, V4, B1 + 400, ts4, G4⟩ ⟨by simp only; omega, hext.trans hext4, ⟨hIa.1, by simp only; omega⟩, ht4, by simp only; omega, heq⟩ (by simp only; omega) rfl ⟨⟨_, rfl, by simp [denO]⟩, ⟨_, rfl, rfl⟩, ⟨_, rfl, rfl⟩, ⟨_, rfl, rfl⟩, ⟨_, rfl, rfl⟩, ⟨_, rfl, rfl⟩, ⟨_, rfl, rfl⟩, trivial⟩ (.hp (.blk rfl rfl .nil))
 have hin : i = q.length := by omega
 subst hin
 rw [List.drop_length] at heq
 have hwr2 : wrun p q = rests (List.range p.length) V := by rw [hwr, heq]; rfl
 refine S_call Tryz.call28 (c_restF _) J J J ?_;rintro v G4 ⟨rfl, rfl⟩ _
 refine Va J J ?_;refine S_load Tk J J J J J (gcell_le ((hext1.trans hext3).trans hext).le hb6) ?_;refine Va J J ?_;refine S_loop (α := WSi) (fun y => y.i ≤ p.length ∧ PH.ext w.heap.size G4 y.G ∧ (Inv y.V y.B ∧ y.B ≤ 400 * q.length + 200 * y.i) ∧ Tds y.G y.V.procs y.ts ∧ y.V.procs.length = p.length ∧ wrun p q = rests ((List.range p.length).drop y.i) y.V) (fun y => p.length - y.i) [(4, b4), (6, b6)]
  (fun y => [(40, .val (.int .i64 (y.i : Nat))), (39, .val (.int .i64 (p.length : Nat))), (10, .val (.func (.func 59) #[] #[])), (6, .val (.pointer (some ⟨b6, 0, none⟩))), (4, .ptr 4 0)])
  (fun y => [.hp 1 (worldP b6 y.V y.ts), .blk 4 29 (vL [.slice none 0 0, .slice none 0 0, .slice none 0 0, .slice none 0 0, .slice none 0 0])]) (fun y => y.G) ⟨0, V, B1, ts1, G4⟩ ⟨Nat.zero_le _, PH.ext.refl _ _, ⟨h1, by simp only; omega⟩, ht1, hlen, hwr2⟩ rfl ?_ ?_ ?_
 ·exact ⟨⟨_, J, J⟩, ⟨_, J, J⟩, ⟨_, J, J⟩, ⟨_, J, J⟩, ⟨_, J, J⟩, trivial⟩
 ·exact .hp (.blk J J .nil)
 rintro ⟨i, V2, B2, ts2, G6⟩ ⟨hi2, hext6, ⟨h2, hB2⟩, ht2, hlen2, heq2⟩
 simp only at hi2 hext6 h2 hB2 ht2 hlen2 heq2 ⊢
 have hextB := hextA.trans hext6
 refine Va J J ?_
 refine S_condp J (fun h5 => ?_) (fun h5 => ?_) <;> refine Va J J ?_
 ·have hil : i < p.length := by omega
  rw [drop_range hil] at heq2
  have hIr := h2.rest (who := i) 200 (by omega)
  refine S_callMV 1 (vs := [.pointer (some ⟨b6, 0, none⟩), .int .i64 (i : Nat)]) (cap := #[]) J Tryz.call59 (c_rest1 V2 i B2 b6 ts2 _ h2 (by omega) ht2 (by omega)) J J J J (fun _ => J) ?_;rintro v G7 A' ⟨ts7, rfl, rfl, ht7⟩ hext7
  rw [rests] at heq2
  generalize restP i 200 V2 = r at heq2 hIr ht7 ⊢
  obtain ⟨V7, ok⟩ := r
  simp only at heq2 hIr ht7 ⊢
  refine Va J J ?_
  cases ok
  ·refine RT J J ?_
   refine Va J J ?_
   have hnone : wrun p q = none := heq2
   exact S_retp (Res.c2 Tk Tryz.results8 J J J J) (hextB.trans hext7) (by rw [hnone]; exact ⟨zCells, J, WpG_none _, FL_none _ _⟩)
  refine RF J J ?_;refine Va J J ?_;refine S_add J J J J (by omega) ?_;refine Va J J ?_;exact S_again ⟨i + 1, V7, B2 + 200, ts7, G7⟩ ⟨by simp only; omega, hext6.trans hext7, ⟨hIr.1, by simp only; omega⟩, ht7, by simp only; omega, heq2⟩ (by simp only; omega) rfl ⟨⟨_, rfl, by simp [denO]⟩, ⟨_, rfl, rfl⟩, ⟨_, rfl, rfl⟩, ⟨_, rfl, rfl⟩, ⟨_, rfl, rfl⟩, trivial⟩ (.hp (.blk rfl rfl .nil))
 have hin2 : i = p.length := by omega
 subst hin2
 rw [List.drop_of_length_le (by simp)] at heq2
 have hr : wrun p q = some V2 := heq2
 have hBB : B2 ≤ 1000000 := by omega
 refine S_P2V 1 60 1 J J J fun cs2 => ?_;refine S_reE 6 (.ptr 60 0) J J ?_;refine S_csV 1 J ?_;rintro bp2 bc2 br2 bs2 kp2 asd2 ksd2 kc2 kr2 ks2 rfl
 refine Va J J ?_;refine S_frzV 1 J J (fun _ h => h) ht2 h2.n3 ⟨by have := (h2.rdy hBB).sd; omega, by have := (h2.rdy hBB).q0; omega, by have := (h2.rdy hBB).q1; omega⟩ fun G8 hext8 hW => ?_;refine S_call Tryz.call29 (c_wcopyN _ _ _ hW h2.n3) J J J ?_;rintro v9 G9 ⟨hW9, cs9, rfl, hfl9⟩ hext9
 have hP9 : WpG G9 (wpOf (some V2)) cs9 := by
  obtain ⟨cs, e, h⟩ := WpG_of hW9
  have : cs9 = cs := by simpa using congrArg (fun v => match v with | .agg x => x.toList | _ => []) e
  rw [this]; exact h
 have hx8 := (hextB.trans hext8).le
 have hx9 := hext9.le
 obtain ⟨vp, vc, vr, vs, vd, rfl, hw1, hw2, hw3, hw4, hw5⟩ := id hP9
 obtain ⟨_, _, rfl, _⟩ := id hw1
 obtain ⟨_, _, rfl, _⟩ := id hw2
 obtain ⟨_, _, rfl, _⟩ := id hw3
 obtain ⟨_, _, rfl, _⟩ := id hw4
 obtain ⟨_, _, rfl, _⟩ := id hw5
 refine Va J J ?_;exact S_retp (Res.c2 Tk Tryz.results8 J J J J) ((hextB.trans hext8).trans hext9) (by rw [hr]; exact ⟨_, J, hP9, FL.low hx8 hx9 hfl9⟩)
end
section
attribute [local irreducible] X Pure Mod
def smL : List Stm → Nat
 | [] => 0
 | s :: r => s.cnt + smL r
theorem cntL_eq : ∀ L : List Stm, cntL L = L.length + smL L
 | [] => rfl
 | s :: r => by have := cntL_eq r; simp only [cntL, smL, List.length_cons]; omega
theorem smL_append : ∀ L M : List Stm, smL (L ++ M) = smL L + smL M
 | [], M => by simp [smL]
 | s :: r, M => by have := smL_append r M; simp only [List.cons_append, smL]; omega
theorem smL_take {L : List Stm} {k : Nat} (h : k < L.length) : smL (L.take (k + 1)) = smL (L.take k) + L[k].cnt := by
 rw [List.take_succ_eq_append_getElem h, smL_append]; simp [smL]
theorem smL_le (L : List Stm) (k : Nat) : smL (L.take k) ≤ smL L := by
 conv => rhs; rw [← List.take_append_drop k L, smL_append]
 omega
def smP : List (List Stm) → Nat
 | [] => 0
 | l :: r => cntL l + smP r
theorem cntP_eq : ∀ p : List (List Stm), cntP p = p.length + smP p
 | [] => rfl
 | s :: r => by have := cntP_eq r; simp only [cntP, smP, List.length_cons]; omega
theorem smP_append : ∀ L M : List (List Stm), smP (L ++ M) = smP L + smP M
 | [], M => by simp [smP]
 | s :: r, M => by have := smP_append r M; simp only [List.cons_append, smP]; omega
theorem smP_take {L : List (List Stm)} {k : Nat} (h : k < L.length) : smP (L.take (k + 1)) = smP (L.take k) + cntL L[k] := by
 rw [List.take_succ_eq_append_getElem h, smP_append]; simp [smP]
theorem smP_le (L : List (List Stm)) (k : Nat) : smP (L.take k) ≤ smP L := by
 conv => rhs; rw [← List.take_append_drop k L, smP_append]
 omega
theorem rep0_len {G : PH} {s : Stm} {cs : List Value} (h : Stm.rep0 G s cs) : cs.length = 6 := by
 cases s
 obtain ⟨vx, vy, e, _⟩ := Stm.rep0_iff.1 h
 simp [e]
def SzS (s : Stm) : Prop := ∀ (l : Int) (cs : List Value) (G : PH), 0 ≤ l → l ≤ 1048576 → Stm.rep0 G s cs → Pure Tryz.prog 42 [.agg cs.toArray, .int .i64 l] G fun v G' => v = .int .i64 (szR s.cnt l) ∧ G' = G
def SzL (L : List Stm) : Prop := ∀ (l : Int) (v : Value) (G : PH), 0 ≤ l → l ≤ 1048576 → Sts0 G L v → Pure Tryz.prog 16 [v, .int .i64 l] G fun v G' => v = .int .i64 (szR (cntL L) l) ∧ G' = G
theorem szR_bnd {c : Nat} {l : Int} (h0 : 0 ≤ l) : -1 ≤ szR c l ∧ szR c l ≤ l := by unfold szR; split <;> omega
theorem c_szStmt (s : Stm) (hx : SzL s.body) (hy : SzL s.els) : SzS s := by
 intro l cs G h0 h1 hrep
 obtain ⟨k, a, b, n, x, y⟩ := s
 obtain ⟨vx, vy, rfl, hk, ha, hb, hn, hvx, hvy⟩ := Stm.rep0_iff.1 hrep
 simp only [Stm.body, Stm.els] at hx hy
 have hc := hx l _ G h0 h1 hvx
 have hb1 := szR_bnd (c := cntL x) h0
 have hadd := szR_add (cntL x) (cntL y) l
 rw [cnt_mk]
 obtain ⟨Ax, cx, rfl, _⟩ := id hvx
 obtain ⟨Ay, cy, rfl, _⟩ := id hvy
 refine Pure.intro Tryz.func42 Tryz.ntmps42 J J fun w => ?_; refine Va J J ?_;refine S_box J J J J J fun b1 => ?_;refine Va J J ?_;refine S_call Tryz.call16 hc J J J ?_;rintro v1 G1 ⟨rfl, rfl⟩ _
 generalize szR (cntL x) l = m at hb1 hadd ⊢
 refine Va J J ?_
 refine S_condp J (fun h => ?_) (fun h => ?_) <;> refine Va J J ?_
 ·exact S_retp (Res.t1 Tryz.results42 J J) XR ⟨by rw [hadd, if_pos h], J⟩
 rw [if_neg h] at hadd
 refine S_call Tryz.call16 (hy m _ G1 (by omega) (by omega) hvy) J J J ?_;rintro v2 G2 ⟨rfl, rfl⟩ _
 rw [← hadd]
 generalize hr : szR (cntL x + cntL y) l = r at hadd ⊢
 have hb2 := szR_bnd (c := cntL x + cntL y) h0
 rw [hr] at hb2
 refine Va J J ?_
 refine S_condp J (fun h => ?_) (fun h => ?_) <;> refine Va J J ?_
 ·exact S_retp (Res.t1 Tryz.results42 J J) XR ⟨by rw [show r = -1 by omega], J⟩
 ·exact S_retp (Res.t1 Tryz.results42 J J) XR ⟨J, J⟩
theorem c_szStmtS (L : List Stm) (hz : ∀ k (hk : k < L.length), SzS L[k]) : SzL L := by
 intro l v G h0 h1 hv
 have hce := cntL_eq L
 have hcm := hv
 obtain ⟨A, c, rfl, hnc, hmc, _⟩ := id hv
 have hmx : maxLen = 9223372036854775807 := rfl
 refine Pure.intro Tryz.func16 Tryz.ntmps16 J J fun w => ?_; refine Va J J ?_;refine S_subI J J J J (by omega) ?_;refine Va J J ?_
 refine S_condp J (fun h => ?_) (fun h => ?_) <;> refine Va J J ?_
 ·exact S_retp (Res.t1 Tryz.results16 J J) XR ⟨by rw [szR, if_neg (by omega)], J⟩
 refine S_loop (α := Nat) (fun k => k ≤ L.length ∧ ((L.length + smL (L.take k) : Nat) : Int) ≤ l) (fun k => L.length - k) []
  (fun k => [(5, .val (.int .i64 (k : Nat))), (1, .val (.int .i64 (l - (L.length + smL (L.take k) : Nat)))), (0, .val (.slice A L.length c))]) (fun _ => []) (fun _ => G) 0 ⟨Nat.zero_le _, by simp [smL]; omega⟩ rfl ⟨⟨_, rfl, rfl⟩, ⟨_, rfl, by simp [denO, smL]⟩, ⟨_, rfl, rfl⟩, trivial⟩ .nil ?_
 rintro k ⟨hk, hle⟩
 refine Va J J ?_
 refine S_condp J (fun h5 => ?_) (fun h5 => ?_) <;> refine Va J J ?_
 ·have hkl : k < L.length := by omega
  obtain ⟨ad, cs, rfl, hcs, hrep⟩ := Sr0_at hv hkl
  have hnx := smL_take hkl
  have hsl := smL_le L (k + 1)
  have hzk := hz k hkl (l - (L.length + smL (L.take k) : Nat)) cs G (by omega) (by omega) hrep
  generalize L[k].cnt = sc at hnx hzk
  refine S_index Tk J J J J J J (by omega) (by omega) ?_;refine Va J J ?_;refine S_loadA Tk J J J J (rep0_len hrep) hcs ?_;refine Va J J ?_;refine S_call Tryz.call42 hzk J J J ?_;rintro v1 G1 ⟨rfl, rfl⟩ _
  have hrr : szR sc (l - (L.length + smL (L.take k) : Nat)) = if ((L.length + smL (L.take (k + 1)) : Nat) : Int) ≤ l then l - (L.length + smL (L.take (k + 1)) : Nat) else -1 := by
   rw [hnx]; unfold szR; split <;> split <;> omega
  rw [hrr]
  by_cases hf : ((L.length + smL (L.take (k + 1)) : Nat) : Int) ≤ l
  ·rw [if_pos hf]
   refine Va J J ?_;refine RF J (by simp; omega) ?_;refine Va J J ?_;refine S_add J J J J (by omega) ?_;refine Va J J ?_;exact S_again (k + 1) ⟨by omega, hf⟩ (by omega) J ⟨⟨_, J, by simp [denO]⟩, ⟨_, J, J⟩, ⟨_, J, J⟩, trivial⟩ .nil
  ·rw [if_neg hf]
   refine Va J J ?_;refine RT J J ?_;refine Va J J ?_;exact S_retp (Res.t1 Tryz.results16 J J) XR ⟨by rw [szR, if_neg (by omega)], J⟩
 ·have e0 : k = L.length := by omega
  subst e0
  rw [List.take_length, ← hce] at hle ⊢
  exact S_retp (Res.t1 Tryz.results16 J J) XR ⟨by rw [szR, if_pos hle], J⟩
theorem SzL_of (L : List Stm) (h : ∀ k (hk : k < L.length), SzL L[k].body ∧ SzL L[k].els) : SzL L :=
 c_szStmtS L fun k hk => c_szStmt _ (h k hk).1 (h k hk).2
mutual
theorem SzL_stm : ∀ (s : Stm), SzL s.body ∧ SzL s.els
 | .mk k a b n x y => ⟨SzL_all x, SzL_all y⟩
theorem SzL_at : ∀ (L : List Stm) (k : Nat) (hk : k < L.length), SzL L[k].body ∧ SzL L[k].els
 | [], k, hk => absurd hk (by simp)
 | s :: L, 0, _ => SzL_stm s
 | s :: L, k + 1, hk => SzL_at L k (by simpa using hk)
theorem SzL_all : ∀ (L : List Stm), SzL L
 | L => SzL_of L (SzL_at L)
end
theorem c_szSS (p : List (List Stm)) (v : Value) (l : Int) (G : PH) (hv : Prg0 G p v) (h0 : 0 ≤ l) (h1 : l ≤ 1048576) : Pure Tryz.prog 4 [v, .int .i64 l] G fun v G' => v = .int .i64 (szR (cntP p) l) ∧ G' = G := by
 have hce := cntP_eq p
 obtain ⟨A, c, rfl, hnc, hmc, _⟩ := id hv
 have hmx : maxLen = 9223372036854775807 := rfl
 refine Pure.intro Tryz.func4 Tryz.ntmps4 J J fun w => ?_; refine Va J J ?_;refine S_subI J J J J (by omega) ?_;refine Va J J ?_
 refine S_condp J (fun h => ?_) (fun h => ?_) <;> refine Va J J ?_
 ·exact S_retp (Res.t1 Tryz.results4 J J) XR ⟨by rw [szR, if_neg (by omega)], J⟩
 refine S_loop (α := Nat) (fun k => k ≤ p.length ∧ ((p.length + smP (p.take k) : Nat) : Int) ≤ l) (fun k => p.length - k) []
  (fun k => [(5, .val (.int .i64 (k : Nat))), (1, .val (.int .i64 (l - (p.length + smP (p.take k) : Nat)))), (0, .val (.slice A p.length c))]) (fun _ => []) (fun _ => G) 0 ⟨Nat.zero_le _, by simp [smP]; omega⟩ rfl ⟨⟨_, rfl, rfl⟩, ⟨_, rfl, by simp [denO, smP]⟩, ⟨_, rfl, rfl⟩, trivial⟩ .nil ?_
 rintro k ⟨hk, hle⟩
 refine Va J J ?_
 refine S_condp J (fun h5 => ?_) (fun h5 => ?_) <;> refine Va J J ?_
 ·have hkl : k < p.length := by omega
  obtain ⟨ad, cs, rfl, hcs, u, rfl, hu⟩ := Sr0_at hv hkl
  have hnx := smP_take hkl
  have hsl := smP_le p (k + 1)
  have hzk := SzL_all p[k] (l - (p.length + smP (p.take k) : Nat)) u G (by omega) (by omega) hu
  generalize p[k] = q at hnx hzk hu
  obtain ⟨A1, c1, rfl, _⟩ := id hu
  refine S_index Tk J J J J J J (by omega) (by omega) ?_;refine Va J J ?_;refine S_load Tk J J J J J (by simpa [add_zero'] using gcells_at hcs 0 _ J) ?_;refine Va J J ?_;refine S_call Tryz.call16 hzk J J J ?_;rintro v1 G1 ⟨rfl, rfl⟩ _
  have hrr : szR (cntL q) (l - (p.length + smP (p.take k) : Nat)) = if ((p.length + smP (p.take (k + 1)) : Nat) : Int) ≤ l then l - (p.length + smP (p.take (k + 1)) : Nat) else -1 := by
   rw [hnx]; unfold szR; split <;> split <;> omega
  rw [hrr]
  by_cases hf : ((p.length + smP (p.take (k + 1)) : Nat) : Int) ≤ l
  ·rw [if_pos hf]
   refine Va J J ?_;refine RF J (by simp; omega) ?_;refine Va J J ?_;refine S_add J J J J (by omega) ?_;refine Va J J ?_;exact S_again (k + 1) ⟨by omega, hf⟩ (by omega) J ⟨⟨_, J, by simp [denO]⟩, ⟨_, J, J⟩, ⟨_, J, J⟩, trivial⟩ .nil
  ·rw [if_neg hf]
   refine Va J J ?_;refine RT J J ?_;refine Va J J ?_;exact S_retp (Res.t1 Tryz.results4 J J) XR ⟨by rw [szR, if_neg (by omega)], J⟩
 ·have e0 : k = p.length := by omega
  subst e0
  rw [List.take_length, ← hce] at hle ⊢
  exact S_retp (Res.t1 Tryz.results4 J J) XR ⟨by rw [szR, if_pos hle], J⟩
end
section
attribute [local irreducible] X Pure Mod
theorem prgs_cnt {G : PH} {p : List (List Stm)} {v : Value} (hc : cntP p ≤ 1048576) (h : Prg G p v) : PrgS G p v :=
 ⟨h, fun l hl => Sh_cnt (by have := cntP_mem hl; omega), by have := len_cntP p; omega⟩
theorem szR_two (c : Nat) : (c ≤ 1048576 ∧ szR c 1048576 = 1048576 - (c : Int)) ∨ (¬ c ≤ 1048576 ∧ szR c 1048576 = -1) := by
 unfold szR
 by_cases h : c ≤ 1048576
 ·exact .inl ⟨h, by rw [if_pos (by omega)]⟩
 ·exact .inr ⟨h, by rw [if_neg (by omega)]⟩
end
section

end
section
theorem run_eqB {P : Program} (w : World) {t : TypeId} (ht : P.underlying t = some .bool) (p q : Bool) : (Op.equal t (.bool p) (.bool q)).run P w = .ok (decide (p = q)) w := by
 have h : ∀ d : Nat, (Op.equalIn (d + 1) t (.bool p) (.bool q)).run P w = .ok (decide (p = q)) w := fun d => by
  cases p <;> cases q <;> simp [Op.equalIn, run_underlying ht]
 simp [Op.equal, Op.maxDepth, h 9999]
section
variable {C : Ctx} {E : Env} {ι : Ids} {L : List Ent} {G : PH} {d : Option Nat} {ty : Nat} {pos : String} {af : Array Edge} {g : Option (Nat × Bool)}
theorem V_neqB {t t' : Nat} {x y : Operand} {p q : Bool} (hg : C.P.eqGuardType C.P.depth t = false) (ht : C.P.underlying t = some .bool) (hx : ev E x = some (.val (.bool p))) (hy : ev E y = some (.val (.bool q))) : Vl C ι E L G ⟨d, .binOp .neq t x y t', ty, pos, af, g⟩ (.bool (!decide (p = q))) := by
 intro a w hE hw
 have ex := ev_sound hE hx
 have ey := ev_sound hE hy
 simp only [denO, Option.some.injEq] at ex ey
 simp only [execOp, ← ex, ← ey]
 simp [eqGuard, hg, binOp, run_eqB w ht]
end
end
section
attribute [local irreducible] X Pure Mod
theorem ads_b {H : PH} {s : Shp} {v : Value} (hl : Lies H s v) {a : Addr} (ha : a ∈ adsV H s v) : (H a.block).isSome = true := isInt_some (adsV_int hl a ha)
theorem new_keptL {G3 G4 G5 G6 : PH} (h34 : G3.le G4) (h56 : G5.le G6) {qs : List Addr} (hq : ∀ a ∈ qs, (newp G3 G4 a.block).isSome = true) (k : Int) : (newp G4 G5).le (newp G3 (G3.un (wr (newp G3 G6) qs k))) := by
 intro b o hb
 have h4 : G4 b = none ∧ G5 b = some o := by
  unfold newp at hb
  cases hq : G4 b with
  | none => rw [hq] at hb; exact ⟨J, hb⟩
  | some o' => rw [hq] at hb; cases hb
 have h3 : G3 b = none := by
  cases hq : G3 b with
  | none => rfl
  | some o' => rw [h34 b o' hq] at h4; cases h4.1
 have hw : wr (newp G3 G6) qs k b = newp G3 G6 b := by
  refine wr_else _ _ _ fun a ha e => ?_
  have := (newp_some (hq a ha)).2
  rw [← e, h4.1] at this
  cases this
 have e6 : newp G3 G6 b = some o := by
  unfold newp
  rw [h3]
  exact h56 b o h4.2
 rw [e6] at hw
 unfold newp PH.un
 simp only [h3]
 exact hw
theorem new_kept2 {G3 G4 G5 G6 : PH} (h34 : G3.le G4) (h45 : G4.le G5) (h56 : G5.le G6) {s s' : Shp} {v v' : Value} (hf : FT G3 G4 s v) (hf' : FT G3 G4 s' v') (k : Int) : (newp G4 G5).le (newp G3 (G3.un (wr (newp G3 G6) (adsV (newp G3 G6) s v ++ adsV (newp G3 G6) s' v') k))) := by
 have ht := Tn.of_le (newp_rt (G := G3) (h45.trans h56))
 rw [adsV_tn ht hf.1, adsV_tn ht hf'.1]
 refine new_keptL h34 h56 (fun a ha => ?_) k
 rcases List.mem_append.1 ha with ha | ha
 ·exact ads_b hf.1 ha
 ·exact ads_b hf'.1 ha
theorem wr_le_un {G3 Gm : PH} (qs : List Addr) (k : Int) : (wr (newp G3 Gm) qs k).le (G3.un (wr (newp G3 Gm) qs k)) := by
 intro b o hb
 have h1 : ((newp G3 Gm) b).isSome = true := by rw [← wr_some qs _ k, hb]; rfl
 have h3 := (newp_some h1).1
 unfold PH.un
 rw [h3]
 exact hb
theorem adsL_len {H : PH} : ∀ {r : List Shp} {vs : List Value}, LiesL H r vs → (adsL H r vs).length ≤ numR r
 | [], [], _ => by simp [adsL]
 | s :: r, v :: vs, h => by
  simp only [LiesL] at h
  have := adsL_len h.2
  have h2 : numV s ≤ numC s := by
   cases s with
   | int => simp [numV]
   | sl w c => simp only [numV, numC]; exact Nat.le_refl _
  simp only [adsL, List.length_append, adsV_len, numR]
  omega
 | [], _ :: _, h => by simp [LiesL] at h
 | _ :: _, [], h => by simp [LiesL] at h
theorem FL_marks {G3 Gm : PH} {r : List Shp} {vs : List Value} (hL : LiesL (newp G3 Gm) r vs) (hN : (adsL (newp G3 Gm) r vs).Nodup) (hb : 1 + (numR r : Int) ≤ 1152921504606846976) :
  LiesL (G3.un (wr (newp G3 Gm) (adsL (newp G3 Gm) r vs) 1)) r vs ∧ Hd (G3.un (wr (newp G3 Gm) (adsL (newp G3 Gm) r vs) 1)) (adsL (G3.un (wr (newp G3 Gm) (adsL (newp G3 Gm) r vs) 1)) r vs) 1 := by
 have hi := adsL_int hL
 have hn := adsL_len hL
 have t1 := wr_tn (adsL (newp G3 Gm) r vs) (newp G3 Gm) 1 hi (by omega) (by omega)
 have hle := wr_le_un (G3 := G3) (Gm := Gm) (adsL (newp G3 Gm) r vs) 1
 have t2 := t1.trans (Tn.of_le hle)
 refine ⟨LiesL_tn t2 hL, ?_⟩
 rw [adsL_tn t2 hL]
 exact Hd_le hle (Hd_wr hi (by omega) (by omega) hN)
theorem ext_wr {B : Nat} {G3 Gm : PH} (h : PH.ext B G3 Gm) (qs : List Addr) (k : Int) : PH.ext B G3 (G3.un (wr (newp G3 Gm) qs k)) := ext_un fun b o hb => by
 have h1 : ((newp G3 Gm) b).isSome = true := by rw [← wr_some qs _ k, hb]; rfl
 obtain ⟨h2, h3⟩ := newp_some h1
 obtain ⟨o', h4⟩ := Option.isSome_iff_exists.1 h3
 exact h.new b o' h4 h2
end
section
attribute [local irreducible] X Pure Mod
abbrev Ints0 (G : PH) (q : List Int) (v : Value) : Prop := Sr0 G 1 intRep q v
theorem ints0_ok {G : PH} {q : List Int} {v : Value} (h : Ints0 G q v) (hn : q.length ≤ 1048576) : Ints G q v := Sl0_ok h (by omega)
theorem WpG_sl {G : PH} {P : Wp} {cs : List Value} (h : WpG G P cs) : ∃ A1 n1 c1 A2 n2 c2 A3 n3 c3 A4 n4 c4 A5 n5 c5, cs = [.slice A1 n1 c1, .slice A2 n2 c2, .slice A3 n3 c3, .slice A4 n4 c4, .slice A5 n5 c5] := by
 obtain ⟨vp, vc, vr, vs, vd, rfl, hw1, hw2, hw3, hw4, hw5⟩ := h
 obtain ⟨_, _, rfl, _⟩ := id hw1
 obtain ⟨_, _, rfl, _⟩ := id hw2
 obtain ⟨_, _, rfl, _⟩ := id hw3
 obtain ⟨_, _, rfl, _⟩ := id hw4
 obtain ⟨_, _, rfl, _⟩ := id hw5
 exact ⟨_, _, _, _, _, _, _, _, _, _, _, _, _, _, _, J⟩
theorem c_FnExactWholeRun (p : List (List Stm)) (q : List Int) (v0 v1 : Value) (G : PH) (hp0 : Prg0 G p v0) (hq0 : Ints0 G q v1) : Pure Tryz.prog 3 [v0, v1] G fun v G' => v = .bool true := by
 obtain ⟨Ap, cp, rfl, _⟩ := id hp0
 obtain ⟨Aq, cq, rfl, hqc, hqm, _⟩ := id hq0
 refine Pure.intro Tryz.func3 Tryz.ntmps3 J J fun w => ?_; refine Va J J ?_
 refine S_condp J (fun hql => ?_) (fun hql => ?_) <;> refine Va J J ?_
 ·exact S_retp (Res.t1 Tryz.results3 J J) XR J
 have hqn : q.length ≤ 1048576 := by omega
 have hq := ints0_ok hq0 hqn
 refine S_call Tryz.call4 (c_szSS p _ 1048576 _ hp0 (by omega) (by omega)) J J J ?_;rintro v2 G1 ⟨rfl, rfl⟩ _
 rcases szR_two (cntP p) with ⟨hc, hz⟩ | ⟨hc, hz⟩ <;> rw [hz]
 rotate_left
 ·refine Va J J ?_
  refine RT J J ?_;refine Va J J ?_;exact S_retp (Res.t1 Tryz.results3 J J) XR J
 refine Va J J ?_;refine RF J (by simp; omega) ?_;refine Va J J ?_
 have hp := prg0_ok hc hp0
 have hsh : ∀ l ∈ p, Sh l := fun l hl => Sh_cnt (by have := cntP_mem hl; omega)
 refine S_call Tryz.call6 (c_toSS p _ _ hp hc) J J J ?_;rintro v2 G2 hp2 hext2
 obtain ⟨A2, c2, rfl, _⟩ := id hp2
 refine Va J J ?_;refine S_call Tryz.call7 (c_toIntSN q _ _ (Ints_le hext2.le hq) hqn) J J J ?_;rintro v3 G3 ⟨hq3, _⟩ hext3
 obtain ⟨A3, c3, rfl, _⟩ := id hq3
 refine Va J J ?_
 have hnum := num_wrun q hsh
 have hcnt := num_cntP p
 have hI := fun v u H h i => c_iWholeRunN p q v u H (prgs_cnt hc h) i
 have hS := c_sWholeRun p q _ _ _ (prgs_cnt hc (Prg_le hext3.le hp2)) hq3
 generalize wrun p q = r at hnum hI hS
 refine S_call Tryz.call5 hS J J J ?_;rintro v4 G4 hr4 hext4
 obtain ⟨ws, rfl, hw⟩ := resV_parts hr4
 obtain ⟨a1, n1, c1, a2, n2, c2', a3, n3, c3', a4, n4, c4, a5, n5, c5, rfl⟩ := WpG_sl hw
 have hx4 := (hext2.trans hext3).trans hext4
 refine Va J J ?_;refine AZ ZT_ok J J J J fun b6 => ?_;refine Va J J ?_;refine S_call Tryz.call6 (c_toSSN p _ _ (Prg_le hx4.le hp) hc) J J J ?_;rintro v5 G5 ⟨hp5, ft5⟩ hext5
 obtain ⟨A5, c5p, rfl, _⟩ := id hp5
 refine Va J J ?_;refine S_call Tryz.call7 (c_toIntSN q _ _ (Ints_le (hx4.trans hext5).le hq) hqn) J J J ?_;rintro v6 G6 ⟨hq6, ft6⟩ hext6
 obtain ⟨A6, c6, rfl, _⟩ := id hq6
 refine Va J J ?_;refine S_call Tryz.call8 (hI _ _ _ (Prg_le hext6.le hp5) hq6) J J J ?_;rintro v7 G7 ⟨gs, rfl, hg, flg⟩ hext7
 obtain ⟨d1, m1, e1, d2, m2, e2, d3, m3, e3, d4, m4, e4, d5, m5, e5, rfl⟩ := WpG_sl hg
 refine Va J J ?_;refine AZ ZT_ok J J J J fun b10 => ?_;refine Va J J ?_
 have h47 := (hext5.trans hext6).trans hext7
 refine S_call Tryz.call9 (c_eqWorldP _ _ _ _ hg (WpG_le h47.le hw)) J J J ?_;rintro v8 G7 ⟨rfl, rfl⟩ _
 refine Va J J ?_;refine GF J J J ?_;refine Va J J ?_;refine S_valV J J J (V_neqB g_boolY u_boolY J J) ?_;refine Va J J ?_;refine RF J (by simp) ?_;refine Va J J ?_
 have hx7 := hx4.trans h47
 refine S_call Tryz.call6 (c_toSS p _ _ (Prg_le hx7.le hp) hc) J J J ?_;rintro v9 G9 hp9 hext9
 obtain ⟨A9, c9, rfl, _⟩ := id hp9
 refine Va J J ?_;refine S_call Tryz.call10 (c_eqSS p _ _ _ (Prg_le ((hext6.trans hext7).trans hext9).le hp5) hp9) J J J ?_;rintro v10 G9 ⟨rfl, rfl⟩ _
 refine Va J J ?_;refine RF J J ?_;refine Va J J ?_;refine S_call Tryz.call7 (c_toIntSN q _ _ (Ints_le (hx7.trans hext9).le hq) hqn) J J J ?_;rintro v11 G11 ⟨hq11, _⟩ hext11
 obtain ⟨A11, c11, rfl, _⟩ := id hq11
 refine Va J J ?_;refine S_call Tryz.call11 (c_eqIntS q _ _ _ (IntsU_le ((hext7.trans hext9).trans hext11).le (Ints_U hq6)) (Ints_U hq11)) J J J ?_;rintro v12 G11 ⟨rfl, rfl⟩ _
 refine Va J J ?_;refine RF J J ?_;refine Va J J ?_
 -- the arguments are marked
 have h7c := hext9.trans hext11
 have h4c := h47.trans h7c
 have hLx : Lies (newp G4 G11) (shTT p) (.slice A5 p.length c5p) := (ft5.mono ((hext6.trans hext7).trans h7c).le).1
 have hfi : FT G4 G6 (shI q.length) (.slice A6 q.length c6) := ft6.low hext5.le hext6.le
 have hLi : Lies (newp G4 G11) (shI q.length) (.slice A6 q.length c6) := (hfi.mono (hext7.trans h7c).le).1
 have hfx : FT G4 G6 (shTT p) (.slice A5 p.length c5p) := ft5.mono hext6.le
 refine S_thaw 70 (G0 := G4) J h4c.le (fun b o hb hn => .inr (h4c.new b o hb hn)) ?_
 have hnI : numV (shI q.length) = q.length := by simp only [shI, numV, numR_I]
 have tn1 : Tn (newp G4 G11) (wr (newp G4 G11) (adsV (newp G4 G11) (shTT p) (.slice A5 p.length c5p)) 1) := wr_tn _ _ _ (adsV_int hLx) (by omega) (by rw [adsV_len]; omega)
 refine S_callM 70 Tryz.call12 (c_markStmtSS p _ _ _ _ hLx (by omega) (by omega)) J J J J (fun _ => J) ?_;rintro v13 G4 A13 ⟨rfl, rfl, rfl⟩ _
 refine Va J J ?_;refine S_callM 70 Tryz.call13 (c_markIntS q.length _ _ _ _ (Lies_tn tn1 _ _ hLi) (by omega) (by omega)) J J J J (fun _ => J) ?_;rintro v14 G4 A14 ⟨rfl, rfl, rfl⟩ _
 rw [adsV_tn tn1 hLi]
 have hadd := wr_append (newp G4 G11) (adsV (newp G4 G11) (shTT p) (.slice A5 p.length c5p)) (adsV (newp G4 G11) (shI q.length) (.slice A6 q.length c6)) 1
 rw [adsV_len] at hadd
 rw [← hadd]
 clear hadd tn1
 refine S_frH 70 J J fun _ _ => ?_
 have hkept := new_kept2 (hext5.trans hext6).le hext7.le h7c.le hfx hfi 1
 have hm8 := ext_wr h4c (adsV (newp G4 G11) (shTT p) (.slice A5 p.length c5p) ++ adsV (newp G4 G11) (shI q.length) (.slice A6 q.length c6)) 1
 generalize G4.un (wr (newp G4 G11) (adsV (newp G4 G11) (shTT p) (.slice A5 p.length c5p) ++ adsV (newp G4 G11) (shI q.length) (.slice A6 q.length c6)) 1) = Gm at hkept hm8 ⊢
 have hgm : WpG (newp G6 G7) (wpOf r) _ := WpG_dn (newp_le _ _) hg flg.1
 have htm := Tn.of_le hkept
 refine Va J J ?_;refine GF J J (by simp; omega) ?_;refine Va J J ?_;refine S_call Tryz.call9 (c_eqWorldP _ _ _ _ (WpG_le (hkept.trans (newp_le _ _)) hgm) (WpG_le hm8.le hw)) J J J ?_;rintro v15 Gm ⟨rfl, rfl⟩ _
 refine Va J J ?_;refine GF J J J ?_;refine Va J J ?_;refine S_valV J J J (V_neqB g_boolY u_boolY J J) ?_;refine Va J J ?_;refine RF J (by simp) ?_;refine Va J J ?_
 -- what was handed out is marked
 have hLg := LiesL_tn htm flg.1
 have hNg := flg.2
 rw [← adsL_tn htm flg.1] at hNg
 refine S_thaw 71 (G0 := G4) J hm8.le (fun b o hb hn => .inr (hm8.new b o hb hn)) ?_;refine S_callM 71 Tryz.call14 (c_markWorld _ _ _ _ _ hLg (by omega) (by omega)) J J J J (fun _ => J) ?_;rintro v16 G4 A16 ⟨rfl, rfl, rfl⟩ _
 refine S_frH 71 J J fun _ _ => ?_;obtain ⟨hLn, hHn⟩ := FL_marks hLg hNg (by omega)
 have hm9 := ext_wr hm8 (adsL (newp G4 Gm) (tcW (wpsh (wpOf r))) [.slice d1 m1 e1, .slice d2 m2 e2, .slice d3 m3 e3, .slice d4 m4 e4, .slice d5 m5 e5]) 1
 generalize G4.un (wr (newp G4 Gm) (adsL (newp G4 Gm) (tcW (wpsh (wpOf r))) [.slice d1 m1 e1, .slice d2 m2 e2, .slice d3 m3 e3, .slice d4 m4 e4, .slice d5 m5 e5]) 1) = Gn at hLn hHn hm9 ⊢
 refine Va J J ?_;refine S_call Tryz.call15 (c_heldWorld _ _ _ _ hLn (by omega) (by omega) hHn) J J J ?_;rintro v17 Gn ⟨rfl, rfl⟩ _
 refine Va J J ?_;refine RF J (by simp; omega) ?_;refine Va J J ?_;refine RF J (by simp) ?_;refine Va J J ?_
 have hx9 := hx4.trans hm9
 refine S_call Tryz.call6 (c_toSS p _ _ (Prg_le hx9.le hp) hc) J J J ?_;rintro v18 G18 hp18 hext18
 obtain ⟨A18, c18, rfl, _⟩ := id hp18
 refine Va J J ?_;refine S_call Tryz.call7 (c_toIntSN q _ _ (Ints_le (hx9.trans hext18).le hq) hqn) J J J ?_;rintro v19 G19 ⟨hq19, _⟩ hext19
 obtain ⟨A19, c19, rfl, _⟩ := id hq19
 refine Va J J ?_;refine S_call Tryz.call8 (hI _ _ _ (Prg_le hext19.le hp18) hq19) J J J ?_;rintro v20 G20 ⟨hs, rfl, hh, _⟩ hext20
 obtain ⟨f1, o1, g1, f2, o2, g2, f3, o3, g3, f4, o4, g4, f5, o5, g5, rfl⟩ := WpG_sl hh
 refine Va J J ?_;refine AZ ZT_ok J J J J fun b15 => ?_;refine Va J J ?_
 have h9z := (hext18.trans hext19).trans hext20
 refine S_call Tryz.call9 (c_eqWorldP _ _ _ _ hh (WpG_le (hm9.trans h9z).le hw)) J J J ?_;rintro v21 G20 ⟨rfl, rfl⟩ _
 refine Va J J ?_;refine GF J J J ?_;refine Va J J ?_;refine S_valV J J J (V_neqB g_boolY u_boolY J J) ?_;refine Va J J ?_;refine RF J (by simp) ?_;refine Va J J ?_
 have htn := Tn.of_le h9z.le
 refine S_call Tryz.call15 (c_heldWorld _ _ _ _ (LiesL_tn htn hLn) (by omega) (by omega) (by rw [adsL_tn htn hLn]; exact Hd_le h9z.le hHn)) J J J ?_;rintro v22 G20 ⟨rfl, rfl⟩ _
 refine Va J J ?_;refine RF J (by simp; omega) ?_;refine Va J J ?_;refine RF J (by simp) ?_;refine Va J J ?_;exact S_retp (Res.t1 Tryz.results3 J J) (hx9.trans h9z) J
end
section
open Go.ChangeShapes Go.WideShapes Go.ChangeAt Go.RowKit
def GA (w : World) : PH := fun b => w.heap[b]?
theorem GA_emb (w : World) : Emb (GA w) w := fun b o h => h
theorem gcell_GA {w : World} {a : Addr} {v : Value} (h : w.cell? a = some v) : gcell (GA w) a = some v := by
 unfold gcell GA
 unfold World.cell? at h
 cases ho : w.heap[a.block]? with
 | none => simp [ho] at h
 | some o => cases o <;> simp_all
theorem gcells_GA {w : World} {a : Addr} {n : Nat} {cs : List Value} (h : w.cells? 0 a n = some cs) : gcells (GA w) a cs ∧ cs.length = n := by
 unfold World.cells? at h
 rw [if_pos (Nat.zero_le _)] at h
 have hl : cs.length = n := by simpa using mapM_some_length h
 refine ⟨gcells_of fun j v hj => gcell_GA ?_, hl⟩
 have hjl : j < n := by rw [← hl]; exact (List.getElem?_eq_some_iff.1 hj).1
 have := mapM_some_get h j j (by simp [hjl])
 rw [this, hj]
theorem Rw_build {α : Type} {G : PH} {sz : Nat} {rep : α → List Value → Prop} : ∀ (n : Nat) (a : Addr), (∀ i, i < n → ∃ s cs, gcells G (a.add (i * sz)) cs ∧ rep s cs) → ∃ L : List α, L.length = n ∧ Rw G sz rep L a
 | 0, a, _ => ⟨[], rfl, trivial⟩
 | n + 1, a, h => by
  obtain ⟨s, cs, h1, h2⟩ := h 0 (by omega)
  obtain ⟨L, h3, h4⟩ := Rw_build (G := G) (sz := sz) (rep := rep) n (a.add sz) fun i hi => by
   obtain ⟨s, cs, h1, h2⟩ := h (i + 1) (by omega)
   refine ⟨s, cs, ?_, h2⟩
   rw [add_add', show sz + i * sz = (i + 1) * sz by rw [Nat.succ_mul]; omega]
   exact h1
  exact ⟨s :: L, by simp [h3], ⟨cs, by simpa [add_zero'] using h1, h2⟩, h4⟩
theorem i64_wf {n : Int} (h : (Lit.int .i64 n).wf = true) : I64 n := by
 have e1 : IntKind.i64.min = -9223372036854775808 := rfl
 have e2 : IntKind.i64.max = 9223372036854775807 := rfl
 simp only [Lit.wf, Bool.and_eq_true, decide_eq_true_eq, e1, e2] at h
 exact h
theorem cI : Tryz.prog.cellsOf 3 = 1 := by kernel_rfl
theorem cLS : Tryz.prog.cellsOf 43 = 1 := by kernel_rfl
theorem cLT : Tryz.prog.cellsOf 70 = 6 := by kernel_rfl
section
variable {H : Type} {enc : TypeId × Value → H} {W : World}
theorem fld_of {fs : Array Field} {xs : List (DataW H × List MemPlace)} {cs : List Value} {n2 : Nat} (hf : ∀ (i : Nat) (f : Field), fs[i]? = some f → DataW.trod enc Tryz.prog W 0 (fun _ => true) true n2 f.type ((cs.drop f.offset).take (Tryz.prog.cellsOf f.type)) = xs[i]?)
  (j ty off : Nat) (y : DataW H × List MemPlace) (hy : xs[j]? = some y) (h : ∃ f : Field, fs[j]? = some f ∧ f.type = ty ∧ f.offset = off) : DataW.trod enc Tryz.prog W 0 (fun _ => true) true n2 ty ((cs.drop off).take (Tryz.prog.cellsOf ty)) = some y := by
 obtain ⟨f, hj, rfl, rfl⟩ := h
 exact (hf j f hj).trans hy
theorem trod_sts : ∀ (fuel : Nat) (cs : List Value) (x : DataW H × List MemPlace), DataW.trod enc Tryz.prog W 0 (fun _ => true) true fuel 43 cs = some x → ∃ L v, cs = [v] ∧ Sts0 (GA W) L v := by
 intro fuel
 induction fuel using Nat.strongRecOn with
 | ind fuel ih =>
  intro cs x h
  rcases DataW.trod_slice Tryz.underlying43 h with ⟨rfl, _⟩ | ⟨a, len, cap, elems, rest, n1, rfl, rfl, _, _, hlc, hcm, hel, hat, _, _⟩
  ·exact ⟨[], _, J, none, 0, J, by simp, by simp [maxLen], .inl J⟩
  ·obtain ⟨L, hL, hR⟩ := Rw_build (G := GA W) (sz := 6) (rep := Stm.rep0 (GA W)) len a fun i hi => by
    have h1 := hat i hi
    rw [cLT] at h1
    obtain ⟨e, he⟩ : ∃ e, elems[i]? = some e := ⟨elems[i], List.getElem?_eq_getElem (by omega)⟩
    rw [he, Option.bind_eq_some_iff] at h1
    obtain ⟨cs1, h2, h3⟩ := h1
    obtain ⟨g1, g2⟩ := gcells_GA h2
    obtain ⟨xs, n2, rfl, _, _, hxl, hf⟩ := DataW.trod_struct Tryz.underlying70 h3
    obtain ⟨c0, c1, c2, c3, c4, c5, rfl⟩ : ∃ c0 c1 c2 c3 c4 c5, cs1 = [c0, c1, c2, c3, c4, c5] := by
     match cs1, g2 with
     | [c0, c1, c2, c3, c4, c5], _ => exact ⟨c0, c1, c2, c3, c4, c5, rfl⟩
    have get : ∀ j, j < 6 → ∃ y, xs[j]? = some y := fun j hj => ⟨xs[j]'(by rw [hxl]; exact hj), List.getElem?_eq_getElem _⟩
    obtain ⟨y0, p0⟩ := get 0 (by omega)
    obtain ⟨y1, p1⟩ := get 1 (by omega)
    obtain ⟨y2, p2⟩ := get 2 (by omega)
    obtain ⟨y3, p3⟩ := get 3 (by omega)
    obtain ⟨y4, p4⟩ := get 4 (by omega)
    obtain ⟨y5, p5⟩ := get 5 (by omega)
    have fld := @fld_of H enc W _ xs _ n2 hf
    have f0 := fld 0 3 0 _ p0 ⟨_, rfl, rfl, rfl⟩
    have f1 := fld 1 3 1 _ p1 ⟨_, rfl, rfl, rfl⟩
    have f2 := fld 2 3 2 _ p2 ⟨_, rfl, rfl, rfl⟩
    have f3 := fld 3 3 3 _ p3 ⟨_, rfl, rfl, rfl⟩
    have f4 := fld 4 43 4 _ p4 ⟨_, rfl, rfl, rfl⟩
    have f5 := fld 5 43 5 _ p5 ⟨_, rfl, rfl, rfl⟩
    rw [cI] at f0 f1 f2 f3
    rw [cLS] at f4 f5
    obtain ⟨z0, r0, _, w0⟩ := DataW.trod_int Tryz.underlying3 f0
    obtain ⟨z1, r1, _, w1⟩ := DataW.trod_int Tryz.underlying3 f1
    obtain ⟨z2, r2, _, w2⟩ := DataW.trod_int Tryz.underlying3 f2
    obtain ⟨z3, r3, _, w3⟩ := DataW.trod_int Tryz.underlying3 f3
    obtain ⟨x4, v4, r4, q4⟩ := ih n2 (by omega) _ _ f4
    obtain ⟨x5, v5, r5, q5⟩ := ih n2 (by omega) _ _ f5
    simp only [List.drop_succ_cons, List.drop_zero, List.take_succ_cons, List.take_zero, List.cons.injEq, and_true] at r0 r1 r2 r3 r4 r5
    refine ⟨.mk z0 z1 z2 z3 x4 x5, _, g1, Stm.rep0_iff.2 ⟨v4, v5, ?_, i64_wf w0, i64_wf w1, i64_wf w2, i64_wf w3, q4, q5⟩⟩
    rw [r0, r1, r2, r3, r4, r5]
   exact ⟨L, _, J, some a, cap, by rw [hL], by omega, hcm, .inr ⟨a, J, hR⟩⟩
theorem trod_prg {fuel : Nat} {cs : List Value} {x : DataW H × List MemPlace} (h : DataW.trod enc Tryz.prog W 0 (fun _ => true) true fuel 22 cs = some x) : ∃ p v, cs = [v] ∧ Prg0 (GA W) p v := by
 rcases DataW.trod_slice Tryz.underlying22 h with ⟨rfl, _⟩ | ⟨a, len, cap, elems, rest, n1, rfl, rfl, _, _, hlc, hcm, hel, hat, _, _⟩
 ·exact ⟨[], _, J, none, 0, J, by simp, by simp [maxLen], .inl J⟩
 ·obtain ⟨L, hL, hR⟩ := Rw_build (G := GA W) (sz := 1) (rep := stsRep0 (GA W)) len a fun i hi => by
   have h1 := hat i hi
   rw [cLS] at h1
   obtain ⟨e, he⟩ : ∃ e, elems[i]? = some e := ⟨elems[i], List.getElem?_eq_getElem (by omega)⟩
   rw [he, Option.bind_eq_some_iff] at h1
   obtain ⟨cs1, h2, h3⟩ := h1
   obtain ⟨g1, g2⟩ := gcells_GA h2
   obtain ⟨L1, v1, rfl, q⟩ := trod_sts _ _ _ h3
   exact ⟨L1, _, g1, v1, J, q⟩
  exact ⟨L, _, J, some a, cap, by rw [hL], by omega, hcm, .inr ⟨a, J, hR⟩⟩
end
end
section
open Go.ChangeShapes Go.WideShapes Go.ChangeAt Go.RowKit
section
variable {H : Type} {enc : TypeId × Value → H} {W : World}
theorem trod_intS {fuel : Nat} {cs : List Value} {x : DataW H × List MemPlace} (h : DataW.trod enc Tryz.prog W 0 (fun _ => true) true fuel 23 cs = some x) : ∃ q v, cs = [v] ∧ Ints0 (GA W) q v := by
 rcases DataW.trod_slice Tryz.underlying23 h with ⟨rfl, _⟩ | ⟨a, len, cap, elems, rest, n1, rfl, rfl, _, _, hlc, hcm, hel, hat, _, _⟩
 ·exact ⟨[], _, J, none, 0, J, by simp, by simp [maxLen], .inl J⟩
 ·obtain ⟨L, hL, hR⟩ := Rw_build (G := GA W) (sz := 1) (rep := intRep) len a fun i hi => by
   have h1 := hat i hi
   rw [cI] at h1
   obtain ⟨e, he⟩ : ∃ e, elems[i]? = some e := ⟨elems[i], List.getElem?_eq_getElem (by omega)⟩
   rw [he, Option.bind_eq_some_iff] at h1
   obtain ⟨cs1, h2, h3⟩ := h1
   obtain ⟨g1, g2⟩ := gcells_GA h2
   obtain ⟨z, r, _, hw⟩ := DataW.trod_int Tryz.underlying3 h3
   exact ⟨z, _, g1, r, i64_wf hw⟩
  exact ⟨L, _, J, some a, cap, by rw [hL], by omega, hcm, .inr ⟨a, J, hR⟩⟩
end
theorem lawPI {f : FuncId} {pv qv : Value} {w : World} (h : ∃ p, Prg0 (GA w) p pv) (h' : ∃ q, Ints0 (GA w) q qv)
  (hc : ∀ G p q, Prg0 G p pv → Ints0 G q qv → Pure Tryz.prog f [pv, qv] G fun v G' => v = .bool true) :
  Calls Tryz.prog f #[pv, qv] w fun e w' => e = .returned (.bool true) ∧ Below w.heap.size w w' := by
 obtain ⟨p, hp⟩ := h
 obtain ⟨q, hq⟩ := h'
 exact (hc (GA w) p q hp hq w (GA_emb w)).mono fun e w' ⟨v, G', h1, h2, h3, h4, h5⟩ => ⟨by rw [h1, h2], h5⟩
end
end Go.Proofs.YtcbdilccmjpnbaaGreat
