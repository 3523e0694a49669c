/- Walks of the program's functions, one after the other (part 12); without conditions of their own. -/
import Derived.Test.YtcbdilccmjpnbaaGreatDoorWDM4
import Derived.Test.YtcbdilccmjpnbaaGreatDoorWDM5
import Derived.Test.YtcbdilccmjpnbaaGreatDoorWDM9
import Derived.Test.YtcbdilccmjpnbaaGreatDoorWDM10
import Derived.Test.YtcbdilccmjpnbaaGreatDoorWDM11
import Derived.Test.YtcbdilccmjpnbaaGreatDoorWDM2
import Derived.Below
import Derived.ChangeOld
import Derived.LaidMore
import Derived.MakeChecks
import Derived.OpenShut
import Derived.ProofKit
import Derived.ShutString
import Derived.Stop.LaidErr
import Derived.Test.YtcbdilccmjpnbaaGreatDoorRows
import Derived.WalkKit
set_option linter.unusedVariables false
set_option linter.unusedSimpArgs false
set_option maxRecDepth 100000
set_option maxHeartbeats 4000000
open Go.RowKit
namespace Go.Proofs.YtcbdilccmjpnbaaGreatDoor
section
theorem cellsOf_wcell (B : Nat) (G : PH) (a : Addr) : wcell (cellsOf B G) a = wcell G a := by
 unfold wcell cellsOf
 by_cases h : a.block < B
 ·simp [h]
 ·simp only [h, if_false]
  cases hg : G a.block with
  | none => rfl
  | some o => cases o <;> rfl
theorem newp_wcell {G0 G H : PH} (h : ∀ a, wcell H a = wcell G a) (a : Addr) : wcell (newp G0 H) a = wcell (newp G0 G) a := by
 have := h a
 unfold wcell newp at *
 cases G0 a.block with
 | none => simpa using this
 | some o => rfl
theorem FT.wc {G0 G H : PH} (h : ∀ a, wcell H a = wcell G a) {s : Shp} {v : Value} (hf : FT G0 G s v) : FT G0 H s v := by
 have ht : Tn (newp G0 G) (newp G0 H) := fun a v hv => .inl (by rw [newp_wcell h]; exact hv)
 exact ⟨Lies_tn ht _ _ hf.1, by rw [adsV_tn ht hf.1]; exact hf.2⟩
section
variable {P : Program} {fn : Func} {n : Nat} {G0 G : PH} {Post : Value → PH → Prop} {w0 : World} {k : List It} {E : Env} {ι : Ids} {L : List Ent}
theorem S_retG3 {t t' : Nat} {s s' : Sym} {v v' : Value} (hw0 : Emb G0 w0) (hext : PH.ext w0.heap.size G0 G) (hr : fn.results = #[.tmp t, .tmp t']) (hl : look t E = some s) (hv : denO ι s = some v) (hl' : look t' E = some s') (hv' : denO ι s' = some v') (hp : ∀ H : PH, (∀ a, gcell H a = gcell G a) → (∀ a, wcell H a = wcell G a) → Post (.tuple #[v, v']) H) : X (KG P n fn G0 Post w0) (.code .ret :: k) E ι L G := by
 intro a w h1 h2 h3 h4
 refine wpE_ret (wpE_out k ?_)
 obtain ⟨Ds, d1, d2, d3⟩ := h1
 show LeavesInM _ _ _ _ _ _ a.defers .returning w
 rw [d2]
 have hsub : ∀ b o, cellsOf w0.heap.size G b = some o → G b = some o := by
  intro b o hbo
  unfold cellsOf at hbo
  split at hbo
  ·exact hbo
  ·split at hbo
   ·rename_i h; rw [h]; exact hbo
   ·cases hbo
 refine leaveG (w0 := w0) (v := .tuple #[v, v']) (H := cellsOf w0.heap.size G) (fun w' => ?_) (fun w' hb hE => ?_) Ds w d1 (fun D hD => ⟨(d3 D hD).1, ?_, h4.emb _ _ (d3 D hD).2⟩) (h4.below fun _ h => h) (fun b o hbo => h4.emb b o (hsub b o hbo))
 ·obtain ⟨u, hu, ht⟩ := h3 t s hl
  rw [hv] at hu; cases hu
  obtain ⟨u, hu, ht'⟩ := h3 t' s' hl'
  rw [hv'] at hu; cases hu
  simp [results, hr, ht, ht']
 ·refine ⟨.tuple #[v, v'], cellsOf w0.heap.size G, rfl, hp _ (cellsOf_gcell _ _) (cellsOf_wcell _ _), ⟨fun b o hbo => ?_, fun b o hbo hn => hext.new b o (hsub b o hbo) hn⟩, hE, hb⟩
  have hlt : b < w0.heap.size := (Array.getElem?_eq_some_iff.1 (hw0 b o hbo)).1
  unfold cellsOf
  rw [if_pos hlt]
  exact hext.le b o hbo
 ·have h5 : w0.heap.size ≤ D := (d3 D hD).1
  unfold cellsOf
  rw [if_neg (by omega), (d3 D hD).2]
end
attribute [local irreducible] X Pure Mod
abbrev OutYn (G : PH) (pre : List Wld) := {y : PH × Option Addr × Nat × List Value // Cs 5 (wRep (G.un y.1)) pre y.2.2.2 ∧ FL G (G.un y.1) ((pre.map wsh).flatMap tcW) y.2.2.2}
def outFn (b base : Nat) (G : PH) (pre : List Wld) (y : OutYn G pre) : HP := pairHP (frzHP y.1.1) (pairHP (blkHP b 32 [.slice y.1.2.1 pre.length y.1.2.2.1]) (rowO base 56 5 y.1.2.1 pre.length y.1.2.2.1 y.1.2.2.2))
theorem c_iAllEndsN (p : List (List Stm)) (pv : Value) (G : PH) (hp : PrgS G p pv) (hTab : TabG G) : Pure Tryz.prog 14 [pv] G fun v' G' => ∃ lv, v' = .tuple #[lv, .bool (endsP p).isSome] ∧ WsG G' ((endsP p).getD []) lv ∧ FT G G' (shW (((endsP p).getD []).map wsh)) lv := by
 have hok := @explP_ok p
 have he := c_explore p pv G hp hTab
 obtain ⟨Ap, cp, rfl, _⟩ := id hp.1
 refine Pure.introG Tryz.func14 Tryz.ntmps14 J J fun w hw => ?_;refine Va J J ?_;refine S_call Tryz.call23 he J J J ?_;rintro v1 G1 ⟨pt, rfl, hpt⟩ hext1
 rw [endsP_of]
 cases hx : explP p with
 | none =>
  refine Va J J ?_;refine RT J (by simp) ?_;refine Va J J ?_;exact S_retG3 hw hext1 Tryz.results14 J J J J fun H hH hH2 => ⟨_, J, WsG_nil, FT_nil⟩
 | some Ws =>
  have hWok := hok hp hx
  have hle := hWok.le
  obtain ⟨b, mb, lv, rfl, hg, hWs⟩ := hpt Ws hx
  refine Va J J ?_;refine RF J (by simp) ?_;refine Va J J ?_;refine AZ ZT_ok J J J J fun b6 => ?_;refine Va J J ?_;refine S_call Tryz.call26 (c_ends b _) J J J ?_;rintro v2 G2 ⟨b1, rfl, hb1⟩ hext2
  refine Va J J ?_
  have hWs2 := WsG_le hext2.le hWs
  have hel := endsW_le Ws
  simp only [Option.map_some, Option.getD_some, Option.isSome_some]
  refine S_nilO (base := w.heap.size) (e := 56) (size := 5) 20 ?_;refine S_reE 6 (.val (.pointer (some ⟨b6, 0, none⟩))) J J ?_;refine S_Bhp 6 21 J J J J ?_;refine S_pair 21 20 30 J J J J ?_;refine S_frN 22 ?_;refine S_pair 22 30 31 J J J J ?_;refine S_exClose 31 (outFn b6 w.heap.size G2 []) ⟨(fun _ => none, none, 0, []), J, FL_nil⟩ J J J ?_;refine S_range (fun pre => [.hp 31 (exHP (outFn b6 w.heap.size G2 pre))]) (fun pre => [.hp 31 deadHP])
   rfl rfl rfl Tryz.call56 (c_ends1 p Ws b b1 mb lv G2 hWok hb1 (gcells_le hext2.le hg) hWs2) (fun x vs h => by obtain ⟨cs, _, rfl⟩ := h; rfl) rfl (.hp .nil) ?_ ?_ ?_
  ·intro l pre x vs W S I hpre henc hW hI
   obtain ⟨cs, hrep, rfl⟩ := henc
   have hpl : pre.length + 1 ≤ (endsW Ws).length := by have := hpre.length_le; simpa using this
   have hxm : x ∈ Ws := (List.mem_filter.1 (hpre.subset (by simp : x ∈ pre ++ [x]))).1
   have hx3 : x.procs.length ≤ 3 := by
    obtain ⟨i, hi, rfl⟩ := List.getElem_of_mem hxm
    exact (hWok.ok i _ (List.getElem?_eq_getElem hi)).1.inv.n3
   obtain ⟨fa, fb, fc, fd, fe, ff, fg, fh, fi, fj, rfl⟩ := wRep_sl hrep
   refine Va J J ?_;refine AZ ZT_ok J J J J fun b7 => ?_;refine Va J J ?_;refine hI _ _ _ fun W2 S2 hW2 => ?_;refine S_exOpen 31 J (fun _ => J) ?_;rintro ⟨⟨H, A1, c1, xs⟩, hcs, hfl⟩
   unfold outFn
   simp only at hcs hfl ⊢
   refine S_unpair 31 22 30 J J ?_;refine S_unpair 30 21 20 J J ?_;refine S_frH 22 J J fun hHb hHn => ?_;refine S_hpB 21 102 J J J ?_;refine S_reE 6 (.ptr 102 0) J J ?_
   have hxl := Cs_length hcs
   refine Va J J ?_;refine Ds J J J ?_;refine Da J J ?_;refine D_sole 2 J J (N_call 2 Tryz.call31 (c_wcopyN x _ _ (WG_le (PH.le_un _ _) hrep) hx3) J J J J J J J J J J ?_)
   rintro v2 G3 ⟨hW3, vs3, rfl, hfl3⟩ hext3
   obtain ⟨ga, gb, gc, gd, ge, gf, gg, gh, gi, gj, rfl⟩ := wRep_sl hW3
   refine Da J J ?_;refine Nt 3 J J J J J J fun back => ?_;refine S_slice Tk ZT_ok J J J J (by decide) (by decide) J J J J fun b21 => ?_;refine back _ _ _ _ (by kernel_rfl) ?_; clear back
   refine Da J J ?_;refine Nt 4 J J J J J J fun back => ?_
   refine S_app1 Tk 20 21 J J J J J J J J J J J J J J (by intro u hu; simp at hu; rcases hu with rfl | rfl | rfl | rfl | rfl <;> rfl) rfl (fun _ _ => rfl) (by omega) hW2 fun A6 c6 => ?_
   refine back _ _ _ _ (by kernel_rfl) ?_; clear back
   refine Da J J ?_;refine Ns 5 J J J J J J J J J ?_;refine DD ?_;refine Va J J ?_
   have hle3 : G2.le G3 := (PH.le_un G2 H).trans hext3.le
   refine S_Bhp 102 21 J J J J ?_;refine S_pair 21 20 30 J J J J ?_;refine S_thaw 22 (G0 := G2) J hle3 (fun bb o hb hn => ?_) ?_
   ·cases hq : (G2.un H) bb with
    | none => exact .inr (hext3.new bb o hb hq)
    | some o' =>
     unfold PH.un at hq
     rw [hn] at hq
     exact hHb bb o' hq
   refine S_pair 22 30 31 J J J J ?_;refine S_exClose 31 (outFn b6 w.heap.size G2 (pre ++ [x])) ⟨(newp G2 G3, A6, c6, xs ++ [.slice ga x.procs.length gb, .slice gc 3 gd, .slice ge 2 gf, .slice gg 2 gh, .slice gi x.said.length gj]), ?_, ?_⟩ J ?_ J ?_
   ·simp only
    rw [PH.un_newp hle3]
    exact Cs_append (Cs_mono (fun _ _ _ h => wRep_le hext3.le h) hcs) hW3 J
   ·simp only
    rw [PH.un_newp hle3, List.map_append, List.flatMap_append]
    refine FL.app (PH.le_un G2 H) hext3.le hfl ?_
    simpa using hfl3
   ·simp [outFn]; try rfl
   refine S_pick [31] J ?_;exact S_roundEnd (.hp .nil)
  ·intro D hD hDs
   refine S_exOpen 31 J (fun _ => J) ?_;rintro ⟨⟨H, A1, c1, xs⟩, hcs, hfl⟩
   unfold outFn
   simp only at hcs hfl ⊢
   refine S_unpair 31 22 30 J J ?_;refine S_unpair 30 21 20 J J ?_;refine S_frH 22 J J fun hHb hHn => ?_;refine S_hpB 21 103 J J J ?_;refine S_reE 6 (.ptr 103 0) J J ?_;refine Va J J ?_
   have hle4 := un_add_le hD hHn
   refine S_freezeW 20 J J (Nat.le_refl _) fun Gf hextf hncf hcmf hclf hnewf => ?_
   have hv : WsG Gf (endsW Ws) (.slice A1 (endsW Ws).length c1) := frz (Cs_mono (fun _ _ _ h => wRep_le (hle4.trans hextf.le) h) hcs) rfl (by omega) hncf hcmf hclf
   have hf2 : FT G2 Gf (shW ((endsW Ws).map wsh)) (.slice A1 (endsW Ws).length c1) := FT_row ((PH.le_un G2 H).trans hle4) hextf.le (hfl.mono hle4) (by rw [fm_len tcW_len, List.length_map]) (by omega) hncf hcmf hnewf
   have hf1 : FT G Gf (shW ((endsW Ws).map wsh)) (.slice A1 (endsW Ws).length c1) := hf2.low (hext1.le.trans hext2.le) ((PH.le_un G2 H).trans (hle4.trans hextf.le))
   refine S_retG3 hw ((((hext1.trans hext2).trans (ext_addW hD hDs)).trans (ext_un fun bb o hb => ?_)).trans hextf) Tryz.results14 J J J J fun H' hH hH2 => ⟨_, J, WsG_gcW hH hv, hf1.wc hH2⟩
   rcases hHb bb o hb with h | h
   ·exact h.elim
   ·exact h
  ·intro D pre hD hDs
   exact S_dead 31 J
end
section
attribute [local irreducible] X Pure Mod
theorem c_markWorldS (ws : List WSh) : MkP 17 (shW ws) := by
 intro H v k G hl h0 hb
 obtain ⟨A, n', c, rfl, hlen, hn, hnc, hcm, hA, hR⟩ := Lies_slA hl
 obtain rfl : ws.length = n' := by rw [fm_len tcW_len] at hlen; omega
 have hM : MkC H (ws.flatMap tcW) (ptrV (.slice A (ws.length) c)) k := ⟨hR, h0, hb⟩
 have hce : (ws.flatMap tcW).length ≤ ws.length * 5 := Nat.le_of_eq hlen
 show Mod _ _ _ _ _ fun v' G' A' => v' = .int .i64 (k + numR (ws.flatMap tcW)) ∧ G' = G ∧ A' = frzHP (wr H (adsR H (ws.flatMap tcW) (ptrV (.slice A (ws.length) c))) k)
 generalize hp : ptrV (.slice A (ws.length) c) = ad at hM
 refine Mod.intro Tryz.func17 Tryz.ntmps17 J J fun w S => ?_;refine Va J J ?_;refine S_loop (α := Nat) (fun i => i ≤ ws.length) (fun i => ws.length - i) [] (fun i => [(5, .val (.int .i64 (i : Nat))), (1, .val (.int .i64 (KR k (ws.flatMap tcW) (i * 5)))), (0, .val (.slice A (ws.length) c))])
  (fun i => [.hp 1 (frzHP (WR H (ws.flatMap tcW) ad k (i * 5)))]) (fun _ => G) 0 (Nat.zero_le _) rfl ⟨⟨_, rfl, rfl⟩, ⟨_, rfl, by rw [Nat.zero_mul, KR_zero]⟩, ⟨_, rfl, rfl⟩, trivial⟩ (by rw [Nat.zero_mul, WR_zero]; exact .hp .nil) ?_
 intro i hi
 refine Va J J ?_
 refine S_condp J (fun h5 => ?_) (fun h5 => ?_) <;> refine Va J J ?_
 ·have hil : i < ws.length := by omega
  obtain ⟨ad', rfl⟩ := hA (by omega)
  obtain rfl : ad' = ad := hp
  obtain ⟨v_, hw_, hl_, hset_, hnum_, hk0_, hkb_⟩ := hM.slc (i * 5) ((ad'.add (((i : Nat) : Int).toNat * 5)).add 0) (by simp [add_add', add_zero']) (shP ws[i].ps) ⟨_, _, rfl⟩ (((fm_at tcW_len ws i 0 hil (by omega)).trans rfl))
  obtain ⟨A_, n_, c_, rfl, _⟩ := Lies_sl hl_
  refine S_index Tk J J J J J J (by omega) (by omega) ?_;refine Va J J ?_;refine S_valV J J J (V_loadH Tk 1 J J J J hw_) ?_;refine Va J J ?_;refine S_callM 1 Tryz.call34 (c_markProcS ws[i].ps _ _ _ _ hl_ hk0_ hkb_) J J J J (fun _ => J) ?_;rintro v1_ G1_ A1_ ⟨rfl, rfl, rfl⟩ _
  rw [hset_, hnum_]
  clear hw_ hl_ hset_ hnum_ hk0_ hkb_
  refine Va J J ?_;obtain ⟨v_, hw_, hl_, hset_, hnum_, hk0_, hkb_⟩ := hM.slc (i * 5 + 1) ((ad'.add (((i : Nat) : Int).toNat * 5)).add 1) (by simp [add_add', add_zero']) (shI ws[i].nc) ⟨_, _, rfl⟩ (((fm_at tcW_len ws i 1 hil (by omega)).trans rfl))
  obtain ⟨A_, n_, c_, rfl, _⟩ := Lies_sl hl_
  refine S_index Tk J J J J J J (by omega) (by omega) ?_;refine Va J J ?_;refine S_valV J J J (V_loadH Tk 1 J J J J hw_) ?_;refine Va J J ?_;refine S_callM 1 Tryz.call35 (c_markIntS ws[i].nc _ _ _ _ hl_ hk0_ hkb_) J J J J (fun _ => J) ?_;rintro v1_ G1_ A1_ ⟨rfl, rfl, rfl⟩ _
  rw [hset_, hnum_]
  clear hw_ hl_ hset_ hnum_ hk0_ hkb_
  refine Va J J ?_;obtain ⟨v_, hw_, hl_, hset_, hnum_, hk0_, hkb_⟩ := hM.slc (i * 5 + 1 + 1) ((ad'.add (((i : Nat) : Int).toNat * 5)).add 2) (by simp [add_add', add_zero']) (shI ws[i].nr) ⟨_, _, rfl⟩ (((fm_at tcW_len ws i 2 hil (by omega)).trans rfl))
  obtain ⟨A_, n_, c_, rfl, _⟩ := Lies_sl hl_
  refine S_index Tk J J J J J J (by omega) (by omega) ?_;refine Va J J ?_;refine S_valV J J J (V_loadH Tk 1 J J J J hw_) ?_;refine Va J J ?_;refine S_callM 1 Tryz.call35 (c_markIntS ws[i].nr _ _ _ _ hl_ hk0_ hkb_) J J J J (fun _ => J) ?_;rintro v1_ G1_ A1_ ⟨rfl, rfl, rfl⟩ _
  rw [hset_, hnum_]
  clear hw_ hl_ hset_ hnum_ hk0_ hkb_
  refine Va J J ?_;obtain ⟨v_, hw_, hl_, hset_, hnum_, hk0_, hkb_⟩ := hM.slc (i * 5 + 1 + 1 + 1) ((ad'.add (((i : Nat) : Int).toNat * 5)).add 3) (by simp [add_add', add_zero']) (shII ws[i].ns) ⟨_, _, rfl⟩ (((fm_at tcW_len ws i 3 hil (by omega)).trans rfl))
  obtain ⟨A_, n_, c_, rfl, _⟩ := Lies_sl hl_
  refine S_index Tk J J J J J J (by omega) (by omega) ?_;refine Va J J ?_;refine S_valV J J J (V_loadH Tk 1 J J J J hw_) ?_;refine Va J J ?_;refine S_callM 1 Tryz.call36 (c_markIntSS ws[i].ns _ _ _ _ hl_ hk0_ hkb_) J J J J (fun _ => J) ?_;rintro v1_ G1_ A1_ ⟨rfl, rfl, rfl⟩ _
  rw [hset_, hnum_]
  clear hw_ hl_ hset_ hnum_ hk0_ hkb_
  refine Va J J ?_;obtain ⟨v_, hw_, hl_, hset_, hnum_, hk0_, hkb_⟩ := hM.slc (i * 5 + 1 + 1 + 1 + 1) ((ad'.add (((i : Nat) : Int).toNat * 5)).add 4) (by simp [add_add', add_zero']) (shY ws[i].nd) ⟨_, _, rfl⟩ (((fm_at tcW_len ws i 4 hil (by omega)).trans rfl))
  obtain ⟨A_, n_, c_, rfl, _⟩ := Lies_sl hl_
  refine S_index Tk J J J J J J (by omega) (by omega) ?_;refine Va J J ?_;refine S_valV J J J (V_loadH Tk 1 J J J J hw_) ?_;refine Va J J ?_;refine S_callM 1 Tryz.call37 (c_markSayS ws[i].nd _ _ _ _ hl_ hk0_ hkb_) J J J J (fun _ => J) ?_;rintro v1_ G1_ A1_ ⟨rfl, rfl, rfl⟩ _
  rw [hset_, hnum_]
  clear hw_ hl_ hset_ hnum_ hk0_ hkb_
  refine Va J J ?_;refine S_add J J J J (by omega) ?_;refine Va J J ?_;refine S_again (i + 1) (by omega) (by omega) J ⟨⟨_, J, by simp [denO]⟩, ⟨_, J, by rw [show i * 5 + 1 + 1 + 1 + 1 + 1 = (i + 1) * 5 by omega]⟩, ⟨_, J, J⟩, trivial⟩ ?_
  rw [show i * 5 + 1 + 1 + 1 + 1 + 1 = (i + 1) * 5 by omega]
  exact .hp .nil
 ·have e0 : i = ws.length := by omega
  subst e0
  exact S_retm 1 (Res.t1 Tryz.results17 J J) J XR ⟨by rw [KR_all hce], J, by rw [WR_all hce]⟩
end
section
attribute [local irreducible] X Pure Mod
theorem c_heldIntS (n : Nat) : HdP 39 (shI n) := by
 intro G v k hl h0 hb hh
 obtain ⟨A, n', c, rfl, hlen, hn, hnc, hcm, hA, hR⟩ := Lies_slA hl
 obtain rfl : n = n' := by rw [tcI_len] at hlen; omega
 have hM : HdC G (tcI n) (ptrV (.slice A (n) c)) k := ⟨hR, h0, hb, hh⟩
 have hce : (tcI n).length ≤ n * 1 := Nat.le_of_eq hlen
 show Pure _ _ _ _ fun v' G' => v' = .int .i64 (k + numR (tcI n)) ∧ G' = G
 generalize hp : ptrV (.slice A (n) c) = ad at hM
 refine Pure.intro Tryz.func39 Tryz.ntmps39 J J fun w => ?_; refine Va J J ?_;refine S_loop (α := Nat) (fun i => i ≤ n) (fun i => n - i) [] (fun i => [(5, .val (.int .i64 (i : Nat))), (1, .val (.int .i64 (KR k (tcI n) (i * 1)))), (0, .val (.slice A (n) c))])
  (fun i => []) (fun _ => G) 0 (Nat.zero_le _) rfl ⟨⟨_, rfl, rfl⟩, ⟨_, rfl, by rw [Nat.zero_mul, KR_zero]⟩, ⟨_, rfl, rfl⟩, trivial⟩ .nil ?_
 intro i hi
 refine Va J J ?_
 refine S_condp J (fun h5 => ?_) (fun h5 => ?_) <;> refine Va J J ?_
 ·have hil : i < n := by omega
  obtain ⟨ad', rfl⟩ := hA (by omega)
  obtain rfl : ad' = ad := hp
  obtain ⟨hw_, hnum_, hk0_, hkb_⟩ := hM.int (i * 1) (ad'.add (((i : Nat) : Int).toNat * 1)) (by simp [add_add', add_zero']) (tcI_at (by omega))
  refine S_index Tk J J J J J J (by omega) (by omega) ?_;refine Va J J ?_;refine S_load Tk J J J J J (wcell_g hw_) ?_;refine Va J J ?_;refine RF J (by simp) ?_;refine Va J J ?_;refine S_add J J J J (by omega) ?_
  rw [hnum_]
  clear hw_ hnum_ hk0_ hkb_
  refine Va J J ?_;refine S_add J J J J (by omega) ?_;refine Va J J ?_;exact S_again (i + 1) (by omega) (by omega) J ⟨⟨_, J, by simp [denO]⟩, ⟨_, J, by rw [show i * 1 + 1 = (i + 1) * 1 by omega]⟩, ⟨_, J, J⟩, trivial⟩ .nil
 ·have e0 : i = n := by omega
  subst e0
  exact S_retp (Res.t1 Tryz.results39 J J) XR ⟨by rw [KR_all hce], J⟩
theorem c_heldIntSS (ns : List Nat) : HdP 40 (shII ns) := by
 intro G v k hl h0 hb hh
 obtain ⟨A, n', c, rfl, hlen, hn, hnc, hcm, hA, hR⟩ := Lies_slA hl
 obtain rfl : ns.length = n' := by rw [List.length_map] at hlen; omega
 have hM : HdC G (ns.map shI) (ptrV (.slice A (ns.length) c)) k := ⟨hR, h0, hb, hh⟩
 have hce : (ns.map shI).length ≤ ns.length * 1 := Nat.le_of_eq hlen
 show Pure _ _ _ _ fun v' G' => v' = .int .i64 (k + numR (ns.map shI)) ∧ G' = G
 generalize hp : ptrV (.slice A (ns.length) c) = ad at hM
 refine Pure.intro Tryz.func40 Tryz.ntmps40 J J fun w => ?_; refine Va J J ?_;refine S_loop (α := Nat) (fun i => i ≤ ns.length) (fun i => ns.length - i) [] (fun i => [(5, .val (.int .i64 (i : Nat))), (1, .val (.int .i64 (KR k (ns.map shI) (i * 1)))), (0, .val (.slice A (ns.length) c))])
  (fun i => []) (fun _ => G) 0 (Nat.zero_le _) rfl ⟨⟨_, rfl, rfl⟩, ⟨_, rfl, by rw [Nat.zero_mul, KR_zero]⟩, ⟨_, rfl, rfl⟩, trivial⟩ .nil ?_
 intro i hi
 refine Va J J ?_
 refine S_condp J (fun h5 => ?_) (fun h5 => ?_) <;> refine Va J J ?_
 ·have hil : i < ns.length := by omega
  obtain ⟨ad', rfl⟩ := hA (by omega)
  obtain rfl : ad' = ad := hp
  obtain ⟨v_, hw_, hl_, hh_, hnum_, hk0_, hkb_⟩ := hM.slc (i * 1) (ad'.add (((i : Nat) : Int).toNat * 1)) (by simp [add_add', add_zero']) (shI ns[i]) ⟨_, _, rfl⟩ ((by rw [Nat.mul_one, List.getElem?_map, List.getElem?_eq_getElem hil]; rfl))
  obtain ⟨A_, n_, c_, rfl, _⟩ := Lies_sl hl_
  refine S_index Tk J J J J J J (by omega) (by omega) ?_;refine Va J J ?_;refine S_load Tk J J J J J (wcell_g hw_) ?_;refine Va J J ?_;refine S_call Tryz.call39 (c_heldIntS ns[i] _ _ _ hl_ hk0_ hkb_ hh_) J J J ?_;rintro v1_ G1_ ⟨rfl, rfl⟩ _
  rw [hnum_]
  have hb_ := hM.bnd (i * 1 + 1)
  refine Va J J ?_;refine RF J (by first | (simp; omega) | (simp at hb_ ⊢; omega)) ?_
  clear hw_ hl_ hnum_ hk0_ hkb_ hh_ hb_
  refine Va J J ?_;refine S_add J J J J (by omega) ?_;refine Va J J ?_;exact S_again (i + 1) (by omega) (by omega) J ⟨⟨_, J, by simp [denO]⟩, ⟨_, J, by rw [show i * 1 + 1 = (i + 1) * 1 by omega]⟩, ⟨_, J, J⟩, trivial⟩ .nil
 ·have e0 : i = ns.length := by omega
  subst e0
  exact S_retp (Res.t1 Tryz.results40 J J) XR ⟨by rw [KR_all hce], J⟩
theorem c_heldSayS (n : Nat) : HdP 41 (shY n) := by
 intro G v k hl h0 hb hh
 obtain ⟨A, n', c, rfl, hlen, hn, hnc, hcm, hA, hR⟩ := Lies_slA hl
 obtain rfl : n = n' := by rw [tcI_len] at hlen; omega
 have hM : HdC G (tcI (n * 2)) (ptrV (.slice A (n) c)) k := ⟨hR, h0, hb, hh⟩
 have hce : (tcI (n * 2)).length ≤ n * 2 := Nat.le_of_eq hlen
 show Pure _ _ _ _ fun v' G' => v' = .int .i64 (k + numR (tcI (n * 2))) ∧ G' = G
 generalize hp : ptrV (.slice A (n) c) = ad at hM
 refine Pure.intro Tryz.func41 Tryz.ntmps41 J J fun w => ?_; refine Va J J ?_;refine S_loop (α := Nat) (fun i => i ≤ n) (fun i => n - i) [] (fun i => [(5, .val (.int .i64 (i : Nat))), (1, .val (.int .i64 (KR k (tcI (n * 2)) (i * 2)))), (0, .val (.slice A (n) c))])
  (fun i => []) (fun _ => G) 0 (Nat.zero_le _) rfl ⟨⟨_, rfl, rfl⟩, ⟨_, rfl, by rw [Nat.zero_mul, KR_zero]⟩, ⟨_, rfl, rfl⟩, trivial⟩ .nil ?_
 intro i hi
 refine Va J J ?_
 refine S_condp J (fun h5 => ?_) (fun h5 => ?_) <;> refine Va J J ?_
 ·have hil : i < n := by omega
  obtain ⟨ad', rfl⟩ := hA (by omega)
  obtain rfl : ad' = ad := hp
  obtain ⟨hw_, hnum_, hk0_, hkb_⟩ := hM.int (i * 2) ((ad'.add (((i : Nat) : Int).toNat * 2)).add 0) (by simp [add_add', add_zero']) (tcI_at (by omega))
  refine S_index Tk J J J J J J (by omega) (by omega) ?_;refine Va J J ?_;refine S_load Tk J J J J J (wcell_g hw_) ?_;refine Va J J ?_;refine RF J (by simp) ?_;refine Va J J ?_;refine S_add J J J J (by omega) ?_
  rw [hnum_]
  clear hw_ hnum_ hk0_ hkb_
  refine Va J J ?_;obtain ⟨hw_, hnum_, hk0_, hkb_⟩ := hM.int (i * 2 + 1) ((ad'.add (((i : Nat) : Int).toNat * 2)).add 1) (by simp [add_add', add_zero']) (tcI_at (by omega))
  refine S_index Tk J J J J J J (by omega) (by omega) ?_;refine Va J J ?_;refine S_load Tk J J J J J (wcell_g hw_) ?_;refine Va J J ?_;refine RF J (by simp) ?_;refine Va J J ?_;refine S_add J J J J (by omega) ?_
  rw [hnum_]
  clear hw_ hnum_ hk0_ hkb_
  refine Va J J ?_;refine S_add J J J J (by omega) ?_;refine Va J J ?_;exact S_again (i + 1) (by omega) (by omega) J ⟨⟨_, J, by simp [denO]⟩, ⟨_, J, by rw [show i * 2 + 1 + 1 = (i + 1) * 2 by omega]⟩, ⟨_, J, J⟩, trivial⟩ .nil
 ·have e0 : i = n := by omega
  subst e0
  exact S_retp (Res.t1 Tryz.results41 J J) XR ⟨by rw [KR_all hce], J⟩
theorem c_heldStmtS_of (L : List Stm) (hx : ∀ i (hi : i < L.length), HdP 68 (shT L[i].body) ∧ HdP 68 (shT L[i].els)) : HdP 68 (shT L) := by
 intro G v k hl h0 hb hh
 obtain ⟨A, n', c, rfl, hlen, hn, hnc, hcm, hA, hR⟩ := Lies_slA hl
 obtain rfl : L.length = n' := by rw [tcT_len] at hlen; omega
 have hM : HdC G (tcT L) (ptrV (.slice A (L.length) c)) k := ⟨hR, h0, hb, hh⟩
 have hce : (tcT L).length ≤ L.length * 6 := Nat.le_of_eq hlen
 show Pure _ _ _ _ fun v' G' => v' = .int .i64 (k + numR (tcT L)) ∧ G' = G
 generalize hp : ptrV (.slice A (L.length) c) = ad at hM
 refine Pure.intro Tryz.func68 Tryz.ntmps68 J J fun w => ?_; refine Va J J ?_;refine S_loop (α := Nat) (fun i => i ≤ L.length) (fun i => L.length - i) [] (fun i => [(5, .val (.int .i64 (i : Nat))), (1, .val (.int .i64 (KR k (tcT L) (i * 6)))), (0, .val (.slice A (L.length) c))])
  (fun i => []) (fun _ => G) 0 (Nat.zero_le _) rfl ⟨⟨_, rfl, rfl⟩, ⟨_, rfl, by rw [Nat.zero_mul, KR_zero]⟩, ⟨_, rfl, rfl⟩, trivial⟩ .nil ?_
 intro i hi
 refine Va J J ?_
 refine S_condp J (fun h5 => ?_) (fun h5 => ?_) <;> refine Va J J ?_
 ·have hil : i < L.length := by omega
  obtain ⟨ad', rfl⟩ := hA (by omega)
  obtain rfl : ad' = ad := hp
  obtain ⟨hw_, hnum_, hk0_, hkb_⟩ := hM.int (i * 6) ((ad'.add (((i : Nat) : Int).toNat * 6)).add 0) (by simp [add_add', add_zero']) (tcT_int hil 0 (by omega))
  refine S_index Tk J J J J J J (by omega) (by omega) ?_;refine Va J J ?_;refine S_load Tk J J J J J (wcell_g hw_) ?_;refine Va J J ?_;refine RF J (by simp) ?_;refine Va J J ?_;refine S_add J J J J (by omega) ?_
  rw [hnum_]
  clear hw_ hnum_ hk0_ hkb_
  refine Va J J ?_;obtain ⟨hw_, hnum_, hk0_, hkb_⟩ := hM.int (i * 6 + 1) ((ad'.add (((i : Nat) : Int).toNat * 6)).add 1) (by simp [add_add', add_zero']) (tcT_int hil 1 (by omega))
  refine S_index Tk J J J J J J (by omega) (by omega) ?_;refine Va J J ?_;refine S_load Tk J J J J J (wcell_g hw_) ?_;refine Va J J ?_;refine RF J (by simp) ?_;refine Va J J ?_;refine S_add J J J J (by omega) ?_
  rw [hnum_]
  clear hw_ hnum_ hk0_ hkb_
  refine Va J J ?_;obtain ⟨hw_, hnum_, hk0_, hkb_⟩ := hM.int (i * 6 + 1 + 1) ((ad'.add (((i : Nat) : Int).toNat * 6)).add 2) (by simp [add_add', add_zero']) (tcT_int hil 2 (by omega))
  refine S_index Tk J J J J J J (by omega) (by omega) ?_;refine Va J J ?_;refine S_load Tk J J J J J (wcell_g hw_) ?_;refine Va J J ?_;refine RF J (by simp) ?_;refine Va J J ?_;refine S_add J J J J (by omega) ?_
  rw [hnum_]
  clear hw_ hnum_ hk0_ hkb_
  refine Va J J ?_;obtain ⟨hw_, hnum_, hk0_, hkb_⟩ := hM.int (i * 6 + 1 + 1 + 1) ((ad'.add (((i : Nat) : Int).toNat * 6)).add 3) (by simp [add_add', add_zero']) (tcT_int hil 3 (by omega))
  refine S_index Tk J J J J J J (by omega) (by omega) ?_;refine Va J J ?_;refine S_load Tk J J J J J (wcell_g hw_) ?_;refine Va J J ?_;refine RF J (by simp) ?_;refine Va J J ?_;refine S_add J J J J (by omega) ?_
  rw [hnum_]
  clear hw_ hnum_ hk0_ hkb_
  refine Va J J ?_;obtain ⟨v_, hw_, hl_, hh_, hnum_, hk0_, hkb_⟩ := hM.slc (i * 6 + 1 + 1 + 1 + 1) ((ad'.add (((i : Nat) : Int).toNat * 6)).add 4) (by simp [add_add', add_zero']) (shT L[i].body) ⟨_, _, rfl⟩ (tcT_b hil)
  obtain ⟨A_, n_, c_, rfl, _⟩ := Lies_sl hl_
  refine S_index Tk J J J J J J (by omega) (by omega) ?_;refine Va J J ?_;refine S_load Tk J J J J J (wcell_g hw_) ?_;refine Va J J ?_;refine S_call Tryz.call68 ((hx i hil).1 _ _ _ hl_ hk0_ hkb_ hh_) J J J ?_;rintro v1_ G1_ ⟨rfl, rfl⟩ _
  rw [hnum_]
  have hb_ := hM.bnd (i * 6 + 1 + 1 + 1 + 1 + 1)
  refine Va J J ?_;refine RF J (by first | (simp; omega) | (simp at hb_ ⊢; omega)) ?_
  clear hw_ hl_ hnum_ hk0_ hkb_ hh_ hb_
  refine Va J J ?_;obtain ⟨v_, hw_, hl_, hh_, hnum_, hk0_, hkb_⟩ := hM.slc (i * 6 + 1 + 1 + 1 + 1 + 1) ((ad'.add (((i : Nat) : Int).toNat * 6)).add 5) (by simp [add_add', add_zero']) (shT L[i].els) ⟨_, _, rfl⟩ (tcT_e hil)
  obtain ⟨A_, n_, c_, rfl, _⟩ := Lies_sl hl_
  refine S_index Tk J J J J J J (by omega) (by omega) ?_;refine Va J J ?_;refine S_load Tk J J J J J (wcell_g hw_) ?_;refine Va J J ?_;refine S_call Tryz.call68 ((hx i hil).2 _ _ _ hl_ hk0_ hkb_ hh_) J J J ?_;rintro v1_ G1_ ⟨rfl, rfl⟩ _
  rw [hnum_]
  have hb_ := hM.bnd (i * 6 + 1 + 1 + 1 + 1 + 1 + 1)
  refine Va J J ?_;refine RF J (by first | (simp; omega) | (simp at hb_ ⊢; omega)) ?_
  clear hw_ hl_ hnum_ hk0_ hkb_ hh_ hb_
  refine Va J J ?_;refine S_add J J J J (by omega) ?_;refine Va J J ?_;exact S_again (i + 1) (by omega) (by omega) J ⟨⟨_, J, by simp [denO]⟩, ⟨_, J, by rw [show i * 6 + 1 + 1 + 1 + 1 + 1 + 1 = (i + 1) * 6 by omega]⟩, ⟨_, J, J⟩, trivial⟩ .nil
 ·have e0 : i = L.length := by omega
  subst e0
  exact S_retp (Res.t1 Tryz.results68 J J) XR ⟨by rw [KR_all hce], J⟩
mutual
theorem HdT_stm : ∀ (s : Stm), HdP 68 (shT s.body) ∧ HdP 68 (shT s.els)
 | .mk k a b n x y => ⟨c_heldStmtS x, c_heldStmtS y⟩
theorem HdT_at : ∀ (L : List Stm) (k : Nat) (hk : k < L.length), HdP 68 (shT L[k].body) ∧ HdP 68 (shT L[k].els)
 | [], k, hk => absurd hk (by simp)
 | s :: L, 0, _ => HdT_stm s
 | s :: L, k + 1, hk => HdT_at L k (by simpa using hk)
theorem c_heldStmtS : ∀ (L : List Stm), HdP 68 (shT L)
 | L => c_heldStmtS_of L (HdT_at L)
end
theorem c_heldProcS (ps : List PSh) : HdP 38 (shP ps) := by
 intro G v k hl h0 hb hh
 obtain ⟨A, n', c, rfl, hlen, hn, hnc, hcm, hA, hR⟩ := Lies_slA hl
 obtain rfl : ps.length = n' := by rw [fm_len tcP_len] at hlen; omega
 have hM : HdC G (ps.flatMap tcP) (ptrV (.slice A (ps.length) c)) k := ⟨hR, h0, hb, hh⟩
 have hce : (ps.flatMap tcP).length ≤ ps.length * 5 := Nat.le_of_eq hlen
 show Pure _ _ _ _ fun v' G' => v' = .int .i64 (k + numR (ps.flatMap tcP)) ∧ G' = G
 generalize hp : ptrV (.slice A (ps.length) c) = ad at hM
 refine Pure.intro Tryz.func38 Tryz.ntmps38 J J fun w => ?_; refine Va J J ?_;refine S_loop (α := Nat) (fun i => i ≤ ps.length) (fun i => ps.length - i) [] (fun i => [(5, .val (.int .i64 (i : Nat))), (1, .val (.int .i64 (KR k (ps.flatMap tcP) (i * 5)))), (0, .val (.slice A (ps.length) c))])
  (fun i => []) (fun _ => G) 0 (Nat.zero_le _) rfl ⟨⟨_, rfl, rfl⟩, ⟨_, rfl, by rw [Nat.zero_mul, KR_zero]⟩, ⟨_, rfl, rfl⟩, trivial⟩ .nil ?_
 intro i hi
 refine Va J J ?_
 refine S_condp J (fun h5 => ?_) (fun h5 => ?_) <;> refine Va J J ?_
 ·have hil : i < ps.length := by omega
  obtain ⟨ad', rfl⟩ := hA (by omega)
  obtain rfl : ad' = ad := hp
  obtain ⟨v_, hw_, hl_, hh_, hnum_, hk0_, hkb_⟩ := hM.slc (i * 5) ((ad'.add (((i : Nat) : Int).toNat * 5)).add 0) (by simp [add_add', add_zero']) (shI ps[i].1) ⟨_, _, rfl⟩ (((fm_at tcP_len ps i 0 hil (by omega)).trans rfl))
  obtain ⟨A_, n_, c_, rfl, _⟩ := Lies_sl hl_
  refine S_index Tk J J J J J J (by omega) (by omega) ?_;refine Va J J ?_;refine S_load Tk J J J J J (wcell_g hw_) ?_;refine Va J J ?_;refine S_call Tryz.call39 (c_heldIntS ps[i].1 _ _ _ hl_ hk0_ hkb_ hh_) J J J ?_;rintro v1_ G1_ ⟨rfl, rfl⟩ _
  rw [hnum_]
  have hb_ := hM.bnd (i * 5 + 1)
  refine Va J J ?_;refine RF J (by first | (simp; omega) | (simp at hb_ ⊢; omega)) ?_
  clear hw_ hl_ hnum_ hk0_ hkb_ hh_ hb_
  refine Va J J ?_;obtain ⟨v_, hw_, hl_, hh_, hnum_, hk0_, hkb_⟩ := hM.slc (i * 5 + 1) ((ad'.add (((i : Nat) : Int).toNat * 5)).add 1) (by simp [add_add', add_zero']) (shT ps[i].2) ⟨_, _, rfl⟩ (((fm_at tcP_len ps i 1 hil (by omega)).trans rfl))
  obtain ⟨A_, n_, c_, rfl, _⟩ := Lies_sl hl_
  refine S_index Tk J J J J J J (by omega) (by omega) ?_;refine Va J J ?_;refine S_load Tk J J J J J (wcell_g hw_) ?_;refine Va J J ?_;refine S_call Tryz.call68 (c_heldStmtS ps[i].2 _ _ _ hl_ hk0_ hkb_ hh_) J J J ?_;rintro v1_ G1_ ⟨rfl, rfl⟩ _
  rw [hnum_]
  have hb_ := hM.bnd (i * 5 + 1 + 1)
  refine Va J J ?_;refine RF J (by first | (simp; omega) | (simp at hb_ ⊢; omega)) ?_
  clear hw_ hl_ hnum_ hk0_ hkb_ hh_ hb_
  refine Va J J ?_;obtain ⟨hw_, hnum_, hk0_, hkb_⟩ := hM.int (i * 5 + 1 + 1) ((ad'.add (((i : Nat) : Int).toNat * 5)).add 2) (by simp [add_add', add_zero']) (((fm_at tcP_len ps i 2 hil (by omega)).trans rfl))
  refine S_index Tk J J J J J J (by omega) (by omega) ?_;refine Va J J ?_;refine S_load Tk J J J J J (wcell_g hw_) ?_;refine Va J J ?_;refine RF J (by simp) ?_;refine Va J J ?_;refine S_add J J J J (by omega) ?_
  rw [hnum_]
  clear hw_ hnum_ hk0_ hkb_
  refine Va J J ?_;obtain ⟨hw_, hnum_, hk0_, hkb_⟩ := hM.int (i * 5 + 1 + 1 + 1) ((ad'.add (((i : Nat) : Int).toNat * 5)).add 3) (by simp [add_add', add_zero']) (((fm_at tcP_len ps i 3 hil (by omega)).trans rfl))
  refine S_index Tk J J J J J J (by omega) (by omega) ?_;refine Va J J ?_;refine S_load Tk J J J J J (wcell_g hw_) ?_;refine Va J J ?_;refine RF J (by simp) ?_;refine Va J J ?_;refine S_add J J J J (by omega) ?_
  rw [hnum_]
  clear hw_ hnum_ hk0_ hkb_
  refine Va J J ?_;obtain ⟨hw_, hnum_, hk0_, hkb_⟩ := hM.int (i * 5 + 1 + 1 + 1 + 1) ((ad'.add (((i : Nat) : Int).toNat * 5)).add 4) (by simp [add_add', add_zero']) (((fm_at tcP_len ps i 4 hil (by omega)).trans rfl))
  refine S_index Tk J J J J J J (by omega) (by omega) ?_;refine Va J J ?_;refine S_load Tk J J J J J (wcell_g hw_) ?_;refine Va J J ?_;refine RF J (by simp) ?_;refine Va J J ?_;refine S_add J J J J (by omega) ?_
  rw [hnum_]
  clear hw_ hnum_ hk0_ hkb_
  refine Va J J ?_;refine S_add J J J J (by omega) ?_;refine Va J J ?_;exact S_again (i + 1) (by omega) (by omega) J ⟨⟨_, J, by simp [denO]⟩, ⟨_, J, by rw [show i * 5 + 1 + 1 + 1 + 1 + 1 = (i + 1) * 5 by omega]⟩, ⟨_, J, J⟩, trivial⟩ .nil
 ·have e0 : i = ps.length := by omega
  subst e0
  exact S_retp (Res.t1 Tryz.results38 J J) XR ⟨by rw [KR_all hce], J⟩
end
section
attribute [local irreducible] X Pure Mod
theorem c_heldWorldS (ws : List WSh) : HdP 18 (shW ws) := by
 intro G v k hl h0 hb hh
 obtain ⟨A, n', c, rfl, hlen, hn, hnc, hcm, hA, hR⟩ := Lies_slA hl
 obtain rfl : ws.length = n' := by rw [fm_len tcW_len] at hlen; omega
 have hM : HdC G (ws.flatMap tcW) (ptrV (.slice A (ws.length) c)) k := ⟨hR, h0, hb, hh⟩
 have hce : (ws.flatMap tcW).length ≤ ws.length * 5 := Nat.le_of_eq hlen
 show Pure _ _ _ _ fun v' G' => v' = .int .i64 (k + numR (ws.flatMap tcW)) ∧ G' = G
 generalize hp : ptrV (.slice A (ws.length) c) = ad at hM
 refine Pure.intro Tryz.func18 Tryz.ntmps18 J J fun w => ?_; refine Va J J ?_;refine S_loop (α := Nat) (fun i => i ≤ ws.length) (fun i => ws.length - i) [] (fun i => [(5, .val (.int .i64 (i : Nat))), (1, .val (.int .i64 (KR k (ws.flatMap tcW) (i * 5)))), (0, .val (.slice A (ws.length) c))])
  (fun i => []) (fun _ => G) 0 (Nat.zero_le _) rfl ⟨⟨_, rfl, rfl⟩, ⟨_, rfl, by rw [Nat.zero_mul, KR_zero]⟩, ⟨_, rfl, rfl⟩, trivial⟩ .nil ?_
 intro i hi
 refine Va J J ?_
 refine S_condp J (fun h5 => ?_) (fun h5 => ?_) <;> refine Va J J ?_
 ·have hil : i < ws.length := by omega
  obtain ⟨ad', rfl⟩ := hA (by omega)
  obtain rfl : ad' = ad := hp
  obtain ⟨v_, hw_, hl_, hh_, hnum_, hk0_, hkb_⟩ := hM.slc (i * 5) ((ad'.add (((i : Nat) : Int).toNat * 5)).add 0) (by simp [add_add', add_zero']) (shP ws[i].ps) ⟨_, _, rfl⟩ (((fm_at tcW_len ws i 0 hil (by omega)).trans rfl))
  obtain ⟨A_, n_, c_, rfl, _⟩ := Lies_sl hl_
  refine S_index Tk J J J J J J (by omega) (by omega) ?_;refine Va J J ?_;refine S_load Tk J J J J J (wcell_g hw_) ?_;refine Va J J ?_;refine S_call Tryz.call38 (c_heldProcS ws[i].ps _ _ _ hl_ hk0_ hkb_ hh_) J J J ?_;rintro v1_ G1_ ⟨rfl, rfl⟩ _
  rw [hnum_]
  have hb_ := hM.bnd (i * 5 + 1)
  refine Va J J ?_;refine RF J (by first | (simp; omega) | (simp at hb_ ⊢; omega)) ?_
  clear hw_ hl_ hnum_ hk0_ hkb_ hh_ hb_
  refine Va J J ?_;obtain ⟨v_, hw_, hl_, hh_, hnum_, hk0_, hkb_⟩ := hM.slc (i * 5 + 1) ((ad'.add (((i : Nat) : Int).toNat * 5)).add 1) (by simp [add_add', add_zero']) (shI ws[i].nc) ⟨_, _, rfl⟩ (((fm_at tcW_len ws i 1 hil (by omega)).trans rfl))
  obtain ⟨A_, n_, c_, rfl, _⟩ := Lies_sl hl_
  refine S_index Tk J J J J J J (by omega) (by omega) ?_;refine Va J J ?_;refine S_load Tk J J J J J (wcell_g hw_) ?_;refine Va J J ?_;refine S_call Tryz.call39 (c_heldIntS ws[i].nc _ _ _ hl_ hk0_ hkb_ hh_) J J J ?_;rintro v1_ G1_ ⟨rfl, rfl⟩ _
  rw [hnum_]
  have hb_ := hM.bnd (i * 5 + 1 + 1)
  refine Va J J ?_;refine RF J (by first | (simp; omega) | (simp at hb_ ⊢; omega)) ?_
  clear hw_ hl_ hnum_ hk0_ hkb_ hh_ hb_
  refine Va J J ?_;obtain ⟨v_, hw_, hl_, hh_, hnum_, hk0_, hkb_⟩ := hM.slc (i * 5 + 1 + 1) ((ad'.add (((i : Nat) : Int).toNat * 5)).add 2) (by simp [add_add', add_zero']) (shI ws[i].nr) ⟨_, _, rfl⟩ (((fm_at tcW_len ws i 2 hil (by omega)).trans rfl))
  obtain ⟨A_, n_, c_, rfl, _⟩ := Lies_sl hl_
  refine S_index Tk J J J J J J (by omega) (by omega) ?_;refine Va J J ?_;refine S_load Tk J J J J J (wcell_g hw_) ?_;refine Va J J ?_;refine S_call Tryz.call39 (c_heldIntS ws[i].nr _ _ _ hl_ hk0_ hkb_ hh_) J J J ?_;rintro v1_ G1_ ⟨rfl, rfl⟩ _
  rw [hnum_]
  have hb_ := hM.bnd (i * 5 + 1 + 1 + 1)
  refine Va J J ?_;refine RF J (by first | (simp; omega) | (simp at hb_ ⊢; omega)) ?_
  clear hw_ hl_ hnum_ hk0_ hkb_ hh_ hb_
  refine Va J J ?_;obtain ⟨v_, hw_, hl_, hh_, hnum_, hk0_, hkb_⟩ := hM.slc (i * 5 + 1 + 1 + 1) ((ad'.add (((i : Nat) : Int).toNat * 5)).add 3) (by simp [add_add', add_zero']) (shII ws[i].ns) ⟨_, _, rfl⟩ (((fm_at tcW_len ws i 3 hil (by omega)).trans rfl))
  obtain ⟨A_, n_, c_, rfl, _⟩ := Lies_sl hl_
  refine S_index Tk J J J J J J (by omega) (by omega) ?_;refine Va J J ?_;refine S_load Tk J J J J J (wcell_g hw_) ?_;refine Va J J ?_;refine S_call Tryz.call40 (c_heldIntSS ws[i].ns _ _ _ hl_ hk0_ hkb_ hh_) J J J ?_;rintro v1_ G1_ ⟨rfl, rfl⟩ _
  rw [hnum_]
  have hb_ := hM.bnd (i * 5 + 1 + 1 + 1 + 1)
  refine Va J J ?_;refine RF J (by first | (simp; omega) | (simp at hb_ ⊢; omega)) ?_
  clear hw_ hl_ hnum_ hk0_ hkb_ hh_ hb_
  refine Va J J ?_;obtain ⟨v_, hw_, hl_, hh_, hnum_, hk0_, hkb_⟩ := hM.slc (i * 5 + 1 + 1 + 1 + 1) ((ad'.add (((i : Nat) : Int).toNat * 5)).add 4) (by simp [add_add', add_zero']) (shY ws[i].nd) ⟨_, _, rfl⟩ (((fm_at tcW_len ws i 4 hil (by omega)).trans rfl))
  obtain ⟨A_, n_, c_, rfl, _⟩ := Lies_sl hl_
  refine S_index Tk J J J J J J (by omega) (by omega) ?_;refine Va J J ?_;refine S_load Tk J J J J J (wcell_g hw_) ?_;refine Va J J ?_;refine S_call Tryz.call41 (c_heldSayS ws[i].nd _ _ _ hl_ hk0_ hkb_ hh_) J J J ?_;rintro v1_ G1_ ⟨rfl, rfl⟩ _
  rw [hnum_]
  have hb_ := hM.bnd (i * 5 + 1 + 1 + 1 + 1 + 1)
  refine Va J J ?_;refine RF J (by first | (simp; omega) | (simp at hb_ ⊢; omega)) ?_
  clear hw_ hl_ hnum_ hk0_ hkb_ hh_ hb_
  refine Va J J ?_;refine S_add J J J J (by omega) ?_;refine Va J J ?_;exact S_again (i + 1) (by omega) (by omega) J ⟨⟨_, J, by simp [denO]⟩, ⟨_, J, by rw [show i * 5 + 1 + 1 + 1 + 1 + 1 = (i + 1) * 5 by omega]⟩, ⟨_, J, J⟩, trivial⟩ .nil
 ·have e0 : i = ws.length := by omega
  subst e0
  exact S_retp (Res.t1 Tryz.results18 J J) XR ⟨by rw [KR_all hce], J⟩
end
section
attribute [local irreducible] X Pure Mod
theorem c_eqWorldS (L : List Wld) (v u : Value) (G : PH) (hv : WsG G L v) (hu : WsG G L u) : Pure Tryz.prog 15 [v, u] G fun v' G' => v' = .bool true ∧ G' = G := by
 obtain ⟨A, c, rfl, hnL, _⟩ := id hv
 obtain ⟨B, e, rfl, _⟩ := id hu
 refine Pure.intro Tryz.func15 Tryz.ntmps15 J J fun w => ?_; refine Va J J ?_;refine RF J (by simp) ?_;refine Va J J ?_;refine S_loop (α := Nat) (fun k => k ≤ L.length) (fun k => L.length - k) []
  (fun k => [(5, .val (.int .i64 (k : Nat))), (0, .val (.slice A L.length c)), (1, .val (.slice B L.length e))]) (fun _ => []) (fun _ => G) 0 (Nat.zero_le _) rfl ⟨⟨_, rfl, rfl⟩, ⟨_, rfl, rfl⟩, ⟨_, rfl, rfl⟩, trivial⟩ .nil ?_
 rintro k hk
 refine Va J J ?_
 refine S_condp J (fun h5 => ?_) (fun h5 => ?_) <;> refine Va J J ?_
 ·have hkl : k < L.length := by omega
  obtain ⟨ad, cs, rfl, hcell, h1⟩ := Sr_at hv hkl
  obtain ⟨ae, ds, rfl, dcell, h2⟩ := Sr_at hu hkl
  have hq := c_eqWorld L[k] _ _ G h1 h2
  generalize L[k] = q at hq h1 h2
  refine Ds J J J ?_;refine Da J J ?_;refine D_val 2 J J J J J J J J J (V_index Tk J J J J (by omega) (by omega)) ?_;refine D_val 6 J J J J J J J J J (V_index Tk J J J J (by omega) (by omega)) ?_;refine Da J J ?_;refine D_val 3 J J J J J J J J J (V_loadA Tk J J (wRep_len h1) (by simpa using hcell)) ?_;refine D_val 7 J J J J J J J J J (V_loadA Tk J J (wRep_len h2) (by simpa using dcell)) ?_;refine Da J J ?_
  refine D_sole 8 J J (N_call 8 Tryz.call32 (hq) J J J J J J J J J J ?_)
  rintro v1 G1 ⟨rfl, rfl⟩ _
  refine Da J J ?_;refine DD ?_;refine Va J J ?_;refine RF J J ?_;refine Va J J ?_;refine S_add J J J J (by omega) ?_;refine Va J J ?_;exact S_again (k + 1) (by omega) (by omega) J ⟨⟨_, J, by simp [denO]⟩, ⟨_, J, J⟩, ⟨_, J, J⟩, trivial⟩ .nil
 ·exact S_retp (Res.t1 Tryz.results15 J J) XR ⟨J, J⟩
end
section
attribute [local irreducible] X Pure Mod
end
section
attribute [local irreducible] X Pure Mod
def smL : List Stm → Nat
 | [] => 0
 | s :: r => s.cnt + smL r
theorem cntL_eq : ∀ L : List Stm, cntL L = L.length + smL L
 | [] => rfl
 | s :: r => by have := cntL_eq r; simp only [cntL, smL, List.length_cons]; omega
theorem smL_append : ∀ L M : List Stm, smL (L ++ M) = smL L + smL M
 | [], M => by simp [smL]
 | s :: r, M => by have := smL_append r M; simp only [List.cons_append, smL]; omega
theorem smL_take {L : List Stm} {k : Nat} (h : k < L.length) : smL (L.take (k + 1)) = smL (L.take k) + L[k].cnt := by
 rw [List.take_succ_eq_append_getElem h, smL_append]; simp [smL]
theorem smL_le (L : List Stm) (k : Nat) : smL (L.take k) ≤ smL L := by
 conv => rhs; rw [← List.take_append_drop k L, smL_append]
 omega
def smP : List (List Stm) → Nat
 | [] => 0
 | l :: r => cntL l + smP r
theorem cntP_eq : ∀ p : List (List Stm), cntP p = p.length + smP p
 | [] => rfl
 | s :: r => by have := cntP_eq r; simp only [cntP, smP, List.length_cons]; omega
theorem smP_append : ∀ L M : List (List Stm), smP (L ++ M) = smP L + smP M
 | [], M => by simp [smP]
 | s :: r, M => by have := smP_append r M; simp only [List.cons_append, smP]; omega
theorem smP_take {L : List (List Stm)} {k : Nat} (h : k < L.length) : smP (L.take (k + 1)) = smP (L.take k) + cntL L[k] := by
 rw [List.take_succ_eq_append_getElem h, smP_append]; simp [smP]
theorem smP_le (L : List (List Stm)) (k : Nat) : smP (L.take k) ≤ smP L := by
 conv => rhs; rw [← List.take_append_drop k L, smP_append]
 omega
theorem rep0_len {G : PH} {s : Stm} {cs : List Value} (h : Stm.rep0 G s cs) : cs.length = 6 := by
 cases s
 obtain ⟨vx, vy, e, _⟩ := Stm.rep0_iff.1 h
 simp [e]
def SzS (s : Stm) : Prop := ∀ (l : Int) (cs : List Value) (G : PH), 0 ≤ l → l ≤ 1048576 → Stm.rep0 G s cs → Pure Tryz.prog 42 [.agg cs.toArray, .int .i64 l] G fun v G' => v = .int .i64 (szR s.cnt l) ∧ G' = G
def SzL (L : List Stm) : Prop := ∀ (l : Int) (v : Value) (G : PH), 0 ≤ l → l ≤ 1048576 → Sts0 G L v → Pure Tryz.prog 19 [v, .int .i64 l] G fun v G' => v = .int .i64 (szR (cntL L) l) ∧ G' = G
theorem szR_bnd {c : Nat} {l : Int} (h0 : 0 ≤ l) : -1 ≤ szR c l ∧ szR c l ≤ l := by unfold szR; split <;> omega
theorem c_szStmt (s : Stm) (hx : SzL s.body) (hy : SzL s.els) : SzS s := by
 intro l cs G h0 h1 hrep
 obtain ⟨k, a, b, n, x, y⟩ := s
 obtain ⟨vx, vy, rfl, hk, ha, hb, hn, hvx, hvy⟩ := Stm.rep0_iff.1 hrep
 simp only [Stm.body, Stm.els] at hx hy
 have hc := hx l _ G h0 h1 hvx
 have hb1 := szR_bnd (c := cntL x) h0
 have hadd := szR_add (cntL x) (cntL y) l
 rw [cnt_mk]
 obtain ⟨Ax, cx, rfl, _⟩ := id hvx
 obtain ⟨Ay, cy, rfl, _⟩ := id hvy
 refine Pure.intro Tryz.func42 Tryz.ntmps42 J J fun w => ?_; refine Va J J ?_;refine S_box J J J J J fun b1 => ?_;refine Va J J ?_;refine S_call Tryz.call19 hc J J J ?_;rintro v1 G1 ⟨rfl, rfl⟩ _
 generalize szR (cntL x) l = m at hb1 hadd ⊢
 refine Va J J ?_
 refine S_condp J (fun h => ?_) (fun h => ?_) <;> refine Va J J ?_
 ·exact S_retp (Res.t1 Tryz.results42 J J) XR ⟨by rw [hadd, if_pos h], J⟩
 rw [if_neg h] at hadd
 refine S_call Tryz.call19 (hy m _ G1 (by omega) (by omega) hvy) J J J ?_;rintro v2 G2 ⟨rfl, rfl⟩ _
 rw [← hadd]
 generalize hr : szR (cntL x + cntL y) l = r at hadd ⊢
 have hb2 := szR_bnd (c := cntL x + cntL y) h0
 rw [hr] at hb2
 refine Va J J ?_
 refine S_condp J (fun h => ?_) (fun h => ?_) <;> refine Va J J ?_
 ·exact S_retp (Res.t1 Tryz.results42 J J) XR ⟨by rw [show r = -1 by omega], J⟩
 ·exact S_retp (Res.t1 Tryz.results42 J J) XR ⟨J, J⟩
theorem c_szStmtS (L : List Stm) (hz : ∀ k (hk : k < L.length), SzS L[k]) : SzL L := by
 intro l v G h0 h1 hv
 have hce := cntL_eq L
 have hcm := hv
 obtain ⟨A, c, rfl, hnc, hmc, _⟩ := id hv
 have hmx : maxLen = 9223372036854775807 := rfl
 refine Pure.intro Tryz.func19 Tryz.ntmps19 J J fun w => ?_; refine Va J J ?_;refine S_subI J J J J (by omega) ?_;refine Va J J ?_
 refine S_condp J (fun h => ?_) (fun h => ?_) <;> refine Va J J ?_
 ·exact S_retp (Res.t1 Tryz.results19 J J) XR ⟨by rw [szR, if_neg (by omega)], J⟩
 refine S_loop (α := Nat) (fun k => k ≤ L.length ∧ ((L.length + smL (L.take k) : Nat) : Int) ≤ l) (fun k => L.length - k) []
  (fun k => [(5, .val (.int .i64 (k : Nat))), (1, .val (.int .i64 (l - (L.length + smL (L.take k) : Nat)))), (0, .val (.slice A L.length c))]) (fun _ => []) (fun _ => G) 0 ⟨Nat.zero_le _, by simp [smL]; omega⟩ rfl ⟨⟨_, rfl, rfl⟩, ⟨_, rfl, by simp [denO, smL]⟩, ⟨_, rfl, rfl⟩, trivial⟩ .nil ?_
 rintro k ⟨hk, hle⟩
 refine Va J J ?_
 refine S_condp J (fun h5 => ?_) (fun h5 => ?_) <;> refine Va J J ?_
 ·have hkl : k < L.length := by omega
  obtain ⟨ad, cs, rfl, hcs, hrep⟩ := Sr0_at hv hkl
  have hnx := smL_take hkl
  have hsl := smL_le L (k + 1)
  have hzk := hz k hkl (l - (L.length + smL (L.take k) : Nat)) cs G (by omega) (by omega) hrep
  generalize L[k].cnt = sc at hnx hzk
  refine S_index Tk J J J J J J (by omega) (by omega) ?_;refine Va J J ?_;refine S_loadA Tk J J J J (rep0_len hrep) hcs ?_;refine Va J J ?_;refine S_call Tryz.call42 hzk J J J ?_;rintro v1 G1 ⟨rfl, rfl⟩ _
  have hrr : szR sc (l - (L.length + smL (L.take k) : Nat)) = if ((L.length + smL (L.take (k + 1)) : Nat) : Int) ≤ l then l - (L.length + smL (L.take (k + 1)) : Nat) else -1 := by
   rw [hnx]; unfold szR; split <;> split <;> omega
  rw [hrr]
  by_cases hf : ((L.length + smL (L.take (k + 1)) : Nat) : Int) ≤ l
  ·rw [if_pos hf]
   refine Va J J ?_;refine RF J (by simp; omega) ?_;refine Va J J ?_;refine S_add J J J J (by omega) ?_;refine Va J J ?_;exact S_again (k + 1) ⟨by omega, hf⟩ (by omega) J ⟨⟨_, J, by simp [denO]⟩, ⟨_, J, J⟩, ⟨_, J, J⟩, trivial⟩ .nil
  ·rw [if_neg hf]
   refine Va J J ?_;refine RT J J ?_;refine Va J J ?_;exact S_retp (Res.t1 Tryz.results19 J J) XR ⟨by rw [szR, if_neg (by omega)], J⟩
 ·have e0 : k = L.length := by omega
  subst e0
  rw [List.take_length, ← hce] at hle ⊢
  exact S_retp (Res.t1 Tryz.results19 J J) XR ⟨by rw [szR, if_pos hle], J⟩
theorem SzL_of (L : List Stm) (h : ∀ k (hk : k < L.length), SzL L[k].body ∧ SzL L[k].els) : SzL L :=
 c_szStmtS L fun k hk => c_szStmt _ (h k hk).1 (h k hk).2
mutual
theorem SzL_stm : ∀ (s : Stm), SzL s.body ∧ SzL s.els
 | .mk k a b n x y => ⟨SzL_all x, SzL_all y⟩
theorem SzL_at : ∀ (L : List Stm) (k : Nat) (hk : k < L.length), SzL L[k].body ∧ SzL L[k].els
 | [], k, hk => absurd hk (by simp)
 | s :: L, 0, _ => SzL_stm s
 | s :: L, k + 1, hk => SzL_at L k (by simpa using hk)
theorem SzL_all : ∀ (L : List Stm), SzL L
 | L => SzL_of L (SzL_at L)
end
theorem c_szSS (p : List (List Stm)) (v : Value) (l : Int) (G : PH) (hv : Prg0 G p v) (h0 : 0 ≤ l) (h1 : l ≤ 1048576) : Pure Tryz.prog 6 [v, .int .i64 l] G fun v G' => v = .int .i64 (szR (cntP p) l) ∧ G' = G := by
 have hce := cntP_eq p
 obtain ⟨A, c, rfl, hnc, hmc, _⟩ := id hv
 have hmx : maxLen = 9223372036854775807 := rfl
 refine Pure.intro Tryz.func6 Tryz.ntmps6 J J fun w => ?_; refine Va J J ?_;refine S_subI J J J J (by omega) ?_;refine Va J J ?_
 refine S_condp J (fun h => ?_) (fun h => ?_) <;> refine Va J J ?_
 ·exact S_retp (Res.t1 Tryz.results6 J J) XR ⟨by rw [szR, if_neg (by omega)], J⟩
 refine S_loop (α := Nat) (fun k => k ≤ p.length ∧ ((p.length + smP (p.take k) : Nat) : Int) ≤ l) (fun k => p.length - k) []
  (fun k => [(5, .val (.int .i64 (k : Nat))), (1, .val (.int .i64 (l - (p.length + smP (p.take k) : Nat)))), (0, .val (.slice A p.length c))]) (fun _ => []) (fun _ => G) 0 ⟨Nat.zero_le _, by simp [smP]; omega⟩ rfl ⟨⟨_, rfl, rfl⟩, ⟨_, rfl, by simp [denO, smP]⟩, ⟨_, rfl, rfl⟩, trivial⟩ .nil ?_
 rintro k ⟨hk, hle⟩
 refine Va J J ?_
 refine S_condp J (fun h5 => ?_) (fun h5 => ?_) <;> refine Va J J ?_
 ·have hkl : k < p.length := by omega
  obtain ⟨ad, cs, rfl, hcs, u, rfl, hu⟩ := Sr0_at hv hkl
  have hnx := smP_take hkl
  have hsl := smP_le p (k + 1)
  have hzk := SzL_all p[k] (l - (p.length + smP (p.take k) : Nat)) u G (by omega) (by omega) hu
  generalize p[k] = q at hnx hzk hu
  obtain ⟨A1, c1, rfl, _⟩ := id hu
  refine S_index Tk J J J J J J (by omega) (by omega) ?_;refine Va J J ?_;refine S_load Tk J J J J J (by simpa [add_zero'] using gcells_at hcs 0 _ J) ?_;refine Va J J ?_;refine S_call Tryz.call19 hzk J J J ?_;rintro v1 G1 ⟨rfl, rfl⟩ _
  have hrr : szR (cntL q) (l - (p.length + smP (p.take k) : Nat)) = if ((p.length + smP (p.take (k + 1)) : Nat) : Int) ≤ l then l - (p.length + smP (p.take (k + 1)) : Nat) else -1 := by
   rw [hnx]; unfold szR; split <;> split <;> omega
  rw [hrr]
  by_cases hf : ((p.length + smP (p.take (k + 1)) : Nat) : Int) ≤ l
  ·rw [if_pos hf]
   refine Va J J ?_;refine RF J (by simp; omega) ?_;refine Va J J ?_;refine S_add J J J J (by omega) ?_;refine Va J J ?_;exact S_again (k + 1) ⟨by omega, hf⟩ (by omega) J ⟨⟨_, J, by simp [denO]⟩, ⟨_, J, J⟩, ⟨_, J, J⟩, trivial⟩ .nil
  ·rw [if_neg hf]
   refine Va J J ?_;refine RT J J ?_;refine Va J J ?_;exact S_retp (Res.t1 Tryz.results6 J J) XR ⟨by rw [szR, if_neg (by omega)], J⟩
 ·have e0 : k = p.length := by omega
  subst e0
  rw [List.take_length, ← hce] at hle ⊢
  exact S_retp (Res.t1 Tryz.results6 J J) XR ⟨by rw [szR, if_pos hle], J⟩
end
section
attribute [local irreducible] X Pure Mod
end
section
attribute [local irreducible] X Pure Mod
theorem prgs_cnt {G : PH} {p : List (List Stm)} {v : Value} (hc : cntP p ≤ 1048576) (h : Prg G p v) : PrgS G p v :=
 ⟨h, fun l hl => Sh_cnt (by have := cntP_mem hl; omega), by have := len_cntP p; omega⟩
theorem szR_two (c : Nat) : (c ≤ 1048576 ∧ szR c 1048576 = 1048576 - (c : Int)) ∨ (¬ c ≤ 1048576 ∧ szR c 1048576 = -1) := by
 unfold szR
 by_cases h : c ≤ 1048576
 ·exact .inl ⟨h, by rw [if_pos (by omega)]⟩
 ·exact .inr ⟨h, by rw [if_neg (by omega)]⟩
end
section
attribute [local irreducible] X Pure Mod
end
section
attribute [local irreducible] X Pure Mod
theorem ads_b {H : PH} {s : Shp} {v : Value} (hl : Lies H s v) {a : Addr} (ha : a ∈ adsV H s v) : (H a.block).isSome = true := isInt_some (adsV_int hl a ha)
theorem new_keptL {G3 G4 G5 G6 : PH} (h34 : G3.le G4) (h56 : G5.le G6) {qs : List Addr} (hq : ∀ a ∈ qs, (newp G3 G4 a.block).isSome = true) (k : Int) : (newp G4 G5).le (newp G3 (G3.un (wr (newp G3 G6) qs k))) := by
 intro b o hb
 have h4 : G4 b = none ∧ G5 b = some o := by
  unfold newp at hb
  cases hq : G4 b with
  | none => rw [hq] at hb; exact ⟨J, hb⟩
  | some o' => rw [hq] at hb; cases hb
 have h3 : G3 b = none := by
  cases hq : G3 b with
  | none => rfl
  | some o' => rw [h34 b o' hq] at h4; cases h4.1
 have hw : wr (newp G3 G6) qs k b = newp G3 G6 b := by
  refine wr_else _ _ _ fun a ha e => ?_
  have := (newp_some (hq a ha)).2
  rw [← e, h4.1] at this
  cases this
 have e6 : newp G3 G6 b = some o := by
  unfold newp
  rw [h3]
  exact h56 b o h4.2
 rw [e6] at hw
 unfold newp PH.un
 simp only [h3]
 exact hw
theorem new_kept {G3 G4 G5 G6 : PH} (h34 : G3.le G4) (h45 : G4.le G5) (h56 : G5.le G6) {s : Shp} {v : Value} (hf : FT G3 G4 s v) (k : Int) : (newp G4 G5).le (newp G3 (G3.un (wr (newp G3 G6) (adsV (newp G3 G6) s v) k))) := by
 have ht := Tn.of_le (newp_rt (G := G3) (h45.trans h56))
 rw [adsV_tn ht hf.1]
 exact new_keptL h34 h56 (fun a ha => ads_b hf.1 ha) k
theorem wr_le_un {G3 Gm : PH} (qs : List Addr) (k : Int) : (wr (newp G3 Gm) qs k).le (G3.un (wr (newp G3 Gm) qs k)) := by
 intro b o hb
 have h1 : ((newp G3 Gm) b).isSome = true := by rw [← wr_some qs _ k, hb]; rfl
 have h3 := (newp_some h1).1
 unfold PH.un
 rw [h3]
 exact hb
theorem FT_marks {G3 Gm : PH} {s : Shp} {v : Value} (hL : Lies (newp G3 Gm) s v) (hN : (adsV (newp G3 Gm) s v).Nodup) (hb : 1 + (numV s : Int) ≤ 1152921504606846976) :
  Lies (G3.un (wr (newp G3 Gm) (adsV (newp G3 Gm) s v) 1)) s v ∧ Hd (G3.un (wr (newp G3 Gm) (adsV (newp G3 Gm) s v) 1)) (adsV (G3.un (wr (newp G3 Gm) (adsV (newp G3 Gm) s v) 1)) s v) 1 := by
 have hi := adsV_int hL
 have hn := adsV_len (newp G3 Gm) s v
 have t1 := wr_tn (adsV (newp G3 Gm) s v) (newp G3 Gm) 1 hi (by omega) (by rw [hn]; omega)
 have hle := wr_le_un (G3 := G3) (Gm := Gm) (adsV (newp G3 Gm) s v) 1
 have t2 := t1.trans (Tn.of_le hle)
 refine ⟨Lies_tn t2 _ _ hL, ?_⟩
 rw [adsV_tn t2 hL]
 exact Hd_le hle (Hd_wr hi (by omega) (by rw [hn]; omega) hN)
theorem ext_wr {B : Nat} {G3 Gm : PH} (h : PH.ext B G3 Gm) (qs : List Addr) (k : Int) : PH.ext B G3 (G3.un (wr (newp G3 Gm) qs k)) := ext_un fun b o hb => by
 have h1 : ((newp G3 Gm) b).isSome = true := by rw [← wr_some qs _ k, hb]; rfl
 obtain ⟨h2, h3⟩ := newp_some h1
 obtain ⟨o', h4⟩ := Option.isSome_iff_exists.1 h3
 exact h.new b o' h4 h2
end
section
attribute [local irreducible] X Pure Mod
theorem num_endsP {p : List (List Stm)} {G : PH} {pv : Value} (hp : PrgS G p pv) : numV (shW (((endsP p).getD []).map wsh)) ≤ 100000000000000 := by
 rw [endsP_of]
 cases h : explP p with
 | none => simp [shW, numV, numR]
 | some Ws => simpa using num_ends (explP_ok hp h)
theorem c_FnExactAllEnds (p : List (List Stm)) (v0 : Value) (G : PH) (hTab : TabG G) (hp0 : Prg0 G p v0) : Pure Tryz.prog 5 [v0] G fun v G' => v = .bool true := by
 obtain ⟨Ap, cp, rfl, _⟩ := id hp0
 refine Pure.intro Tryz.func5 Tryz.ntmps5 J J fun w => ?_; refine Va J J ?_;refine S_call Tryz.call6 (c_szSS p _ 1048576 _ hp0 (by omega) (by omega)) J J J ?_;rintro v1 G1 ⟨rfl, rfl⟩ _
 rcases szR_two (cntP p) with ⟨hc, hz⟩ | ⟨hc, hz⟩ <;> rw [hz]
 rotate_left
 ·refine Va J J ?_
  refine RT J J ?_;refine Va J J ?_;exact S_retp (Res.t1 Tryz.results5 J J) XR J
 refine Va J J ?_;refine RF J (by simp; omega) ?_;refine Va J J ?_
 have hp := prg0_ok hc hp0
 refine S_call Tryz.call8 (c_toSS p _ _ hp hc) J J J ?_;rintro v2 G2 hp2 hext2
 obtain ⟨A2, c2, rfl, _⟩ := id hp2
 refine Va J J ?_
 have hnum := num_endsP (prgs_cnt hc hp2)
 have hcnt := num_cntP p
 have hI := fun v H h hT => c_iAllEndsN p v H (prgs_cnt hc h) hT
 have hI2 := fun v H h hT => c_iAllEnds p v H (prgs_cnt hc h) hT
 have hS := c_sAllEnds p _ _ (prgs_cnt hc hp2)
 generalize hWs : (endsP p).getD [] = Ws at hnum hI hI2 hS
 generalize (endsP p).isSome = ok at hI hI2 hS
 refine S_call Tryz.call13 hS J J J ?_;rintro v3 G3 ⟨lw, rfl, hw⟩ hext3
 obtain ⟨Aw, cw, rfl, _⟩ := id hw
 refine Va J J ?_
 have hx3 := hext2.trans hext3
 refine S_call Tryz.call8 (c_toSSN p _ _ (Prg_le hx3.le hp) hc) J J J ?_;rintro v4 G4 ⟨hp4, ft4⟩ hext4
 obtain ⟨A4, c4, rfl, _⟩ := id hp4
 have hx4 := hx3.trans hext4
 refine Va J J ?_;refine S_call Tryz.call14 (hI _ _ hp4 (TabG_le hx4.le hTab)) J J J ?_;rintro v5 G5 ⟨lg, rfl, hg, ftg⟩ hext5
 obtain ⟨Ag, cg, rfl, _⟩ := id hg
 have hx5 := hx4.trans hext5
 refine Va J J ?_;refine S_call Tryz.call15 (c_eqWorldS Ws _ _ _ hg (WsG_le (hext4.trans hext5).le hw)) J J J ?_;rintro v6 G5 ⟨rfl, rfl⟩ _
 refine Va J J ?_;refine GF J J J ?_;refine Va J J ?_;refine S_valV J J J (V_neqB g_boolY u_boolY J J) ?_;refine Va J J ?_;refine RF J (by simp) ?_;refine Va J J ?_;refine S_call Tryz.call8 (c_toSS p _ _ (Prg_le hx5.le hp) hc) J J J ?_;rintro v7 G6 hp6 hext6
 obtain ⟨A6, c6, rfl, _⟩ := id hp6
 refine Va J J ?_;refine S_call Tryz.call10 (c_eqSS p _ _ _ (Prg_le (hext5.trans hext6).le hp4) hp6) J J J ?_;rintro v8 G6 ⟨rfl, rfl⟩ _
 refine Va J J ?_;refine RF J J ?_;refine Va J J ?_
 -- the arguments are marked
 have h36 := (hext4.trans hext5).trans hext6
 have hLx : Lies (newp G3 G6) (shTT p) (.slice A4 p.length c4) := (ft4.mono (hext5.trans hext6).le).1
 refine S_thaw 70 (G0 := G3) J h36.le (fun b o hb hn => .inr (h36.new b o hb hn)) ?_;refine S_callM 70 Tryz.call16 (c_markStmtSS p _ _ _ _ hLx (by omega) (by omega)) J J J J (fun _ => J) ?_;rintro v9 G3 A9 ⟨rfl, rfl, rfl⟩ _
 refine S_frH 70 J J fun _ _ => ?_
 have hkept := new_kept hext4.le hext5.le hext6.le ft4 1
 have hm8 := ext_wr h36 (adsV (newp G3 G6) (shTT p) (.slice A4 p.length c4)) 1
 generalize G3.un (wr (newp G3 G6) (adsV (newp G3 G6) (shTT p) (.slice A4 p.length c4)) 1) = Gm at hkept hm8 ⊢
 have hgm : WsG (newp G4 G5) Ws (.slice Ag Ws.length cg) := WsG_dn (newp_le _ _) hg ftg.1
 have htm := Tn.of_le hkept
 refine Va J J ?_;refine GF J J (by simp; omega) ?_;refine Va J J ?_;refine S_call Tryz.call15 (c_eqWorldS Ws _ _ _ (WsG_le (hkept.trans (newp_le _ _)) hgm) (WsG_le hm8.le hw)) J J J ?_;rintro v10 Gm ⟨rfl, rfl⟩ _
 refine Va J J ?_;refine GF J J J ?_;refine Va J J ?_;refine S_valV J J J (V_neqB g_boolY u_boolY J J) ?_;refine Va J J ?_;refine RF J (by simp) ?_;refine Va J J ?_
 -- what was handed out is marked
 have hLg : Lies (newp G3 Gm) (shW (Ws.map wsh)) (.slice Ag Ws.length cg) := Lies_tn htm _ _ ftg.1
 have hNg : (adsV (newp G3 Gm) (shW (Ws.map wsh)) (.slice Ag Ws.length cg)).Nodup := by rw [adsV_tn htm ftg.1]; exact ftg.2
 refine S_thaw 71 (G0 := G3) J hm8.le (fun b o hb hn => .inr (hm8.new b o hb hn)) ?_;refine S_callM 71 Tryz.call17 (c_markWorldS (Ws.map wsh) _ _ _ _ hLg (by omega) (by omega)) J J J J (fun _ => J) ?_;rintro v11 G3 A11 ⟨rfl, rfl, rfl⟩ _
 refine S_frH 71 J J fun _ _ => ?_;obtain ⟨hLn, hHn⟩ := FT_marks hLg hNg (by omega)
 have hm9 := ext_wr hm8 (adsV (newp G3 Gm) (shW (Ws.map wsh)) (.slice Ag Ws.length cg)) 1
 generalize G3.un (wr (newp G3 Gm) (adsV (newp G3 Gm) (shW (Ws.map wsh)) (.slice Ag Ws.length cg)) 1) = Gn at hLn hHn hm9 ⊢
 refine Va J J ?_;refine S_call Tryz.call18 (c_heldWorldS (Ws.map wsh) _ _ _ hLn (by omega) (by omega) hHn) J J J ?_;rintro v12 Gn ⟨rfl, rfl⟩ _
 refine Va J J ?_;refine RF J (by simp; omega) ?_;refine Va J J ?_;refine RF J (by simp) ?_;refine Va J J ?_
 have hx9 := hx3.trans hm9
 refine S_call Tryz.call8 (c_toSS p _ _ (Prg_le hx9.le hp) hc) J J J ?_;rintro v13 G12 hp12 hext12
 obtain ⟨A12, c12, rfl, _⟩ := id hp12
 refine Va J J ?_;refine S_call Tryz.call14 (hI2 _ _ hp12 (TabG_le (hx9.trans hext12).le hTab)) J J J ?_;rintro v14 G13 ⟨lh, rfl, hh⟩ hext13
 obtain ⟨Ah, ch, rfl, _⟩ := id hh
 have hx13 := (hx9.trans hext12).trans hext13
 refine Va J J ?_;refine S_call Tryz.call15 (c_eqWorldS Ws _ _ _ hh (WsG_le ((hm9.trans hext12).trans hext13).le hw)) J J J ?_;rintro v15 G13 ⟨rfl, rfl⟩ _
 refine Va J J ?_;refine GF J J J ?_;refine Va J J ?_;refine S_valV J J J (V_neqB g_boolY u_boolY J J) ?_;refine Va J J ?_;refine RF J (by simp) ?_;refine Va J J ?_
 have hle := (hext12.trans hext13).le
 have htn := Tn.of_le hle
 refine S_call Tryz.call18 (c_heldWorldS (Ws.map wsh) _ _ _ (Lies_tn htn _ _ hLn) (by omega) (by omega) (by rw [adsV_tn htn hLn]; exact Hd_le hle hHn)) J J J ?_;rintro v16 G13 ⟨rfl, rfl⟩ _
 refine Va J J ?_;refine RF J (by simp; omega) ?_;refine Va J J ?_;refine RF J (by simp) ?_;refine Va J J ?_;exact S_retp (Res.t1 Tryz.results5 J J) hx13 J
end
section
open Go.ChangeShapes Go.WideShapes Go.ChangeAt Go.RowKit
theorem own : ownKnob Tryz.prog.godebug = none := by kernel_rfl
theorem laidOut : laidOutB Tryz.prog = true := by kernel_rfl
def laidT : List (String × DataW Unit) := [("math/bits.deBruijn32tab", Rows.laid_math_bits_deBruijn32tab), ("math/bits.deBruijn64tab", Rows.laid_math_bits_deBruijn64tab), ("internal/strconv.uint64pow10", Rows.laid_internal_strconv_uint64pow10)]
theorem door_met (os : Os) (args : Array Value) : laidMetH Tryz.prog laidT ((World.doorLaid Tryz.prog 24 os).forCall (fun _ _ => 0) ⟨#[], args, []⟩).memory :=
 laidMetH_of_parts3 (fuel := 8) (laidMet_of_run' 8 (by kernel_rfl) (by kernel_rfl)) (by kernel_rfl) (by kernel_rfl)
theorem gPow : Tryz.prog.globalNamed "internal/strconv.uint64pow10" = some 0 := by kernel_rfl
theorem tPow : (Tryz.prog.globals[0]?).map (·.type) = some 184 := by kernel_rfl
theorem uPow : Tryz.prog.underlying 184 = some (.array 20 176) := by kernel_rfl
theorem uElem : Tryz.prog.underlying 176 = some (.int .u64) := by kernel_rfl
theorem cElem : Tryz.prog.cellsOf 176 = 1 := by kernel_rfl
theorem cPow : Tryz.prog.cellsOf 184 = 20 := by kernel_rfl
theorem pow_eq : (Rows.laid_internal_strconv_uint64pow10 : DataW Unit) = Lib.tabData .u64 Lib.pow10Tab := by
 simp [Rows.laid_internal_strconv_uint64pow10, Lib.tabData, Lib.pow10Tab, List.range, List.range.loop]
theorem of_laid {W : World} (h : laidMetH Tryz.prog laidT W) : Lib.TabIs Tryz.prog W "internal/strconv.uint64pow10" .u64 Lib.pow10Tab := by
 rw [MakeChecks.laidMetH_plain _ _ _ (by kernel_rfl)] at h
 have h2 : laidMet Tryz.prog [("internal/strconv.uint64pow10", Rows.laid_internal_strconv_uint64pow10)] W := h.tail.tail
 rw [pow_eq] at h2
 exact Lib.tabIs_of_head gPow tPow uPow uElem cElem cPow h2
end
section
open Go.ChangeShapes Go.WideShapes Go.ChangeAt Go.RowKit
def GA (w : World) : PH := fun b => w.heap[b]?
theorem GA_emb (w : World) : Emb (GA w) w := fun b o h => h
theorem gcell_GA {w : World} {a : Addr} {v : Value} (h : w.cell? a = some v) : gcell (GA w) a = some v := by
 unfold gcell GA
 unfold World.cell? at h
 cases ho : w.heap[a.block]? with
 | none => simp [ho] at h
 | some o => cases o <;> simp_all
theorem gcells_GA {w : World} {a : Addr} {n : Nat} {cs : List Value} (h : w.cells? 0 a n = some cs) : gcells (GA w) a cs ∧ cs.length = n := by
 unfold World.cells? at h
 rw [if_pos (Nat.zero_le _)] at h
 have hl : cs.length = n := by simpa using mapM_some_length h
 refine ⟨gcells_of fun j v hj => gcell_GA ?_, hl⟩
 have hjl : j < n := by rw [← hl]; exact (List.getElem?_eq_some_iff.1 hj).1
 have := mapM_some_get h j j (by simp [hjl])
 rw [this, hj]
theorem Rw_build {α : Type} {G : PH} {sz : Nat} {rep : α → List Value → Prop} : ∀ (n : Nat) (a : Addr), (∀ i, i < n → ∃ s cs, gcells G (a.add (i * sz)) cs ∧ rep s cs) → ∃ L : List α, L.length = n ∧ Rw G sz rep L a
 | 0, a, _ => ⟨[], rfl, trivial⟩
 | n + 1, a, h => by
  obtain ⟨s, cs, h1, h2⟩ := h 0 (by omega)
  obtain ⟨L, h3, h4⟩ := Rw_build (G := G) (sz := sz) (rep := rep) n (a.add sz) fun i hi => by
   obtain ⟨s, cs, h1, h2⟩ := h (i + 1) (by omega)
   refine ⟨s, cs, ?_, h2⟩
   rw [add_add', show sz + i * sz = (i + 1) * sz by rw [Nat.succ_mul]; omega]
   exact h1
  exact ⟨s :: L, by simp [h3], ⟨cs, by simpa [add_zero'] using h1, h2⟩, h4⟩
theorem i64_wf {n : Int} (h : (Lit.int .i64 n).wf = true) : I64 n := by
 have e1 : IntKind.i64.min = -9223372036854775808 := rfl
 have e2 : IntKind.i64.max = 9223372036854775807 := rfl
 simp only [Lit.wf, Bool.and_eq_true, decide_eq_true_eq, e1, e2] at h
 exact h
theorem cI : Tryz.prog.cellsOf 3 = 1 := by kernel_rfl
theorem cLS : Tryz.prog.cellsOf 39 = 1 := by kernel_rfl
theorem cLT : Tryz.prog.cellsOf 75 = 6 := by kernel_rfl
section
variable {H : Type} {enc : TypeId × Value → H} {W : World}
theorem fld_of {fs : Array Field} {xs : List (DataW H × List MemPlace)} {cs : List Value} {n2 : Nat} (hf : ∀ (i : Nat) (f : Field), fs[i]? = some f → DataW.trod enc Tryz.prog W 0 (fun _ => true) true n2 f.type ((cs.drop f.offset).take (Tryz.prog.cellsOf f.type)) = xs[i]?)
  (j ty off : Nat) (y : DataW H × List MemPlace) (hy : xs[j]? = some y) (h : ∃ f : Field, fs[j]? = some f ∧ f.type = ty ∧ f.offset = off) : DataW.trod enc Tryz.prog W 0 (fun _ => true) true n2 ty ((cs.drop off).take (Tryz.prog.cellsOf ty)) = some y := by
 obtain ⟨f, hj, rfl, rfl⟩ := h
 exact (hf j f hj).trans hy
theorem trod_sts : ∀ (fuel : Nat) (cs : List Value) (x : DataW H × List MemPlace), DataW.trod enc Tryz.prog W 0 (fun _ => true) true fuel 39 cs = some x → ∃ L v, cs = [v] ∧ Sts0 (GA W) L v := by
 intro fuel
 induction fuel using Nat.strongRecOn with
 | ind fuel ih =>
  intro cs x h
  rcases DataW.trod_slice Tryz.underlying39 h with ⟨rfl, _⟩ | ⟨a, len, cap, elems, rest, n1, rfl, rfl, _, _, hlc, hcm, hel, hat, _, _⟩
  ·exact ⟨[], _, J, none, 0, J, by simp, by simp [maxLen], .inl J⟩
  ·obtain ⟨L, hL, hR⟩ := Rw_build (G := GA W) (sz := 6) (rep := Stm.rep0 (GA W)) len a fun i hi => by
    have h1 := hat i hi
    rw [cLT] at h1
    obtain ⟨e, he⟩ : ∃ e, elems[i]? = some e := ⟨elems[i], List.getElem?_eq_getElem (by omega)⟩
    rw [he, Option.bind_eq_some_iff] at h1
    obtain ⟨cs1, h2, h3⟩ := h1
    obtain ⟨g1, g2⟩ := gcells_GA h2
    obtain ⟨xs, n2, rfl, _, _, hxl, hf⟩ := DataW.trod_struct Tryz.underlying75 h3
    obtain ⟨c0, c1, c2, c3, c4, c5, rfl⟩ : ∃ c0 c1 c2 c3 c4 c5, cs1 = [c0, c1, c2, c3, c4, c5] := by
     match cs1, g2 with
     | [c0, c1, c2, c3, c4, c5], _ => exact ⟨c0, c1, c2, c3, c4, c5, rfl⟩
    have get : ∀ j, j < 6 → ∃ y, xs[j]? = some y := fun j hj => ⟨xs[j]'(by rw [hxl]; exact hj), List.getElem?_eq_getElem _⟩
    obtain ⟨y0, p0⟩ := get 0 (by omega)
    obtain ⟨y1, p1⟩ := get 1 (by omega)
    obtain ⟨y2, p2⟩ := get 2 (by omega)
    obtain ⟨y3, p3⟩ := get 3 (by omega)
    obtain ⟨y4, p4⟩ := get 4 (by omega)
    obtain ⟨y5, p5⟩ := get 5 (by omega)
    have fld := @fld_of H enc W _ xs _ n2 hf
    have f0 := fld 0 3 0 _ p0 ⟨_, rfl, rfl, rfl⟩
    have f1 := fld 1 3 1 _ p1 ⟨_, rfl, rfl, rfl⟩
    have f2 := fld 2 3 2 _ p2 ⟨_, rfl, rfl, rfl⟩
    have f3 := fld 3 3 3 _ p3 ⟨_, rfl, rfl, rfl⟩
    have f4 := fld 4 39 4 _ p4 ⟨_, rfl, rfl, rfl⟩
    have f5 := fld 5 39 5 _ p5 ⟨_, rfl, rfl, rfl⟩
    rw [cI] at f0 f1 f2 f3
    rw [cLS] at f4 f5
    obtain ⟨z0, r0, _, w0⟩ := DataW.trod_int Tryz.underlying3 f0
    obtain ⟨z1, r1, _, w1⟩ := DataW.trod_int Tryz.underlying3 f1
    obtain ⟨z2, r2, _, w2⟩ := DataW.trod_int Tryz.underlying3 f2
    obtain ⟨z3, r3, _, w3⟩ := DataW.trod_int Tryz.underlying3 f3
    obtain ⟨x4, v4, r4, q4⟩ := ih n2 (by omega) _ _ f4
    obtain ⟨x5, v5, r5, q5⟩ := ih n2 (by omega) _ _ f5
    simp only [List.drop_succ_cons, List.drop_zero, List.take_succ_cons, List.take_zero, List.cons.injEq, and_true] at r0 r1 r2 r3 r4 r5
    refine ⟨.mk z0 z1 z2 z3 x4 x5, _, g1, Stm.rep0_iff.2 ⟨v4, v5, ?_, i64_wf w0, i64_wf w1, i64_wf w2, i64_wf w3, q4, q5⟩⟩
    rw [r0, r1, r2, r3, r4, r5]
   exact ⟨L, _, J, some a, cap, by rw [hL], by omega, hcm, .inr ⟨a, J, hR⟩⟩
theorem trod_prg {fuel : Nat} {cs : List Value} {x : DataW H × List MemPlace} (h : DataW.trod enc Tryz.prog W 0 (fun _ => true) true fuel 22 cs = some x) : ∃ p v, cs = [v] ∧ Prg0 (GA W) p v := by
 rcases DataW.trod_slice Tryz.underlying22 h with ⟨rfl, _⟩ | ⟨a, len, cap, elems, rest, n1, rfl, rfl, _, _, hlc, hcm, hel, hat, _, _⟩
 ·exact ⟨[], _, J, none, 0, J, by simp, by simp [maxLen], .inl J⟩
 ·obtain ⟨L, hL, hR⟩ := Rw_build (G := GA W) (sz := 1) (rep := stsRep0 (GA W)) len a fun i hi => by
   have h1 := hat i hi
   rw [cLS] at h1
   obtain ⟨e, he⟩ : ∃ e, elems[i]? = some e := ⟨elems[i], List.getElem?_eq_getElem (by omega)⟩
   rw [he, Option.bind_eq_some_iff] at h1
   obtain ⟨cs1, h2, h3⟩ := h1
   obtain ⟨g1, g2⟩ := gcells_GA h2
   obtain ⟨L1, v1, rfl, q⟩ := trod_sts _ _ _ h3
   exact ⟨L1, _, g1, v1, J, q⟩
  exact ⟨L, _, J, some a, cap, by rw [hL], by omega, hcm, .inr ⟨a, J, hR⟩⟩
end
theorem TabG_GA {w : World} (hT : Lib.TabIs Tryz.prog w "internal/strconv.uint64pow10" .u64 Lib.pow10Tab) : TabG (GA w) := by
 obtain ⟨g, hg, o, ho⟩ : ∃ g, Tryz.prog.globalNamed "internal/strconv.uint64pow10" = some g ∧ ∃ o, w.heap[g]? = some o := by
  unfold Lib.TabIs World.var? at hT
  cases hg : Tryz.prog.globalNamed "internal/strconv.uint64pow10" with
  | none => rw [hg] at hT; cases hT
  | some g =>
   refine ⟨g, J, ?_⟩
   rw [hg] at hT
   cases ho : w.heap[g]? with
   | none => simp [ho] at hT
   | some o => exact ⟨o, rfl⟩
 intro w' hw'
 have h1 : w'.heap[g]? = some o := hw' g o ho
 unfold Lib.TabIs World.var? at hT ⊢
 rw [hg] at hT ⊢
 simp only [Option.bind_some, ho, h1] at hT ⊢
 exact hT
theorem lawPT {f : FuncId} {pv : Value} {w : World} (hT : Lib.TabIs Tryz.prog w "internal/strconv.uint64pow10" .u64 Lib.pow10Tab) (h : ∃ p, Prg0 (GA w) p pv)
  (hc : ∀ G p, TabG G → Prg0 G p pv → Pure Tryz.prog f [pv] G fun v G' => v = .bool true) :
  Calls Tryz.prog f #[pv] w fun e w' => e = .returned (.bool true) ∧ Below w.heap.size w w' := by
 obtain ⟨p, hp⟩ := h
 exact (hc (GA w) p (TabG_GA hT) hp w (GA_emb w)).mono fun e w' ⟨v, G', h1, h2, h3, h4, h5⟩ => ⟨by rw [h1, h2], h5⟩
end
end Go.Proofs.YtcbdilccmjpnbaaGreatDoor
