/- Walks of the program's functions, one after the other (part 10); without conditions of their own. -/
import Derived.Test.YtcbdilccmjpnbaaGreatDoorWM2
import Derived.Test.YtcbdilccmjpnbaaGreatDoorWM3
import Derived.Test.YtcbdilccmjpnbaaGreatDoorWM5
import Derived.Test.YtcbdilccmjpnbaaGreatDoorWM7
import Derived.Test.YtcbdilccmjpnbaaGreatDoorWM8
import Derived.Test.YtcbdilccmjpnbaaGreatDoorWM9
import Derived.Below
import Derived.ChangeOld
import Derived.LaidMore
import Derived.MakeChecks
import Derived.OpenShut
import Derived.ProofKit
import Derived.ShutString
import Derived.Stop.LaidErr
import Derived.Test.YtcbdilccmjpnbaaGreatDoorRows
import Derived.WalkKit
set_option linter.unusedVariables false
set_option linter.unusedSimpArgs false
set_option maxRecDepth 100000
set_option maxHeartbeats 4000000
open Go.RowKit
namespace Go.Proofs.YtcbdilccmjpnbaaGreatDoor
section
def YieldM (P : Program) (l : Nat) (vs : List Value) (G : PH) (A At Af : HP) : Prop :=
 ∀ W S, Emb G W → A.holds W S → (∀ b, S b → G b = none) → YieldAt (FW none) 0 P l vs.toArray W (YieldR W S At Af)
theorem YieldM.le {P : Program} {l : Nat} {vs : List Value} {G G' : PH} {A At Af : HP} (h : YieldM P l vs G A At Af) (hG : G.le G') : YieldM P l vs G' A At Af := fun W S hE hA hS =>
 h W S (fun b o hb => hE b o (hG b o hb)) hA fun b hb => by
  cases hq : G b with
  | none => rfl
  | some o => have := hG b o hq; rw [hS b hb] at this; cases this
section
variable {C : Ctx} {k : List It} {E : Env} {ι : Ids} {L : List Ent} {G : PH} {all : Array Oper} {l : List Oper}
theorem S_yield (κ y : Nat) {A At Af : HP} {L' : HP → List Ent} {d : Nat} {x : Operand} {xs : Array Operand} {ats : Array TypeId} {ty : Nat} {pos : String} {af : Array Edge} {g : Option (Nat × Bool)} {vs : List Value} (hr : C.r = none) (hx : ev E x = some (.val (.func (.yield y) #[] #[])))
  (hy : YieldM C.P y vs G A At Af) (hg : guardOf all E g = .on) (hN : Nat.ble (d + 1) C.n = true) (hxs : evs ι E xs.toList = some vs) (hL : getH κ L = some A) (hL' : ∀ A', setH κ A' L = some (L' A'))
  (ht : X C (.ops all l :: k) ((d, .val (.bool true)) :: E) ι (L' At) G) (hf : X C (.ops all l :: k) ((d, .val (.bool false)) :: E) ι (L' Af) G) : X C (.ops all (⟨some d, .call ⟨.value x, xs, ats⟩, ty, pos, af, g⟩ :: l) :: k) E ι L G := by
 intro a w h1 h2 h3 h4
 have hdn : d < a.tmps.size := by rw [h2]; exact Nat.le_of_ble_eq_true hN
 obtain ⟨S, hA, hSG, hturn⟩ := h4.turn hL
 obtain ⟨fn, tmps, assign, body, hrun, hround⟩ := hy w S h4.emb hA hSG
 have hfv := ev_sound h3 hx
 simp only [denO, Option.some.injEq] at hfv
 have hvs := evs_sound h3 hxs
 show wpListIn _ _ _ _ _ _ _ _
 unfold wpListIn
 rw [if_pos (guardOf_on h3 hg)]
 refine ⟨fun _ _ => trivial, ?_⟩
 rw [Oper.semAt_eq _ _ _ (by intro c h; cases h)]
 have hrun2 : (execOp a.eval ⟨some d, .call ⟨.value x, xs, ats⟩, ty, pos, af, g⟩).run C.P w = .ok (.round y fn tmps assign body) w := by
  have e1 : xs.map a.eval = vs.toArray := by
   rw [← hvs]; cases xs; simp
  simp only [execOp, resolve, ← hfv]
  simp [Deferred.ofValue, invoke, e1, callFunc, hrun]
  done
 rw [hrun2]
 simp only [Oper.uponIn]
 refine ⟨fun h => by simp [FW, Fence.wide] at h, ?_⟩
 refine RoundIn.mono (F := FW C.r) (by rw [hr]; exact hround) ?_
 have fin : ∀ (v : Value) (A' : HP) (w' : World) (S' : Nat → Prop), (∀ b, S' b → S b ∨ w.heap.size ≤ b) → Frm S w w' → A'.holds w' S' → SatW C ι (L' A') G w' := by
  intro v A' w' S' hS' hF hA'
  refine hturn A' _ G w' S' (hL' A') hA' (fun b o hb => ?_) XR (fun b hb => ⟨?_, hS' b hb⟩) hF.os hF.tape hF.output hF.size hF.keep
  ·have hlt : b < w.heap.size := (Array.getElem?_eq_some_iff.1 (h4.emb b o hb)).1
   rw [hF.keep b hlt (fun hs => by rw [hSG b hs] at hb; cases hb)]
   exact h4.emb b o hb
  ·cases hq : G b with
   | none => rfl
   | some o =>
    rcases hS' b hb with h | h
    ·rw [hSG b h] at hq; cases hq
    ·have hlt : b < w.heap.size := (Array.getElem?_eq_some_iff.1 (h4.emb b o hq)).1
     omega
 rintro e w' ⟨S', hS', hF, ⟨rfl, hA'⟩ | ⟨rfl, hA'⟩⟩
 ·exact ht (a.put (some d) (.bool true)) w' h1 (by simp [Act.put, h2]) (h3.put hdn J) (fin (.bool true) _ _ _ hS' hF hA')
 ·exact hf (a.put (some d) (.bool false)) w' h1 (by simp [Act.put, h2]) (h3.put hdn J) (fin (.bool false) _ _ _ hS' hF hA')
theorem S_newB {d t : Nat} {op : Op} {ty : Nat} {pos : String} {af : Array Edge} {g : Option (Nat × Bool)} (hg : guardOf all E g = .on) (hnd : ∀ c, op ≠ .defer c) (hN : Nat.ble (d + 1) C.n = true) (hd : lookI d ι = none) {cs : List Cel}
  (hr : ∀ a w, AgE ι E a → SatW C ι L G w → ∃ vs, denL ι cs = some vs ∧ (execOp a.eval ⟨some d, op, ty, pos, af, g⟩).run C.P w = .ok (.value (.pointer (some ⟨w.heap.size, 0, none⟩))) (w.alloc (.cells vs.toArray t)))
  (hx : ∀ b, C.w0.heap.size ≤ b → X C (.ops all l :: k) ((d, .ptr d 0) :: E) ((d, b) :: ι) (.blk d t cs :: L) G) : X C (.ops all (⟨some d, op, ty, pos, af, g⟩ :: l) :: k) E ι L G := by
 intro a w h1 h2 h3 h4
 obtain ⟨vs, hvs, hrun⟩ := hr a w h3 h4
 refine wpE_val (guardOf_on h3 hg) hnd hrun ?_
 have hdn : d < a.tmps.size := by rw [h2]; exact Nat.le_of_ble_eq_true hN
 exact hx w.heap.size h4.size _ _ h1 (by simp [Act.put, h2]) ((h3.ids hd).put hdn (by simp [denO, lookI])) (h4.alloc hd cs hvs)
theorem S_boxB {d t : Nat} {x : Operand} {ty : Nat} {pos : String} {af : Array Edge} {g : Option (Nat × Bool)} {s : Sym} {cs : List Cel} (hg : guardOf all E g = .on) (hN : Nat.ble (d + 1) C.n = true) (hd : lookI d ι = none)
  (hx : ev E x = some s) (hc : cellsS s = some cs) (hk : ∀ b, C.w0.heap.size ≤ b → X C (.ops all l :: k) ((d, .ptr d 0) :: E) ((d, b) :: ι) (.blk d t cs :: L) G) : X C (.ops all (⟨some d, .box t x, ty, pos, af, g⟩ :: l) :: k) E ι L G := by
 refine S_newB (t := t) (cs := cs) hg (by intro c h; cases h) hN hd ?_ hk
 intro a w hE hw
 have ex := ev_sound hE hx
 exact ⟨_, cellsS_eq hc ex, by simp [execOp, Instr.box, newVar, newRow]⟩
theorem S_allocB {Z : ZTab} (hZ : zOk C.P Z) {d t : Nat} {z : ZI} {ty : Nat} {pos : String} {af : Array Edge} {g : Option (Nat × Bool)} (hz : lookZ t Z = some z) (hg : guardOf all E g = .on) (hN : Nat.ble (d + 1) C.n = true) (hd : lookI d ι = none)
  (hk : ∀ b, C.w0.heap.size ≤ b → X C (.ops all l :: k) ((d, .ptr d 0) :: E) ((d, b) :: ι) (.blk d t (vL z.zs) :: L) G) : X C (.ops all (⟨some d, .alloc t, ty, pos, af, g⟩ :: l) :: k) E ι L G := by
 obtain ⟨inf, v, hi, hv, hb, hc, _⟩ := viewZ_eq (hZ _ _ hz)
 refine S_newB (t := t) (cs := vL z.zs) hg (by intro c h; cases h) hN hd ?_ hk
 intro a w hE hw
 exact ⟨z.zs, denL_vL ι z.zs, by simp [execOp, Instr.alloc, newVar, newRow, zeroValue, typeInfo, hi, hv, hc]⟩
end
theorem IterR_of {α : Type} {P : Program} {gf : Nat} {cap : Array Value} {G : PH} {enc : α → List Value → Prop} {xs : List α}
  (h : ∀ (l : Nat) (A Ax : List α → HP), (∀ pre x vs, (pre ++ [x]) <+: xs → enc x vs → YieldM P l vs G (A pre) (A (pre ++ [x])) (Ax (pre ++ [x]))) →
   Mod P gf (.func (.yield l) #[] #[] :: cap.toList) G (A []) fun v G' A' => A' = A xs ∨ ∃ pre, A' = Ax pre) : IterR P gf cap G enc xs := by
 intro l A Ax W0 S0 hE hA hS hY
 have := h l A Ax (fun pre x vs hpre henc W S hE hA hS => hY pre x vs W S hpre henc hE hA hS) W0 S0 hE hA hS
 rw [show (.func (.yield l) #[] #[] :: cap.toList).toArray = #[.func (.yield l) #[] #[]] ++ cap by cases cap; simp] at this
 refine this.mono ?_;rintro e w' ⟨v, G', A', S', rfl, hp, hA', hext, hemb, hS', e1, e2, e3, e4, hkeep⟩
 refine ⟨v, S', rfl, fun b hb => (hS' b hb).2, ⟨e1, e2, e3, e4, hkeep⟩, ?_⟩
 rcases hp with rfl | ⟨pre, rfl⟩
 ·exact .inl hA'
 ·exact .inr ⟨pre, hA'⟩
end
section
def KC (P : Program) (n : Nat) (fn : Func) (G : PH) (Post : Value → Prop) (w : World) : Ctx := ⟨P, none, n, bodyPostM (FW none) 0 P fn (PureR G w fun v G' => Post v ∧ G' = G), w, fun _ => False, true⟩
theorem Pure.introM {P : Program} {f : FuncId} {fn : Func} {c : Code} {vs : List Value} {G : PH} {Post : Value → Prop} {n : Nat} (hf : P.funcs[f]? = some fn) (hn : fn.ntmps = n) (hb : fn.body = some c) (hle : Nat.ble vs.length n = true)
  (hx : ∀ w, Emb G w → X (KC P n fn G Post w) [.code c] (envOf 0 vs) [] [] G) : Pure P f vs G fun v G' => Post v ∧ G' = G := by
 intro w hw
 have hle' : vs.length ≤ n := Nat.le_of_ble_eq_true hle
 refine (callsIn_FW (r := none) (n := 0)).1 (callsIn_of_wp_marks hf hb trivial ?_ J)
 refine hx w hw { tmps := vs.toArray ++ Array.replicate (fn.ntmps - vs.toArray.size) undef, defers := [] } w DfsOk.nil (by simp [hn, KC]; omega) ?_ ?_
 ·intro i s hi
  obtain ⟨_, v, hv, rfl⟩ := look_envOf hi
  refine ⟨v, J, ?_⟩
  simp only [Nat.sub_zero] at hv
  rw [Array.getElem?_append_left (by
   have := (List.getElem?_eq_some_iff.1 hv).1
   simpa using this)]
  simpa using hv
 ·exact ⟨rfl, rfl, rfl, Nat.le_refl _, fun _ _ _ => rfl, hw, [], trivial, fun T hT => by cases hT⟩
theorem leaveM {P : Program} {fn : Func} {tmps : Array Value} {R : Ending → World → Prop} {w0 : World} {v : Value} (hres : ∀ w, (results fn tmps).run P w = .ok v w) (hR : ∀ w, Below w0.heap.size w0 w → R (.returned v) w) :
  ∀ (Ds : List Nat) (w : World), Ds.Nodup → (∀ D ∈ Ds, w0.heap.size ≤ D ∧ w.heap[D]? = some (.deferred (some []))) → Below w0.heap.size w0 w → LeavesInM (FW none) 0 P fn tmps R (Ds.map fun D => { target := .collected D, args := #[] }) .returning w := by
 intro Ds
 induction Ds with
 | nil => intro w _ _ hb; exact ⟨v, hres w, hR w hb⟩
 | cons D Ds ih =>
  intro w hn hD hb
  obtain ⟨h1, h2⟩ := hD D (List.mem_cons_self ..)
  refine ⟨by simp, .inl ⟨_, _, J, run_takeDeferred h2, ih _ (List.nodup_cons.1 hn).2 ?_ ?_⟩⟩
  ·intro D' hD'
   obtain ⟨h3, h4⟩ := hD D' (List.mem_cons_of_mem _ hD')
   refine ⟨h3, ?_⟩
   rw [World.putObj_heap_other (by rintro rfl; exact (List.nodup_cons.1 hn).1 hD')]
   exact h4
  ·refine ⟨hb.os, hb.tape, hb.output, ?_, fun b hb' => ?_⟩
   ·have := hb.size; simp; omega
   ·rw [World.putObj_heap_other (by omega)]
    exact hb.block b hb'
section
variable {P : Program} {fn : Func} {n : Nat} {G0 G : PH} {Post : Value → Prop} {w0 : World} {k : List It} {E : Env} {ι : Ids} {L : List Ent}
theorem S_retK {t : Nat} {s : Sym} {v : Value} (hw0 : Emb G0 w0) (hr : fn.results = #[.tmp t]) (hl : look t E = some s) (hv : denO ι s = some v) (hp : Post v) : X (KC P n fn G0 Post w0) (.code .ret :: k) E ι L G := by
 intro a w h1 h2 h3 h4
 refine wpE_ret (wpE_out k ?_)
 obtain ⟨Ds, d1, d2, d3⟩ := h1
 show LeavesInM _ _ _ _ _ _ a.defers .returning w
 rw [d2]
 refine leaveM (w0 := w0) (v := v) (fun w' => ?_) (fun w' hb => ?_) Ds w d1 (fun D hD => ⟨(d3 D hD).1, h4.emb _ _ (d3 D hD).2⟩) (h4.below fun _ h => h)
 ·obtain ⟨u, hu, ht⟩ := h3 t s hl
  rw [hv] at hu; cases hu
  rw [results_tmp hr]
  simp [Array.getD_eq_getD_getElem?, ht]
 ·refine ⟨v, G0, rfl, ⟨hp, rfl⟩, PH.ext.refl _ _, fun b o hbo => ?_, hb⟩
  have hlt : b < w0.heap.size := (Array.getElem?_eq_some_iff.1 (hw0 b o hbo)).1
  rw [hb.block b hlt]
  exact hw0 b o hbo
end
def deadHP : HP where
 holds _ _ := False
 loc _ _ _ h _ := h
 lt _ _ h := h.elim
theorem S_dead {C : Ctx} {k : List It} {E : Env} {ι : Ids} {L : List Ent} {G : PH} (κ : Nat) (hL : getH κ L = some deadHP) : X C k E ι L G := by
 intro a w h1 h2 h3 h4
 obtain ⟨S, hA, _⟩ := h4.turn hL
 exact hA.elim
end
section
attribute [local irreducible] X Pure Mod
theorem any_at {α : Type} {L : List α} {p : α → Bool} {k : Nat} (hk : k < L.length) (h : p L[k] = true) : L.any p = true := List.any_eq_true.2 ⟨_, List.getElem_mem hk, h⟩
theorem any_not {α : Type} {L : List α} {p : α → Bool} (h : ∀ j (hj : j < L.length), p L[j] = false) : L.any p = false := by
 rw [List.any_eq_false]
 intro s hs
 obtain ⟨j, hj, rfl⟩ := List.getElem_of_mem hs
 simp [h j hj]
theorem c_IndexStm (L : List Stm) (p : Stm → Bool) (fid : Nat) (cap : Array Value) (v : Value) (G : PH) (hv : Sts G L v) (hcf : ∀ args w, (callFunc fid args).run Tryz.prog w = .ok (.enter fid args) w)
  (hp : ∀ k (hk : k < L.length) cs, Stm.rep G L[k] cs → Pure Tryz.prog fid (.agg cs.toArray :: cap.toList) G fun v G' => v = .bool (p L[k]) ∧ G' = G) :
  Pure Tryz.prog 103 [v, .func (.func fid) #[] cap] G fun v G' => (∃ r : Int, v = .int .i64 r ∧ (0 ≤ r ↔ L.any p = true)) ∧ G' = G := by
 obtain ⟨A, c, rfl, hn, hc1, hc2, hr⟩ := id hv
 refine Pure.intro Tryz.func103 Tryz.ntmps103 J J fun w => ?_; refine Va J J ?_;refine S_loop (α := Nat) (fun k => k ≤ L.length ∧ ∀ j (hj : j < L.length), j < k → p L[j] = false) (fun k => L.length - k) []
  (fun k => [(8, .val (.int .i64 k)), (7, .val (.int .i64 L.length)), (0, .val (.slice A L.length c)), (1, .val (.func (.func fid) #[] cap))]) (fun _ => []) (fun _ => G) 0 ⟨Nat.zero_le _, fun j _ h => by omega⟩ rfl
  ⟨⟨_, rfl, rfl⟩, ⟨_, rfl, rfl⟩, ⟨_, rfl, rfl⟩, ⟨_, rfl, rfl⟩, trivial⟩ .nil ?_
 rintro k ⟨hk, hall⟩
 refine Va J J ?_
 refine S_condp J (fun h => ?_) (fun h => ?_) <;> refine Va J J ?_
 ·have hkl : k < L.length := by omega
  obtain ⟨ad, cs, rfl, hcs, hrep⟩ := Sr_at hv hkl
  have hlen := Stm.rep_len hrep
  refine S_index Tk J J J J J J (by omega) (by omega) ?_;refine Va J J ?_;refine S_loadA Tk J J J J hlen (by simpa using hcs) ?_;refine Va J J ?_;refine S_callV (vs := [.agg cs.toArray]) J hcf (hp k hkl cs hrep) J J J ?_;rintro v1 G1 ⟨rfl, rfl⟩ _
  refine Va J J ?_
  refine S_cond J (fun h => ?_) (fun h => ?_) <;> refine Va J J ?_
  ·refine S_retP Tryz.results103 J J XR ⟨⟨_, J, ?_⟩, J⟩
   rw [any_at hkl h]; simp
  ·refine S_add J J J J (by omega) ?_
   refine Va J J ?_;refine S_again (k + 1) ⟨by omega, fun j hj hjk => ?_⟩ (by omega) J ⟨⟨_, J, J⟩, ⟨_, J, J⟩, ⟨_, J, J⟩, ⟨_, J, J⟩, trivial⟩ .nil
   rcases Nat.lt_or_ge j k with h' | h'
   ·exact hall j hj h'
   ·obtain rfl : j = k := by omega
    exact h
 ·refine S_retP Tryz.results103 J J XR ⟨⟨_, J, ?_⟩, J⟩
  rw [any_not fun j hj => hall j hj (by omega)]; simp
theorem c_ContainsStm (L : List Stm) (p : Stm → Bool) (fid : Nat) (cap : Array Value) (v : Value) (G : PH) (hv : Sts G L v) (hcf : ∀ args w, (callFunc fid args).run Tryz.prog w = .ok (.enter fid args) w)
  (hp : ∀ k (hk : k < L.length) cs, Stm.rep G L[k] cs → Pure Tryz.prog fid (.agg cs.toArray :: cap.toList) G fun v G' => v = .bool (p L[k]) ∧ G' = G) :
  Pure Tryz.prog 97 [v, .func (.func fid) #[] cap] G fun v G' => v = .bool (L.any p) ∧ G' = G := by
 obtain ⟨A, c, rfl, hn, hc1, hc2, hr⟩ := id hv
 refine Pure.intro Tryz.func97 Tryz.ntmps97 J J fun w => ?_; refine Va J J ?_;refine S_call Tryz.call103 (c_IndexStm L p fid cap _ _ hv hcf hp) J J J ?_;rintro v1 G1 ⟨⟨r, rfl, hrr⟩, rfl⟩ _
 refine Va J J ?_;refine S_retP Tryz.results97 J J XR ⟨?_, J⟩
 congr 1
 exact (Bool.eq_iff_iff.2 (by rw [← hrr]; simp))
theorem c_IndexSts (L : List (List Stm)) (p : (List Stm) → Bool) (fid : Nat) (cap : Array Value) (v : Value) (G : PH) (hv : Prg G L v) (hcf : ∀ args w, (callFunc fid args).run Tryz.prog w = .ok (.enter fid args) w)
  (hp : ∀ k (hk : k < L.length) u, Sts G L[k] u → Pure Tryz.prog fid (u :: cap.toList) G fun v G' => v = .bool (p L[k]) ∧ G' = G) :
  Pure Tryz.prog 88 [v, .func (.func fid) #[] cap] G fun v G' => (∃ r : Int, v = .int .i64 r ∧ (0 ≤ r ↔ L.any p = true)) ∧ G' = G := by
 obtain ⟨A, c, rfl, hn, hc1, hc2, hr⟩ := id hv
 refine Pure.intro Tryz.func88 Tryz.ntmps88 J J fun w => ?_; refine Va J J ?_;refine S_loop (α := Nat) (fun k => k ≤ L.length ∧ ∀ j (hj : j < L.length), j < k → p L[j] = false) (fun k => L.length - k) []
  (fun k => [(8, .val (.int .i64 k)), (7, .val (.int .i64 L.length)), (0, .val (.slice A L.length c)), (1, .val (.func (.func fid) #[] cap))]) (fun _ => []) (fun _ => G) 0 ⟨Nat.zero_le _, fun j _ h => by omega⟩ rfl
  ⟨⟨_, rfl, rfl⟩, ⟨_, rfl, rfl⟩, ⟨_, rfl, rfl⟩, ⟨_, rfl, rfl⟩, trivial⟩ .nil ?_
 rintro k ⟨hk, hall⟩
 refine Va J J ?_
 refine S_condp J (fun h => ?_) (fun h => ?_) <;> refine Va J J ?_
 ·have hkl : k < L.length := by omega
  obtain ⟨ad, cs, rfl, hcs, u, rfl, hu⟩ := Sr_at hv hkl
  obtain ⟨A1, c1, rfl, _⟩ := id hu
  refine S_index Tk J J J J J J (by omega) (by omega) ?_;refine Va J J ?_;refine S_load Tk J J J J J (by simpa using hcs.1) ?_;refine Va J J ?_;refine S_callV (vs := [.slice A1 L[k].length c1]) J hcf (hp k hkl _ hu) J J J ?_;rintro v1 G1 ⟨rfl, rfl⟩ _
  refine Va J J ?_
  refine S_cond J (fun h => ?_) (fun h => ?_) <;> refine Va J J ?_
  ·refine S_retP Tryz.results88 J J XR ⟨⟨_, J, ?_⟩, J⟩
   rw [any_at hkl h]; simp
  ·refine S_add J J J J (by omega) ?_
   refine Va J J ?_;refine S_again (k + 1) ⟨by omega, fun j hj hjk => ?_⟩ (by omega) J ⟨⟨_, J, J⟩, ⟨_, J, J⟩, ⟨_, J, J⟩, ⟨_, J, J⟩, trivial⟩ .nil
   rcases Nat.lt_or_ge j k with h' | h'
   ·exact hall j hj h'
   ·obtain rfl : j = k := by omega
    exact h
 ·refine S_retP Tryz.results88 J J XR ⟨⟨_, J, ?_⟩, J⟩
  rw [any_not fun j hj => hall j hj (by omega)]; simp
theorem c_ContainsSts (L : List (List Stm)) (p : (List Stm) → Bool) (fid : Nat) (cap : Array Value) (v : Value) (G : PH) (hv : Prg G L v) (hcf : ∀ args w, (callFunc fid args).run Tryz.prog w = .ok (.enter fid args) w)
  (hp : ∀ k (hk : k < L.length) u, Sts G L[k] u → Pure Tryz.prog fid (u :: cap.toList) G fun v G' => v = .bool (p L[k]) ∧ G' = G) :
  Pure Tryz.prog 76 [v, .func (.func fid) #[] cap] G fun v G' => v = .bool (L.any p) ∧ G' = G := by
 obtain ⟨A, c, rfl, hn, hc1, hc2, hr⟩ := id hv
 refine Pure.intro Tryz.func76 Tryz.ntmps76 J J fun w => ?_; refine Va J J ?_;refine S_call Tryz.call88 (c_IndexSts L p fid cap _ _ hv hcf hp) J J J ?_;rintro v1 G1 ⟨⟨r, rfl, hrr⟩, rfl⟩ _
 refine Va J J ?_;refine S_retP Tryz.results76 J J XR ⟨?_, J⟩
 congr 1
 exact (Bool.eq_iff_iff.2 (by rw [← hrr]; simp))
end
section
attribute [local irreducible] X Pure Mod
def fm (k : Int) : Option (Int × Int × Bool × Bool) :=
 if k = 1 then some (3, 0, false, false) else if k = 2 then some (3, 3, false, false) else if k = 3 then some (3, 3, false, false) else if k = 4 then some (3, 3, false, false) else if k = 5 then some (3, 0, false, false)
 else if k = 6 then some (3, 0, true, true) else if k = 7 then some (3, 0, true, false) else if k = 8 then some (2, 0, true, false) else if k = 9 then some (2, 0, false, false) else if k = 10 then some (2, 0, false, false) else if k = 11 then some (0, 0, false, false) else none
theorem fm_of {f : Int → Option Value} (h : formsP f) (k : Int) : (∃ s a b body els, f k = some (formV s a b body els) ∧ fm k = some (a, b, body, els)) ∨ (f k = none ∧ fm k = none) := by
 obtain ⟨⟨s1, h1⟩, ⟨s2, h2⟩, ⟨s3, h3⟩, ⟨s4, h4⟩, ⟨s5, h5⟩, ⟨s6, h6⟩, ⟨s7, h7⟩, ⟨s8, h8⟩, ⟨s9, h9⟩, ⟨s10, h10⟩, ⟨s11, h11⟩, hn⟩ := h
 by_cases hk : 1 ≤ k ∧ k ≤ 11
 ·left
  have hc : k = 1 ∨ k = 2 ∨ k = 3 ∨ k = 4 ∨ k = 5 ∨ k = 6 ∨ k = 7 ∨ k = 8 ∨ k = 9 ∨ k = 10 ∨ k = 11 := by omega
  rcases hc with rfl | rfl | rfl | rfl | rfl | rfl | rfl | rfl | rfl | rfl | rfl <;> exact ⟨_, _, _, _, _, by assumption, J⟩
 ·right
  refine ⟨hn k hk, ?_⟩
  unfold fm
  repeat rw [if_neg (by omega)]
def iOk (k a b n : Int) (x y : List Stm) (deep room : Int) : Bool :=
 match fm k with
 | none => false
 | some (fa, fb, body, els) =>
  if deep < 1 then false else if fitsB a fa = false then false else if fitsB b fb = false then false else if numberOkB k n = false then false
  else if body = false ∧ 0 < x.length then false else if els = false ∧ 0 < y.length then false
  else if k = 8 then (if room = -1 then listOk x (deep - 1) a && listOk y (deep - 1) a else false)
  else if k = 9 ∧ room = -1 then false
  else listOk x (deep - 1) room && listOk y (deep - 1) room
theorem iOk_eq (k a b n : Int) (x y : List Stm) (deep room : Int) (hr : -1 ≤ room) : iOk k a b n x y deep room = stmtOk (.mk k a b n x y) deep room := by
 have hnil : ∀ d r, listOk [] d r = true := fun _ _ => rfl
 have hynil : ∀ d r, y = [] → listOk y d r = true := by rintro d r rfl; rfl
 by_cases hk : 1 ≤ k ∧ k ≤ 11
 ·have hc : k = 1 ∨ k = 2 ∨ k = 3 ∨ k = 4 ∨ k = 5 ∨ k = 6 ∨ k = 7 ∨ k = 8 ∨ k = 9 ∨ k = 10 ∨ k = 11 := by omega
  by_cases hd : deep < 1
  ·rcases hc with rfl | rfl | rfl | rfl | rfl | rfl | rfl | rfl | rfl | rfl | rfl <;> simp [iOk, fm, stmtOk, hd]
  ·cases x with
   | nil =>
    cases y with
    | nil => rcases hc with rfl | rfl | rfl | rfl | rfl | rfl | rfl | rfl | rfl | rfl | rfl <;> simp [iOk, fm, stmtOk, leafOk, listOk, fitsB, numberOkB, opOk, numOk, hd] <;> rw [Bool.eq_iff_iff] <;> simp <;> (first | omega | grind)
    | cons t y => rcases hc with rfl | rfl | rfl | rfl | rfl | rfl | rfl | rfl | rfl | rfl | rfl <;> simp [iOk, fm, stmtOk, leafOk, fitsB, numberOkB, opOk, numOk, hd] <;> rw [Bool.eq_iff_iff] <;> simp <;> (first | omega | grind)
   | cons t x => rcases hc with rfl | rfl | rfl | rfl | rfl | rfl | rfl | rfl | rfl | rfl | rfl <;> simp [iOk, fm, stmtOk, leafOk, fitsB, numberOkB, opOk, numOk, hd] <;> rw [Bool.eq_iff_iff] <;> simp <;> (first | omega | grind)
 ·have : fm k = none := by unfold fm; repeat rw [if_neg (by omega)]
  obtain ⟨h1, h2, h3, h4, h5, h6, h7, h8, h9, h10, h11⟩ : k ≠ 1 ∧ k ≠ 2 ∧ k ≠ 3 ∧ k ≠ 4 ∧ k ≠ 5 ∧ k ≠ 6 ∧ k ≠ 7 ∧ k ≠ 8 ∧ k ≠ 9 ∧ k ≠ 10 ∧ k ≠ 11 := by omega
  simp [iOk, this, stmtOk, leafOk, h1, h2, h3, h4, h5, h6, h7, h8, h9, h10, h11]
def IL (L : List Stm) : Prop := ∀ (deep room : Int) (v : Value) (G : PH), I64 deep → -1 ≤ room → I64 room → Sts G L v → Pure Tryz.prog 89 [v, .int .i64 deep, .int .i64 room] G fun v G' => v = .bool (listOk L deep room) ∧ G' = G
theorem zform : ∀ w, (zeroValue 159).run Tryz.prog w = .ok (.agg #[.string ByteArray.empty, .int .i64 0, .int .i64 0, .bool false, .bool false]) w := by
 intro w
 have h : (Tryz.prog.info? 159).bind (·.zero) = some (.agg #[.string ByteArray.empty, .int .i64 0, .int .i64 0, .bool false, .bool false]) := by kernel_rfl
 cases hi : Tryz.prog.info? 159 with
 | none => rw [hi] at h; cases h
 | some i =>
  rw [hi] at h
  simp only [Option.bind_some] at h
  simp [zeroValue, typeInfo, hi, h]
theorem c_stmtOk_of (k a b n : Int) (x y : List Stm) (hX : IL x) (hY : IL y) (deep room : Int) (hd : I64 deep) (hr : -1 ≤ room) (hr' : I64 room) (cs : List Value) (G : PH) (hs : Stm.rep G (.mk k a b n x y) cs) :
  Pure Tryz.prog 99 [.agg cs.toArray, .int .i64 deep, .int .i64 room] G fun v G' => v = .bool (iOk k a b n x y deep room) := by
 obtain ⟨vx, vy, rfl, hk, ha, hb, hn, h1, h2⟩ := Stm.rep_iff.1 hs
 obtain ⟨Ax, cx, rfl, _⟩ := id h1
 have hd' : -9223372036854775808 ≤ deep ∧ deep ≤ 9223372036854775807 := hd
 obtain ⟨Ay, cy, rfl, _⟩ := id h2
 refine Pure.intro Tryz.func99 Tryz.ntmps99 J J fun w => ?_; refine Va J J ?_;refine S_box J J J J J fun b3 => ?_;refine Va J J ?_;refine Ds J J J ?_;refine Da J J ?_;refine D_or 0 7 J J (N_call 0 Tryz.call104 (c_forms _) J J J J J J J J J J ?_) (N_new 7 J J J J J J J J J J J (AZ ZT_ok J J J J) fun b => ?_)
 ·rintro v G1 ⟨bm, es, clock, rfl, hbm, hkeys, hforms⟩ hext
  rcases fm_of hforms k with ⟨s, fa, fb, body, els, hf, hfm⟩ | ⟨hf, hfm⟩
  ·refine D_val 3 J J J J J J J J J (V_lookupS u_forms u_int hbm hkeys hf J J) ?_
   unfold formV
   refine Da J J ?_;refine D_sole 7 J J (N_new 7 J J J J J J J J J J J (AZ ZT_ok J J J J) fun b => ?_)
   refine Da J J ?_;refine Ns 8 J J J J J J J J J ?_;refine Da J J ?_;refine DD ?_;refine Va J J ?_
   repeat' (first
    | (refine S_condp J (fun h => ?_) (fun h => ?_) <;> refine Va J J ?_) | (refine S_cond J (fun h => ?_) (fun h => ?_) <;> refine Va J J ?_) | (refine S_box J J J J J fun b => ?_; refine Va J J ?_) | (refine AZ ZT_ok J J J J fun b => ?_; refine Va J J ?_) | (refine S_guardp J J (fun h => ?_) (fun h => ?_) <;> refine Va J J ?_) | (refine S_guard J J (fun h => ?_) (fun h => ?_) <;> refine Va J J ?_)
    | (refine S_subI J J J J (by first | omega | (simp_all; omega)) ?_; refine Va J J ?_)
    | (refine S_call Tryz.call105 (c_fits _ _ _) J J J ?_; rintro v G' ⟨rfl, rfl⟩ _; refine Va J J ?_)
    | (refine S_call Tryz.call106 (c_numberOk _ _ _ _ _ _ _) J J J ?_; rintro v G' ⟨rfl, rfl⟩ _; refine Va J J ?_)
    | (refine S_call Tryz.call89 (hX _ _ _ _ (by unfold I64; first | omega | (simp_all; omega)) (by first | exact hr | (simp_all [fitsB]; omega)) (by first | exact hr' | exact ha) (Sts_le hext.le h1)) rfl rfl rfl ?_; rintro v G' ⟨rfl, rfl⟩ _; refine Va J J ?_)
    | (refine S_call Tryz.call89 (hY _ _ _ _ (by unfold I64; first | omega | (simp_all; omega)) (by first | exact hr | (simp_all [fitsB]; omega)) (by first | exact hr' | exact ha) (Sts_le hext.le h2)) rfl rfl rfl ?_; rintro v G' ⟨rfl, rfl⟩ _; refine Va J J ?_)
    | refine S_retP Tryz.results99 J J hext ?_)
   all_goals (try clear hX hY hforms hkeys hs)
   all_goals (refine congrArg Value.bool ?_)
   all_goals (unfold iOk; rw [hfm]; dsimp only)
   all_goals (clear hext; cases body <;> cases els <;> simp_all [listOk] <;> omega)
  ·refine D_val 3 J J J J J J J J J (V_lookupN ZT_ok (z := ⟨32, [.string ByteArray.empty, .int .i64 0, .int .i64 0, .bool false, .bool false], []⟩) u_forms u_int hbm hkeys hf J J zform) ?_
   refine Da J J ?_;refine D_sole 7 J J (N_new 7 J J J J J J J J J J J (AZ ZT_ok J J J J) fun b => ?_)
   refine Da J J ?_;refine Ns 8 J J J J J J J J J ?_;refine Da J J ?_;refine DD ?_;refine Va J J ?_;refine GT J J J ?_;refine Va J J ?_;refine S_retP Tryz.results99 J J hext ?_;refine congrArg Value.bool ?_
   unfold iOk
   rw [hfm]
 ·refine Da J J ?_
  refine D_sole 0 J J (N_call 0 Tryz.call104 (c_forms _) J J J J J J J J J J ?_)
  rintro v G1 ⟨bm, es, clock, rfl, hbm, hkeys, hforms⟩ hext
  rcases fm_of hforms k with ⟨s, fa, fb, body, els, hf, hfm⟩ | ⟨hf, hfm⟩
  ·refine D_val 3 J J J J J J J J J (V_lookupS u_forms u_int hbm hkeys hf J J) ?_
   unfold formV
   refine Da J J ?_;refine Ns 8 J J J J J J J J J ?_;refine Da J J ?_;refine DD ?_;refine Va J J ?_
   repeat' (first
    | (refine S_condp J (fun h => ?_) (fun h => ?_) <;> refine Va J J ?_) | (refine S_cond J (fun h => ?_) (fun h => ?_) <;> refine Va J J ?_) | (refine S_box J J J J J fun b => ?_; refine Va J J ?_) | (refine AZ ZT_ok J J J J fun b => ?_; refine Va J J ?_) | (refine S_guardp J J (fun h => ?_) (fun h => ?_) <;> refine Va J J ?_) | (refine S_guard J J (fun h => ?_) (fun h => ?_) <;> refine Va J J ?_)
    | (refine S_subI J J J J (by first | omega | (simp_all; omega)) ?_; refine Va J J ?_)
    | (refine S_call Tryz.call105 (c_fits _ _ _) J J J ?_; rintro v G' ⟨rfl, rfl⟩ _; refine Va J J ?_)
    | (refine S_call Tryz.call106 (c_numberOk _ _ _ _ _ _ _) J J J ?_; rintro v G' ⟨rfl, rfl⟩ _; refine Va J J ?_)
    | (refine S_call Tryz.call89 (hX _ _ _ _ (by unfold I64; first | omega | (simp_all; omega)) (by first | exact hr | (simp_all [fitsB]; omega)) (by first | exact hr' | exact ha) (Sts_le hext.le h1)) rfl rfl rfl ?_; rintro v G' ⟨rfl, rfl⟩ _; refine Va J J ?_)
    | (refine S_call Tryz.call89 (hY _ _ _ _ (by unfold I64; first | omega | (simp_all; omega)) (by first | exact hr | (simp_all [fitsB]; omega)) (by first | exact hr' | exact ha) (Sts_le hext.le h2)) rfl rfl rfl ?_; rintro v G' ⟨rfl, rfl⟩ _; refine Va J J ?_)
    | refine S_retP Tryz.results99 J J hext ?_)
   all_goals (try clear hX hY hforms hkeys hs)
   all_goals (refine congrArg Value.bool ?_)
   all_goals (unfold iOk; rw [hfm]; dsimp only)
   all_goals (clear hext; cases body <;> cases els <;> simp_all [listOk] <;> omega)
  ·refine D_val 3 J J J J J J J J J (V_lookupN ZT_ok (z := ⟨32, [.string ByteArray.empty, .int .i64 0, .int .i64 0, .bool false, .bool false], []⟩) u_forms u_int hbm hkeys hf J J zform) ?_
   refine Da J J ?_;refine Ns 8 J J J J J J J J J ?_;refine Da J J ?_;refine DD ?_;refine Va J J ?_;refine GT J J J ?_;refine Va J J ?_;refine S_retP Tryz.results99 J J hext ?_;refine congrArg Value.bool ?_
   unfold iOk
   rw [hfm]
end
section
attribute [local irreducible] X Pure Mod
theorem c_listOkC (cs : List Value) (hlen : cs.length = 6) (deep room : Int) (r : Bool) (b4 b5 : Nat) (G : PH) (h4 : gcell G ⟨b4, 0, none⟩ = some (.int .i64 deep)) (h5 : gcell G ⟨b5, 0, none⟩ = some (.int .i64 room))
  (hst : Pure Tryz.prog 99 [.agg cs.toArray, .int .i64 deep, .int .i64 room] G fun v G' => v = .bool r ∧ G' = G) :
  Pure Tryz.prog 98 [.agg cs.toArray, .pointer (some ⟨b4, 0, none⟩), .pointer (some ⟨b5, 0, none⟩)] G fun v G' => v = .bool (!r) ∧ G' = G := by
 obtain ⟨x1, x2, x3, x4, x5, x6, rfl⟩ : ∃ x1 x2 x3 x4 x5 x6, cs = [x1, x2, x3, x4, x5, x6] := by
  match cs, hlen with
  | [x1, x2, x3, x4, x5, x6], _ => exact ⟨_, _, _, _, _, _, rfl⟩
 refine Pure.intro Tryz.func98 Tryz.ntmps98 J J fun w => ?_; refine Va J J ?_;refine S_box J J J J J fun b3 => ?_;refine Va J J ?_;refine S_load Tk J J J J J h4 ?_;refine Va J J ?_;refine S_load Tk J J J J J h5 ?_;refine Va J J ?_;refine S_call Tryz.call99 hst J J J ?_;rintro v G' ⟨rfl, rfl⟩ _
 refine Va J J ?_;exact S_retP Tryz.results98 J J XR ⟨J, J⟩
theorem notany_all {α : Type} (L : List α) (p : α → Bool) : (!L.any fun s => !p s) = L.all p := by
 induction L with
 | nil => rfl
 | cons s L ih => simp only [List.any_cons, List.all_cons, Bool.not_or, Bool.not_not, ih]
theorem IL_of (L : List Stm) (h : ∀ k (hk : k < L.length), IL L[k].body ∧ IL L[k].els) : IL L := by
 intro deep room v G hd hr hr' hv
 obtain ⟨A, c, rfl, _⟩ := id hv
 refine Pure.drop (Post := fun v _ => v = .bool (listOk L deep room)) ?_ (fun v G' h => h)
 refine Pure.intro Tryz.func89 Tryz.ntmps89 J J fun w => ?_; refine Va J J ?_;refine S_box J J J J J fun b4 => ?_;refine Va J J ?_;refine S_box J J J J J fun b5 => ?_;refine Va J J ?_;refine S_valV J J J (V_makeFunc J) ?_;refine Va J J ?_;refine S_freezeB 4 J J J J (fun _ h => h) fun hext1 => ?_;refine S_freezeB 5 J J J J (fun _ h => h) fun hext2 => ?_
 have hle := hext1.le.trans hext2.le
 refine S_call Tryz.call97 (c_ContainsStm L (fun s => !stmtOk s deep room) _ _ _ _ (Sts_le hle hv) Tryz.call98 ?_) J J J ?_
 ·intro k hk cs hs
  refine c_listOkC cs (Stm.rep_len hs) deep room _ b4 b5 _ (gcell_le hext2.le ?_) ?_ ?_
  ·simp [gcell, PH.add_self]
  ·simp [gcell, PH.add_self]
  ·obtain ⟨hb, he⟩ := h k hk
   rcases hk' : L[k] with ⟨q1, q2, q3, q4, x, y⟩
   rw [hk'] at hb he hs
   exact (c_stmtOk_of q1 q2 q3 q4 x y hb he deep room hd hr hr' cs _ hs).drop fun v G' e => by rw [e, iOk_eq _ _ _ _ _ _ _ _ hr]
 ·rintro v1 G1 ⟨rfl, rfl⟩ _
  refine Va J J ?_;refine S_retP Tryz.results89 J J (hext1.trans hext2) ?_
  rw [listOk_all, notany_all]
mutual
theorem IL_stm : ∀ (s : Stm), IL s.body ∧ IL s.els
 | .mk k a b n x y => ⟨IL_all x, IL_all y⟩
theorem IL_at : ∀ (L : List Stm) (k : Nat) (hk : k < L.length), IL L[k].body ∧ IL L[k].els
 | [], k, hk => absurd hk (by simp)
 | s :: L, 0, _ => IL_stm s
 | s :: L, k + 1, hk => IL_at L k (by simpa using hk)
theorem IL_all : ∀ (L : List Stm), IL L
 | L => IL_of L (IL_at L)
end
end
section
attribute [local irreducible] X Pure Mod
mutual
def flatS : Stm → Int → List (Stm × Int)
 | .mk k a b n x y, room => flatL x (if k = 8 then a else room) ++ flatL y (if k = 8 then a else room)
def flatL : List Stm → Int → List (Stm × Int)
 | [], _ => []
 | s :: r, room => (s, room) :: (flatS s room ++ flatL r room)
end
theorem flatL_append (L M : List Stm) (room : Int) : flatL (L ++ M) room = flatL L room ++ flatL M room := by
 induction L with
 | nil => simp [flatL]
 | cons s L ih => simp [flatL, ih]
theorem flat_take {L : List Stm} {i : Nat} (hi : i < L.length) (room : Int) : flatL (L.take (i + 1)) room = flatL (L.take i) room ++ (L[i], room) :: flatS L[i] room := by
 rw [List.take_succ_eq_append_getElem hi, flatL_append]; simp [flatL]
theorem flat_pre (L : List Stm) (i : Nat) (room : Int) : flatL (L.take i) room <+: flatL L room := ⟨flatL (L.drop i) room, by rw [← flatL_append, List.take_append_drop]⟩
def encP (G : PH) (x : Stm × Int) (vs : List Value) : Prop := ∃ cs, Stm.rep G x.1 cs ∧ vs = [Value.agg (cs ++ [Value.int .i64 x.2]).toArray]
def walkF (by_ bw : Nat) : Value := .func (.func 101) #[] #[.pointer (some ⟨by_, 0, none⟩), .pointer (some ⟨bw, 0, none⟩)]
def WalkC (L : List Stm) : Prop := ∀ (l by_ bw : Nat) (A Ax : List (Stm × Int) → HP) (xs pre : List (Stm × Int)) (room : Int) (v : Value) (G0 G : PH), G0.le G → Sts G0 L v → gcell G ⟨by_, 0, none⟩ = some (.func (.yield l) #[] #[]) → gcell G ⟨bw, 0, none⟩ = some (walkF by_ bw) →
 (∀ pre x vs, (pre ++ [x]) <+: xs → encP G0 x vs → YieldM Tryz.prog l vs G0 (A pre) (A (pre ++ [x])) (Ax (pre ++ [x]))) → (pre ++ flatL L room) <+: xs →
 Mod Tryz.prog 101 [v, .int .i64 room, .pointer (some ⟨by_, 0, none⟩), .pointer (some ⟨bw, 0, none⟩)] G (A pre) fun r G' A' => G' = G ∧ ((r = .bool true ∧ A' = A (pre ++ flatL L room)) ∨ (r = .bool false ∧ ∃ q, A' = Ax q))
theorem c_walk_of (L : List Stm) (hbs : ∀ k (hk : k < L.length), WalkC L[k].body) (hes : ∀ k (hk : k < L.length), WalkC L[k].els) : WalkC L := by
 intro l by_ bw A Ax xs pre room v G0 G hle hv hy hw hY hpre
 obtain ⟨Al, c, rfl, hn, hc1, hc2, hr⟩ := id hv
 refine Mod.intro Tryz.func101 Tryz.ntmps101 J J fun w S => ?_;refine Va J J ?_;refine S_loop (α := Nat) (fun i => i ≤ L.length) (fun i => L.length - i) []
  (fun i => [(12, .val (.int .i64 (i : Nat))), (11, .val (.int .i64 (L.length : Nat))), (10, .val (.slice Al L.length c)), (1, .val (.int .i64 room)), (2, .val (.pointer (some ⟨by_, 0, none⟩))), (3, .val (.pointer (some ⟨bw, 0, none⟩)))])
  (fun i => [.hp 1 (A (pre ++ flatL (L.take i) room))]) (fun _ => G) 0 (Nat.zero_le _) rfl ⟨⟨_, rfl, rfl⟩, ⟨_, rfl, rfl⟩, ⟨_, rfl, rfl⟩, ⟨_, rfl, rfl⟩, ⟨_, rfl, rfl⟩, ⟨_, rfl, rfl⟩, trivial⟩ (by simp only [List.take_zero, flatL, List.append_nil]; exact .hp .nil) ?_
 intro i hi
 refine Va J J ?_
 refine S_condp J (fun h5 => ?_) (fun h5 => ?_) <;> refine Va J J ?_
 ·have hil : i < L.length := by omega
  obtain ⟨ad, cs, rfl, hcs, hrep⟩ := Sr_at hv hil
  have hb := hbs i hil
  have he := hes i hil
  have htk := flat_take hil room
  have hp1 : (pre ++ flatL (L.take (i + 1)) room) <+: xs := ((List.prefix_append_right_inj pre).2 (flat_pre L (i + 1) room)).trans hpre
  rcases hs : L[i] with ⟨k, a, b, n, x, y⟩
  rw [hs] at hrep hb he htk
  rw [htk] at hp1
  obtain ⟨vx, vy, rfl, i1, i2, i3, i4, hx, hyy⟩ := Stm.rep_iff.1 hrep
  simp only [Stm.body, Stm.els] at hb he hx hyy
  have HP0 : (pre ++ flatL (L.take i) room ++ [(Stm.mk k a b n x y, room)]) <+: xs := List.IsPrefix.trans ⟨flatS (Stm.mk k a b n x y) room, by simp⟩ hp1
  have HP1 : ∀ {rr : Int}, (if k = 8 then a else room) = rr → (pre ++ flatL (L.take i) room ++ [(Stm.mk k a b n x y, room)] ++ flatL x rr) <+: xs := fun {rr} e => List.IsPrefix.trans ⟨flatL y rr, by subst e; simp [flatS]⟩ hp1
  have HP2 : ∀ {rr : Int}, (if k = 8 then a else room) = rr → (pre ++ flatL (L.take i) room ++ [(Stm.mk k a b n x y, room)] ++ flatL x rr ++ flatL y rr) <+: xs := fun {rr} e => List.IsPrefix.trans ⟨[], by subst e; simp [flatS]⟩ hp1
  have HPE : ∀ {rr : Int}, (if k = 8 then a else room) = rr → pre ++ flatL (L.take (i + 1)) room = (pre ++ flatL (L.take i) room ++ [(Stm.mk k a b n x y, room)] ++ flatL x rr ++ flatL y rr) := fun {rr} e => by subst e; rw [htk]; simp [flatS]
  obtain ⟨Ax', cx', rfl, _⟩ := id hx
  obtain ⟨Ay', cy', rfl, _⟩ := id hyy
  refine S_index Tk J J J J J J (by omega) (by omega) ?_;refine Va J J ?_;refine S_loadA Tk J J J J J (by simpa using gcells_le hle hcs) ?_;refine Va J J ?_;refine AZ ZT_ok J J J J fun b8 => ?_;refine Va J J ?_;refine S_load Tk J J J J J hy ?_;refine Va J J ?_
  refine S_yield 1 l rfl rfl ((hY _ (Stm.mk k a b n x y, room) _ HP0 ⟨_, hrep, rfl⟩).le hle) rfl rfl rfl rfl (fun _ => rfl) ?_ ?_ <;> refine Va J J ?_
  ·refine RF J J ?_
   refine Va J J ?_
   refine S_condp J (fun h8 => ?_) (fun h8 => ?_) <;> refine Va J J ?_
   ·refine S_load Tk J J J J J hw ?_
    refine Va J J ?_;refine S_callMV 1 (vs := [.slice Ax' x.length cx', .int .i64 a]) (cap := #[.pointer (some ⟨by_, 0, none⟩), .pointer (some ⟨bw, 0, none⟩)]) J Tryz.call101 (hb l by_ bw A Ax xs (pre ++ flatL (L.take i) room ++ [(Stm.mk k a b n x y, room)]) a _ G0 G hle hx hy hw hY (HP1 (if_pos h8))) J J J J (fun _ => J) ?_
    rintro v2 G2 A2 ⟨rfl, ⟨rfl, rfl⟩ | ⟨rfl, q, rfl⟩⟩ _ <;> refine Va J J ?_
    ·refine GF J J J ?_
     refine Va J J ?_;refine S_load Tk J J J J J hw ?_;refine Va J J ?_;refine S_callMV 1 (vs := [.slice Ay' y.length cy', .int .i64 a]) (cap := #[.pointer (some ⟨by_, 0, none⟩), .pointer (some ⟨bw, 0, none⟩)]) J Tryz.call101 (he l by_ bw A Ax xs (pre ++ flatL (L.take i) room ++ [(Stm.mk k a b n x y, room)] ++ flatL x a) a _ G0 _ hle hyy hy hw hY (HP2 (if_pos h8))) J J J J (fun _ => J) ?_
     rintro v3 G3 A3 ⟨rfl, ⟨rfl, rfl⟩ | ⟨rfl, q, rfl⟩⟩ _ <;> refine Va J J ?_
     ·refine RF J J ?_
      refine Va J J ?_;refine S_add J J J J (by omega) ?_;refine Va J J ?_;refine S_again (i + 1) (by omega) (by omega) J ⟨⟨_, J, by simp [denO]⟩, ⟨_, J, J⟩, ⟨_, J, J⟩, ⟨_, J, J⟩, ⟨_, J, J⟩, ⟨_, J, J⟩, trivial⟩ ?_
      rw [HPE (if_pos h8)]
      exact .drop (.hp .nil)
     ·refine RT J J ?_
      refine Va J J ?_;exact S_retm 1 (Res.t1 Tryz.results101 J J) J XR ⟨J, .inr ⟨J, _, J⟩⟩
    ·refine GT J J J ?_
     refine Va J J ?_;exact S_retm 1 (Res.t1 Tryz.results101 J J) J XR ⟨J, .inr ⟨J, _, J⟩⟩
   ·refine S_load Tk J J J J J hw ?_
    refine Va J J ?_;refine S_callMV 1 (vs := [.slice Ax' x.length cx', .int .i64 room]) (cap := #[.pointer (some ⟨by_, 0, none⟩), .pointer (some ⟨bw, 0, none⟩)]) J Tryz.call101 (hb l by_ bw A Ax xs (pre ++ flatL (L.take i) room ++ [(Stm.mk k a b n x y, room)]) room _ G0 G hle hx hy hw hY (HP1 (if_neg h8))) J J J J (fun _ => J) ?_
    rintro v2 G2 A2 ⟨rfl, ⟨rfl, rfl⟩ | ⟨rfl, q, rfl⟩⟩ _ <;> refine Va J J ?_
    ·refine GF J J J ?_
     refine Va J J ?_;refine S_load Tk J J J J J hw ?_;refine Va J J ?_;refine S_callMV 1 (vs := [.slice Ay' y.length cy', .int .i64 room]) (cap := #[.pointer (some ⟨by_, 0, none⟩), .pointer (some ⟨bw, 0, none⟩)]) J Tryz.call101 (he l by_ bw A Ax xs (pre ++ flatL (L.take i) room ++ [(Stm.mk k a b n x y, room)] ++ flatL x room) room _ G0 _ hle hyy hy hw hY (HP2 (if_neg h8))) J J J J (fun _ => J) ?_
     rintro v3 G3 A3 ⟨rfl, ⟨rfl, rfl⟩ | ⟨rfl, q, rfl⟩⟩ _ <;> refine Va J J ?_
     ·refine RF J J ?_
      refine Va J J ?_;refine S_add J J J J (by omega) ?_;refine Va J J ?_;refine S_again (i + 1) (by omega) (by omega) J ⟨⟨_, J, by simp [denO]⟩, ⟨_, J, J⟩, ⟨_, J, J⟩, ⟨_, J, J⟩, ⟨_, J, J⟩, ⟨_, J, J⟩, trivial⟩ ?_
      rw [HPE (if_neg h8)]
      exact .drop (.hp .nil)
     ·refine RT J J ?_
      refine Va J J ?_;exact S_retm 1 (Res.t1 Tryz.results101 J J) J XR ⟨J, .inr ⟨J, _, J⟩⟩
    ·refine GT J J J ?_
     refine Va J J ?_;exact S_retm 1 (Res.t1 Tryz.results101 J J) J XR ⟨J, .inr ⟨J, _, J⟩⟩
  ·refine RT J J ?_
   refine Va J J ?_;exact S_retm 1 (Res.t1 Tryz.results101 J J) J XR ⟨J, .inr ⟨J, _, J⟩⟩
 ·have hin : i = L.length := by omega
  subst hin
  rw [List.take_length]
  exact S_retm 1 (Res.t1 Tryz.results101 J J) J XR ⟨J, .inl ⟨J, J⟩⟩
mutual
theorem c_walkS : ∀ (s : Stm), WalkC s.body ∧ WalkC s.els
 | .mk k a b n x y => ⟨c_walk x, c_walk y⟩
theorem c_walkA : ∀ (L : List Stm), ∀ k (hk : k < L.length), WalkC L[k].body ∧ WalkC L[k].els
 | [], k, hk => absurd hk (by simp)
 | s :: L, 0, _ => c_walkS s
 | s :: L, k + 1, hk => c_walkA L k (by simpa using hk)
theorem c_walk : ∀ (L : List Stm), WalkC L
 | L => c_walk_of L (fun k hk => (c_walkA L k hk).1) (fun k hk => (c_walkA L k hk).2)
end
end
section
attribute [local irreducible] X Pure Mod
theorem c_all1 (L : List Stm) (room : Int) (v : Value) (b1 b2 : Nat) (G : PH) (hv : Sts G L v) (h1 : gcell G ⟨b1, 0, none⟩ = some v) (h2 : gcell G ⟨b2, 0, none⟩ = some (.int .i64 room)) :
  IterR Tryz.prog 100 #[.pointer (some ⟨b1, 0, none⟩), .pointer (some ⟨b2, 0, none⟩)] G (encP G) (flatL L room) := by
 refine IterR_of fun l A Ax hY => ?_;obtain ⟨Al, c, rfl, _⟩ := id hv
 refine Mod.intro Tryz.func100 Tryz.ntmps100 J J fun w S => ?_;refine Va J J ?_;refine S_boxB J J J J J fun b3 hb3 => ?_;refine Va J J ?_;refine S_allocB ZT_ok J J J J fun b4 hb4 => ?_;refine Va J J ?_;refine S_valV J J J (V_makeFunc J) ?_;refine Va J J ?_;refine S_keepB 3 J J J J hb3 fun hext1 => ?_;refine S_keepB 4 J J J J hb4 fun hext2 => ?_
 have hle := hext1.le.trans hext2.le
 refine S_load Tk J J J J J (gcell_le hle h1) ?_;refine Va J J ?_;refine S_load Tk J J J J J (gcell_le hle h2) ?_;refine Va J J ?_;refine S_callMV 1 (vs := [.slice Al L.length c, .int .i64 room]) (cap := #[.pointer (some ⟨b3, 0, none⟩), .pointer (some ⟨b4, 0, none⟩)]) J Tryz.call101 (c_walk L l b3 b4 A Ax (flatL L room) [] room _ G _ hle hv (gcell_le hext2.le (by simp [gcell, PH.add_self])) (by simp [gcell, PH.add_self, walkF]) hY (List.prefix_refl _)) J J J J (fun _ => J) ?_
 rintro v2 G2 A2 ⟨rfl, h⟩ hext3
 refine Va J J ?_;refine S_endm 1 (Res.t0 Tryz.results100) J ((hext1.trans hext2).trans hext3) ?_
 rcases h with ⟨_, rfl⟩ | ⟨_, q, rfl⟩
 ·exact .inl (by simp)
 ·exact .inr ⟨q, J⟩
theorem c_all (L : List Stm) (room : Int) (v : Value) (G : PH) (hv : Sts G L v) : Pure Tryz.prog 90 [v, .int .i64 room] G fun v' G' => ∃ b2 b3, v' = .func (.func 100) #[] #[.pointer (some ⟨b2, 0, none⟩), .pointer (some ⟨b3, 0, none⟩)] ∧ gcell G' ⟨b2, 0, none⟩ = some v ∧ gcell G' ⟨b3, 0, none⟩ = some (.int .i64 room) := by
 obtain ⟨Al, c, rfl, _⟩ := id hv
 refine Pure.intro Tryz.func90 Tryz.ntmps90 J J fun w => ?_; refine Va J J ?_;refine S_box J J J J J fun b2 => ?_;refine Va J J ?_;refine S_box J J J J J fun b3 => ?_;refine Va J J ?_;refine S_valV J J J (V_makeFunc J) ?_;refine Va J J ?_;refine S_freezeB 2 J J J J (fun _ h => h) fun hext1 => ?_;refine S_freezeB 3 J J J J (fun _ h => h) fun hext2 => ?_;refine S_retp (Res.t1 Tryz.results90 J J) (hext1.trans hext2) ⟨b2, b3, J, gcell_le hext2.le (by simp [gcell, PH.add_self]), by simp [gcell, PH.add_self]⟩
theorem flat_len : ∀ (n : Nat) (L : List Stm) (room : Int), dpL L ≤ n → ((flatL L room).length : Int) = many L (n : Nat)
 | n, [], room, _ => by simp [flatL, many]
 | 0, s :: L, room, h => by
  have := dpS_eq s
  simp only [dpL] at h
  omega
 | n + 1, s :: L, room, h => by
  simp only [dpL] at h
  have a3 := flat_len (n + 1) L room (by omega)
  obtain ⟨k, a, b, m, x, y⟩ := s
  simp only [dpS] at h
  have a1 := flat_len n x (if k = 8 then a else room) (by omega)
  have a2 := flat_len n y (if k = 8 then a else room) (by omega)
  simp only [flatL, flatS, List.length_cons, List.length_append, many, manyS, if_pos (show (0 : Int) < ((n + 1 : Nat) : Int) by omega), show (((n + 1 : Nat) : Int) - 1) = (n : Nat) by omega]
  omega
theorem c_iStmtsOk (L : List Stm) (v : Value) (G : PH) (hv : Sts G L v) (hs : Sh L) : Pure Tryz.prog 78 [v] G fun v G' => v = .bool (stmtsOk L) ∧ G' = G := by
 obtain ⟨Al, c, rfl, _⟩ := id hv
 refine Pure.introM Tryz.func78 Tryz.ntmps78 J J fun w hw => ?_;refine Va J J ?_;refine S_call Tryz.call89 (IL_all L 3 (-1) _ _ (by unfold I64; omega) (by omega) (by unfold I64; omega) hv) rfl rfl rfl ?_;rintro v1 G1 ⟨rfl, rfl⟩ _
 refine Va J J ?_
 cases hl : listOk L 3 (-1)
 ·refine RT J J ?_
  refine Va J J ?_;exact S_retK hw Tryz.results78 J J (by simp [stmtsOk, hl])
 refine RF J J ?_;refine Va J J ?_;refine AZ ZT_ok J J J J fun b3 => ?_;refine Va J J ?_;refine S_call Tryz.call90 (c_all L (-1) _ _ hv) J J J ?_;rintro v2 G2 ⟨b5, b6, rfl, h5, h6⟩ hext2
 refine Va J J ?_
 have hd : dpL L ≤ 3 := dpL_ok 3 L 3 (-1) hl (by omega)
 have hf := flat_len 3 L (-1) hd
 have hm := many_bnd 3 L hs
 have hB := MB3
 rw [show ((3 : Nat) : Int) = 3 from rfl] at hf hm
 refine S_range (fun pre => [.blk 3 3 (vL [.int .i64 (pre.length : Nat)])]) (fun pre => [.hp 3 deadHP]) rfl rfl rfl Tryz.call100 (c_all1 L (-1) _ b5 b6 G2 (Sts_le hext2.le hv) h5 h6) (fun x vs h => by obtain ⟨cs, _, rfl⟩ := h; rfl) rfl (.blk rfl rfl .nil) ?_ ?_ ?_
 ·intro l pre x vs W S I hpre henc hW hI
  obtain ⟨cs, _, rfl⟩ := henc
  have hlen : pre.length + 1 ≤ (flatL L (-1)).length := by have := hpre.length_le; simpa using this
  refine Va J J ?_;refine hI _ _ _ fun W2 S2 hW2 => ?_;refine Va J J ?_;refine S_add J J J J (by omega) ?_;refine Va J J ?_;refine S_roundEnd ?_
  simp only [List.length_append, List.length_singleton]
  exact .blk J J .nil
 ·intro D hD hDs
  refine Va J J ?_;refine S_retK hw Tryz.results78 J J ?_
  have e : w64 ((flatL L (-1)).length : Int) = (flatL L (-1)).length := w64_eq ⟨by omega, by omega⟩
  simp [stmtsOk, hl, ← hf, e]
 ·intro D pre hD hDs
  exact S_dead 3 J
theorem c_iProgOkC (L : List Stm) (v : Value) (G : PH) (hv : Sts G L v) (hs : Sh L) : Pure Tryz.prog 77 [v] G fun v G' => v = .bool (!stmtsOk L) ∧ G' = G := by
 obtain ⟨Al, c, rfl, _⟩ := id hv
 refine Pure.intro Tryz.func77 Tryz.ntmps77 J J fun w => ?_; refine Va J J ?_;refine S_call Tryz.call78 (c_iStmtsOk L _ _ hv hs) J J J ?_;rintro v1 G1 ⟨rfl, rfl⟩ _
 refine Va J J ?_;exact S_retp (Res.t1 Tryz.results77 J J) XR ⟨J, J⟩
theorem c_iProgOk (p : List (List Stm)) (v : Value) (G : PH) (hp : PrgS G p v) : Pure Tryz.prog 50 [v] G fun v G' => v = .bool (progOk p) ∧ G' = G := by
 obtain ⟨hpp, hsh, hpl⟩ := id hp
 obtain ⟨A, c, rfl, hl1, _⟩ := id hpp
 refine Pure.intro Tryz.func50 Tryz.ntmps50 J J fun w => ?_; refine Va J J ?_
 by_cases h1 : 1 ≤ p.length ∧ p.length ≤ 3
 ·refine GT J J (by simp; omega) ?_
  refine Va J J ?_;refine S_call Tryz.call76 (c_ContainsSts p (fun l => !stmtsOk l) 77 #[] _ _ hpp Tryz.call77 fun k hk v hv => c_iProgOkC _ _ _ hv (hsh _ (List.getElem_mem hk))) J J J ?_;rintro v1 G1 ⟨rfl, rfl⟩ _
  refine Va J J ?_;refine S_retp (Res.t1 Tryz.results50 J J) XR ⟨?_, J⟩
  rw [notany_all]
  simp [progOk, h1]
 ·refine GF J J (by simp; omega) ?_
  refine Va J J ?_;refine S_retp (Res.t1 Tryz.results50 J J) XR ⟨?_, J⟩
  have : progOk p = false := by
   cases hq : progOk p with
   | false => rfl
   | true => exact absurd (prog_parts hq).2 h1
  rw [this]
end
section
attribute [local irreducible] X Pure Mod
def explP (p : List (List Stm)) : Option (List Wld) := if progOk p = true then allW p else none
theorem explP_f {p : List (List Stm)} (h : progOk p = false) : explP p = none := by rw [explP, if_neg (by simp [h])]
theorem drop_rangeW {i n : Nat} (h : i < n) : (List.range n).drop i = i :: (List.range n).drop (i + 1) := by
 rw [List.drop_eq_getElem_cons (by simpa using h)]
 simp
theorem roundW_skip {W : Wld} {n i : Nat} {Ws : List Wld} (h : i < n) (hc : ¬ codeOf W (i : Nat) = 0) : roundW W ((List.range n).drop i) Ws = roundW W ((List.range n).drop (i + 1)) Ws := by
 rw [drop_rangeW h, roundW, if_neg hc]
theorem roundW_go {W : Wld} {n i : Nat} {Ws : List Wld} (h : i < n) (hc : codeOf W (i : Nat) = 0) (hl : ¬ 120 < (addW Ws (W.step i)).length) : roundW W ((List.range n).drop i) Ws = roundW W ((List.range n).drop (i + 1)) (addW Ws (W.step i)) := by
 rw [drop_rangeW h, roundW, if_pos hc, if_neg hl]
theorem roundW_none {W : Wld} {n i : Nat} {Ws : List Wld} (h : i < n) (hc : codeOf W (i : Nat) = 0) (hl : 120 < (addW Ws (W.step i)).length) : roundW W ((List.range n).drop i) Ws = none := by
 rw [drop_rangeW h, roundW, if_pos hc, if_pos hl]
structure XS where
 k : Nat
 Ws : List Wld
 A : Option Addr
 c : Nat
 xs : List Value
 G : PH
def XOK (p : List (List Stm)) (w0 : World) (G : PH) (y : XS) : Prop :=
 y.Ws.length ≤ 120 ∧ PH.ext w0.heap.size G y.G ∧ Cs 5 (wRep y.G) y.Ws y.xs ∧ Wsok p.length y.Ws
theorem add_of {W : Wld} {Ws : List Wld} {b mb : Nat} {A : Option Addr} {c : Nat} {xs cs : List Value} {A' : HP} {G : PH} (hcs : Cs 5 (wRep G) Ws xs) (hW : wRep G W cs)
  (h1 : hasW Ws W = true → A' = expHP b mb A Ws.length c xs (Ws.map wText)) (h2 : hasW Ws W = false → ∃ A2 c2, A' = expHP b mb A2 (Ws.length + 1) c2 (xs ++ cs) ((Ws ++ [W]).map wText)) :
  ∃ A2 c2 xs2, A' = expHP b mb A2 (addW Ws W).length c2 xs2 ((addW Ws W).map wText) ∧ Cs 5 (wRep G) (addW Ws W) xs2 := by
 unfold addW
 by_cases h : hasW Ws W = true
 ·rw [if_pos h]; exact ⟨A, c, xs, h1 h, hcs⟩
 ·rw [if_neg h]
  obtain ⟨A2, c2, e⟩ := h2 (by simpa using h)
  refine ⟨A2, c2, xs ++ cs, by rw [e, List.length_append, List.length_singleton], Cs_append hcs hW ?_⟩
  obtain ⟨_, _, _, _, _, rfl⟩ := wRep_five hW
  rfl
theorem c_explore (p : List (List Stm)) (pv : Value) (G : PH) (hp : PrgS G p pv) (hTab : TabG G) : Pure Tryz.prog 23 [pv] G fun v' G' => ∃ pt, v' = .tuple #[pt, .bool (explP p).isSome] ∧ ∀ Ws, explP p = some Ws → ∃ b mb lv, pt = .pointer (some ⟨b, 0, none⟩) ∧ gcells G' ⟨b, 0, none⟩ [.map (some mb), lv] ∧ WsG G' Ws lv := by
 obtain ⟨Ap, cp, rfl, _⟩ := id hp.1
 refine Pure.intro Tryz.func23 Tryz.ntmps23 J J fun w0 => ?_;refine Va J J ?_;refine S_call Tryz.call50 (c_iProgOk p _ _ hp) J J J ?_;rintro v1 G0 ⟨rfl, rfl⟩ _
 refine Va J J ?_
 cases hpo : progOk p
 ·refine RT J J ?_
  refine Va J J ?_;exact S_retp (Res.t2 Tryz.results23 J J J J) XR ⟨_, by rw [explP_f hpo]; rfl, fun Ws h => by rw [explP_f hpo] at h; cases h⟩
 refine RF J J ?_
 have hexp : explP p = allW p := by rw [explP, if_pos hpo]
 rw [hexp]
 have hok0 := open_ok hpo hp.2.1 (prg_iL hp.1)
 have hWo := (hok0.ok 0 (open0 p) rfl).1
 have hI0 := hWo.inv
 have hp13 := (prog_parts hpo).2
 refine Va J J ?_;refine S_makeMap 5 J J fun mb => ?_;refine Va J J ?_;refine S_box J J J J J fun b => ?_;refine Va J J ?_;refine S_callN 20 Tryz.call52 (c_opened p _ _ hp.1 hp13) J J J ?_;rintro v1 G1 A1 ⟨cs, ts, rfl, rfl, htd⟩ hext1
 refine S_newHP 20 J J ?_;refine S_csV 20 J ?_;rintro bp bc br bs kp asd ksd kc kr ks rfl
 refine S_frzV 20 J J (fun _ h => h) htd hI0.n3 ⟨by simp [open0], by simp [open0], by simp [open0]⟩ fun G2 hext2 hW => ?_;refine S_nilO 6 (base := 0) (e := 56) (size := 5) ?_;refine S_reE 4 (.val (.pointer (some ⟨b, 0, none⟩))) J J ?_;refine S_Bhp 13 2 J J J J ?_;refine S_pair 5 6 3 J J J J ?_;refine S_pair 2 3 1 J J J J ?_;refine Va J J ?_;refine S_callM 1 Tryz.call51 (c_add [] (open0 p) _ b mb none 0 [] G2 (TabG_le (hext1.trans hext2).le hTab) (hWo.tok (by omega)) hW (by simp)) J J J J (fun _ => J) ?_
 rintro v G3 A' ⟨rfl, q1, q2⟩ hext3
 obtain ⟨A2, c2, xs2, rfl, hcs2⟩ := add_of (Ws := []) rfl (wRep_le hext3.le hW) q1 q2
 rw [show addW [] (open0 p) = [open0 p] from rfl] at hcs2 ⊢
 refine Va J J ?_;refine S_loop (α := XS) (fun y => XOK p w0 G0 y ∧ y.k ≤ y.Ws.length ∧ allW p = allF (122 - y.k) y.k y.Ws) (fun y => 121 - y.k) []
  (fun y => [(5, .val (.int .i64 (y.k : Nat))), (4, .val (.pointer (some ⟨b, 0, none⟩))), (0, .val (.slice Ap p.length cp))])
  (fun y => [.hp 1 (expHP b mb y.A y.Ws.length y.c y.xs (y.Ws.map wText))]) (fun y => y.G)
  ⟨0, [open0 p], A2, c2, xs2, G3⟩ ⟨⟨by simp, (hext1.trans hext2).trans hext3, hcs2, hok0⟩, Nat.zero_le _, rfl⟩ rfl ?_ ?_ ?_
 ·exact ⟨⟨_, J, J⟩, ⟨_, J, J⟩, ⟨_, J, J⟩, trivial⟩
 ·exact .hp .nil
 rintro ⟨k, Ws, A4, c4, xs, G4⟩ ⟨⟨hl120, hext, hcs, hok⟩, hk, hall⟩
 simp only at hl120 hext hcs hok hk hall ⊢
 refine S_unpair 1 2 3 J J ?_;refine S_hpB 2 4 J J J ?_;refine S_unpair 3 5 6 J J ?_;refine S_reE 4 (.ptr 4 0) J J ?_;refine Va J J ?_
 refine S_condp J (fun h5 => ?_) (fun h5 => ?_) <;> refine Va J J ?_
 ·have hkl : k < Ws.length := by omega
  have hWk : Ws[k]? = some Ws[k] := List.getElem?_eq_getElem hkl
  obtain ⟨hWok, hWn⟩ := hok.ok k _ hWk
  generalize Ws[k] = W at hWk hWok hWn
  have hround : allW p = (match roundW W (List.range p.length) Ws with
   | none => none
   | some Ws' => allF (121 - k) (k + 1) Ws') := by
   rw [hall, show 122 - k = (121 - k) + 1 by omega, allF_step hWk, hWn]; try rfl
  have hn3 := hWok.inv.n3
  refine S_reE 4 (.val (.pointer (some ⟨b, 0, none⟩))) J J ?_;refine S_Bhp 4 2 J J J J ?_;refine S_pair 5 6 3 J J J J ?_;refine S_pair 2 3 1 J J J J ?_;refine S_loop (α := XS) (fun y => XOK p w0 G0 y ∧ PH.ext w0.heap.size G4 y.G ∧ y.k ≤ p.length ∧ Ws <+: y.Ws ∧ roundW W (List.range p.length) Ws = roundW W ((List.range p.length).drop y.k) y.Ws) (fun y => p.length - y.k) []
   (fun y => [(29, .val (.int .i64 (y.k : Nat))), (28, .val (.int .i64 (p.length : Nat))), (5, .val (.int .i64 (k : Nat))), (4, .val (.pointer (some ⟨b, 0, none⟩))), (0, .val (.slice Ap p.length cp))])
   (fun y => [.hp 1 (expHP b mb y.A y.Ws.length y.c y.xs (y.Ws.map wText))]) (fun y => y.G)
   ⟨0, Ws, A4, c4, xs, G4⟩ ⟨⟨hl120, hext, hcs, hok⟩, PH.ext.refl _ _, Nat.zero_le _, List.prefix_refl _, rfl⟩ rfl ?_ ?_ ?_
  ·exact ⟨⟨_, J, J⟩, ⟨_, J, J⟩, ⟨_, J, J⟩, ⟨_, J, J⟩, ⟨_, J, J⟩, trivial⟩
  ·exact .hp .nil
  clear hcs
  rintro ⟨i, Ws2, A4, c4, xs, G6⟩ ⟨⟨hl2, hext6, hcs, hok2⟩, hext64, hi, hpre, hrW⟩
  simp only at hl2 hext6 hcs hok2 hext64 hi hpre hrW ⊢
  have hWk2 := prefix_at hpre hWk
  have hkl2 : k < Ws2.length := (List.getElem?_eq_some_iff.1 hWk2).1
  refine S_unpair 1 2 3 J J ?_;refine S_hpB 2 4 J J J ?_;refine S_unpair 3 5 6 J J ?_;refine S_reE 4 (.ptr 4 0) J J ?_;refine Va J J ?_
  refine S_condp J (fun h7 => ?_) (fun h7 => ?_) <;> refine Va J J ?_
  ·have hil : i < p.length := by omega
   obtain ⟨cs5, hcs5, hcl5, hrep5, _⟩ := Cs_at hcs hkl2
   have hW5 : wRep G6 W cs5 := by
    have e := List.getElem?_eq_getElem hkl2
    rw [hWk2] at e
    rw [Option.some.inj e]; exact hrep5
   obtain ⟨f1, f2, f3, f4, f5, rfl⟩ := wRep_five hW5
   have hxl := Cs_length hcs
   refine S_capO 6 J fun hnc4 _ _ => ?_;refine S_someO 6 J (by omega) fun g4 o4 eA => ?_
   subst eA
   refine Va J J ?_;refine S_index Tk J J J J J J (by omega) (by omega) ?_;refine Va J J ?_;refine S_lendO 6 J J (fun _ hn0 _ _ => ?_) (fun g5 o5 cur hA5 _ hnc5 hcm5 hlx hfit ht5 hg5 hb5 hcells => ?_)
   ·omega
   cases hA5
   have hgc : gcells (G6.add g4 (.cells cur 56 (0, 0))) ((⟨g4, o4, none⟩ : Addr).add (k * 5)) [f1, f2, f3, f4, f5] := by
    have h1 := (gcells_append (cs := xs.take (k * 5)) (ys := xs.drop (k * 5)) (by rw [List.take_append_drop]; exact hcells)).2
    rw [List.length_take, Nat.min_eq_left (by omega)] at h1
    have h2 := (gcells_append (cs := (xs.drop (k * 5)).take 5) (ys := (xs.drop (k * 5)).drop 5) (by rw [List.take_append_drop]; exact h1)).1
    rw [hcs5] at h2
    exact h2
   refine S_call Tryz.call53 (c_codeF W i _ [f1, f2, f3, f4, f5] _ hgc (wRep_le (le_add hg5) hW5) hn3 (by omega) hWok.inv.head ⟨hWok.inv.m0, hWok.inv.m1⟩) J J J ?_;rintro v12 G10 ⟨rfl, rfl⟩ _
   refine S_backO 6 (base := 0) (by simp [PH.add]; rfl) hb5 (Nat.zero_le _) hnc5 hcm5 hlx hfit ht5 ?_
   rw [PH.del_add hg5]
   refine Va J J ?_
   have hroww : ∀ G', PH.le G6 G' → Cs 5 (wRep G') Ws2 xs := fun G' hl => Cs_mono (fun s _ cs h => wRep_le hl h) hcs
   by_cases hc : codeOf W (i : Nat) = 0
   rotate_left
   ·refine RT J (by simpa using hc) ?_
    refine Va J J ?_;refine S_reE 4 (.val (.pointer (some ⟨b, 0, none⟩))) J J ?_;refine S_pick [4, 5, 6] J ?_;refine S_Bhp 4 2 J J J J ?_;refine S_pair 5 6 3 J J J J ?_;refine S_pair 2 3 1 J J J J ?_;refine S_add J J J J (by omega) ?_;refine Va J J ?_;exact S_again ⟨i + 1, Ws2, some ⟨g4, o4, none⟩, c4, xs, G6⟩ ⟨⟨hl2, hext6, hcs, hok2⟩, hext64, by simp only; omega, hpre, by simp only; rw [hrW, roundW_skip hil hc]⟩ (by simp only; omega) rfl ⟨⟨_, rfl, by simp [denO]⟩, ⟨_, rfl, rfl⟩, ⟨_, rfl, rfl⟩, ⟨_, rfl, rfl⟩, ⟨_, rfl, rfl⟩, trivial⟩ (.hp .nil)
   refine RF J (by simpa using hc) ?_;refine Va J J ?_
   have hst := hWok.step (by omega) hc
   have hrd := hWok.inv.rdy (by omega)
   have hstI := hst.inv
   refine S_index Tk J J J J J J (by omega) (by omega) ?_;refine Va J J ?_;refine S_valV J J J (V_loadRA Tk 6 J J (add_lit' ..) J hcs5 hcl5) ?_;refine Va J J ?_;refine S_callN 20 Tryz.call31 (c_wcopyO W _ _ hW5 ⟨hWok.inv.n1, hn3⟩ ⟨hrd.sd, hrd.q0, hrd.q1⟩) J J J ?_;rintro v4 G7 A7 ⟨cs4, ts4, rfl, rfl, htd4⟩ hext7
   refine S_newHP 20 J J ?_;refine S_csV 20 J ?_;rintro bp4 bc4 br4 bs4 kp4 asd4 ksd4 kc4 kr4 ks4 rfl
   refine Va J J ?_;refine AZ ZT_ok J J J J fun b7 => ?_;refine Va J J ?_;refine S_V2P 7 20 21 J J J J J J ?_;refine S_reE 7 (.val (.pointer (some ⟨b7, 0, none⟩))) J J ?_;refine S_callM 21 Tryz.call54 (c_step W i b7 ts4 _ hrd htd4 (by omega) (hWok.inv.go hc)) J J J J (fun _ => J) ?_;rintro v8 G8 A8 ⟨ts8, rfl, htd8⟩ hext8
   refine S_P2V 21 60 20 J J J fun cs8 => ?_;refine S_reE 7 (.ptr 60 0) J J ?_;refine S_csV 20 J ?_;rintro bp8 bc8 br8 bs8 kp8 asd8 ksd8 kc8 kr8 ks8 rfl
   have hrd2 := hst.inv.rdy (by omega)
   refine S_frzV 20 J J (fun _ h => h) htd8 hstI.n3 ⟨by have := hrd2.sd; omega, by have := hrd2.q0; omega, by have := hrd2.q1; omega⟩ fun G9 hext9 hWs => ?_
   have hext79 := (hext7.trans hext8).trans hext9
   refine S_Bhp 4 2 J J J J ?_;refine S_pair 5 6 3 J J J J ?_;refine S_pair 2 3 1 J J J J ?_;refine Va J J ?_;refine S_callM 1 Tryz.call51 (c_add Ws2 (W.step i) _ b mb _ c4 xs G9 (TabG_le (hext6.trans hext79).le hTab) (hst.tok (by omega)) hWs (by omega)) J J J J (fun _ => J) ?_;rintro v G11 A' ⟨rfl, q1, q2⟩ hext11
   obtain ⟨A12, c12, xs12, rfl, hcs12⟩ := add_of (hroww _ (hext79.trans hext11).le) (WG_le hext11.le hWs) q1 q2
   have hextz := hext79.trans hext11
   refine S_unpair 1 2 3 J J ?_;refine S_hpB 2 44 J J J ?_;refine S_unpair 3 5 6 J J ?_;refine S_reE 4 (.ptr 44 0) J J ?_;refine Va J J ?_
   refine S_condp J (fun h12 => ?_) (fun h12 => ?_) <;> refine Va J J ?_
   ·have hnone : allW p = none := by rw [hround, hrW, roundW_none hil hc (by omega)]
    exact S_retp (Res.t2 Tryz.results23 J J J J) (hext6.trans hextz) ⟨_, by rw [hnone]; rfl, fun Ws h => by rw [hnone] at h; cases h⟩
   ·refine S_reE 4 (.val (.pointer (some ⟨b, 0, none⟩))) J J ?_
    refine S_Bhp 44 2 J J J J ?_;refine S_pair 5 6 3 J J J J ?_;refine S_pair 2 3 1 J J J J ?_;refine S_add J J J J (by omega) ?_;refine Va J J ?_;refine S_pick [1] J ?_;exact S_again ⟨i + 1, addW Ws2 (W.step i), A12, c12, xs12, G11⟩ ⟨⟨by simp only; omega, hext6.trans hextz, hcs12, hok2.add hst (by omega) (by rw [Wld.step_len]; exact hWn) (by omega)⟩, hext64.trans hextz, by simp only; omega, hpre.trans (addW_pre _ _), by simp only; rw [hrW, roundW_go hil hc (by omega)]⟩ (by simp only; omega) rfl ⟨⟨_, rfl, by simp [denO]⟩, ⟨_, rfl, rfl⟩, ⟨_, rfl, rfl⟩, ⟨_, rfl, rfl⟩, ⟨_, rfl, rfl⟩, trivial⟩ (.hp .nil)
  ·have e0 : i = p.length := by omega
   subst e0
   rw [List.drop_of_length_le (by simp)] at hrW
   refine S_reE 4 (.val (.pointer (some ⟨b, 0, none⟩))) J J ?_;refine S_Bhp 4 2 J J J J ?_;refine S_pair 5 6 3 J J J J ?_;refine S_pair 2 3 1 J J J J ?_;refine S_add J J J J (by omega) ?_;refine Va J J ?_;exact S_again ⟨k + 1, Ws2, A4, c4, xs, G6⟩ ⟨⟨hl2, hext6, hcs, hok2⟩, hkl2, by simp only; rw [hround, hrW, show 122 - (k + 1) = 121 - k by omega]; rfl⟩ (by simp only; omega) rfl ⟨⟨_, rfl, by simp [denO]⟩, ⟨_, rfl, rfl⟩, ⟨_, rfl, rfl⟩, trivial⟩ (.hp .nil)
 ·have e0 : k = Ws.length := by omega
  have hsome : allW p = some Ws := by rw [hall, show 122 - k = (121 - k) + 1 by omega, allF_end (by rw [e0]; simp)]
  refine S_reE 4 (.val (.pointer (some ⟨b, 0, none⟩))) J J ?_;refine S_rebase 6 (fun _ h => h) J J ?_;refine S_freezeR 6 J J (Nat.le_refl _) fun Gf hextf hncf hcmf hclf => ?_;refine S_freezeB 4 J J J J (fun _ h => h) fun hextb => ?_;refine S_retp (Res.t2 Tryz.results23 J J J J) ((hext.trans hextf).trans hextb) ⟨_, by rw [hsome]; rfl, fun Ws' h => ?_⟩
  rw [hsome] at h
  cases h
  refine ⟨b, mb, _, J, gcells_add (pre := []), WsG_le hextb.le ?_⟩
  exact frz (Cs_mono (fun s _ cs h => wRep_le hextf.le h) hcs) J (by omega) hncf hcmf hclf
end
section
section
variable {C : Ctx} {k : List It} {E : Env} {ι : Ids} {L : List Ent} {G : PH}
end
def cellsOf (B : Nat) (G : PH) : PH := fun b => if b < B then G b else match G b with
 | some (.cells c t f) => some (.cells c t f)
 | _ => none
theorem cellsOf_gcell (B : Nat) (G : PH) (a : Addr) : gcell (cellsOf B G) a = gcell G a := by
 unfold gcell cellsOf
 by_cases h : a.block < B
 ·simp [h]
 ·simp only [h, if_false]
  cases hg : G a.block with
  | none => rfl
  | some o => cases o <;> rfl
section
variable {P : Program} {fn : Func} {n : Nat} {G0 G : PH} {Post : Value → PH → Prop} {w0 : World} {k : List It} {E : Env} {ι : Ids} {L : List Ent}
end
end
section
theorem leaveC {P : Program} {fn : Func} {tmps : Array Value} {R : Ending → World → Prop} {w0 : World} {v : Value} {H : PH} (hres : ∀ w, Emb H w → (results fn tmps).run P w = .ok v w) (hR : ∀ w, Below w0.heap.size w0 w → Emb H w → R (.returned v) w) :
  ∀ (Ds : List Nat) (w : World), Ds.Nodup → (∀ D ∈ Ds, w0.heap.size ≤ D ∧ H D = none ∧ w.heap[D]? = some (.deferred (some []))) → Below w0.heap.size w0 w → Emb H w → LeavesInM (FW none) 0 P fn tmps R (Ds.map fun D => { target := .collected D, args := #[] }) .returning w := by
 intro Ds
 induction Ds with
 | nil => intro w _ _ hb hE; exact ⟨v, hres w hE, hR w hb hE⟩
 | cons D Ds ih =>
  intro w hn hD hb hE
  obtain ⟨h1, h0, h2⟩ := hD D (List.mem_cons_self ..)
  refine ⟨by simp, .inl ⟨_, _, J, run_takeDeferred h2, ih _ (List.nodup_cons.1 hn).2 ?_ ?_ ?_⟩⟩
  ·intro D' hD'
   obtain ⟨h3, h3', h4⟩ := hD D' (List.mem_cons_of_mem _ hD')
   refine ⟨h3, h3', ?_⟩
   rw [World.putObj_heap_other (by rintro rfl; exact (List.nodup_cons.1 hn).1 hD')]
   exact h4
  ·refine ⟨hb.os, hb.tape, hb.output, ?_, fun b hb' => ?_⟩
   ·have := hb.size; simp; omega
   ·rw [World.putObj_heap_other (by omega)]
    exact hb.block b hb'
  ·intro b o hbo
   rw [World.putObj_heap_other (by rintro rfl; rw [h0] at hbo; cases hbo)]
   exact hE b o hbo
section
variable {P : Program} {fn : Func} {n : Nat} {G0 G : PH} {Post : Value → Prop} {w0 : World} {k : List It} {E : Env} {ι : Ids} {L : List Ent}
end
end
section
section
variable {C : Ctx} {k : List It} {E : Env} {ι : Ids} {L : List Ent} {G : PH}
end
section
variable {P : Program} {fn : Func} {n : Nat} {G0 G : PH} {Post : Value → Prop} {w0 : World} {k : List It} {E : Env} {ι : Ids} {L : List Ent}
theorem S_retC2 {T : Tab} (hT : tabOk P T) {t ty t' ty' : Nat} {i i' : TyI} {s s' : Sym} {v v' : Value} {ad ad' : Addr} (hw0 : Emb G0 w0) (hr : fn.results = #[.cell t ty, .cell t' ty']) (hl : look t E = some s) (hv : denO ι s = some (.pointer (some ad))) (ht : lookT ty T = some i) (hk0 : i.k.isAgg = false) (hc : gcell G ad = some v)
  (hl' : look t' E = some s') (hv' : denO ι s' = some (.pointer (some ad'))) (ht' : lookT ty' T = some i') (hk0' : i'.k.isAgg = false) (hc' : gcell G ad' = some v') (hp : Post (.tuple #[v, v'])) : X (KC P n fn G0 Post w0) (.code .ret :: k) E ι L G := by
 intro a w h1 h2 h3 h4
 refine wpE_ret (wpE_out k ?_)
 obtain ⟨Ds, d1, d2, d3⟩ := h1
 show LeavesInM _ _ _ _ _ _ a.defers .returning w
 rw [d2]
 have hsub : ∀ b o, cellsOf w0.heap.size G b = some o → G b = some o := by
  intro b o hbo
  unfold cellsOf at hbo
  split at hbo
  ·exact hbo
  ·split at hbo
   ·rename_i h; rw [h]; exact hbo
   ·cases hbo
 have hcut : ∀ D, w0.heap.size ≤ D → G D = some (.deferred (some [])) → cellsOf w0.heap.size G D = none := by
  intro D h5 h6
  unfold cellsOf
  rw [if_neg (by omega), h6]
 refine leaveC (w0 := w0) (v := .tuple #[v, v']) (H := cellsOf w0.heap.size G) (fun w' hE' => ?_) (fun w' hb hE => ?_) Ds w d1 (fun D hD => ⟨(d3 D hD).1, hcut D (d3 D hD).1 (d3 D hD).2, h4.emb _ _ (d3 D hD).2⟩) (h4.below fun _ h => h) (fun b o hbo => h4.emb b o (hsub b o hbo))
 ·obtain ⟨u, hu, htt⟩ := h3 t s hl
  rw [hv] at hu; cases hu
  obtain ⟨u, hu, htt'⟩ := h3 t' s' hl'
  rw [hv'] at hu; cases hu
  have e0 : a.tmps[t]?.getD undef = .pointer (some ad) := by rw [htt]; rfl
  have e0' : a.tmps[t']?.getD undef = .pointer (some ad') := by rw [htt']; rfl
  have e1 : (loadVar ty ad).run P w' = .ok v w' := by
   simp [loadVar, tyOk_agg (hT _ _ ht), hk0, gcell_emb hE' ((cellsOf_gcell _ _ _).trans hc)]
  have e1' : (loadVar ty' ad').run P w' = .ok v' w' := by
   simp [loadVar, tyOk_agg (hT _ _ ht'), hk0', gcell_emb hE' ((cellsOf_gcell _ _ _).trans hc')]
  simp [results, hr, asAddr, e0, e1, e0', e1']
 ·refine ⟨.tuple #[v, v'], G0, rfl, ⟨hp, rfl⟩, PH.ext.refl _ _, fun b o hbo => ?_, hb⟩
  have hlt : b < w0.heap.size := (Array.getElem?_eq_some_iff.1 (hw0 b o hbo)).1
  rw [hb.block b hlt]
  exact hw0 b o hbo
end
section
variable {P : Program} {fn : Func} {n : Nat} {G0 G : PH} {Post : Value → PH → Prop} {w0 : World} {k : List It} {E : Env} {ι : Ids} {L : List Ent}
end
end
section
attribute [local irreducible] X Pure Mod
theorem c_final (W : Wld) (ad0 : Addr) (vs0 : List Value) (G : PH) (hg : gcells G ad0 vs0) (hW : WG G W (.agg vs0.toArray)) (hC : Cod W) : Pure Tryz.prog 57 [.pointer (some ad0)] G fun v' G' => v' = .bool (finalW W) ∧ G' = G := by
 have hcode : ∀ i, i < W.procs.length → Pure Tryz.prog 53 [.pointer (some ad0), .int .i64 (i : Nat)] G fun v' G' => v' = .int .i64 (codeOf W (i : Nat)) ∧ G' = G := fun i hi => c_codeF W i ad0 vs0 G hg hW hC.n3 hi hC.hd hC.m
 have hn3 := hC.n3
 obtain ⟨vp, vc, vr, vs, vd, e0, hpr, _⟩ := hW
 obtain rfl : vs0 = [vp, vc, vr, vs, vd] := by simpa using congrArg (fun v => match v with | .agg x => x.toList | _ => []) e0
 clear e0
 obtain ⟨Ap, cp, rfl, _⟩ := id hpr
 obtain ⟨w1, w2, w3, w4, w5, _⟩ := hg
 refine Pure.intro Tryz.func57 Tryz.ntmps57 J J fun w => ?_; refine Va J J ?_;refine S_load Tk J J J J J (by simpa [add_zero', add_add'] using w1) ?_;refine Va J J ?_;refine S_loop (α := Nat) (fun i => i ≤ W.procs.length ∧ ∀ j, j < i → ¬ codeOf W (j : Nat) = 0) (fun i => W.procs.length - i) []
  (fun i => [(9, .val (.int .i64 (i : Nat))), (8, .val (.int .i64 (W.procs.length : Nat))), (0, .val (.pointer (some ad0)))]) (fun _ => []) (fun _ => G) 0 ⟨Nat.zero_le _, fun j h => by omega⟩ rfl ⟨⟨_, rfl, rfl⟩, ⟨_, rfl, rfl⟩, ⟨_, rfl, rfl⟩, trivial⟩ .nil ?_
 rintro i ⟨hi, hn⟩
 refine Va J J ?_
 refine S_condp J (fun h5 => ?_) (fun h5 => ?_) <;> refine Va J J ?_
 ·have hil : i < W.procs.length := by omega
  refine S_call Tryz.call53 (hcode i hil) J J J ?_;rintro v G2 ⟨rfl, rfl⟩ _
  refine Va J J ?_
  refine S_condp J (fun h6 => ?_) (fun h6 => ?_) <;> refine Va J J ?_
  ·refine S_retp (Res.t1 Tryz.results57 J J) XR ⟨?_, J⟩
   have : finalW W = false := by
    unfold finalW
    rw [List.all_eq_false]
    exact ⟨i, List.mem_range.2 hil, by simp [h6]⟩
   rw [this]
  ·refine S_add J J J J (by omega) ?_
   refine Va J J ?_;refine S_again (i + 1) ⟨hil, fun j hj => ?_⟩ (by omega) J ⟨⟨_, J, by simp [denO]⟩, ⟨_, J, J⟩, ⟨_, J, J⟩, trivial⟩ .nil
   rcases Nat.lt_or_ge j i with h | h
   ·exact hn j h
   ·obtain rfl : j = i := by omega
    exact h6
 ·have e0 : i = W.procs.length := by omega
  subst e0
  refine S_retp (Res.t1 Tryz.results57 J J) XR ⟨?_, J⟩
  have : finalW W = true := by
   unfold finalW
   rw [List.all_eq_true]
   intro j hj
   simpa using hn j (List.mem_range.1 hj)
  rw [this]
theorem wRep_sl {G : PH} {W : Wld} {cs : List Value} (h : wRep G W cs) : ∃ Ap cp Ac cc Ar cr As cs' Ad cd, cs = [.slice Ap W.procs.length cp, .slice Ac 3 cc, .slice Ar 2 cr, .slice As 2 cs', .slice Ad W.said.length cd] := by
 obtain ⟨vp, vc, vr, vs, vd, e, hpr, hce, hro, hsg, hsd⟩ := h
 have e2 : cs = [vp, vc, vr, vs, vd] := by simpa using congrArg (fun v => match v with | .agg x => x.toList | _ => []) e
 subst e2
 obtain ⟨Ap, cp, rfl, _⟩ := hpr
 obtain ⟨Ac, cc, rfl, _⟩ := hce
 obtain ⟨Ar, cr, rfl, _⟩ := hro
 obtain ⟨As, cs_, rfl, _⟩ := hsg
 obtain ⟨Ad, cd, rfl, _⟩ := hsd
 exact ⟨Ap, cp, Ac, cc, Ar, cr, As, cs_, Ad, cd, J⟩
theorem explP_ok {p : List (List Stm)} {Ws : List Wld} {G : PH} {pv : Value} (hp : PrgS G p pv) (h : explP p = some Ws) : Wsok p.length Ws := by
 unfold explP at h
 split at h
 ·rename_i hpo
  exact allW_ok hpo hp.2.1 (prg_iL hp.1) h
 ·cases h
theorem endsP_of (p : List (List Stm)) : endsP p = (explP p).map endsW := by
 unfold endsP explP
 split <;> rfl
def manyP (p : List (List Stm)) : Nat := ((explP p).getD []).length
theorem c_iAllMany (p : List (List Stm)) (pv : Value) (G : PH) (hp : PrgS G p pv) (hTab : TabG G) : Pure Tryz.prog 9 [pv] G fun v' G' => v' = .tuple #[.int .i64 (manyP p : Nat), .bool (explP p).isSome] := by
 have hok := @explP_ok p
 unfold manyP
 have he := c_explore p pv G hp hTab
 obtain ⟨Ap, cp, rfl, _⟩ := id hp.1
 refine Pure.intro Tryz.func9 Tryz.ntmps9 J J fun w => ?_; refine Va J J ?_;refine S_call Tryz.call23 he J J J ?_;rintro v1 G1 ⟨pt, rfl, hpt⟩ hext1
 cases hx : explP p with
 | none =>
  refine Va J J ?_;refine RT J (by simp) ?_;refine Va J J ?_;exact S_retp (Res.t2 Tryz.results9 J J J J) hext1 J
 | some Ws =>
  have hle := (hok hp hx).le
  obtain ⟨b, mb, lv, rfl, hg, hWs⟩ := hpt Ws hx
  obtain ⟨Al, cl, rfl, _⟩ := id hWs
  obtain ⟨w1, w2, _⟩ := hg
  refine Va J J ?_;refine RF J (by simp) ?_;refine Va J J ?_;refine S_load Tk J J J J J (by simpa [add_zero', add_add'] using w2) ?_;refine Va J J ?_;exact S_retp (Res.t2 Tryz.results9 J J J J) hext1 J
def encW (G : PH) (W : Wld) (vs : List Value) : Prop := ∃ cs, wRep G W cs ∧ vs = [Value.agg cs.toArray]
theorem c_ends1 (p : List (List Stm)) (Ws : List Wld) (b b1 mb : Nat) (lv : Value) (G : PH) (hok : Wsok p.length Ws) (h1 : gcell G ⟨b1, 0, none⟩ = some (.pointer (some ⟨b, 0, none⟩))) (hg : gcells G ⟨b, 0, none⟩ [.map (some mb), lv]) (hWs : WsG G Ws lv) :
  IterR Tryz.prog 56 #[.pointer (some ⟨b1, 0, none⟩)] G (encW G) (endsW Ws) := by
 refine IterR_of fun l A Ax hY => ?_
 have hle := hok.le
 obtain ⟨Al, cl, rfl, _⟩ := id hWs
 obtain ⟨w1, w2, _⟩ := hg
 refine Mod.intro Tryz.func56 Tryz.ntmps56 J J fun w S => ?_;refine Va J J ?_;refine S_load Tk J J J J J h1 ?_;refine Va J J ?_;refine S_load Tk J J J J J (by simpa [add_zero', add_add'] using w2) ?_;refine Va J J ?_;refine S_loop (α := Nat) (fun i => i ≤ Ws.length) (fun i => Ws.length - i) []
  (fun i => [(10, .val (.int .i64 (i : Nat))), (9, .val (.int .i64 (Ws.length : Nat))), (8, .val (.slice Al Ws.length cl)), (0, .val (.func (.yield l) #[] #[]))]) (fun i => [.hp 1 (A (endsW (Ws.take i)))]) (fun _ => G) 0 (Nat.zero_le _) rfl ⟨⟨_, rfl, rfl⟩, ⟨_, rfl, rfl⟩, ⟨_, rfl, rfl⟩, ⟨_, rfl, rfl⟩, trivial⟩ (by simp only [List.take_zero, endsW, List.filter_nil]; exact .hp .nil) ?_
 intro k hk
 refine Va J J ?_
 refine S_condp J (fun h5 => ?_) (fun h5 => ?_) <;> refine Va J J ?_
 ·have hkl : k < Ws.length := by omega
  have hnx := endsW_take hkl
  have hpre : endsW (Ws.take (k + 1)) <+: endsW Ws := ⟨endsW (Ws.drop (k + 1)), by unfold endsW; rw [← List.filter_append, List.take_append_drop]⟩
  obtain ⟨hWok, hWn⟩ := hok.ok k _ (List.getElem?_eq_getElem hkl)
  obtain ⟨ad, cs5, e5, hc5, hW5⟩ := Sr_at hWs hkl
  subst e5
  generalize Ws[k] = W at hnx hWok hWn hW5
  obtain ⟨fa, fb, fc, fd, fe, ff, fg, fh, fi, fj, rfl⟩ := wRep_sl hW5
  refine S_index Tk J J J J J J (by omega) (by omega) ?_;refine Va J J ?_;refine S_loadA Tk J J J J J (by simpa using hc5) ?_;refine Va J J ?_;refine AZ ZT_ok J J J J fun b4 => ?_;refine Va J J ?_;refine S_lendB 4 J J J J fun hGb hb0 => ?_;refine S_call Tryz.call57 (vs := [.pointer (some ⟨b4, 0, none⟩)]) (c_final W ⟨b4, 0, none⟩ [.slice fa W.procs.length fb, .slice fc 3 fd, .slice fe 2 ff, .slice fg 2 fh, .slice fi W.said.length fj] _ (gcells_add (pre := [])) (wRep_le (le_add hGb) hW5) hWok.cod) J J J ?_
  rintro v2 G2 ⟨rfl, rfl⟩ _
  refine S_backB 4 (vL [.slice fa W.procs.length fb, .slice fc 3 fd, .slice fe 2 ff, .slice fg 2 fh, .slice fi W.said.length fj]) (PH.add_self _ _ _) J (denL_vL _ _) hb0 ?_
  rw [PH.del_add hGb]
  refine Va J J ?_
  by_cases hf : finalW W = true
  ·rw [if_pos hf] at hnx
   refine GT J J hf ?_;refine Va J J ?_
   have hHY := hY (endsW (Ws.take k)) W [Value.agg [.slice fa W.procs.length fb, .slice fc 3 fd, .slice fe 2 ff, .slice fg 2 fh, .slice fi W.said.length fj].toArray] (by rw [← hnx]; exact hpre) ⟨_, hW5, J⟩
   refine S_yield 1 l J J hHY J J J J (fun _ => J) ?_ ?_ <;> refine Va J J ?_
   ·refine RF J (by simp [hf]) ?_
    refine Va J J ?_;refine S_add J J J J (by omega) ?_;refine Va J J ?_;refine S_again (k + 1) hkl (by omega) J ⟨⟨_, J, by simp [denO]⟩, ⟨_, J, J⟩, ⟨_, J, J⟩, ⟨_, J, J⟩, trivial⟩ ?_
    rw [hnx]
    first | exact .hp .nil | exact .drop (.hp .nil)
   ·refine RT J (by simp [hf]) ?_
    refine Va J J ?_;exact S_retm 1 (Res.t0 Tryz.results56) J XR (.inr ⟨_, J⟩)
  ·rw [if_neg hf, List.append_nil] at hnx
   refine GF J J (by simpa using hf) ?_;refine Va J J ?_;refine S_add J J J J (by omega) ?_;refine Va J J ?_;refine S_again (k + 1) hkl (by omega) J ⟨⟨_, J, by simp [denO]⟩, ⟨_, J, J⟩, ⟨_, J, J⟩, ⟨_, J, J⟩, trivial⟩ ?_
   rw [hnx]
   first | exact .hp .nil | exact .drop (.hp .nil)
 ·have e0 : k = Ws.length := by omega
  subst e0
  rw [List.take_length]
  exact S_endm 1 (Res.t0 Tryz.results56) J XR (.inl J)
theorem c_ends (b : Nat) (G : PH) : Pure Tryz.prog 26 [.pointer (some ⟨b, 0, none⟩)] G fun v' G' => ∃ b1, v' = .func (.func 56) #[] #[.pointer (some ⟨b1, 0, none⟩)] ∧ gcell G' ⟨b1, 0, none⟩ = some (.pointer (some ⟨b, 0, none⟩)) := by
 refine Pure.intro Tryz.func26 Tryz.ntmps26 J J fun w => ?_; refine Va J J ?_;refine S_box J J J J J fun b1 => ?_;refine Va J J ?_;refine S_valV J J J (V_makeFunc J) ?_;refine Va J J ?_;refine S_freezeB 1 J J J J (fun _ h => h) fun hext1 => ?_;refine S_retp (Res.t1 Tryz.results26 J J) hext1 ⟨b1, J, by simp [gcell, PH.add_self]⟩
end
section
attribute [local irreducible] X Pure Mod
theorem c_leftC (p : Prc) (cs : List Value) (G : PH) (h : prcRep G p cs) : Pure Tryz.prog 28 [.agg cs.toArray] G fun v' G' => v' = .bool (leftP p) ∧ G' = G := by
 obtain ⟨vr, vt, rfl, hr, ht⟩ := h
 obtain ⟨A1, c1, rfl, _⟩ := id hr
 obtain ⟨A2, c2, rfl, _⟩ := id ht
 refine Pure.intro Tryz.func28 Tryz.ntmps28 J J fun w => ?_; refine Va J J ?_;refine S_box J J J J J fun b1 => ?_;refine Va J J ?_;refine S_retp (Res.t1 Tryz.results28 J J) XR ⟨?_, J⟩
 congr 1
 unfold leftP
 rw [show (decide (p.mode ≠ 0)) = !decide (p.mode = 0) by simp]
 cases htd : p.todo <;> simp [htd]
 all_goals omega
theorem c_IndexProc (L : List Prc) (v : Value) (G : PH) (hv : Sr G 5 (prcRep G) L v) :
  Pure Tryz.prog 58 [v, .func (.func 28) #[] #[]] G fun v G' => (∃ r : Int, v = .int .i64 r ∧ (0 ≤ r ↔ L.any leftP = true)) ∧ G' = G := by
 obtain ⟨A, c, rfl, hn, hc1, hc2, hr⟩ := id hv
 refine Pure.intro Tryz.func58 Tryz.ntmps58 J J fun w => ?_; refine Va J J ?_;refine S_loop (α := Nat) (fun k => k ≤ L.length ∧ (L.take k).any leftP = false) (fun k => L.length - k) []
  (fun k => [(8, .val (.int .i64 (k : Nat))), (7, .val (.int .i64 (L.length : Nat))), (0, .val (.slice A L.length c)), (1, .val (.func (.func 28) #[] #[]))]) (fun _ => []) (fun _ => G) 0 ⟨Nat.zero_le _, rfl⟩ rfl
  ⟨⟨_, rfl, rfl⟩, ⟨_, rfl, rfl⟩, ⟨_, rfl, rfl⟩, ⟨_, rfl, rfl⟩, trivial⟩ .nil ?_
 rintro k ⟨hk, hall⟩
 refine Va J J ?_
 refine S_condp J (fun h => ?_) (fun h => ?_) <;> refine Va J J ?_
 ·have hkl : k < L.length := by omega
  obtain ⟨ad, cs, rfl, hcs, hrep⟩ := Sr_at hv hkl
  have hnx : (L.take (k + 1)).any leftP = ((L.take k).any leftP || leftP L[k]) := by rw [List.take_succ_eq_append_getElem hkl, List.any_append]; simp
  have hany : leftP L[k] = true → L.any leftP = true := fun h => List.any_eq_true.2 ⟨_, List.getElem_mem hkl, h⟩
  rw [hall, Bool.false_or] at hnx
  generalize L[k] = p at hcs hrep hnx hany
  have hcl := c_leftC p cs G hrep
  obtain ⟨vr, vt, rfl, hr1, ht1⟩ := hrep
  obtain ⟨A1, c1, rfl, _⟩ := id hr1
  obtain ⟨A2, c2, rfl, _⟩ := id ht1
  refine S_index Tk J J J J J J (by omega) (by omega) ?_;refine Va J J ?_;refine S_loadA Tk J J J J J (by simpa using hcs) ?_;refine Va J J ?_;refine S_callV (vs := [.agg #[.slice A1 3 c1, .slice A2 p.todo.length c2, .int .i64 p.mode, .int .i64 p.on, .int .i64 p.room]]) J Tryz.call28 hcl J J J ?_;rintro v1 G1 ⟨rfl, rfl⟩ _
  refine Va J J ?_
  cases hl : leftP p
  ·refine RF J J ?_
   refine Va J J ?_;refine S_add J J J J (by omega) ?_;refine Va J J ?_;exact S_again (k + 1) ⟨by omega, by rw [hnx, hl]⟩ (by omega) J ⟨⟨_, J, by simp [denO]⟩, ⟨_, J, J⟩, ⟨_, J, J⟩, ⟨_, J, J⟩, trivial⟩ .nil
  ·refine RT J J ?_
   refine Va J J ?_;exact S_retp (Res.t1 Tryz.results58 J J) XR ⟨⟨_, J, by rw [hany hl]; simp⟩, rfl⟩
 ·have e0 : k = L.length := by omega
  subst e0
  rw [List.take_length] at hall
  exact S_retp (Res.t1 Tryz.results58 J J) XR ⟨⟨_, J, by rw [hall]; simp⟩, rfl⟩
theorem c_ContainsProc (L : List Prc) (v : Value) (G : PH) (hv : Sr G 5 (prcRep G) L v) : Pure Tryz.prog 27 [v, .func (.func 28) #[] #[]] G fun v G' => v = .bool (L.any leftP) ∧ G' = G := by
 obtain ⟨A, c, rfl, hn, hc1, hc2, hr⟩ := id hv
 refine Pure.intro Tryz.func27 Tryz.ntmps27 J J fun w => ?_; refine Va J J ?_;refine S_call Tryz.call58 (c_IndexProc L _ _ hv) J J J ?_;rintro v1 G1 ⟨⟨r, rfl, hrr⟩, rfl⟩ _
 refine Va J J ?_;refine S_retp (Res.t1 Tryz.results27 J J) XR ⟨?_, J⟩
 congr 1
 exact (Bool.eq_iff_iff.2 (by rw [← hrr]; simp))
theorem c_iAllStuck (p : List (List Stm)) (pv : Value) (G : PH) (hp : PrgS G p pv) (hTab : TabG G) : Pure Tryz.prog 12 [pv] G fun v' G' => v' = .tuple #[.bool (stuckP p), .bool (endsP p).isSome] ∧ G' = G := by
 have hok := @explP_ok p
 have he := c_explore p pv G hp hTab
 obtain ⟨Ap, cp, rfl, _⟩ := id hp.1
 refine Pure.introM Tryz.func12 Tryz.ntmps12 J J fun w hw => ?_;refine Va J J ?_;refine AZ ZT_ok J J J J fun b2 => ?_;refine Va J J ?_;refine AZ ZT_ok J J J J fun b3 => ?_;refine Va J J ?_;refine S_call Tryz.call23 he J J J ?_;rintro v1 G1 ⟨pt, rfl, hpt⟩ hext1
 unfold stuckP
 rw [endsP_of]
 cases hx : explP p with
 | none =>
  refine Va J J ?_;refine RT J (by simp) ?_;refine Va J J ?_;refine S_freezeB 2 J J J J (fun _ h => h) fun hx2 => ?_;refine S_freezeB 3 J J J J (fun _ h => h) fun hx3 => ?_;refine S_retC2 (v := .bool false) (v' := .bool false) Tk hw Tryz.results12 J J J J (gcell_le hx3.le (by simp [gcell, PH.add_self])) J J J J (by simp [gcell, PH.add_self]) ?_
  rfl
 | some Ws =>
  have hWok := hok hp hx
  obtain ⟨b, mb, lv, rfl, hg, hWs⟩ := hpt Ws hx
  refine Va J J ?_;refine RF J (by simp) ?_;refine Va J J ?_;refine S_call Tryz.call26 (c_ends b _) J J J ?_;rintro v2 G2 ⟨b1, rfl, hb1⟩ hext2
  refine Va J J ?_
  have hWs2 := WsG_le hext2.le hWs
  simp only [Option.map_some, Option.getD_some, Option.isSome_some]
  refine S_range (fun pre => bif pre.any leftW then [.hp 4 deadHP] else [.blk 3 4 (vL [.bool false]), .blk 2 4 (vL [.bool false])]) (fun pre => bif (endsW Ws).any leftW then [.blk 3 4 (vL [.bool true]), .blk 2 4 (vL [.bool true])] else [.hp 4 deadHP])
   rfl rfl rfl Tryz.call56 (c_ends1 p Ws b b1 mb lv G2 hWok hb1 (gcells_le hext2.le hg) hWs2) (fun x vs h => by obtain ⟨cs, _, rfl⟩ := h; rfl) rfl (.blk rfl rfl (.blk rfl rfl .nil)) ?_ ?_ ?_
  ·intro l pre x vs W S I hpre henc hW hI
   obtain ⟨cs, hrep, rfl⟩ := henc
   cases hpa : pre.any leftW
   rotate_left
   ·exact S_dead 4 J
   simp only [cond_false]
   have hxm : x ∈ endsW Ws := hpre.subset (by simp)
   obtain ⟨vp, vc, vr, vs, vd, ev, hpr, _⟩ := id hrep
   obtain ⟨fa, fb, fc, fd, fe, ff, fg, fh, fi, fj, rfl⟩ := wRep_sl hrep
   obtain rfl : vp = .slice fa x.procs.length fb := by
    have := congrArg (fun v => match v with | .agg x => x.toList | _ => []) ev
    simp at this
    exact this.1.symm
   refine Va J J ?_;refine AZ ZT_ok J J J J fun b7 => ?_;refine Va J J ?_;refine hI _ _ _ fun W2 S2 hW2 => ?_;refine Va J J ?_;refine S_call Tryz.call27 (c_ContainsProc x.procs _ _ hpr) J J J ?_;rintro v3 G5 ⟨rfl, rfl⟩ _
   refine Va J J ?_
   cases hl : x.procs.any leftP
   ·refine RF J J ?_
    refine Va J J ?_;refine S_roundEnd ?_
    rw [show (pre ++ [x]).any leftW = false by simp [hpa, leftW, hl]]
    exact .drop (.blk J J (.blk J J .nil))
   ·refine RT J J ?_
    refine Va J J ?_;refine S_roundRet ?_
    rw [show (endsW Ws).any leftW = true from List.any_eq_true.2 ⟨x, hxm, hl⟩]
    exact .drop (.blk J J (.blk J J .nil))
  ·intro D hD hDs
   cases hf : (endsW Ws).any leftW
   rotate_left
   ·exact S_dead 4 J
   simp only [cond_false]
   refine Va J J ?_;refine S_freezeB 2 J J J J (fun _ h => h) fun hx2 => ?_;refine S_freezeB 3 J J J J (fun _ h => h) fun hx3 => ?_;refine S_retC2 (v := .bool false) (v' := .bool true) Tk hw Tryz.results12 J J J J (gcell_le hx3.le (by simp [gcell, PH.add_self])) J J J J (by simp [gcell, PH.add_self]) ?_
   rfl
  ·intro D pre hD hDs
   cases hf : (endsW Ws).any leftW
   ·exact S_dead 4 J
   simp only [cond_true]
   refine S_freezeB 2 J J J J (fun _ h => h) fun hx2 => ?_;refine S_freezeB 3 J J J J (fun _ h => h) fun hx3 => ?_;refine S_retC2 (v := .bool true) (v' := .bool true) Tk hw Tryz.results12 J J J J (gcell_le hx3.le (by simp [gcell, PH.add_self])) J J J J (by simp [gcell, PH.add_self]) ?_
   rfl
end
section
def Sl0 (G : PH) (row : Addr → Prop) (n : Nat) (v : Value) : Prop :=
 ∃ A c, v = .slice A n c ∧ n ≤ c ∧ c ≤ maxLen ∧ (n = 0 ∨ ∃ ad, A = some ad ∧ row ad)
mutual
/-- the six cells of a statement that came in -/
def Stm.rep0 (G : PH) : Stm → List Value → Prop
 | .mk k a b n x y, cs => ∃ vx vy, cs = [.int .i64 k, .int .i64 a, .int .i64 b, .int .i64 n, vx, vy] ∧ I64 k ∧ I64 a ∧ I64 b ∧ I64 n ∧ Sl0 G (Stm.row0 G x) x.length vx ∧ Sl0 G (Stm.row0 G y) y.length vy
def Stm.row0 (G : PH) : List Stm → Addr → Prop
 | [], _ => True
 | s :: r, ad => (∃ cs, gcells G ad cs ∧ Stm.rep0 G s cs) ∧ Stm.row0 G r (ad.add 6)
end
def Sr0 {α : Type} (G : PH) (sz : Nat) (rep : α → List Value → Prop) (L : List α) (v : Value) : Prop := Sl0 G (Rw G sz rep L) L.length v
theorem Sr0_at {α : Type} {G : PH} {sz : Nat} {rep : α → List Value → Prop} {L : List α} {A : Option Addr} {n c : Nat} (h : Sr0 G sz rep L (.slice A n c)) {k : Nat} (hk : k < L.length) : ∃ ad cs, A = some ad ∧ gcells G (ad.add (k * sz)) cs ∧ rep L[k] cs := by
 obtain ⟨A', c', e, _, _, h5⟩ := h
 cases e
 rcases h5 with h5 | ⟨ad, rfl, h6⟩
 ·omega
 ·obtain ⟨cs, h7, h8⟩ := Rw_at h6 hk
  exact ⟨ad, cs, J, h7, h8⟩
theorem Stm.row0_eq {G : PH} : ∀ (L : List Stm) (ad : Addr), Stm.row0 G L ad ↔ Rw G 6 (Stm.rep0 G) L ad
 | [], _ => by simp [Stm.row0, Rw]
 | s :: L, ad => by simp only [Stm.row0, Rw, Stm.row0_eq L]
abbrev Sts0 (G : PH) (L : List Stm) (v : Value) : Prop := Sr0 G 6 (Stm.rep0 G) L v
theorem Stm.rep0_iff {G : PH} {k a b n : Int} {x y : List Stm} {cs : List Value} : Stm.rep0 G (.mk k a b n x y) cs ↔ ∃ vx vy, cs = [.int .i64 k, .int .i64 a, .int .i64 b, .int .i64 n, vx, vy] ∧ I64 k ∧ I64 a ∧ I64 b ∧ I64 n ∧ Sts0 G x vx ∧ Sts0 G y vy := by
 have e : ∀ L : List Stm, Stm.row0 G L = Rw G 6 (Stm.rep0 G) L := fun L => funext fun ad => propext (Stm.row0_eq L ad)
 simp only [Stm.rep0, Sr0, e]
def stsRep0 (G : PH) (L : List Stm) (cs : List Value) : Prop := ∃ v, cs = [v] ∧ Sts0 G L v
abbrev Prg0 (G : PH) (p : List (List Stm)) (v : Value) : Prop := Sr0 G 1 (stsRep0 G) p v
mutual
/-- how many statements lie within -/
def Stm.cnt : Stm → Nat
 | .mk _ _ _ _ x y => cntL x + cntL y
def cntL : List Stm → Nat
 | [] => 0
 | s :: r => 1 + Stm.cnt s + cntL r
end
theorem len_cnt : ∀ L : List Stm, L.length ≤ cntL L
 | [] => by simp [cntL]
 | s :: r => by have := len_cnt r; simp only [cntL, List.length_cons]; omega
theorem cnt_mk (k a b n : Int) (x y : List Stm) : (Stm.mk k a b n x y).cnt = cntL x + cntL y := by simp [Stm.cnt]
def cntP : List (List Stm) → Nat
 | [] => 0
 | l :: r => 1 + cntL l + cntP r
theorem len_cntP : ∀ p : List (List Stm), p.length ≤ cntP p
 | [] => by simp [cntP]
 | s :: r => by have := len_cntP r; simp only [cntP, List.length_cons]; omega
theorem cntP_mem : ∀ {p : List (List Stm)} {l : List Stm}, l ∈ p → cntL l ≤ cntP p
 | s :: r, l, h => by
  rcases List.mem_cons.1 h with rfl | h
  ·simp only [cntP]; omega
  ·have := cntP_mem h; simp only [cntP]; omega
mutual
theorem sh_cntS : ∀ (s : Stm), s.cnt ≤ 1048576 → Stm.short s
 | .mk _ _ _ _ x y, h => by
  have h' : cntL x + cntL y ≤ 1048576 := by simpa [Stm.cnt] using h
  have hx := len_cnt x
  have hy := len_cnt y
  have a1 := sh_cntL x (by omega)
  have a2 := sh_cntL y (by omega)
  simp only [Stm.short]
  exact ⟨⟨by omega, a1⟩, by omega, a2⟩
theorem sh_cntL : ∀ (L : List Stm), cntL L ≤ 1048576 → shL L
 | [], _ => trivial
 | s :: r, h => by
  simp only [cntL] at h
  exact ⟨sh_cntS s (by omega), sh_cntL r (by omega)⟩
end
theorem Sh_cnt {L : List Stm} (h : cntL L ≤ 1048576) : Sh L := ⟨by have := len_cnt L; omega, sh_cntL L h⟩
theorem sts0_conv {G : PH} {L : List Stm} {v : Value} (hc : L.length ≤ 1048576) (hR : ∀ s ∈ L, ∀ cs, Stm.rep0 G s cs → Stm.rep G s cs) (h : Sts0 G L v) : Sts G L v := by
 obtain ⟨A, c, h1, h2, h3, h4⟩ := h
 refine ⟨A, c, h1, by omega, h2, h3, ?_⟩
 rcases h4 with h4 | ⟨ad, h4, h5⟩
 ·exact .inl h4
 ·exact .inr ⟨ad, h4, Rw_mono (PH.le.refl _) hR h5⟩
mutual
theorem rep0_okS {G : PH} : ∀ (s : Stm) (cs : List Value), s.cnt ≤ 1048576 → Stm.rep0 G s cs → Stm.rep G s cs
 | .mk k a b n x y, cs, hc, h => by
  have h' : cntL x + cntL y ≤ 1048576 := by simpa [Stm.cnt] using hc
  have hx := len_cnt x
  have hy := len_cnt y
  obtain ⟨vx, vy, e, h1, h2, h3, h4, h5, h6⟩ := Stm.rep0_iff.1 h
  exact Stm.rep_iff.2 ⟨vx, vy, e, h1, h2, h3, h4, sts0_conv (by omega) (rep0_okR x (by omega)) h5, sts0_conv (by omega) (rep0_okR y (by omega)) h6⟩
theorem rep0_okR {G : PH} : ∀ (L : List Stm), cntL L ≤ 1048576 → ∀ s ∈ L, ∀ cs, Stm.rep0 G s cs → Stm.rep G s cs
 | [], _, s, hs, _, _ => by cases hs
 | t :: L, hc, s, hs, cs, h => by
  simp only [cntL] at hc
  rcases List.mem_cons.1 hs with e | hs'
  ·rw [e] at h ⊢; exact rep0_okS t cs (by omega) h
  ·exact rep0_okR L (by omega) s hs' cs h
end
theorem rep0_okL {G : PH} {L : List Stm} {v : Value} (hc : cntL L ≤ 1048576) (h : Sts0 G L v) : Sts G L v :=
 sts0_conv (by have := len_cnt L; omega) (rep0_okR L hc) h
theorem prg0_ok {G : PH} {p : List (List Stm)} {v : Value} (hc : cntP p ≤ 1048576) (h : Prg0 G p v) : Prg G p v := by
 have hl := len_cntP p
 obtain ⟨A, c, h1, h2, h3, h4⟩ := h
 refine ⟨A, c, h1, by omega, h2, h3, ?_⟩
 rcases h4 with h4 | ⟨ad, h4, h5⟩
 ·exact .inl h4
 ·refine .inr ⟨ad, h4, Rw_mono (PH.le.refl _) (fun l hl cs h => ?_) h5⟩
  obtain ⟨u, h6, h7⟩ := h
  have := cntP_mem hl
  exact ⟨u, h6, rep0_okL (by omega) h7⟩
def szR (c : Nat) (l : Int) : Int := if (c : Int) ≤ l then l - c else -1
theorem szR_add (c d : Nat) (l : Int) : szR (c + d) l = if szR c l < 0 then -1 else szR d (szR c l) := by
 unfold szR
 split <;> split <;> (try split) <;> omega
end
section
attribute [local irreducible] X Pure Mod
def smL : List Stm → Nat
 | [] => 0
 | s :: r => s.cnt + smL r
theorem cntL_eq : ∀ L : List Stm, cntL L = L.length + smL L
 | [] => rfl
 | s :: r => by have := cntL_eq r; simp only [cntL, smL, List.length_cons]; omega
theorem smL_append : ∀ L M : List Stm, smL (L ++ M) = smL L + smL M
 | [], M => by simp [smL]
 | s :: r, M => by have := smL_append r M; simp only [List.cons_append, smL]; omega
theorem smL_take {L : List Stm} {k : Nat} (h : k < L.length) : smL (L.take (k + 1)) = smL (L.take k) + L[k].cnt := by
 rw [List.take_succ_eq_append_getElem h, smL_append]; simp [smL]
theorem smL_le (L : List Stm) (k : Nat) : smL (L.take k) ≤ smL L := by
 conv => rhs; rw [← List.take_append_drop k L, smL_append]
 omega
def smP : List (List Stm) → Nat
 | [] => 0
 | l :: r => cntL l + smP r
theorem cntP_eq : ∀ p : List (List Stm), cntP p = p.length + smP p
 | [] => rfl
 | s :: r => by have := cntP_eq r; simp only [cntP, smP, List.length_cons]; omega
theorem smP_append : ∀ L M : List (List Stm), smP (L ++ M) = smP L + smP M
 | [], M => by simp [smP]
 | s :: r, M => by have := smP_append r M; simp only [List.cons_append, smP]; omega
theorem smP_take {L : List (List Stm)} {k : Nat} (h : k < L.length) : smP (L.take (k + 1)) = smP (L.take k) + cntL L[k] := by
 rw [List.take_succ_eq_append_getElem h, smP_append]; simp [smP]
theorem smP_le (L : List (List Stm)) (k : Nat) : smP (L.take k) ≤ smP L := by
 conv => rhs; rw [← List.take_append_drop k L, smP_append]
 omega
theorem rep0_len {G : PH} {s : Stm} {cs : List Value} (h : Stm.rep0 G s cs) : cs.length = 6 := by
 cases s
 obtain ⟨vx, vy, e, _⟩ := Stm.rep0_iff.1 h
 simp [e]
def SzS (s : Stm) : Prop := ∀ (l : Int) (cs : List Value) (G : PH), 0 ≤ l → l ≤ 1048576 → Stm.rep0 G s cs → Pure Tryz.prog 42 [.agg cs.toArray, .int .i64 l] G fun v G' => v = .int .i64 (szR s.cnt l) ∧ G' = G
def SzL (L : List Stm) : Prop := ∀ (l : Int) (v : Value) (G : PH), 0 ≤ l → l ≤ 1048576 → Sts0 G L v → Pure Tryz.prog 19 [v, .int .i64 l] G fun v G' => v = .int .i64 (szR (cntL L) l) ∧ G' = G
theorem szR_bnd {c : Nat} {l : Int} (h0 : 0 ≤ l) : -1 ≤ szR c l ∧ szR c l ≤ l := by unfold szR; split <;> omega
theorem c_szStmt (s : Stm) (hx : SzL s.body) (hy : SzL s.els) : SzS s := by
 intro l cs G h0 h1 hrep
 obtain ⟨k, a, b, n, x, y⟩ := s
 obtain ⟨vx, vy, rfl, hk, ha, hb, hn, hvx, hvy⟩ := Stm.rep0_iff.1 hrep
 simp only [Stm.body, Stm.els] at hx hy
 have hc := hx l _ G h0 h1 hvx
 have hb1 := szR_bnd (c := cntL x) h0
 have hadd := szR_add (cntL x) (cntL y) l
 rw [cnt_mk]
 obtain ⟨Ax, cx, rfl, _⟩ := id hvx
 obtain ⟨Ay, cy, rfl, _⟩ := id hvy
 refine Pure.intro Tryz.func42 Tryz.ntmps42 J J fun w => ?_; refine Va J J ?_;refine S_box J J J J J fun b1 => ?_;refine Va J J ?_;refine S_call Tryz.call19 hc J J J ?_;rintro v1 G1 ⟨rfl, rfl⟩ _
 generalize szR (cntL x) l = m at hb1 hadd ⊢
 refine Va J J ?_
 refine S_condp J (fun h => ?_) (fun h => ?_) <;> refine Va J J ?_
 ·exact S_retp (Res.t1 Tryz.results42 J J) XR ⟨by rw [hadd, if_pos h], J⟩
 rw [if_neg h] at hadd
 refine S_call Tryz.call19 (hy m _ G1 (by omega) (by omega) hvy) J J J ?_;rintro v2 G2 ⟨rfl, rfl⟩ _
 rw [← hadd]
 generalize hr : szR (cntL x + cntL y) l = r at hadd ⊢
 have hb2 := szR_bnd (c := cntL x + cntL y) h0
 rw [hr] at hb2
 refine Va J J ?_
 refine S_condp J (fun h => ?_) (fun h => ?_) <;> refine Va J J ?_
 ·exact S_retp (Res.t1 Tryz.results42 J J) XR ⟨by rw [show r = -1 by omega], J⟩
 ·exact S_retp (Res.t1 Tryz.results42 J J) XR ⟨J, J⟩
theorem c_szStmtS (L : List Stm) (hz : ∀ k (hk : k < L.length), SzS L[k]) : SzL L := by
 intro l v G h0 h1 hv
 have hce := cntL_eq L
 have hcm := hv
 obtain ⟨A, c, rfl, hnc, hmc, _⟩ := id hv
 have hmx : maxLen = 9223372036854775807 := rfl
 refine Pure.intro Tryz.func19 Tryz.ntmps19 J J fun w => ?_; refine Va J J ?_;refine S_subI J J J J (by omega) ?_;refine Va J J ?_
 refine S_condp J (fun h => ?_) (fun h => ?_) <;> refine Va J J ?_
 ·exact S_retp (Res.t1 Tryz.results19 J J) XR ⟨by rw [szR, if_neg (by omega)], J⟩
 refine S_loop (α := Nat) (fun k => k ≤ L.length ∧ ((L.length + smL (L.take k) : Nat) : Int) ≤ l) (fun k => L.length - k) []
  (fun k => [(5, .val (.int .i64 (k : Nat))), (1, .val (.int .i64 (l - (L.length + smL (L.take k) : Nat)))), (0, .val (.slice A L.length c))]) (fun _ => []) (fun _ => G) 0 ⟨Nat.zero_le _, by simp [smL]; omega⟩ rfl ⟨⟨_, rfl, rfl⟩, ⟨_, rfl, by simp [denO, smL]⟩, ⟨_, rfl, rfl⟩, trivial⟩ .nil ?_
 rintro k ⟨hk, hle⟩
 refine Va J J ?_
 refine S_condp J (fun h5 => ?_) (fun h5 => ?_) <;> refine Va J J ?_
 ·have hkl : k < L.length := by omega
  obtain ⟨ad, cs, rfl, hcs, hrep⟩ := Sr0_at hv hkl
  have hnx := smL_take hkl
  have hsl := smL_le L (k + 1)
  have hzk := hz k hkl (l - (L.length + smL (L.take k) : Nat)) cs G (by omega) (by omega) hrep
  generalize L[k].cnt = sc at hnx hzk
  refine S_index Tk J J J J J J (by omega) (by omega) ?_;refine Va J J ?_;refine S_loadA Tk J J J J (rep0_len hrep) hcs ?_;refine Va J J ?_;refine S_call Tryz.call42 hzk J J J ?_;rintro v1 G1 ⟨rfl, rfl⟩ _
  have hrr : szR sc (l - (L.length + smL (L.take k) : Nat)) = if ((L.length + smL (L.take (k + 1)) : Nat) : Int) ≤ l then l - (L.length + smL (L.take (k + 1)) : Nat) else -1 := by
   rw [hnx]; unfold szR; split <;> split <;> omega
  rw [hrr]
  by_cases hf : ((L.length + smL (L.take (k + 1)) : Nat) : Int) ≤ l
  ·rw [if_pos hf]
   refine Va J J ?_;refine RF J (by simp; omega) ?_;refine Va J J ?_;refine S_add J J J J (by omega) ?_;refine Va J J ?_;exact S_again (k + 1) ⟨by omega, hf⟩ (by omega) J ⟨⟨_, J, by simp [denO]⟩, ⟨_, J, J⟩, ⟨_, J, J⟩, trivial⟩ .nil
  ·rw [if_neg hf]
   refine Va J J ?_;refine RT J J ?_;refine Va J J ?_;exact S_retp (Res.t1 Tryz.results19 J J) XR ⟨by rw [szR, if_neg (by omega)], J⟩
 ·have e0 : k = L.length := by omega
  subst e0
  rw [List.take_length, ← hce] at hle ⊢
  exact S_retp (Res.t1 Tryz.results19 J J) XR ⟨by rw [szR, if_pos hle], J⟩
theorem SzL_of (L : List Stm) (h : ∀ k (hk : k < L.length), SzL L[k].body ∧ SzL L[k].els) : SzL L :=
 c_szStmtS L fun k hk => c_szStmt _ (h k hk).1 (h k hk).2
mutual
theorem SzL_stm : ∀ (s : Stm), SzL s.body ∧ SzL s.els
 | .mk k a b n x y => ⟨SzL_all x, SzL_all y⟩
theorem SzL_at : ∀ (L : List Stm) (k : Nat) (hk : k < L.length), SzL L[k].body ∧ SzL L[k].els
 | [], k, hk => absurd hk (by simp)
 | s :: L, 0, _ => SzL_stm s
 | s :: L, k + 1, hk => SzL_at L k (by simpa using hk)
theorem SzL_all : ∀ (L : List Stm), SzL L
 | L => SzL_of L (SzL_at L)
end
theorem c_szSS (p : List (List Stm)) (v : Value) (l : Int) (G : PH) (hv : Prg0 G p v) (h0 : 0 ≤ l) (h1 : l ≤ 1048576) : Pure Tryz.prog 6 [v, .int .i64 l] G fun v G' => v = .int .i64 (szR (cntP p) l) ∧ G' = G := by
 have hce := cntP_eq p
 obtain ⟨A, c, rfl, hnc, hmc, _⟩ := id hv
 have hmx : maxLen = 9223372036854775807 := rfl
 refine Pure.intro Tryz.func6 Tryz.ntmps6 J J fun w => ?_; refine Va J J ?_;refine S_subI J J J J (by omega) ?_;refine Va J J ?_
 refine S_condp J (fun h => ?_) (fun h => ?_) <;> refine Va J J ?_
 ·exact S_retp (Res.t1 Tryz.results6 J J) XR ⟨by rw [szR, if_neg (by omega)], J⟩
 refine S_loop (α := Nat) (fun k => k ≤ p.length ∧ ((p.length + smP (p.take k) : Nat) : Int) ≤ l) (fun k => p.length - k) []
  (fun k => [(5, .val (.int .i64 (k : Nat))), (1, .val (.int .i64 (l - (p.length + smP (p.take k) : Nat)))), (0, .val (.slice A p.length c))]) (fun _ => []) (fun _ => G) 0 ⟨Nat.zero_le _, by simp [smP]; omega⟩ rfl ⟨⟨_, rfl, rfl⟩, ⟨_, rfl, by simp [denO, smP]⟩, ⟨_, rfl, rfl⟩, trivial⟩ .nil ?_
 rintro k ⟨hk, hle⟩
 refine Va J J ?_
 refine S_condp J (fun h5 => ?_) (fun h5 => ?_) <;> refine Va J J ?_
 ·have hkl : k < p.length := by omega
  obtain ⟨ad, cs, rfl, hcs, u, rfl, hu⟩ := Sr0_at hv hkl
  have hnx := smP_take hkl
  have hsl := smP_le p (k + 1)
  have hzk := SzL_all p[k] (l - (p.length + smP (p.take k) : Nat)) u G (by omega) (by omega) hu
  generalize p[k] = q at hnx hzk hu
  obtain ⟨A1, c1, rfl, _⟩ := id hu
  refine S_index Tk J J J J J J (by omega) (by omega) ?_;refine Va J J ?_;refine S_load Tk J J J J J (by simpa [add_zero'] using gcells_at hcs 0 _ J) ?_;refine Va J J ?_;refine S_call Tryz.call19 hzk J J J ?_;rintro v1 G1 ⟨rfl, rfl⟩ _
  have hrr : szR (cntL q) (l - (p.length + smP (p.take k) : Nat)) = if ((p.length + smP (p.take (k + 1)) : Nat) : Int) ≤ l then l - (p.length + smP (p.take (k + 1)) : Nat) else -1 := by
   rw [hnx]; unfold szR; split <;> split <;> omega
  rw [hrr]
  by_cases hf : ((p.length + smP (p.take (k + 1)) : Nat) : Int) ≤ l
  ·rw [if_pos hf]
   refine Va J J ?_;refine RF J (by simp; omega) ?_;refine Va J J ?_;refine S_add J J J J (by omega) ?_;refine Va J J ?_;exact S_again (k + 1) ⟨by omega, hf⟩ (by omega) J ⟨⟨_, J, by simp [denO]⟩, ⟨_, J, J⟩, ⟨_, J, J⟩, trivial⟩ .nil
  ·rw [if_neg hf]
   refine Va J J ?_;refine RT J J ?_;refine Va J J ?_;exact S_retp (Res.t1 Tryz.results6 J J) XR ⟨by rw [szR, if_neg (by omega)], J⟩
 ·have e0 : k = p.length := by omega
  subst e0
  rw [List.take_length, ← hce] at hle ⊢
  exact S_retp (Res.t1 Tryz.results6 J J) XR ⟨by rw [szR, if_pos hle], J⟩
end
section
section
variable {C : Ctx} {k : List It} {E : Env} {ι : Ids} {L : List Ent} {G : PH} {all : Array Oper} {l : List Oper}
def over (o : Nat) (cs xs : List Value) : List Value := xs.take o ++ cs ++ xs.drop (o + cs.length)
theorem over_len {o : Nat} {cs xs : List Value} (h : o + cs.length ≤ xs.length) : (over o cs xs).length = xs.length := by
 unfold over; simp; omega
theorem over_mid {o off m : Nat} {cs cur xs : List Value} (hx : (cur.drop off).take m = xs) (hm : xs.length = m) (hfit : o + cs.length ≤ m) :
  ((over (off + o) cs cur).drop off).take m = over o cs xs := by
 have hc : off + m ≤ cur.length ∨ m = 0 := by
  have := congrArg List.length hx
  simp only [List.length_take, List.length_drop] at this
  omega
 rcases hc with hc | hm0
 ·apply List.ext_getElem?
  intro i
  subst hx
  unfold over
  simp only [List.getElem?_take, List.getElem?_drop, List.getElem?_append, List.length_take, List.length_drop, List.length_append]
  by_cases h1 : i < m
  ·rw [if_pos h1]
   by_cases h2 : i < o
   ·rw [if_pos (by omega), if_pos (by omega), if_pos (by omega), if_pos (by omega), if_pos (by omega), if_pos (by omega), if_pos (by omega)]
   ·by_cases h3 : i < o + cs.length
    ·rw [if_pos (by omega), if_neg (by omega), if_pos (by omega), if_neg (by omega)]
     congr 1; omega
    ·rw [if_neg (by omega), if_neg (by omega), if_pos (by omega)]
     congr 1; omega
  ·rw [if_neg h1]
   rw [if_neg (by omega)]
   rw [if_neg (by omega)]
 ·have : cs = [] := List.eq_nil_of_length_eq_zero (by omega)
  subst this
  have : xs = [] := List.eq_nil_of_length_eq_zero (by omega)
  subst this
  simp [over, hm0]
theorem S_storeOA {T : Tab} (hT : tabOk C.P T) (κ : Nat) {base e sz t m : Nat} {os : List Nat} {x y : Operand} {s : Sym} {gb off o n c ty : Nat} {cs : List Value} {xs : List Value} {L' : List Ent} {pos : String} {af : Array Edge} {g : Option (Nat × Bool)} {ad : Addr}
  (hL : getH κ L = some (rowO base e sz (some ⟨gb, off, none⟩) n c xs)) (hL' : setH κ (rowO base e sz (some ⟨gb, off, none⟩) n c (over o cs xs)) L = some L')
  (hx : ev E x = some (.val (.pointer (some ad)))) (had : ad = ⟨gb, off + o, none⟩) (hy : ev E y = some s) (hys : denO ι s = some (.agg cs.toArray)) (hone : ∀ u ∈ cs, u.oneCell' = true) (ht : lookT t T = some ⟨.agg, m, os⟩) (hl : cs.length = m) (hm1 : Nat.ble 1 m = true) (ho : o + m ≤ xs.length) (hg : guardOf all E g = .on)
  (hk : X C (.ops all l :: k) E ι L' G) : X C (.ops all (⟨none, .store t x y, ty, pos, af, g⟩ :: l) :: k) E ι L G := by
 intro a w h1 h2 h3 h4
 have hm2 := Nat.le_of_ble_eq_true hm1
 obtain ⟨S, hA, hSG, hturn⟩ := h4.turn hL
 obtain ⟨q1, q2, q3, q4⟩ := hA
 rcases q4 with ⟨q, _⟩ | ⟨g', off', cur, q, q0, q5, q6, q7, q8⟩
 ·cases q
 cases q
 have ex := ev_sound h3 hx
 have ey := ev_sound h3 hy
 subst had
 rw [hys] at ey
 simp only [denO, Option.some.injEq] at ex ey
 have hfit : off + o + cs.length ≤ cur.toList.length := by
  have h6 : xs.length ≤ cur.toList.length - off := by
   have := congrArg List.length q7
   simp only [List.length_take, List.length_drop] at this
   omega
  omega
 obtain ⟨w', hr, hh', hoth, e1, e2, e3, e4⟩ := run_storeCells_blk (P := C.P) (w := w) (b := gb) (o := off + o) (ty := e) (cs := cur.toList) (vs := cs) (by simpa using q5) hfit hone
 have hrun : (execOp a.eval ⟨none, .store t x y, ty, pos, af, g⟩).run C.P w = .ok .skip w' := by
  have hcells : (a.eval y).cells = cs.toArray := by
   rw [← ey]; rfl
  simp only [execOp, ← ex]
  simp [Instr.storeAt, Instr.sureAddr, storeVar, tyOk_size (hT _ _ ht), hcells, hl, hr]
 refine wpE_skipv (guardOf_on h3 hg) (by rintro c h; cases h) hrun ?_;refine hk _ _ h1 h2 h3 ?_;refine hturn _ _ G w' S hL' ?_ (fun b o' hb => ?_) XR (fun b hb => ⟨hSG b hb, .inl hb⟩) e1 e2 e3 (by rw [e4]; exact Nat.le_refl _) fun b _ hn => hoth b fun h => hn ((q8 b).2 h)
 ·refine ⟨by rw [over_len (by omega)]; exact q1, q2, q3, .inr ⟨gb, off, _, J, q0, hh', ?_, ?_, q8⟩⟩
  ·simp at hfit ⊢; omega
  ·rw [over_len (by omega)]
   simp only [List.toList_toArray]
   exact over_mid q7 J (by omega)
 ·rw [hoth b (by rintro rfl; have := hSG _ ((q8 _).2 rfl); rw [this] at hb; cases hb)]
  exact h4.emb b o' hb
end
end
section
attribute [local irreducible] X Pure Mod
theorem over_app {o m : Nat} {cs ds zs : List Value} (hd : ds.length = o) (hz : zs.length = cs.length) : over o cs (ds ++ repL (m + 1) zs) = ds ++ cs ++ repL m zs := by
 subst hd
 unfold over
 rw [List.take_left, repL, ← hz, ← List.append_assoc ds zs, ← List.length_append, List.drop_left]
theorem set_app {o m : Nat} {v z : Value} {ds : List Value} (hd : ds.length = o) : (ds ++ repL (m + 1) [z]).set o v = ds ++ [v] ++ repL m [z] := by
 subst hd
 rw [List.set_append_right _ _ (Nat.le_refl _), Nat.sub_self, repL]
 simp
def zStm : List Value := [.int .i64 0, .int .i64 0, .int .i64 0, .int .i64 0, .slice none 0 0, .slice none 0 0]
def ToS (s : Stm) : Prop := ∀ (cs : List Value) (G : PH), s.cnt ≤ 1048576 → Stm.rep G s cs → Pure Tryz.prog 49 [.agg cs.toArray] G fun v' G' => ∃ cs', v' = .agg cs'.toArray ∧ Stm.rep G' s cs'
def ToL (L : List Stm) : Prop := ∀ (v : Value) (G : PH), cntL L ≤ 1048576 → Sts G L v → Pure Tryz.prog 22 [v] G fun v' G' => Sts G' L v'
theorem c_toStmt (s : Stm) (hx : ToL s.body) (hy : ToL s.els) : ToS s := by
 intro cs G hc hrep
 obtain ⟨k, a, b, n, x, y⟩ := s
 obtain ⟨vx, vy, rfl, hk, ha, hb, hn, hvx, hvy⟩ := Stm.rep_iff.1 hrep
 simp only [Stm.body, Stm.els] at hx hy
 rw [cnt_mk] at hc
 have hcx := hx _ G (by omega) hvx
 obtain ⟨Ax, cx, rfl, _⟩ := id hvx
 obtain ⟨Ay, cy, rfl, _⟩ := id hvy
 refine Pure.intro Tryz.func49 Tryz.ntmps49 J J fun w => ?_; refine Va J J ?_;refine S_box J J J J J fun b1 => ?_;refine Va J J ?_;refine AZ ZT_ok J J J J fun b2 => ?_;refine Va J J ?_;refine AZ ZT_ok J J J J fun b3 => ?_;refine Va J J ?_;refine S_call Tryz.call22 hcx J J J ?_;rintro v1 G1 hv1 hext1
 obtain ⟨A1, c1, rfl, _⟩ := id hv1
 refine Va J J ?_;refine S_call Tryz.call22 (hy _ G1 (by omega) (Sts_le hext1.le hvy)) J J J ?_;rintro v2 G2 hv2 hext2
 obtain ⟨A2, c2, rfl, _⟩ := id hv2
 refine Va J J ?_;exact S_retp (Res.c1 Tk Tryz.results49 J J) (hext1.trans hext2) ⟨[_, _, _, _, _, _], J, Stm.rep_iff.2 ⟨_, _, J, hk, ha, hb, hn, Sts_le hext2.le hv1, hv2⟩⟩
theorem c_toStmtS (L : List Stm) (hs : ∀ k (hk : k < L.length), ToS L[k]) : ToL L := by
 intro v G hc hv
 have hln := len_cnt L
 obtain ⟨A, c, rfl, _⟩ := id hv
 refine Pure.intro Tryz.func22 Tryz.ntmps22 J J fun w => ?_; refine Va J J ?_;refine S_make Tk ZT_ok J J J J J J (by show 80 * L.length ≤ _; omega) (by omega) rfl rfl rfl fun bm => ?_;refine Va J J ?_;refine S_blkO 7 70 (base := w.heap.size) (n := L.length) (c := L.length) (o := 0) (sz := 6) (xs := repL L.length zStm) rfl rfl (denL_vL _ _) rfl (.inr (.inr ⟨rfl, fun _ h => h⟩)) (by rw [List.drop_zero]; exact List.take_of_length_le (by rw [repL_length]; exact Nat.le_refl _)) (repL_length _ _) (Nat.le_refl _) (by simp [maxLen]; omega) (by rw [repL_length]; simp) ?_
 refine S_loop (α := Nat × List Value × PH) (fun y => y.1 ≤ L.length ∧ PH.ext w.heap.size G y.2.2 ∧ Cs 6 (Stm.rep y.2.2) (L.take y.1) y.2.1) (fun y => L.length - y.1) []
  (fun y => [(4, .val (.int .i64 (y.1 : Nat))), (3, .val (.slice (some ⟨bm, 0, none⟩) L.length L.length)), (0, .val (.slice A L.length c))])
  (fun y => [.hp 70 (rowO w.heap.size 83 6 (some ⟨bm, 0, none⟩) L.length L.length (y.2.1 ++ repL (L.length - y.1) zStm))]) (fun y => y.2.2) (0, [], G) ⟨Nat.zero_le _, PH.ext.refl _ _, rfl⟩ rfl ⟨⟨_, rfl, rfl⟩, ⟨_, rfl, rfl⟩, ⟨_, rfl, rfl⟩, trivial⟩ (.hp .nil) ?_
 rintro ⟨k, ds, G1⟩ ⟨hk, hext, hcs⟩
 simp only at hk hext hcs ⊢
 refine Va J J ?_
 refine S_condp J (fun h5 => ?_) (fun h5 => ?_) <;> refine Va J J ?_
 ·have hkl : k < L.length := by omega
  obtain ⟨m, hm⟩ : ∃ m, L.length - k = m + 1 := ⟨L.length - k - 1, by omega⟩
  rw [hm]
  obtain ⟨ad, cs, rfl, hcell, hrep⟩ := Sr_at (Sts_le hext.le hv) hkl
  have hdl := Cs_length hcs
  rw [List.length_take, Nat.min_eq_left hk] at hdl
  have hck : L[k].cnt ≤ 1048576 := by
   have : ∀ (L : List Stm) (k : Nat) (hk : k < L.length), L[k].cnt ≤ cntL L := by
    intro L
    induction L with
    | nil => intro k hk; simp at hk
    | cons s r ih =>
     intro k hk
     cases k with
     | zero => simp only [cntL, List.getElem_cons_zero]; omega
     | succ k => have := ih k (by simpa using hk); simp only [cntL, List.getElem_cons_succ]; omega
   have := this L k hkl
   omega
  refine S_index Tk J J J J J J (by omega) (by omega) ?_;refine Va J J ?_;refine S_loadA Tk J J J J (Stm.rep_len hrep) hcell ?_;refine Va J J ?_;refine S_call Tryz.call49 (hs k hkl cs G1 hck hrep) J J J ?_;rintro v1 G2 ⟨cs1, rfl, hrep1⟩ hext2
  have hl1 := Stm.rep_len hrep1
  refine Va J J ?_;refine S_index Tk J J J J J J (by omega) (by omega) ?_;refine Va J J ?_;refine S_storeOA Tk 70 (o := k * 6) J J J (by simp [add_lit']) J J (Stm.rep_one _ _ hrep1) J hl1 J (by rw [List.length_append, hdl, repL_length]; show _ ≤ _ + (m + 1) * 6; omega) rfl ?_
  rw [over_app hdl (by rw [hl1]; rfl)]
  refine Va J J ?_;refine S_add J J J J (by omega) ?_;refine Va J J ?_;refine S_again (k + 1, ds ++ cs1, G2) ⟨by simp only; omega, hext.trans hext2, ?_⟩ (by simp only; omega) rfl ⟨⟨_, rfl, by simp [denO]⟩, ⟨_, rfl, rfl⟩, ⟨_, rfl, rfl⟩, trivial⟩ ?_
  ·simp only
   rw [List.take_succ_eq_append_getElem hkl]
   exact Cs_append (Cs_mono (fun s _ cs h => Stm.rep_le hext2.le s cs h) hcs) hrep1 hl1
  ·simp only [show L.length - (k + 1) = m by omega]
   exact .hp .nil
 ·have e0 : k = L.length := by omega
  subst e0
  rw [Nat.sub_self, repL, List.append_nil, List.take_length] at *
  refine S_freezeR 70 J J (Nat.le_refl _) fun Gf hextf hncf hcmf hclf => ?_;refine S_retp (Res.t1 Tryz.results22 J J) (hext.trans hextf) ?_;exact frz (Cs_mono (Stm.reps_le hextf.le _) hcs) J (by omega) hncf hcmf hclf
theorem ToL_of (L : List Stm) (h : ∀ k (hk : k < L.length), ToL L[k].body ∧ ToL L[k].els) : ToL L :=
 c_toStmtS L fun k hk => c_toStmt _ (h k hk).1 (h k hk).2
mutual
theorem ToL_stm : ∀ (s : Stm), ToL s.body ∧ ToL s.els
 | .mk k a b n x y => ⟨ToL_all x, ToL_all y⟩
theorem ToL_at : ∀ (L : List Stm) (k : Nat) (hk : k < L.length), ToL L[k].body ∧ ToL L[k].els
 | [], k, hk => absurd hk (by simp)
 | s :: L, 0, _ => ToL_stm s
 | s :: L, k + 1, hk => ToL_at L k (by simpa using hk)
theorem ToL_all : ∀ (L : List Stm), ToL L
 | L => ToL_of L (ToL_at L)
end
theorem c_toSS (p : List (List Stm)) (v : Value) (G : PH) (hv : Prg G p v) (hc : cntP p ≤ 1048576) : Pure Tryz.prog 8 [v] G fun v' G' => Prg G' p v' := by
 have hln := len_cntP p
 obtain ⟨A, c, rfl, _⟩ := id hv
 refine Pure.intro Tryz.func8 Tryz.ntmps8 J J fun w => ?_; refine Va J J ?_;refine S_make Tk ZT_ok J J J J J J (by show 24 * p.length ≤ _; omega) (by omega) rfl rfl rfl fun bm => ?_;refine Va J J ?_;refine S_blkO 7 70 (base := w.heap.size) (n := p.length) (c := p.length) (o := 0) (sz := 1) (xs := repL p.length [.slice none 0 0]) rfl rfl (denL_vL _ _) rfl (.inr (.inr ⟨rfl, fun _ h => h⟩)) (by rw [List.drop_zero]; exact List.take_of_length_le (by rw [repL_length]; exact Nat.le_refl _)) (repL_length _ _) (Nat.le_refl _) (by simp [maxLen]; omega) (by rw [repL_length]; simp) ?_
 refine S_loop (α := Nat × List Value × PH) (fun y => y.1 ≤ p.length ∧ PH.ext w.heap.size G y.2.2 ∧ Cs 1 (stsRep y.2.2) (p.take y.1) y.2.1) (fun y => p.length - y.1) []
  (fun y => [(4, .val (.int .i64 (y.1 : Nat))), (3, .val (.slice (some ⟨bm, 0, none⟩) p.length p.length)), (0, .val (.slice A p.length c))])
  (fun y => [.hp 70 (rowO w.heap.size 41 1 (some ⟨bm, 0, none⟩) p.length p.length (y.2.1 ++ repL (p.length - y.1) [.slice none 0 0]))]) (fun y => y.2.2) (0, [], G) ⟨Nat.zero_le _, PH.ext.refl _ _, rfl⟩ rfl ⟨⟨_, rfl, rfl⟩, ⟨_, rfl, rfl⟩, ⟨_, rfl, rfl⟩, trivial⟩ (.hp .nil) ?_
 rintro ⟨k, ds, G1⟩ ⟨hk, hext, hcs⟩
 simp only at hk hext hcs ⊢
 refine Va J J ?_
 refine S_condp J (fun h5 => ?_) (fun h5 => ?_) <;> refine Va J J ?_
 ·have hkl : k < p.length := by omega
  obtain ⟨m, hm⟩ : ∃ m, p.length - k = m + 1 := ⟨p.length - k - 1, by omega⟩
  rw [hm]
  obtain ⟨ad, cs, rfl, hcell, u, rfl, hu⟩ := Sr_at (Prg_le hext.le hv) hkl
  have hdl := Cs_length hcs
  rw [List.length_take, Nat.min_eq_left hk] at hdl
  have hck := cntP_mem (List.getElem_mem hkl)
  have hpk := List.take_succ_eq_append_getElem hkl
  have hto := ToL_all p[k] u G1 (by omega) hu
  generalize p[k] = q at hpk hto hu hck
  obtain ⟨A1, c1, rfl, _⟩ := id hu
  refine S_index Tk J J J J J J (by omega) (by omega) ?_;refine Va J J ?_;refine S_load Tk J J J J J (by simpa [add_zero'] using gcells_at hcell 0 _ J) ?_;refine Va J J ?_;refine S_call Tryz.call22 hto J J J ?_;rintro v1 G2 hv1 hext2
  obtain ⟨A2, c2, rfl, _⟩ := id hv1
  refine Va J J ?_;refine S_index Tk J J J J J J (by omega) (by omega) ?_;refine Va J J ?_;refine S_storeO Tk 70 (o := k) J J J (by simp [add_lit']) J J J J J (by rw [List.length_append, hdl, repL_length]; show _ < _ + (m + 1) * 1; omega) rfl ?_
  rw [set_app (by rw [hdl, Nat.mul_one])]
  refine Va J J ?_;refine S_add J J J J (by omega) ?_;refine Va J J ?_;refine S_again (k + 1, ds ++ [.slice A2 q.length c2], G2) ⟨by simp only; omega, hext.trans hext2, ?_⟩ (by simp only; omega) rfl ⟨⟨_, rfl, by simp [denO]⟩, ⟨_, rfl, rfl⟩, ⟨_, rfl, rfl⟩, trivial⟩ ?_
  ·simp only
   rw [hpk]
   exact Cs_append (Cs_mono (fun s _ cs h => stsRep_le hext2.le h) hcs) ⟨_, J, hv1⟩ J
  ·simp only [show p.length - (k + 1) = m by omega]
   exact .hp .nil
 ·have e0 : k = p.length := by omega
  subst e0
  rw [Nat.sub_self, repL, List.append_nil, List.take_length] at *
  refine S_freezeR 70 J J (Nat.le_refl _) fun Gf hextf hncf hcmf hclf => ?_;refine S_retp (Res.t1 Tryz.results8 J J) (hext.trans hextf) ?_;exact frz (Cs_mono (fun _ _ _ h => stsRep_le hextf.le h) hcs) J (by omega) hncf hcmf hclf
end
section
attribute [local irreducible] X Pure Mod
theorem g_boolY : Tryz.prog.eqGuardType Tryz.prog.depth 4 = false := by kernel_rfl
theorem u_boolY : Tryz.prog.underlying 4 = some .bool := by kernel_rfl
def EqS (s : Stm) : Prop := ∀ (cs ds : List Value) (G : PH), Stm.rep G s cs → Stm.rep G s ds → Pure Tryz.prog 55 [.agg cs.toArray, .agg ds.toArray] G fun v' G' => v' = .bool true ∧ G' = G
def EqL (L : List Stm) : Prop := ∀ (v u : Value) (G : PH), Sts G L v → Sts G L u → Pure Tryz.prog 24 [v, u] G fun v' G' => v' = .bool true ∧ G' = G
theorem c_eqStmt (s : Stm) (hx : EqL s.body) (hy : EqL s.els) : EqS s := by
 intro cs ds G hrep hrep'
 obtain ⟨k, a, b, n, x, y⟩ := s
 obtain ⟨vx, vy, rfl, _, _, _, _, hvx, hvy⟩ := Stm.rep_iff.1 hrep
 obtain ⟨ux, uy, rfl, _, _, _, _, hux, huy⟩ := Stm.rep_iff.1 hrep'
 simp only [Stm.body, Stm.els] at hx hy
 have hcx := hx _ _ G hvx hux
 have hcy := hy _ _ G hvy huy
 obtain ⟨Ax, cx, rfl, _⟩ := id hvx
 obtain ⟨Ay, cy, rfl, _⟩ := id hvy
 obtain ⟨Bx, ex, rfl, _⟩ := id hux
 obtain ⟨By, ey, rfl, _⟩ := id huy
 refine Pure.intro Tryz.func55 Tryz.ntmps55 J J fun w => ?_; refine Va J J ?_;refine S_box J J J J J fun b1 => ?_;refine Va J J ?_;refine S_box J J J J J fun b2 => ?_;refine Va J J ?_;refine RF J (by simp) ?_;refine Va J J ?_;refine RF J (by simp) ?_;refine Va J J ?_;refine RF J (by simp) ?_;refine Va J J ?_;refine RF J (by simp) ?_;refine Va J J ?_;refine S_call Tryz.call24 hcx J J J ?_;rintro v1 G1 ⟨rfl, rfl⟩ _
 refine Va J J ?_;refine RF J J ?_;refine Va J J ?_;refine S_call Tryz.call24 hcy J J J ?_;rintro v2 G2 ⟨rfl, rfl⟩ _
 refine Va J J ?_;refine RF J J ?_;refine Va J J ?_;exact S_retp (Res.t1 Tryz.results55 J J) XR ⟨J, J⟩
theorem c_eqStmtS (L : List Stm) (hs : ∀ k (hk : k < L.length), EqS L[k]) : EqL L := by
 intro v u G hv hu
 obtain ⟨A, c, rfl, _⟩ := id hv
 obtain ⟨B, e, rfl, _⟩ := id hu
 refine Pure.intro Tryz.func24 Tryz.ntmps24 J J fun w => ?_; refine Va J J ?_;refine RF J (by simp) ?_;refine Va J J ?_;refine S_loop (α := Nat) (fun k => k ≤ L.length) (fun k => L.length - k) []
  (fun k => [(5, .val (.int .i64 (k : Nat))), (0, .val (.slice A L.length c)), (1, .val (.slice B L.length e))]) (fun _ => []) (fun _ => G) 0 (Nat.zero_le _) rfl ⟨⟨_, rfl, rfl⟩, ⟨_, rfl, rfl⟩, ⟨_, rfl, rfl⟩, trivial⟩ .nil ?_
 rintro k hk
 refine Va J J ?_
 refine S_condp J (fun h5 => ?_) (fun h5 => ?_) <;> refine Va J J ?_
 ·have hkl : k < L.length := by omega
  obtain ⟨ad, cs, rfl, hcell, hrep⟩ := Sr_at hv hkl
  obtain ⟨ae, ds, rfl, dcell, drep⟩ := Sr_at hu hkl
  refine Ds J J J ?_;refine Da J J ?_;refine D_val 2 J J J J J J J J J (V_index Tk J J J J (by omega) (by omega)) ?_;refine D_val 6 J J J J J J J J J (V_index Tk J J J J (by omega) (by omega)) ?_;refine Da J J ?_;refine D_val 3 J J J J J J J J J (V_loadA Tk J J (Stm.rep_len hrep) hcell) ?_;refine D_val 7 J J J J J J J J J (V_loadA Tk J J (Stm.rep_len drep) dcell) ?_;refine Da J J ?_;refine D_sole 8 J J (N_call 8 Tryz.call55 (hs k hkl _ _ _ hrep drep) J J J J J J J J J J ?_)
  rintro v1 G1 ⟨rfl, rfl⟩ _
  refine Da J J ?_;refine DD ?_;refine Va J J ?_;refine RF J J ?_;refine Va J J ?_;refine S_add J J J J (by omega) ?_;refine Va J J ?_;exact S_again (k + 1) (by omega) (by omega) J ⟨⟨_, J, by simp [denO]⟩, ⟨_, J, J⟩, ⟨_, J, J⟩, trivial⟩ .nil
 ·exact S_retp (Res.t1 Tryz.results24 J J) XR ⟨J, J⟩
theorem EqL_of (L : List Stm) (h : ∀ k (hk : k < L.length), EqL L[k].body ∧ EqL L[k].els) : EqL L :=
 c_eqStmtS L fun k hk => c_eqStmt _ (h k hk).1 (h k hk).2
mutual
theorem EqL_stm : ∀ (s : Stm), EqL s.body ∧ EqL s.els
 | .mk k a b n x y => ⟨EqL_all x, EqL_all y⟩
theorem EqL_at : ∀ (L : List Stm) (k : Nat) (hk : k < L.length), EqL L[k].body ∧ EqL L[k].els
 | [], k, hk => absurd hk (by simp)
 | s :: L, 0, _ => EqL_stm s
 | s :: L, k + 1, hk => EqL_at L k (by simpa using hk)
theorem EqL_all : ∀ (L : List Stm), EqL L
 | L => EqL_of L (EqL_at L)
end
theorem c_eqSS (p : List (List Stm)) (v u : Value) (G : PH) (hv : Prg G p v) (hu : Prg G p u) : Pure Tryz.prog 10 [v, u] G fun v' G' => v' = .bool true ∧ G' = G := by
 obtain ⟨A, c, rfl, _⟩ := id hv
 obtain ⟨B, e, rfl, _⟩ := id hu
 refine Pure.intro Tryz.func10 Tryz.ntmps10 J J fun w => ?_; refine Va J J ?_;refine RF J (by simp) ?_;refine Va J J ?_;refine S_loop (α := Nat) (fun k => k ≤ p.length) (fun k => p.length - k) []
  (fun k => [(5, .val (.int .i64 (k : Nat))), (0, .val (.slice A p.length c)), (1, .val (.slice B p.length e))]) (fun _ => []) (fun _ => G) 0 (Nat.zero_le _) rfl ⟨⟨_, rfl, rfl⟩, ⟨_, rfl, rfl⟩, ⟨_, rfl, rfl⟩, trivial⟩ .nil ?_
 rintro k hk
 refine Va J J ?_
 refine S_condp J (fun h5 => ?_) (fun h5 => ?_) <;> refine Va J J ?_
 ·have hkl : k < p.length := by omega
  obtain ⟨ad, cs, rfl, hcell, x1, rfl, hx1⟩ := Sr_at hv hkl
  obtain ⟨ae, ds, rfl, dcell, x2, rfl, hx2⟩ := Sr_at hu hkl
  have hq := EqL_all p[k] _ _ G hx1 hx2
  generalize p[k] = q at hq hx1 hx2
  obtain ⟨A1, c1, rfl, _⟩ := id hx1
  obtain ⟨A2, c2, rfl, _⟩ := id hx2
  refine Ds J J J ?_;refine Da J J ?_;refine D_val 2 J J J J J J J J J (V_index Tk J J J J (by omega) (by omega)) ?_;refine D_val 6 J J J J J J J J J (V_index Tk J J J J (by omega) (by omega)) ?_;refine Da J J ?_;refine D_val 3 J J J J J J J J J (V_load Tk J J J (by simpa [add_zero'] using gcells_at hcell 0 _ J)) ?_;refine D_val 7 J J J J J J J J J (V_load Tk J J J (by simpa [add_zero'] using gcells_at dcell 0 _ J)) ?_
  refine Da J J ?_;refine D_sole 8 J J (N_call 8 Tryz.call24 (hq) J J J J J J J J J J ?_)
  rintro v1 G1 ⟨rfl, rfl⟩ _
  refine Da J J ?_;refine DD ?_;refine Va J J ?_;refine RF J J ?_;refine Va J J ?_;refine S_add J J J J (by omega) ?_;refine Va J J ?_;exact S_again (k + 1) (by omega) (by omega) J ⟨⟨_, J, by simp [denO]⟩, ⟨_, J, J⟩, ⟨_, J, J⟩, trivial⟩ .nil
 ·exact S_retp (Res.t1 Tryz.results10 J J) XR ⟨J, J⟩
end
section
attribute [local irreducible] X Pure Mod
theorem c_sAllMany (p : List (List Stm)) (pv : Value) (G : PH) (hp : PrgS G p pv) : Pure Tryz.prog 7 [pv] G fun v' G' => v' = .tuple #[.int .i64 (manyP p : Nat), .bool (explP p).isSome] := by
 have hok := @explP_ok p
 unfold manyP
 obtain ⟨Ap, cp, rfl, _⟩ := id hp.1
 refine Pure.intro Tryz.func7 Tryz.ntmps7 J J fun w => ?_; refine Va J J ?_;refine S_call Tryz.call20 (c_ProgOk p _ _ hp.1) J J J ?_;rintro v1 G1 ⟨rfl, rfl⟩ _
 refine Va J J ?_
 cases hpo : progOk p
 ·have hx : explP p = none := by rw [explP, if_neg (by simp [hpo])]
  refine RT J J ?_;refine Va J J ?_;exact S_retp (Res.t2 Tryz.results7 J J J J) XR (by rw [hx]; rfl)
 have hx : explP p = allW p := by rw [explP, if_pos hpo]
 refine RF J J ?_;refine Va J J ?_;refine S_call Tryz.call21 (c_l8All p _ _ hp hpo) J J J ?_;rintro v2 G2 ⟨lv, rfl, hlv⟩ hext2
 refine Va J J ?_
 cases hall : allW p with
 | none =>
  refine RT J (by simp) ?_;refine Va J J ?_;exact S_retp (Res.t2 Tryz.results7 J J J J) hext2 (by rw [hx, hall]; rfl)
 | some Ws =>
  have hWs := hlv Ws hall
  have hle := (hok hp (hx.trans hall)).le
  obtain ⟨Al, cl, rfl, _⟩ := id hWs
  refine RF J (by simp) ?_;refine Va J J ?_;exact S_retp (Res.t2 Tryz.results7 J J J J) hext2 (by rw [hx, hall]; rfl)
end
section
open Go.ChangeShapes Go.WideShapes Go.ChangeAt Go.RowKit
theorem own : ownKnob Tryz.prog.godebug = none := by kernel_rfl
theorem laidOut : laidOutB Tryz.prog = true := by kernel_rfl
def laidT : List (String × DataW Unit) := [("math/bits.deBruijn32tab", Rows.laid_math_bits_deBruijn32tab), ("math/bits.deBruijn64tab", Rows.laid_math_bits_deBruijn64tab), ("internal/strconv.uint64pow10", Rows.laid_internal_strconv_uint64pow10)]
theorem door_met (os : Os) (args : Array Value) : laidMetH Tryz.prog laidT ((World.doorLaid Tryz.prog 24 os).forCall (fun _ _ => 0) ⟨#[], args, []⟩).memory :=
 laidMetH_of_parts3 (fuel := 8) (laidMet_of_run' 8 (by kernel_rfl) (by kernel_rfl)) (by kernel_rfl) (by kernel_rfl)
theorem gPow : Tryz.prog.globalNamed "internal/strconv.uint64pow10" = some 0 := by kernel_rfl
theorem tPow : (Tryz.prog.globals[0]?).map (·.type) = some 184 := by kernel_rfl
theorem uPow : Tryz.prog.underlying 184 = some (.array 20 176) := by kernel_rfl
theorem uElem : Tryz.prog.underlying 176 = some (.int .u64) := by kernel_rfl
theorem cElem : Tryz.prog.cellsOf 176 = 1 := by kernel_rfl
theorem cPow : Tryz.prog.cellsOf 184 = 20 := by kernel_rfl
theorem pow_eq : (Rows.laid_internal_strconv_uint64pow10 : DataW Unit) = Lib.tabData .u64 Lib.pow10Tab := by
 simp [Rows.laid_internal_strconv_uint64pow10, Lib.tabData, Lib.pow10Tab, List.range, List.range.loop]
theorem of_laid {W : World} (h : laidMetH Tryz.prog laidT W) : Lib.TabIs Tryz.prog W "internal/strconv.uint64pow10" .u64 Lib.pow10Tab := by
 rw [MakeChecks.laidMetH_plain _ _ _ (by kernel_rfl)] at h
 have h2 : laidMet Tryz.prog [("internal/strconv.uint64pow10", Rows.laid_internal_strconv_uint64pow10)] W := h.tail.tail
 rw [pow_eq] at h2
 exact Lib.tabIs_of_head gPow tPow uPow uElem cElem cPow h2
end
end Go.Proofs.YtcbdilccmjpnbaaGreatDoor
