/- Walks of the program's functions, one after the other (part 11); without conditions of their own. -/
import Derived.Test.YtbecgghgcglafaaGreatDoorWM2
import Derived.Test.YtbecgghgcglafaaGreatDoorWM3
import Derived.Test.YtbecgghgcglafaaGreatDoorWM4
import Derived.Test.YtbecgghgcglafaaGreatDoorWM5
import Derived.Test.YtbecgghgcglafaaGreatDoorWM7
import Derived.Test.YtbecgghgcglafaaGreatDoorWM9
import Derived.Test.YtbecgghgcglafaaGreatDoorWM10
set_option linter.unusedVariables false
set_option linter.unusedSimpArgs false
set_option maxRecDepth 100000
set_option maxHeartbeats 4000000
open Go.RowKit
namespace Go.Proofs.YtbecgghgcglafaaGreatDoor
section
def YieldM (P : Program) (l : Nat) (vs : List Value) (G : PH) (A At Af : HP) : Prop :=
 ∀ W S, Emb G W → A.holds W S → (∀ b, S b → G b = none) → YieldAt (FW none) 0 P l vs.toArray W (YieldR W S At Af)
theorem YieldM.le {P : Program} {l : Nat} {vs : List Value} {G G' : PH} {A At Af : HP} (h : YieldM P l vs G A At Af) (hG : G.le G') : YieldM P l vs G' A At Af := fun W S hE hA hS =>
 h W S (fun b o hb => hE b o (hG b o hb)) hA fun b hb => by
  cases hq : G b with
  | none => rfl
  | some o => have := hG b o hq; rw [hS b hb] at this; cases this
section
variable {C : Ctx} {k : List It} {E : Env} {ι : Ids} {L : List Ent} {G : PH} {all : Array Oper} {l : List Oper}
theorem S_yield (κ y : Nat) {A At Af : HP} {L' : HP → List Ent} {d : Nat} {x : Operand} {xs : Array Operand} {ats : Array TypeId} {ty : Nat} {pos : String} {af : Array Edge} {g : Option (Nat × Bool)} {vs : List Value} (hr : C.r = none) (hx : ev E x = some (.val (.func (.yield y) #[] #[])))
  (hy : YieldM C.P y vs G A At Af) (hg : guardOf all E g = .on) (hN : Nat.ble (d + 1) C.n = true) (hxs : evs ι E xs.toList = some vs) (hL : getH κ L = some A) (hL' : ∀ A', setH κ A' L = some (L' A'))
  (ht : X C (.ops all l :: k) ((d, .val (.bool true)) :: E) ι (L' At) G) (hf : X C (.ops all l :: k) ((d, .val (.bool false)) :: E) ι (L' Af) G) : X C (.ops all (⟨some d, .call ⟨.value x, xs, ats⟩, ty, pos, af, g⟩ :: l) :: k) E ι L G := by
 intro a w h1 h2 h3 h4
 have hdn : d < a.tmps.size := by rw [h2]; exact Nat.le_of_ble_eq_true hN
 obtain ⟨S, hA, hSG, hturn⟩ := h4.turn hL
 obtain ⟨fn, tmps, assign, body, hrun, hround⟩ := hy w S h4.emb hA hSG
 have hfv := ev_sound h3 hx
 simp only [denO, Option.some.injEq] at hfv
 have hvs := evs_sound h3 hxs
 show wpListIn _ _ _ _ _ _ _ _
 unfold wpListIn
 rw [if_pos (guardOf_on h3 hg)]
 refine ⟨fun _ _ => trivial, ?_⟩
 rw [Oper.semAt_eq _ _ _ (by intro c h; cases h)]
 have hrun2 : (execOp a.eval ⟨some d, .call ⟨.value x, xs, ats⟩, ty, pos, af, g⟩).run C.P w = .ok (.round y fn tmps assign body) w := by
  have e1 : xs.map a.eval = vs.toArray := by
   rw [← hvs]; cases xs; simp
  simp only [execOp, resolve, ← hfv]
  simp [Deferred.ofValue, invoke, e1, callFunc, hrun]
  done
 rw [hrun2]
 simp only [Oper.uponIn]
 refine ⟨fun h => by simp [FW, Fence.wide] at h, ?_⟩
 refine RoundIn.mono (F := FW C.r) (by rw [hr]; exact hround) ?_
 have fin : ∀ (v : Value) (A' : HP) (w' : World) (S' : Nat → Prop), (∀ b, S' b → S b ∨ w.heap.size ≤ b) → Frm S w w' → A'.holds w' S' → SatW C ι (L' A') G w' := by
  intro v A' w' S' hS' hF hA'
  refine hturn A' _ G w' S' (hL' A') hA' (fun b o hb => ?_) XR (fun b hb => ⟨?_, hS' b hb⟩) hF.os hF.tape hF.output hF.size hF.keep
  ·have hlt : b < w.heap.size := (Array.getElem?_eq_some_iff.1 (h4.emb b o hb)).1
   rw [hF.keep b hlt (fun hs => by rw [hSG b hs] at hb; cases hb)]
   exact h4.emb b o hb
  ·cases hq : G b with
   | none => rfl
   | some o =>
    rcases hS' b hb with h | h
    ·rw [hSG b h] at hq; cases hq
    ·have hlt : b < w.heap.size := (Array.getElem?_eq_some_iff.1 (h4.emb b o hq)).1
     omega
 rintro e w' ⟨S', hS', hF, ⟨rfl, hA'⟩ | ⟨rfl, hA'⟩⟩
 ·exact ht (a.put (some d) (.bool true)) w' h1 (by simp [Act.put, h2]) (h3.put hdn J) (fin (.bool true) _ _ _ hS' hF hA')
 ·exact hf (a.put (some d) (.bool false)) w' h1 (by simp [Act.put, h2]) (h3.put hdn J) (fin (.bool false) _ _ _ hS' hF hA')
theorem S_newB {d t : Nat} {op : Op} {ty : Nat} {pos : String} {af : Array Edge} {g : Option (Nat × Bool)} (hg : guardOf all E g = .on) (hnd : ∀ c, op ≠ .defer c) (hN : Nat.ble (d + 1) C.n = true) (hd : lookI d ι = none) {cs : List Cel}
  (hr : ∀ a w, AgE ι E a → SatW C ι L G w → ∃ vs, denL ι cs = some vs ∧ (execOp a.eval ⟨some d, op, ty, pos, af, g⟩).run C.P w = .ok (.value (.pointer (some ⟨w.heap.size, 0, none⟩))) (w.alloc (.cells vs.toArray t)))
  (hx : ∀ b, C.w0.heap.size ≤ b → X C (.ops all l :: k) ((d, .ptr d 0) :: E) ((d, b) :: ι) (.blk d t cs :: L) G) : X C (.ops all (⟨some d, op, ty, pos, af, g⟩ :: l) :: k) E ι L G := by
 intro a w h1 h2 h3 h4
 obtain ⟨vs, hvs, hrun⟩ := hr a w h3 h4
 refine wpE_val (guardOf_on h3 hg) hnd hrun ?_
 have hdn : d < a.tmps.size := by rw [h2]; exact Nat.le_of_ble_eq_true hN
 exact hx w.heap.size h4.size _ _ h1 (by simp [Act.put, h2]) ((h3.ids hd).put hdn (by simp [denO, lookI])) (h4.alloc hd cs hvs)
theorem S_boxB {d t : Nat} {x : Operand} {ty : Nat} {pos : String} {af : Array Edge} {g : Option (Nat × Bool)} {s : Sym} {cs : List Cel} (hg : guardOf all E g = .on) (hN : Nat.ble (d + 1) C.n = true) (hd : lookI d ι = none)
  (hx : ev E x = some s) (hc : cellsS s = some cs) (hk : ∀ b, C.w0.heap.size ≤ b → X C (.ops all l :: k) ((d, .ptr d 0) :: E) ((d, b) :: ι) (.blk d t cs :: L) G) : X C (.ops all (⟨some d, .box t x, ty, pos, af, g⟩ :: l) :: k) E ι L G := by
 refine S_newB (t := t) (cs := cs) hg (by intro c h; cases h) hN hd ?_ hk
 intro a w hE hw
 have ex := ev_sound hE hx
 exact ⟨_, cellsS_eq hc ex, by simp [execOp, Instr.box, newVar, newRow]⟩
theorem S_allocB {Z : ZTab} (hZ : zOk C.P Z) {d t : Nat} {z : ZI} {ty : Nat} {pos : String} {af : Array Edge} {g : Option (Nat × Bool)} (hz : lookZ t Z = some z) (hg : guardOf all E g = .on) (hN : Nat.ble (d + 1) C.n = true) (hd : lookI d ι = none)
  (hk : ∀ b, C.w0.heap.size ≤ b → X C (.ops all l :: k) ((d, .ptr d 0) :: E) ((d, b) :: ι) (.blk d t (vL z.zs) :: L) G) : X C (.ops all (⟨some d, .alloc t, ty, pos, af, g⟩ :: l) :: k) E ι L G := by
 obtain ⟨inf, v, hi, hv, hb, hc, _⟩ := viewZ_eq (hZ _ _ hz)
 refine S_newB (t := t) (cs := vL z.zs) hg (by intro c h; cases h) hN hd ?_ hk
 intro a w hE hw
 exact ⟨z.zs, denL_vL ι z.zs, by simp [execOp, Instr.alloc, newVar, newRow, zeroValue, typeInfo, hi, hv, hc]⟩
end
theorem IterR_of {α : Type} {P : Program} {gf : Nat} {cap : Array Value} {G : PH} {enc : α → List Value → Prop} {xs : List α}
  (h : ∀ (l : Nat) (A Ax : List α → HP), (∀ pre x vs, (pre ++ [x]) <+: xs → enc x vs → YieldM P l vs G (A pre) (A (pre ++ [x])) (Ax (pre ++ [x]))) →
   Mod P gf (.func (.yield l) #[] #[] :: cap.toList) G (A []) fun v G' A' => A' = A xs ∨ ∃ pre, A' = Ax pre) : IterR P gf cap G enc xs := by
 intro l A Ax W0 S0 hE hA hS hY
 have := h l A Ax (fun pre x vs hpre henc W S hE hA hS => hY pre x vs W S hpre henc hE hA hS) W0 S0 hE hA hS
 rw [show (.func (.yield l) #[] #[] :: cap.toList).toArray = #[.func (.yield l) #[] #[]] ++ cap by cases cap; simp] at this
 refine this.mono ?_;rintro e w' ⟨v, G', A', S', rfl, hp, hA', hext, hemb, hS', e1, e2, e3, e4, hkeep⟩
 refine ⟨v, S', rfl, fun b hb => (hS' b hb).2, ⟨e1, e2, e3, e4, hkeep⟩, ?_⟩
 rcases hp with rfl | ⟨pre, rfl⟩
 ·exact .inl hA'
 ·exact .inr ⟨pre, hA'⟩
end
section
def KC (P : Program) (n : Nat) (fn : Func) (G : PH) (Post : Value → Prop) (w : World) : Ctx := ⟨P, none, n, bodyPostM (FW none) 0 P fn (PureR G w fun v G' => Post v ∧ G' = G), w, fun _ => False, true⟩
theorem Pure.introM {P : Program} {f : FuncId} {fn : Func} {c : Code} {vs : List Value} {G : PH} {Post : Value → Prop} {n : Nat} (hf : P.funcs[f]? = some fn) (hn : fn.ntmps = n) (hb : fn.body = some c) (hle : Nat.ble vs.length n = true)
  (hx : ∀ w, Emb G w → X (KC P n fn G Post w) [.code c] (envOf 0 vs) [] [] G) : Pure P f vs G fun v G' => Post v ∧ G' = G := by
 intro w hw
 have hle' : vs.length ≤ n := Nat.le_of_ble_eq_true hle
 refine (callsIn_FW (r := none) (n := 0)).1 (callsIn_of_wp_marks hf hb trivial ?_ J)
 refine hx w hw { tmps := vs.toArray ++ Array.replicate (fn.ntmps - vs.toArray.size) undef, defers := [] } w DfsOk.nil (by simp [hn, KC]; omega) ?_ ?_
 ·intro i s hi
  obtain ⟨_, v, hv, rfl⟩ := look_envOf hi
  refine ⟨v, J, ?_⟩
  simp only [Nat.sub_zero] at hv
  rw [Array.getElem?_append_left (by
   have := (List.getElem?_eq_some_iff.1 hv).1
   simpa using this)]
  simpa using hv
 ·exact ⟨rfl, rfl, rfl, Nat.le_refl _, fun _ _ _ => rfl, hw, [], trivial, fun T hT => by cases hT⟩
theorem leaveM {P : Program} {fn : Func} {tmps : Array Value} {R : Ending → World → Prop} {w0 : World} {v : Value} (hres : ∀ w, (results fn tmps).run P w = .ok v w) (hR : ∀ w, Below w0.heap.size w0 w → R (.returned v) w) :
  ∀ (Ds : List Nat) (w : World), Ds.Nodup → (∀ D ∈ Ds, w0.heap.size ≤ D ∧ w.heap[D]? = some (.deferred (some []))) → Below w0.heap.size w0 w → LeavesInM (FW none) 0 P fn tmps R (Ds.map fun D => { target := .collected D, args := #[] }) .returning w := by
 intro Ds
 induction Ds with
 | nil => intro w _ _ hb; exact ⟨v, hres w, hR w hb⟩
 | cons D Ds ih =>
  intro w hn hD hb
  obtain ⟨h1, h2⟩ := hD D (List.mem_cons_self ..)
  refine ⟨by simp, .inl ⟨_, _, J, run_takeDeferred h2, ih _ (List.nodup_cons.1 hn).2 ?_ ?_⟩⟩
  ·intro D' hD'
   obtain ⟨h3, h4⟩ := hD D' (List.mem_cons_of_mem _ hD')
   refine ⟨h3, ?_⟩
   rw [World.putObj_heap_other (by rintro rfl; exact (List.nodup_cons.1 hn).1 hD')]
   exact h4
  ·refine ⟨hb.os, hb.tape, hb.output, ?_, fun b hb' => ?_⟩
   ·have := hb.size; simp; omega
   ·rw [World.putObj_heap_other (by omega)]
    exact hb.block b hb'
section
variable {P : Program} {fn : Func} {n : Nat} {G0 G : PH} {Post : Value → Prop} {w0 : World} {k : List It} {E : Env} {ι : Ids} {L : List Ent}
theorem S_retK {t : Nat} {s : Sym} {v : Value} (hw0 : Emb G0 w0) (hr : fn.results = #[.tmp t]) (hl : look t E = some s) (hv : denO ι s = some v) (hp : Post v) : X (KC P n fn G0 Post w0) (.code .ret :: k) E ι L G := by
 intro a w h1 h2 h3 h4
 refine wpE_ret (wpE_out k ?_)
 obtain ⟨Ds, d1, d2, d3⟩ := h1
 show LeavesInM _ _ _ _ _ _ a.defers .returning w
 rw [d2]
 refine leaveM (w0 := w0) (v := v) (fun w' => ?_) (fun w' hb => ?_) Ds w d1 (fun D hD => ⟨(d3 D hD).1, h4.emb _ _ (d3 D hD).2⟩) (h4.below fun _ h => h)
 ·obtain ⟨u, hu, ht⟩ := h3 t s hl
  rw [hv] at hu; cases hu
  rw [results_tmp hr]
  simp [Array.getD_eq_getD_getElem?, ht]
 ·refine ⟨v, G0, rfl, ⟨hp, rfl⟩, PH.ext.refl _ _, fun b o hbo => ?_, hb⟩
  have hlt : b < w0.heap.size := (Array.getElem?_eq_some_iff.1 (hw0 b o hbo)).1
  rw [hb.block b hlt]
  exact hw0 b o hbo
end
def deadHP : HP where
 holds _ _ := False
 loc _ _ _ h _ := h
 lt _ _ h := h.elim
theorem S_dead {C : Ctx} {k : List It} {E : Env} {ι : Ids} {L : List Ent} {G : PH} (κ : Nat) (hL : getH κ L = some deadHP) : X C k E ι L G := by
 intro a w h1 h2 h3 h4
 obtain ⟨S, hA, _⟩ := h4.turn hL
 exact hA.elim
end
section
attribute [local irreducible] X Pure Mod
theorem any_at {α : Type} {L : List α} {p : α → Bool} {k : Nat} (hk : k < L.length) (h : p L[k] = true) : L.any p = true := List.any_eq_true.2 ⟨_, List.getElem_mem hk, h⟩
theorem any_not {α : Type} {L : List α} {p : α → Bool} (h : ∀ j (hj : j < L.length), p L[j] = false) : L.any p = false := by
 rw [List.any_eq_false]
 intro s hs
 obtain ⟨j, hj, rfl⟩ := List.getElem_of_mem hs
 simp [h j hj]
theorem c_IndexStm (L : List Stm) (p : Stm → Bool) (fid : Nat) (cap : Array Value) (v : Value) (G : PH) (hv : Sts G L v) (hcf : ∀ args w, (callFunc fid args).run Tryz.prog w = .ok (.enter fid args) w)
  (hp : ∀ k (hk : k < L.length) cs, Stm.rep G L[k] cs → Pure Tryz.prog fid (.agg cs.toArray :: cap.toList) G fun v G' => v = .bool (p L[k]) ∧ G' = G) :
  Pure Tryz.prog 98 [v, .func (.func fid) #[] cap] G fun v G' => (∃ r : Int, v = .int .i64 r ∧ (0 ≤ r ↔ L.any p = true)) ∧ G' = G := by
 obtain ⟨A, c, rfl, hn, hc1, hc2, hr⟩ := id hv
 refine Pure.intro Tryz.func98 Tryz.ntmps98 J J fun w => ?_; refine Va J J ?_;refine S_loop (α := Nat) (fun k => k ≤ L.length ∧ ∀ j (hj : j < L.length), j < k → p L[j] = false) (fun k => L.length - k) []
  (fun k => [(8, .val (.int .i64 k)), (7, .val (.int .i64 L.length)), (0, .val (.slice A L.length c)), (1, .val (.func (.func fid) #[] cap))]) (fun _ => []) (fun _ => G) 0 ⟨Nat.zero_le _, fun j _ h => by omega⟩ rfl
  ⟨⟨_, rfl, rfl⟩, ⟨_, rfl, rfl⟩, ⟨_, rfl, rfl⟩, ⟨_, rfl, rfl⟩, trivial⟩ .nil ?_
 rintro k ⟨hk, hall⟩
 refine Va J J ?_
 refine S_condp J (fun h => ?_) (fun h => ?_) <;> refine Va J J ?_
 ·have hkl : k < L.length := by omega
  obtain ⟨ad, cs, rfl, hcs, hrep⟩ := Sr_at hv hkl
  have hlen := Stm.rep_len hrep
  refine S_index Tk J J J J J J (by omega) (by omega) ?_;refine Va J J ?_;refine S_loadA Tk J J J J hlen (by simpa using hcs) ?_;refine Va J J ?_;refine S_callV (vs := [.agg cs.toArray]) J hcf (hp k hkl cs hrep) J J J ?_;rintro v1 G1 ⟨rfl, rfl⟩ _
  refine Va J J ?_
  refine S_cond J (fun h => ?_) (fun h => ?_) <;> refine Va J J ?_
  ·refine S_retP Tryz.results98 J J XR ⟨⟨_, J, ?_⟩, J⟩
   rw [any_at hkl h]; simp
  ·refine S_add J J J J (by omega) ?_
   refine Va J J ?_;refine S_again (k + 1) ⟨by omega, fun j hj hjk => ?_⟩ (by omega) J ⟨⟨_, J, J⟩, ⟨_, J, J⟩, ⟨_, J, J⟩, ⟨_, J, J⟩, trivial⟩ .nil
   rcases Nat.lt_or_ge j k with h' | h'
   ·exact hall j hj h'
   ·obtain rfl : j = k := by omega
    exact h
 ·refine S_retP Tryz.results98 J J XR ⟨⟨_, J, ?_⟩, J⟩
  rw [any_not fun j hj => hall j hj (by omega)]; simp
theorem c_ContainsStm (L : List Stm) (p : Stm → Bool) (fid : Nat) (cap : Array Value) (v : Value) (G : PH) (hv : Sts G L v) (hcf : ∀ args w, (callFunc fid args).run Tryz.prog w = .ok (.enter fid args) w)
  (hp : ∀ k (hk : k < L.length) cs, Stm.rep G L[k] cs → Pure Tryz.prog fid (.agg cs.toArray :: cap.toList) G fun v G' => v = .bool (p L[k]) ∧ G' = G) :
  Pure Tryz.prog 87 [v, .func (.func fid) #[] cap] G fun v G' => v = .bool (L.any p) ∧ G' = G := by
 obtain ⟨A, c, rfl, hn, hc1, hc2, hr⟩ := id hv
 refine Pure.intro Tryz.func87 Tryz.ntmps87 J J fun w => ?_; refine Va J J ?_;refine S_call Tryz.call98 (c_IndexStm L p fid cap _ _ hv hcf hp) J J J ?_;rintro v1 G1 ⟨⟨r, rfl, hrr⟩, rfl⟩ _
 refine Va J J ?_;refine S_retP Tryz.results87 J J XR ⟨?_, J⟩
 congr 1
 exact (Bool.eq_iff_iff.2 (by rw [← hrr]; simp))
theorem c_IndexSts (L : List (List Stm)) (p : (List Stm) → Bool) (fid : Nat) (cap : Array Value) (v : Value) (G : PH) (hv : Prg G L v) (hcf : ∀ args w, (callFunc fid args).run Tryz.prog w = .ok (.enter fid args) w)
  (hp : ∀ k (hk : k < L.length) u, Sts G L[k] u → Pure Tryz.prog fid (u :: cap.toList) G fun v G' => v = .bool (p L[k]) ∧ G' = G) :
  Pure Tryz.prog 76 [v, .func (.func fid) #[] cap] G fun v G' => (∃ r : Int, v = .int .i64 r ∧ (0 ≤ r ↔ L.any p = true)) ∧ G' = G := by
 obtain ⟨A, c, rfl, hn, hc1, hc2, hr⟩ := id hv
 refine Pure.intro Tryz.func76 Tryz.ntmps76 J J fun w => ?_; refine Va J J ?_;refine S_loop (α := Nat) (fun k => k ≤ L.length ∧ ∀ j (hj : j < L.length), j < k → p L[j] = false) (fun k => L.length - k) []
  (fun k => [(8, .val (.int .i64 k)), (7, .val (.int .i64 L.length)), (0, .val (.slice A L.length c)), (1, .val (.func (.func fid) #[] cap))]) (fun _ => []) (fun _ => G) 0 ⟨Nat.zero_le _, fun j _ h => by omega⟩ rfl
  ⟨⟨_, rfl, rfl⟩, ⟨_, rfl, rfl⟩, ⟨_, rfl, rfl⟩, ⟨_, rfl, rfl⟩, trivial⟩ .nil ?_
 rintro k ⟨hk, hall⟩
 refine Va J J ?_
 refine S_condp J (fun h => ?_) (fun h => ?_) <;> refine Va J J ?_
 ·have hkl : k < L.length := by omega
  obtain ⟨ad, cs, rfl, hcs, u, rfl, hu⟩ := Sr_at hv hkl
  obtain ⟨A1, c1, rfl, _⟩ := id hu
  refine S_index Tk J J J J J J (by omega) (by omega) ?_;refine Va J J ?_;refine S_load Tk J J J J J (by simpa using hcs.1) ?_;refine Va J J ?_;refine S_callV (vs := [.slice A1 L[k].length c1]) J hcf (hp k hkl _ hu) J J J ?_;rintro v1 G1 ⟨rfl, rfl⟩ _
  refine Va J J ?_
  refine S_cond J (fun h => ?_) (fun h => ?_) <;> refine Va J J ?_
  ·refine S_retP Tryz.results76 J J XR ⟨⟨_, J, ?_⟩, J⟩
   rw [any_at hkl h]; simp
  ·refine S_add J J J J (by omega) ?_
   refine Va J J ?_;refine S_again (k + 1) ⟨by omega, fun j hj hjk => ?_⟩ (by omega) J ⟨⟨_, J, J⟩, ⟨_, J, J⟩, ⟨_, J, J⟩, ⟨_, J, J⟩, trivial⟩ .nil
   rcases Nat.lt_or_ge j k with h' | h'
   ·exact hall j hj h'
   ·obtain rfl : j = k := by omega
    exact h
 ·refine S_retP Tryz.results76 J J XR ⟨⟨_, J, ?_⟩, J⟩
  rw [any_not fun j hj => hall j hj (by omega)]; simp
theorem c_ContainsSts (L : List (List Stm)) (p : (List Stm) → Bool) (fid : Nat) (cap : Array Value) (v : Value) (G : PH) (hv : Prg G L v) (hcf : ∀ args w, (callFunc fid args).run Tryz.prog w = .ok (.enter fid args) w)
  (hp : ∀ k (hk : k < L.length) u, Sts G L[k] u → Pure Tryz.prog fid (u :: cap.toList) G fun v G' => v = .bool (p L[k]) ∧ G' = G) :
  Pure Tryz.prog 58 [v, .func (.func fid) #[] cap] G fun v G' => v = .bool (L.any p) ∧ G' = G := by
 obtain ⟨A, c, rfl, hn, hc1, hc2, hr⟩ := id hv
 refine Pure.intro Tryz.func58 Tryz.ntmps58 J J fun w => ?_; refine Va J J ?_;refine S_call Tryz.call76 (c_IndexSts L p fid cap _ _ hv hcf hp) J J J ?_;rintro v1 G1 ⟨⟨r, rfl, hrr⟩, rfl⟩ _
 refine Va J J ?_;refine S_retP Tryz.results58 J J XR ⟨?_, J⟩
 congr 1
 exact (Bool.eq_iff_iff.2 (by rw [← hrr]; simp))
end
section
attribute [local irreducible] X Pure Mod
def fm (k : Int) : Option (Int × Int × Bool × Bool) :=
 if k = 1 then some (3, 0, false, false) else if k = 2 then some (3, 3, false, false) else if k = 3 then some (3, 3, false, false) else if k = 4 then some (3, 3, false, false) else if k = 5 then some (3, 0, false, false)
 else if k = 6 then some (3, 0, true, true) else if k = 7 then some (3, 0, true, false) else if k = 8 then some (2, 0, true, false) else if k = 9 then some (2, 0, false, false) else if k = 10 then some (2, 0, false, false) else if k = 11 then some (0, 0, false, false) else none
theorem fm_of {f : Int → Option Value} (h : formsP f) (k : Int) : (∃ s a b body els, f k = some (formV s a b body els) ∧ fm k = some (a, b, body, els)) ∨ (f k = none ∧ fm k = none) := by
 obtain ⟨⟨s1, h1⟩, ⟨s2, h2⟩, ⟨s3, h3⟩, ⟨s4, h4⟩, ⟨s5, h5⟩, ⟨s6, h6⟩, ⟨s7, h7⟩, ⟨s8, h8⟩, ⟨s9, h9⟩, ⟨s10, h10⟩, ⟨s11, h11⟩, hn⟩ := h
 by_cases hk : 1 ≤ k ∧ k ≤ 11
 ·left
  have hc : k = 1 ∨ k = 2 ∨ k = 3 ∨ k = 4 ∨ k = 5 ∨ k = 6 ∨ k = 7 ∨ k = 8 ∨ k = 9 ∨ k = 10 ∨ k = 11 := by omega
  rcases hc with rfl | rfl | rfl | rfl | rfl | rfl | rfl | rfl | rfl | rfl | rfl <;> exact ⟨_, _, _, _, _, by assumption, J⟩
 ·right
  refine ⟨hn k hk, ?_⟩
  unfold fm
  repeat rw [if_neg (by omega)]
def iOk (k a b n : Int) (x y : List Stm) (deep room : Int) : Bool :=
 match fm k with
 | none => false
 | some (fa, fb, body, els) =>
  if deep < 1 then false else if fitsB a fa = false then false else if fitsB b fb = false then false else if numberOkB k n = false then false
  else if body = false ∧ 0 < x.length then false else if els = false ∧ 0 < y.length then false
  else if k = 8 then (if room = -1 then listOk x (deep - 1) a && listOk y (deep - 1) a else false)
  else if k = 9 ∧ room = -1 then false
  else listOk x (deep - 1) room && listOk y (deep - 1) room
theorem iOk_eq (k a b n : Int) (x y : List Stm) (deep room : Int) (hr : -1 ≤ room) : iOk k a b n x y deep room = stmtOk (.mk k a b n x y) deep room := by
 have hnil : ∀ d r, listOk [] d r = true := fun _ _ => rfl
 have hynil : ∀ d r, y = [] → listOk y d r = true := by rintro d r rfl; rfl
 by_cases hk : 1 ≤ k ∧ k ≤ 11
 ·have hc : k = 1 ∨ k = 2 ∨ k = 3 ∨ k = 4 ∨ k = 5 ∨ k = 6 ∨ k = 7 ∨ k = 8 ∨ k = 9 ∨ k = 10 ∨ k = 11 := by omega
  by_cases hd : deep < 1
  ·rcases hc with rfl | rfl | rfl | rfl | rfl | rfl | rfl | rfl | rfl | rfl | rfl <;> simp [iOk, fm, stmtOk, hd]
  ·cases x with
   | nil =>
    cases y with
    | nil => rcases hc with rfl | rfl | rfl | rfl | rfl | rfl | rfl | rfl | rfl | rfl | rfl <;> simp [iOk, fm, stmtOk, leafOk, listOk, fitsB, numberOkB, opOk, numOk, hd] <;> rw [Bool.eq_iff_iff] <;> simp <;> (first | omega | grind)
    | cons t y => rcases hc with rfl | rfl | rfl | rfl | rfl | rfl | rfl | rfl | rfl | rfl | rfl <;> simp [iOk, fm, stmtOk, leafOk, fitsB, numberOkB, opOk, numOk, hd] <;> rw [Bool.eq_iff_iff] <;> simp <;> (first | omega | grind)
   | cons t x => rcases hc with rfl | rfl | rfl | rfl | rfl | rfl | rfl | rfl | rfl | rfl | rfl <;> simp [iOk, fm, stmtOk, leafOk, fitsB, numberOkB, opOk, numOk, hd] <;> rw [Bool.eq_iff_iff] <;> simp <;> (first | omega | grind)
 ·have : fm k = none := by unfold fm; repeat rw [if_neg (by omega)]
  obtain ⟨h1, h2, h3, h4, h5, h6, h7, h8, h9, h10, h11⟩ : k ≠ 1 ∧ k ≠ 2 ∧ k ≠ 3 ∧ k ≠ 4 ∧ k ≠ 5 ∧ k ≠ 6 ∧ k ≠ 7 ∧ k ≠ 8 ∧ k ≠ 9 ∧ k ≠ 10 ∧ k ≠ 11 := by omega
  simp [iOk, this, stmtOk, leafOk, h1, h2, h3, h4, h5, h6, h7, h8, h9, h10, h11]
def IL (L : List Stm) : Prop := ∀ (deep room : Int) (v : Value) (G : PH), I64 deep → -1 ≤ room → I64 room → Sts G L v → Pure Tryz.prog 77 [v, .int .i64 deep, .int .i64 room] G fun v G' => v = .bool (listOk L deep room) ∧ G' = G
theorem zform : ∀ w, (zeroValue 156).run Tryz.prog w = .ok (.agg #[.string ByteArray.empty, .int .i64 0, .int .i64 0, .bool false, .bool false]) w := by
 intro w
 have h : (Tryz.prog.info? 156).bind (·.zero) = some (.agg #[.string ByteArray.empty, .int .i64 0, .int .i64 0, .bool false, .bool false]) := by kernel_rfl
 cases hi : Tryz.prog.info? 156 with
 | none => rw [hi] at h; cases h
 | some i =>
  rw [hi] at h
  simp only [Option.bind_some] at h
  simp [zeroValue, typeInfo, hi, h]
theorem c_stmtOk_of (k a b n : Int) (x y : List Stm) (hX : IL x) (hY : IL y) (deep room : Int) (hd : I64 deep) (hr : -1 ≤ room) (hr' : I64 room) (cs : List Value) (G : PH) (hs : Stm.rep G (.mk k a b n x y) cs) :
  Pure Tryz.prog 89 [.agg cs.toArray, .int .i64 deep, .int .i64 room] G fun v G' => v = .bool (iOk k a b n x y deep room) := by
 obtain ⟨vx, vy, rfl, hk, ha, hb, hn, h1, h2⟩ := Stm.rep_iff.1 hs
 obtain ⟨Ax, cx, rfl, _⟩ := id h1
 have hd' : -9223372036854775808 ≤ deep ∧ deep ≤ 9223372036854775807 := hd
 obtain ⟨Ay, cy, rfl, _⟩ := id h2
 refine Pure.intro Tryz.func89 Tryz.ntmps89 J J fun w => ?_; refine Va J J ?_;refine S_box J J J J J fun b3 => ?_;refine Va J J ?_;refine Ds J J J ?_;refine Da J J ?_;refine D_or 0 7 J J (N_call 0 Tryz.call99 (c_forms _) J J J J J J J J J J ?_) (N_new 7 J J J J J J J J J J J (AZ ZT_ok J J J J) fun b => ?_)
 ·rintro v G1 ⟨bm, es, clock, rfl, hbm, hkeys, hforms⟩ hext
  rcases fm_of hforms k with ⟨s, fa, fb, body, els, hf, hfm⟩ | ⟨hf, hfm⟩
  ·refine D_val 3 J J J J J J J J J (V_lookupS u_forms u_int hbm hkeys hf J J) ?_
   unfold formV
   refine Da J J ?_;refine D_sole 7 J J (N_new 7 J J J J J J J J J J J (AZ ZT_ok J J J J) fun b => ?_)
   refine Da J J ?_;refine Ns 8 J J J J J J J J J ?_;refine Da J J ?_;refine DD ?_;refine Va J J ?_
   repeat' (first
    | (refine S_condp J (fun h => ?_) (fun h => ?_) <;> refine Va J J ?_) | (refine S_cond J (fun h => ?_) (fun h => ?_) <;> refine Va J J ?_) | (refine S_box J J J J J fun b => ?_; refine Va J J ?_) | (refine AZ ZT_ok J J J J fun b => ?_; refine Va J J ?_) | (refine S_guardp J J (fun h => ?_) (fun h => ?_) <;> refine Va J J ?_) | (refine S_guard J J (fun h => ?_) (fun h => ?_) <;> refine Va J J ?_)
    | (refine S_subI J J J J (by first | omega | (simp_all; omega)) ?_; refine Va J J ?_)
    | (refine S_call Tryz.call100 (c_fits _ _ _) J J J ?_; rintro v G' ⟨rfl, rfl⟩ _; refine Va J J ?_)
    | (refine S_call Tryz.call101 (c_numberOk _ _ _ _ _ _ _) J J J ?_; rintro v G' ⟨rfl, rfl⟩ _; refine Va J J ?_)
    | (refine S_call Tryz.call77 (hX _ _ _ _ (by unfold I64; first | omega | (simp_all; omega)) (by first | exact hr | (simp_all [fitsB]; omega)) (by first | exact hr' | exact ha) (Sts_le hext.le h1)) rfl rfl rfl ?_; rintro v G' ⟨rfl, rfl⟩ _; refine Va J J ?_)
    | (refine S_call Tryz.call77 (hY _ _ _ _ (by unfold I64; first | omega | (simp_all; omega)) (by first | exact hr | (simp_all [fitsB]; omega)) (by first | exact hr' | exact ha) (Sts_le hext.le h2)) rfl rfl rfl ?_; rintro v G' ⟨rfl, rfl⟩ _; refine Va J J ?_)
    | refine S_retP Tryz.results89 J J hext ?_)
   all_goals (try clear hX hY hforms hkeys hs)
   all_goals (refine congrArg Value.bool ?_)
   all_goals (unfold iOk; rw [hfm]; dsimp only)
   all_goals (clear hext; cases body <;> cases els <;> simp_all [listOk] <;> omega)
  ·refine D_val 3 J J J J J J J J J (V_lookupN ZT_ok (z := ⟨32, [.string ByteArray.empty, .int .i64 0, .int .i64 0, .bool false, .bool false], []⟩) u_forms u_int hbm hkeys hf J J zform) ?_
   refine Da J J ?_;refine D_sole 7 J J (N_new 7 J J J J J J J J J J J (AZ ZT_ok J J J J) fun b => ?_)
   refine Da J J ?_;refine Ns 8 J J J J J J J J J ?_;refine Da J J ?_;refine DD ?_;refine Va J J ?_;refine GT J J J ?_;refine Va J J ?_;refine S_retP Tryz.results89 J J hext ?_;refine congrArg Value.bool ?_
   unfold iOk
   rw [hfm]
 ·refine Da J J ?_
  refine D_sole 0 J J (N_call 0 Tryz.call99 (c_forms _) J J J J J J J J J J ?_)
  rintro v G1 ⟨bm, es, clock, rfl, hbm, hkeys, hforms⟩ hext
  rcases fm_of hforms k with ⟨s, fa, fb, body, els, hf, hfm⟩ | ⟨hf, hfm⟩
  ·refine D_val 3 J J J J J J J J J (V_lookupS u_forms u_int hbm hkeys hf J J) ?_
   unfold formV
   refine Da J J ?_;refine Ns 8 J J J J J J J J J ?_;refine Da J J ?_;refine DD ?_;refine Va J J ?_
   repeat' (first
    | (refine S_condp J (fun h => ?_) (fun h => ?_) <;> refine Va J J ?_) | (refine S_cond J (fun h => ?_) (fun h => ?_) <;> refine Va J J ?_) | (refine S_box J J J J J fun b => ?_; refine Va J J ?_) | (refine AZ ZT_ok J J J J fun b => ?_; refine Va J J ?_) | (refine S_guardp J J (fun h => ?_) (fun h => ?_) <;> refine Va J J ?_) | (refine S_guard J J (fun h => ?_) (fun h => ?_) <;> refine Va J J ?_)
    | (refine S_subI J J J J (by first | omega | (simp_all; omega)) ?_; refine Va J J ?_)
    | (refine S_call Tryz.call100 (c_fits _ _ _) J J J ?_; rintro v G' ⟨rfl, rfl⟩ _; refine Va J J ?_)
    | (refine S_call Tryz.call101 (c_numberOk _ _ _ _ _ _ _) J J J ?_; rintro v G' ⟨rfl, rfl⟩ _; refine Va J J ?_)
    | (refine S_call Tryz.call77 (hX _ _ _ _ (by unfold I64; first | omega | (simp_all; omega)) (by first | exact hr | (simp_all [fitsB]; omega)) (by first | exact hr' | exact ha) (Sts_le hext.le h1)) rfl rfl rfl ?_; rintro v G' ⟨rfl, rfl⟩ _; refine Va J J ?_)
    | (refine S_call Tryz.call77 (hY _ _ _ _ (by unfold I64; first | omega | (simp_all; omega)) (by first | exact hr | (simp_all [fitsB]; omega)) (by first | exact hr' | exact ha) (Sts_le hext.le h2)) rfl rfl rfl ?_; rintro v G' ⟨rfl, rfl⟩ _; refine Va J J ?_)
    | refine S_retP Tryz.results89 J J hext ?_)
   all_goals (try clear hX hY hforms hkeys hs)
   all_goals (refine congrArg Value.bool ?_)
   all_goals (unfold iOk; rw [hfm]; dsimp only)
   all_goals (clear hext; cases body <;> cases els <;> simp_all [listOk] <;> omega)
  ·refine D_val 3 J J J J J J J J J (V_lookupN ZT_ok (z := ⟨32, [.string ByteArray.empty, .int .i64 0, .int .i64 0, .bool false, .bool false], []⟩) u_forms u_int hbm hkeys hf J J zform) ?_
   refine Da J J ?_;refine Ns 8 J J J J J J J J J ?_;refine Da J J ?_;refine DD ?_;refine Va J J ?_;refine GT J J J ?_;refine Va J J ?_;refine S_retP Tryz.results89 J J hext ?_;refine congrArg Value.bool ?_
   unfold iOk
   rw [hfm]
end
section
attribute [local irreducible] X Pure Mod
theorem c_listOkC (cs : List Value) (hlen : cs.length = 6) (deep room : Int) (r : Bool) (b4 b5 : Nat) (G : PH) (h4 : gcell G ⟨b4, 0, none⟩ = some (.int .i64 deep)) (h5 : gcell G ⟨b5, 0, none⟩ = some (.int .i64 room))
  (hst : Pure Tryz.prog 89 [.agg cs.toArray, .int .i64 deep, .int .i64 room] G fun v G' => v = .bool r ∧ G' = G) :
  Pure Tryz.prog 88 [.agg cs.toArray, .pointer (some ⟨b4, 0, none⟩), .pointer (some ⟨b5, 0, none⟩)] G fun v G' => v = .bool (!r) ∧ G' = G := by
 obtain ⟨x1, x2, x3, x4, x5, x6, rfl⟩ : ∃ x1 x2 x3 x4 x5 x6, cs = [x1, x2, x3, x4, x5, x6] := by
  match cs, hlen with
  | [x1, x2, x3, x4, x5, x6], _ => exact ⟨_, _, _, _, _, _, rfl⟩
 refine Pure.intro Tryz.func88 Tryz.ntmps88 J J fun w => ?_; refine Va J J ?_;refine S_box J J J J J fun b3 => ?_;refine Va J J ?_;refine S_load Tk J J J J J h4 ?_;refine Va J J ?_;refine S_load Tk J J J J J h5 ?_;refine Va J J ?_;refine S_call Tryz.call89 hst J J J ?_;rintro v G' ⟨rfl, rfl⟩ _
 refine Va J J ?_;exact S_retP Tryz.results88 J J XR ⟨J, J⟩
theorem notany_all {α : Type} (L : List α) (p : α → Bool) : (!L.any fun s => !p s) = L.all p := by
 induction L with
 | nil => rfl
 | cons s L ih => simp only [List.any_cons, List.all_cons, Bool.not_or, Bool.not_not, ih]
theorem IL_of (L : List Stm) (h : ∀ k (hk : k < L.length), IL L[k].body ∧ IL L[k].els) : IL L := by
 intro deep room v G hd hr hr' hv
 obtain ⟨A, c, rfl, _⟩ := id hv
 refine Pure.drop (Post := fun v _ => v = .bool (listOk L deep room)) ?_ (fun v G' h => h)
 refine Pure.intro Tryz.func77 Tryz.ntmps77 J J fun w => ?_; refine Va J J ?_;refine S_box J J J J J fun b4 => ?_;refine Va J J ?_;refine S_box J J J J J fun b5 => ?_;refine Va J J ?_;refine S_valV J J J (V_makeFunc J) ?_;refine Va J J ?_;refine S_freezeB 4 J J J J (fun _ h => h) fun hext1 => ?_;refine S_freezeB 5 J J J J (fun _ h => h) fun hext2 => ?_
 have hle := hext1.le.trans hext2.le
 refine S_call Tryz.call87 (c_ContainsStm L (fun s => !stmtOk s deep room) _ _ _ _ (Sts_le hle hv) Tryz.call88 ?_) J J J ?_
 ·intro k hk cs hs
  refine c_listOkC cs (Stm.rep_len hs) deep room _ b4 b5 _ (gcell_le hext2.le ?_) ?_ ?_
  ·simp [gcell, PH.add_self]
  ·simp [gcell, PH.add_self]
  ·obtain ⟨hb, he⟩ := h k hk
   rcases hk' : L[k] with ⟨q1, q2, q3, q4, x, y⟩
   rw [hk'] at hb he hs
   exact (c_stmtOk_of q1 q2 q3 q4 x y hb he deep room hd hr hr' cs _ hs).drop fun v G' e => by rw [e, iOk_eq _ _ _ _ _ _ _ _ hr]
 ·rintro v1 G1 ⟨rfl, rfl⟩ _
  refine Va J J ?_;refine S_retP Tryz.results77 J J (hext1.trans hext2) ?_
  rw [listOk_all, notany_all]
mutual
theorem IL_stm : ∀ (s : Stm), IL s.body ∧ IL s.els
 | .mk k a b n x y => ⟨IL_all x, IL_all y⟩
theorem IL_at : ∀ (L : List Stm) (k : Nat) (hk : k < L.length), IL L[k].body ∧ IL L[k].els
 | [], k, hk => absurd hk (by simp)
 | s :: L, 0, _ => IL_stm s
 | s :: L, k + 1, hk => IL_at L k (by simpa using hk)
theorem IL_all : ∀ (L : List Stm), IL L
 | L => IL_of L (IL_at L)
end
end
section
attribute [local irreducible] X Pure Mod
mutual
def flatS : Stm → Int → List (Stm × Int)
 | .mk k a b n x y, room => flatL x (if k = 8 then a else room) ++ flatL y (if k = 8 then a else room)
def flatL : List Stm → Int → List (Stm × Int)
 | [], _ => []
 | s :: r, room => (s, room) :: (flatS s room ++ flatL r room)
end
theorem flatL_append (L M : List Stm) (room : Int) : flatL (L ++ M) room = flatL L room ++ flatL M room := by
 induction L with
 | nil => simp [flatL]
 | cons s L ih => simp [flatL, ih]
theorem flat_take {L : List Stm} {i : Nat} (hi : i < L.length) (room : Int) : flatL (L.take (i + 1)) room = flatL (L.take i) room ++ (L[i], room) :: flatS L[i] room := by
 rw [List.take_succ_eq_append_getElem hi, flatL_append]; simp [flatL]
theorem flat_pre (L : List Stm) (i : Nat) (room : Int) : flatL (L.take i) room <+: flatL L room := ⟨flatL (L.drop i) room, by rw [← flatL_append, List.take_append_drop]⟩
def encP (G : PH) (x : Stm × Int) (vs : List Value) : Prop := ∃ cs, Stm.rep G x.1 cs ∧ vs = [Value.agg (cs ++ [Value.int .i64 x.2]).toArray]
def walkF (by_ bw : Nat) : Value := .func (.func 91) #[] #[.pointer (some ⟨by_, 0, none⟩), .pointer (some ⟨bw, 0, none⟩)]
def WalkC (L : List Stm) : Prop := ∀ (l by_ bw : Nat) (A Ax : List (Stm × Int) → HP) (xs pre : List (Stm × Int)) (room : Int) (v : Value) (G0 G : PH), G0.le G → Sts G0 L v → gcell G ⟨by_, 0, none⟩ = some (.func (.yield l) #[] #[]) → gcell G ⟨bw, 0, none⟩ = some (walkF by_ bw) →
 (∀ pre x vs, (pre ++ [x]) <+: xs → encP G0 x vs → YieldM Tryz.prog l vs G0 (A pre) (A (pre ++ [x])) (Ax (pre ++ [x]))) → (pre ++ flatL L room) <+: xs →
 Mod Tryz.prog 91 [v, .int .i64 room, .pointer (some ⟨by_, 0, none⟩), .pointer (some ⟨bw, 0, none⟩)] G (A pre) fun r G' A' => G' = G ∧ ((r = .bool true ∧ A' = A (pre ++ flatL L room)) ∨ (r = .bool false ∧ ∃ q, A' = Ax q))
theorem c_walk_of (L : List Stm) (hbs : ∀ k (hk : k < L.length), WalkC L[k].body) (hes : ∀ k (hk : k < L.length), WalkC L[k].els) : WalkC L := by
 intro l by_ bw A Ax xs pre room v G0 G hle hv hy hw hY hpre
 obtain ⟨Al, c, rfl, hn, hc1, hc2, hr⟩ := id hv
 refine Mod.intro Tryz.func91 Tryz.ntmps91 J J fun w S => ?_;refine Va J J ?_;refine S_loop (α := Nat) (fun i => i ≤ L.length) (fun i => L.length - i) []
  (fun i => [(12, .val (.int .i64 (i : Nat))), (11, .val (.int .i64 (L.length : Nat))), (10, .val (.slice Al L.length c)), (1, .val (.int .i64 room)), (2, .val (.pointer (some ⟨by_, 0, none⟩))), (3, .val (.pointer (some ⟨bw, 0, none⟩)))])
  (fun i => [.hp 1 (A (pre ++ flatL (L.take i) room))]) (fun _ => G) 0 (Nat.zero_le _) rfl ⟨⟨_, rfl, rfl⟩, ⟨_, rfl, rfl⟩, ⟨_, rfl, rfl⟩, ⟨_, rfl, rfl⟩, ⟨_, rfl, rfl⟩, ⟨_, rfl, rfl⟩, trivial⟩ (by simp only [List.take_zero, flatL, List.append_nil]; exact .hp .nil) ?_
 intro i hi
 refine Va J J ?_
 refine S_condp J (fun h5 => ?_) (fun h5 => ?_) <;> refine Va J J ?_
 ·have hil : i < L.length := by omega
  obtain ⟨ad, cs, rfl, hcs, hrep⟩ := Sr_at hv hil
  have hb := hbs i hil
  have he := hes i hil
  have htk := flat_take hil room
  have hp1 : (pre ++ flatL (L.take (i + 1)) room) <+: xs := ((List.prefix_append_right_inj pre).2 (flat_pre L (i + 1) room)).trans hpre
  rcases hs : L[i] with ⟨k, a, b, n, x, y⟩
  rw [hs] at hrep hb he htk
  rw [htk] at hp1
  obtain ⟨vx, vy, rfl, i1, i2, i3, i4, hx, hyy⟩ := Stm.rep_iff.1 hrep
  simp only [Stm.body, Stm.els] at hb he hx hyy
  have HP0 : (pre ++ flatL (L.take i) room ++ [(Stm.mk k a b n x y, room)]) <+: xs := List.IsPrefix.trans ⟨flatS (Stm.mk k a b n x y) room, by simp⟩ hp1
  have HP1 : ∀ {rr : Int}, (if k = 8 then a else room) = rr → (pre ++ flatL (L.take i) room ++ [(Stm.mk k a b n x y, room)] ++ flatL x rr) <+: xs := fun {rr} e => List.IsPrefix.trans ⟨flatL y rr, by subst e; simp [flatS]⟩ hp1
  have HP2 : ∀ {rr : Int}, (if k = 8 then a else room) = rr → (pre ++ flatL (L.take i) room ++ [(Stm.mk k a b n x y, room)] ++ flatL x rr ++ flatL y rr) <+: xs := fun {rr} e => List.IsPrefix.trans ⟨[], by subst e; simp [flatS]⟩ hp1
  have HPE : ∀ {rr : Int}, (if k = 8 then a else room) = rr → pre ++ flatL (L.take (i + 1)) room = (pre ++ flatL (L.take i) room ++ [(Stm.mk k a b n x y, room)] ++ flatL x rr ++ flatL y rr) := fun {rr} e => by subst e; rw [htk]; simp [flatS]
  obtain ⟨Ax', cx', rfl, _⟩ := id hx
  obtain ⟨Ay', cy', rfl, _⟩ := id hyy
  refine S_index Tk J J J J J J (by omega) (by omega) ?_;refine Va J J ?_;refine S_loadA Tk J J J J J (by simpa using gcells_le hle hcs) ?_;refine Va J J ?_;refine AZ ZT_ok J J J J fun b8 => ?_;refine Va J J ?_;refine S_load Tk J J J J J hy ?_;refine Va J J ?_
  refine S_yield 1 l rfl rfl ((hY _ (Stm.mk k a b n x y, room) _ HP0 ⟨_, hrep, rfl⟩).le hle) rfl rfl rfl rfl (fun _ => rfl) ?_ ?_ <;> refine Va J J ?_
  ·refine RF J J ?_
   refine Va J J ?_
   refine S_condp J (fun h8 => ?_) (fun h8 => ?_) <;> refine Va J J ?_
   ·refine S_load Tk J J J J J hw ?_
    refine Va J J ?_;refine S_callMV 1 (vs := [.slice Ax' x.length cx', .int .i64 a]) (cap := #[.pointer (some ⟨by_, 0, none⟩), .pointer (some ⟨bw, 0, none⟩)]) J Tryz.call91 (hb l by_ bw A Ax xs (pre ++ flatL (L.take i) room ++ [(Stm.mk k a b n x y, room)]) a _ G0 G hle hx hy hw hY (HP1 (if_pos h8))) J J J J (fun _ => J) ?_
    rintro v2 G2 A2 ⟨rfl, ⟨rfl, rfl⟩ | ⟨rfl, q, rfl⟩⟩ _ <;> refine Va J J ?_
    ·refine GF J J J ?_
     refine Va J J ?_;refine S_load Tk J J J J J hw ?_;refine Va J J ?_;refine S_callMV 1 (vs := [.slice Ay' y.length cy', .int .i64 a]) (cap := #[.pointer (some ⟨by_, 0, none⟩), .pointer (some ⟨bw, 0, none⟩)]) J Tryz.call91 (he l by_ bw A Ax xs (pre ++ flatL (L.take i) room ++ [(Stm.mk k a b n x y, room)] ++ flatL x a) a _ G0 _ hle hyy hy hw hY (HP2 (if_pos h8))) J J J J (fun _ => J) ?_
     rintro v3 G3 A3 ⟨rfl, ⟨rfl, rfl⟩ | ⟨rfl, q, rfl⟩⟩ _ <;> refine Va J J ?_
     ·refine RF J J ?_
      refine Va J J ?_;refine S_add J J J J (by omega) ?_;refine Va J J ?_;refine S_again (i + 1) (by omega) (by omega) J ⟨⟨_, J, by simp [denO]⟩, ⟨_, J, J⟩, ⟨_, J, J⟩, ⟨_, J, J⟩, ⟨_, J, J⟩, ⟨_, J, J⟩, trivial⟩ ?_
      rw [HPE (if_pos h8)]
      exact .drop (.hp .nil)
     ·refine RT J J ?_
      refine Va J J ?_;exact S_retm 1 (Res.t1 Tryz.results91 J J) J XR ⟨J, .inr ⟨J, _, J⟩⟩
    ·refine GT J J J ?_
     refine Va J J ?_;exact S_retm 1 (Res.t1 Tryz.results91 J J) J XR ⟨J, .inr ⟨J, _, J⟩⟩
   ·refine S_load Tk J J J J J hw ?_
    refine Va J J ?_;refine S_callMV 1 (vs := [.slice Ax' x.length cx', .int .i64 room]) (cap := #[.pointer (some ⟨by_, 0, none⟩), .pointer (some ⟨bw, 0, none⟩)]) J Tryz.call91 (hb l by_ bw A Ax xs (pre ++ flatL (L.take i) room ++ [(Stm.mk k a b n x y, room)]) room _ G0 G hle hx hy hw hY (HP1 (if_neg h8))) J J J J (fun _ => J) ?_
    rintro v2 G2 A2 ⟨rfl, ⟨rfl, rfl⟩ | ⟨rfl, q, rfl⟩⟩ _ <;> refine Va J J ?_
    ·refine GF J J J ?_
     refine Va J J ?_;refine S_load Tk J J J J J hw ?_;refine Va J J ?_;refine S_callMV 1 (vs := [.slice Ay' y.length cy', .int .i64 room]) (cap := #[.pointer (some ⟨by_, 0, none⟩), .pointer (some ⟨bw, 0, none⟩)]) J Tryz.call91 (he l by_ bw A Ax xs (pre ++ flatL (L.take i) room ++ [(Stm.mk k a b n x y, room)] ++ flatL x room) room _ G0 _ hle hyy hy hw hY (HP2 (if_neg h8))) J J J J (fun _ => J) ?_
     rintro v3 G3 A3 ⟨rfl, ⟨rfl, rfl⟩ | ⟨rfl, q, rfl⟩⟩ _ <;> refine Va J J ?_
     ·refine RF J J ?_
      refine Va J J ?_;refine S_add J J J J (by omega) ?_;refine Va J J ?_;refine S_again (i + 1) (by omega) (by omega) J ⟨⟨_, J, by simp [denO]⟩, ⟨_, J, J⟩, ⟨_, J, J⟩, ⟨_, J, J⟩, ⟨_, J, J⟩, ⟨_, J, J⟩, trivial⟩ ?_
      rw [HPE (if_neg h8)]
      exact .drop (.hp .nil)
     ·refine RT J J ?_
      refine Va J J ?_;exact S_retm 1 (Res.t1 Tryz.results91 J J) J XR ⟨J, .inr ⟨J, _, J⟩⟩
    ·refine GT J J J ?_
     refine Va J J ?_;exact S_retm 1 (Res.t1 Tryz.results91 J J) J XR ⟨J, .inr ⟨J, _, J⟩⟩
  ·refine RT J J ?_
   refine Va J J ?_;exact S_retm 1 (Res.t1 Tryz.results91 J J) J XR ⟨J, .inr ⟨J, _, J⟩⟩
 ·have hin : i = L.length := by omega
  subst hin
  rw [List.take_length]
  exact S_retm 1 (Res.t1 Tryz.results91 J J) J XR ⟨J, .inl ⟨J, J⟩⟩
mutual
theorem c_walkS : ∀ (s : Stm), WalkC s.body ∧ WalkC s.els
 | .mk k a b n x y => ⟨c_walk x, c_walk y⟩
theorem c_walkA : ∀ (L : List Stm), ∀ k (hk : k < L.length), WalkC L[k].body ∧ WalkC L[k].els
 | [], k, hk => absurd hk (by simp)
 | s :: L, 0, _ => c_walkS s
 | s :: L, k + 1, hk => c_walkA L k (by simpa using hk)
theorem c_walk : ∀ (L : List Stm), WalkC L
 | L => c_walk_of L (fun k hk => (c_walkA L k hk).1) (fun k hk => (c_walkA L k hk).2)
end
end
section
attribute [local irreducible] X Pure Mod
theorem c_all1 (L : List Stm) (room : Int) (v : Value) (b1 b2 : Nat) (G : PH) (hv : Sts G L v) (h1 : gcell G ⟨b1, 0, none⟩ = some v) (h2 : gcell G ⟨b2, 0, none⟩ = some (.int .i64 room)) :
  IterR Tryz.prog 90 #[.pointer (some ⟨b1, 0, none⟩), .pointer (some ⟨b2, 0, none⟩)] G (encP G) (flatL L room) := by
 refine IterR_of fun l A Ax hY => ?_;obtain ⟨Al, c, rfl, _⟩ := id hv
 refine Mod.intro Tryz.func90 Tryz.ntmps90 J J fun w S => ?_;refine Va J J ?_;refine S_boxB J J J J J fun b3 hb3 => ?_;refine Va J J ?_;refine S_allocB ZT_ok J J J J fun b4 hb4 => ?_;refine Va J J ?_;refine S_valV J J J (V_makeFunc J) ?_;refine Va J J ?_;refine S_keepB 3 J J J J hb3 fun hext1 => ?_;refine S_keepB 4 J J J J hb4 fun hext2 => ?_
 have hle := hext1.le.trans hext2.le
 refine S_load Tk J J J J J (gcell_le hle h1) ?_;refine Va J J ?_;refine S_load Tk J J J J J (gcell_le hle h2) ?_;refine Va J J ?_;refine S_callMV 1 (vs := [.slice Al L.length c, .int .i64 room]) (cap := #[.pointer (some ⟨b3, 0, none⟩), .pointer (some ⟨b4, 0, none⟩)]) J Tryz.call91 (c_walk L l b3 b4 A Ax (flatL L room) [] room _ G _ hle hv (gcell_le hext2.le (by simp [gcell, PH.add_self])) (by simp [gcell, PH.add_self, walkF]) hY (List.prefix_refl _)) J J J J (fun _ => J) ?_
 rintro v2 G2 A2 ⟨rfl, h⟩ hext3
 refine Va J J ?_;refine S_endm 1 (Res.t0 Tryz.results90) J ((hext1.trans hext2).trans hext3) ?_
 rcases h with ⟨_, rfl⟩ | ⟨_, q, rfl⟩
 ·exact .inl (by simp)
 ·exact .inr ⟨q, J⟩
theorem c_all (L : List Stm) (room : Int) (v : Value) (G : PH) (hv : Sts G L v) : Pure Tryz.prog 78 [v, .int .i64 room] G fun v' G' => ∃ b2 b3, v' = .func (.func 90) #[] #[.pointer (some ⟨b2, 0, none⟩), .pointer (some ⟨b3, 0, none⟩)] ∧ gcell G' ⟨b2, 0, none⟩ = some v ∧ gcell G' ⟨b3, 0, none⟩ = some (.int .i64 room) := by
 obtain ⟨Al, c, rfl, _⟩ := id hv
 refine Pure.intro Tryz.func78 Tryz.ntmps78 J J fun w => ?_; refine Va J J ?_;refine S_box J J J J J fun b2 => ?_;refine Va J J ?_;refine S_box J J J J J fun b3 => ?_;refine Va J J ?_;refine S_valV J J J (V_makeFunc J) ?_;refine Va J J ?_;refine S_freezeB 2 J J J J (fun _ h => h) fun hext1 => ?_;refine S_freezeB 3 J J J J (fun _ h => h) fun hext2 => ?_;refine S_retp (Res.t1 Tryz.results78 J J) (hext1.trans hext2) ⟨b2, b3, J, gcell_le hext2.le (by simp [gcell, PH.add_self]), by simp [gcell, PH.add_self]⟩
theorem flat_len : ∀ (n : Nat) (L : List Stm) (room : Int), dpL L ≤ n → ((flatL L room).length : Int) = many L (n : Nat)
 | n, [], room, _ => by simp [flatL, many]
 | 0, s :: L, room, h => by
  have := dpS_eq s
  simp only [dpL] at h
  omega
 | n + 1, s :: L, room, h => by
  simp only [dpL] at h
  have a3 := flat_len (n + 1) L room (by omega)
  obtain ⟨k, a, b, m, x, y⟩ := s
  simp only [dpS] at h
  have a1 := flat_len n x (if k = 8 then a else room) (by omega)
  have a2 := flat_len n y (if k = 8 then a else room) (by omega)
  simp only [flatL, flatS, List.length_cons, List.length_append, many, manyS, if_pos (show (0 : Int) < ((n + 1 : Nat) : Int) by omega), show (((n + 1 : Nat) : Int) - 1) = (n : Nat) by omega]
  omega
theorem c_iStmtsOk (L : List Stm) (v : Value) (G : PH) (hv : Sts G L v) (hs : Sh L) : Pure Tryz.prog 60 [v] G fun v G' => v = .bool (stmtsOk L) ∧ G' = G := by
 obtain ⟨Al, c, rfl, _⟩ := id hv
 refine Pure.introM Tryz.func60 Tryz.ntmps60 J J fun w hw => ?_;refine Va J J ?_;refine S_call Tryz.call77 (IL_all L 3 (-1) _ _ (by unfold I64; omega) (by omega) (by unfold I64; omega) hv) rfl rfl rfl ?_;rintro v1 G1 ⟨rfl, rfl⟩ _
 refine Va J J ?_
 cases hl : listOk L 3 (-1)
 ·refine RT J J ?_
  refine Va J J ?_;exact S_retK hw Tryz.results60 J J (by simp [stmtsOk, hl])
 refine RF J J ?_;refine Va J J ?_;refine AZ ZT_ok J J J J fun b3 => ?_;refine Va J J ?_;refine S_call Tryz.call78 (c_all L (-1) _ _ hv) J J J ?_;rintro v2 G2 ⟨b5, b6, rfl, h5, h6⟩ hext2
 refine Va J J ?_
 have hd : dpL L ≤ 3 := dpL_ok 3 L 3 (-1) hl (by omega)
 have hf := flat_len 3 L (-1) hd
 have hm := many_bnd 3 L hs
 have hB := MB3
 rw [show ((3 : Nat) : Int) = 3 from rfl] at hf hm
 refine S_range (fun pre => [.blk 3 3 (vL [.int .i64 (pre.length : Nat)])]) (fun pre => [.hp 3 deadHP]) rfl rfl rfl Tryz.call90 (c_all1 L (-1) _ b5 b6 G2 (Sts_le hext2.le hv) h5 h6) (fun x vs h => by obtain ⟨cs, _, rfl⟩ := h; rfl) rfl (.blk rfl rfl .nil) ?_ ?_ ?_
 ·intro l pre x vs W S I hpre henc hW hI
  obtain ⟨cs, _, rfl⟩ := henc
  have hlen : pre.length + 1 ≤ (flatL L (-1)).length := by have := hpre.length_le; simpa using this
  refine Va J J ?_;refine hI _ _ _ fun W2 S2 hW2 => ?_;refine Va J J ?_;refine S_add J J J J (by omega) ?_;refine Va J J ?_;refine S_roundEnd ?_
  simp only [List.length_append, List.length_singleton]
  exact .blk J J .nil
 ·intro D hD hDs
  refine Va J J ?_;refine S_retK hw Tryz.results60 J J ?_
  have e : w64 ((flatL L (-1)).length : Int) = (flatL L (-1)).length := w64_eq ⟨by omega, by omega⟩
  simp [stmtsOk, hl, ← hf, e]
 ·intro D pre hD hDs
  exact S_dead 3 J
theorem c_iProgOkC (L : List Stm) (v : Value) (G : PH) (hv : Sts G L v) (hs : Sh L) : Pure Tryz.prog 59 [v] G fun v G' => v = .bool (!stmtsOk L) ∧ G' = G := by
 obtain ⟨Al, c, rfl, _⟩ := id hv
 refine Pure.intro Tryz.func59 Tryz.ntmps59 J J fun w => ?_; refine Va J J ?_;refine S_call Tryz.call60 (c_iStmtsOk L _ _ hv hs) J J J ?_;rintro v1 G1 ⟨rfl, rfl⟩ _
 refine Va J J ?_;exact S_retp (Res.t1 Tryz.results59 J J) XR ⟨J, J⟩
theorem c_iProgOk (p : List (List Stm)) (v : Value) (G : PH) (hp : PrgS G p v) : Pure Tryz.prog 30 [v] G fun v G' => v = .bool (progOk p) ∧ G' = G := by
 obtain ⟨hpp, hsh, hpl⟩ := id hp
 obtain ⟨A, c, rfl, hl1, _⟩ := id hpp
 refine Pure.intro Tryz.func30 Tryz.ntmps30 J J fun w => ?_; refine Va J J ?_
 by_cases h1 : 1 ≤ p.length ∧ p.length ≤ 3
 ·refine GT J J (by simp; omega) ?_
  refine Va J J ?_;refine S_call Tryz.call58 (c_ContainsSts p (fun l => !stmtsOk l) 59 #[] _ _ hpp Tryz.call59 fun k hk v hv => c_iProgOkC _ _ _ hv (hsh _ (List.getElem_mem hk))) J J J ?_;rintro v1 G1 ⟨rfl, rfl⟩ _
  refine Va J J ?_;refine S_retp (Res.t1 Tryz.results30 J J) XR ⟨?_, J⟩
  rw [notany_all]
  simp [progOk, h1]
 ·refine GF J J (by simp; omega) ?_
  refine Va J J ?_;refine S_retp (Res.t1 Tryz.results30 J J) XR ⟨?_, J⟩
  have : progOk p = false := by
   cases hq : progOk p with
   | false => rfl
   | true => exact absurd (prog_parts hq).2 h1
  rw [this]
end
section
attribute [local irreducible] X Pure Mod
def explP (p : List (List Stm)) : Option (List Wld) := if progOk p = true then allW p else none
theorem explP_f {p : List (List Stm)} (h : progOk p = false) : explP p = none := by rw [explP, if_neg (by simp [h])]
theorem drop_rangeW {i n : Nat} (h : i < n) : (List.range n).drop i = i :: (List.range n).drop (i + 1) := by
 rw [List.drop_eq_getElem_cons (by simpa using h)]
 simp
theorem roundW_skip {W : Wld} {n i : Nat} {Ws : List Wld} (h : i < n) (hc : ¬ codeOf W (i : Nat) = 0) : roundW W ((List.range n).drop i) Ws = roundW W ((List.range n).drop (i + 1)) Ws := by
 rw [drop_rangeW h, roundW, if_neg hc]
theorem roundW_go {W : Wld} {n i : Nat} {Ws : List Wld} (h : i < n) (hc : codeOf W (i : Nat) = 0) (hl : ¬ 120 < (addW Ws (W.step i)).length) : roundW W ((List.range n).drop i) Ws = roundW W ((List.range n).drop (i + 1)) (addW Ws (W.step i)) := by
 rw [drop_rangeW h, roundW, if_pos hc, if_neg hl]
theorem roundW_none {W : Wld} {n i : Nat} {Ws : List Wld} (h : i < n) (hc : codeOf W (i : Nat) = 0) (hl : 120 < (addW Ws (W.step i)).length) : roundW W ((List.range n).drop i) Ws = none := by
 rw [drop_rangeW h, roundW, if_pos hc, if_pos hl]
structure XS where
 k : Nat
 Ws : List Wld
 A : Option Addr
 c : Nat
 xs : List Value
 G : PH
def XOK (p : List (List Stm)) (w0 : World) (G : PH) (y : XS) : Prop :=
 y.Ws.length ≤ 120 ∧ PH.ext w0.heap.size G y.G ∧ Cs 5 (wRep y.G) y.Ws y.xs ∧ Wsok p.length y.Ws
theorem add_of {W : Wld} {Ws : List Wld} {b mb : Nat} {A : Option Addr} {c : Nat} {xs cs : List Value} {A' : HP} {G : PH} (hcs : Cs 5 (wRep G) Ws xs) (hW : wRep G W cs)
  (h1 : hasW Ws W = true → A' = expHP b mb A Ws.length c xs (Ws.map wText)) (h2 : hasW Ws W = false → ∃ A2 c2, A' = expHP b mb A2 (Ws.length + 1) c2 (xs ++ cs) ((Ws ++ [W]).map wText)) :
  ∃ A2 c2 xs2, A' = expHP b mb A2 (addW Ws W).length c2 xs2 ((addW Ws W).map wText) ∧ Cs 5 (wRep G) (addW Ws W) xs2 := by
 unfold addW
 by_cases h : hasW Ws W = true
 ·rw [if_pos h]; exact ⟨A, c, xs, h1 h, hcs⟩
 ·rw [if_neg h]
  obtain ⟨A2, c2, e⟩ := h2 (by simpa using h)
  refine ⟨A2, c2, xs ++ cs, by rw [e, List.length_append, List.length_singleton], Cs_append hcs hW ?_⟩
  obtain ⟨_, _, _, _, _, rfl⟩ := wRep_five hW
  rfl
theorem c_explore (p : List (List Stm)) (pv : Value) (G : PH) (hp : PrgS G p pv) (hTab : TabG G) : Pure Tryz.prog 15 [pv] G fun v' G' => ∃ pt, v' = .tuple #[pt, .bool (explP p).isSome] ∧ ∀ Ws, explP p = some Ws → ∃ b mb lv, pt = .pointer (some ⟨b, 0, none⟩) ∧ gcells G' ⟨b, 0, none⟩ [.map (some mb), lv] ∧ WsG G' Ws lv := by
 obtain ⟨Ap, cp, rfl, _⟩ := id hp.1
 refine Pure.intro Tryz.func15 Tryz.ntmps15 J J fun w0 => ?_;refine Va J J ?_;refine S_call Tryz.call30 (c_iProgOk p _ _ hp) J J J ?_;rintro v1 G0 ⟨rfl, rfl⟩ _
 refine Va J J ?_
 cases hpo : progOk p
 ·refine RT J J ?_
  refine Va J J ?_;exact S_retp (Res.t2 Tryz.results15 J J J J) XR ⟨_, by rw [explP_f hpo]; rfl, fun Ws h => by rw [explP_f hpo] at h; cases h⟩
 refine RF J J ?_
 have hexp : explP p = allW p := by rw [explP, if_pos hpo]
 rw [hexp]
 have hok0 := open_ok hpo hp.2.1 (prg_iL hp.1)
 have hWo := (hok0.ok 0 (open0 p) rfl).1
 have hI0 := hWo.inv
 have hp13 := (prog_parts hpo).2
 refine Va J J ?_;refine S_makeMap 5 J J fun mb => ?_;refine Va J J ?_;refine S_box J J J J J fun b => ?_;refine Va J J ?_;refine S_callN 20 Tryz.call32 (c_opened p _ _ hp.1 hp13) J J J ?_;rintro v1 G1 A1 ⟨cs, ts, rfl, rfl, htd⟩ hext1
 refine S_newHP 20 J J ?_;refine S_csV 20 J ?_;rintro bp bc br bs kp asd ksd kc kr ks rfl
 refine S_frzV 20 J J (fun _ h => h) htd hI0.n3 ⟨by simp [open0], by simp [open0], by simp [open0]⟩ fun G2 hext2 hW => ?_;refine S_nilO 6 (base := 0) (e := 35) (size := 5) ?_;refine S_reE 4 (.val (.pointer (some ⟨b, 0, none⟩))) J J ?_;refine S_Bhp 13 2 J J J J ?_;refine S_pair 5 6 3 J J J J ?_;refine S_pair 2 3 1 J J J J ?_;refine Va J J ?_;refine S_callM 1 Tryz.call31 (c_add [] (open0 p) _ b mb none 0 [] G2 (TabG_le (hext1.trans hext2).le hTab) (hWo.tok (by omega)) hW (by simp)) J J J J (fun _ => J) ?_
 rintro v G3 A' ⟨rfl, q1, q2⟩ hext3
 obtain ⟨A2, c2, xs2, rfl, hcs2⟩ := add_of (Ws := []) rfl (wRep_le hext3.le hW) q1 q2
 rw [show addW [] (open0 p) = [open0 p] from rfl] at hcs2 ⊢
 refine Va J J ?_;refine S_loop (α := XS) (fun y => XOK p w0 G0 y ∧ y.k ≤ y.Ws.length ∧ allW p = allF (122 - y.k) y.k y.Ws) (fun y => 121 - y.k) []
  (fun y => [(5, .val (.int .i64 (y.k : Nat))), (4, .val (.pointer (some ⟨b, 0, none⟩))), (0, .val (.slice Ap p.length cp))])
  (fun y => [.hp 1 (expHP b mb y.A y.Ws.length y.c y.xs (y.Ws.map wText))]) (fun y => y.G)
  ⟨0, [open0 p], A2, c2, xs2, G3⟩ ⟨⟨by simp, (hext1.trans hext2).trans hext3, hcs2, hok0⟩, Nat.zero_le _, rfl⟩ rfl ?_ ?_ ?_
 ·exact ⟨⟨_, J, J⟩, ⟨_, J, J⟩, ⟨_, J, J⟩, trivial⟩
 ·exact .hp .nil
 rintro ⟨k, Ws, A4, c4, xs, G4⟩ ⟨⟨hl120, hext, hcs, hok⟩, hk, hall⟩
 simp only at hl120 hext hcs hok hk hall ⊢
 refine S_unpair 1 2 3 J J ?_;refine S_hpB 2 4 J J J ?_;refine S_unpair 3 5 6 J J ?_;refine S_reE 4 (.ptr 4 0) J J ?_;refine Va J J ?_
 refine S_condp J (fun h5 => ?_) (fun h5 => ?_) <;> refine Va J J ?_
 ·have hkl : k < Ws.length := by omega
  have hWk : Ws[k]? = some Ws[k] := List.getElem?_eq_getElem hkl
  obtain ⟨hWok, hWn⟩ := hok.ok k _ hWk
  generalize Ws[k] = W at hWk hWok hWn
  have hround : allW p = (match roundW W (List.range p.length) Ws with
   | none => none
   | some Ws' => allF (121 - k) (k + 1) Ws') := by
   rw [hall, show 122 - k = (121 - k) + 1 by omega, allF_step hWk, hWn]; try rfl
  have hn3 := hWok.inv.n3
  refine S_reE 4 (.val (.pointer (some ⟨b, 0, none⟩))) J J ?_;refine S_Bhp 4 2 J J J J ?_;refine S_pair 5 6 3 J J J J ?_;refine S_pair 2 3 1 J J J J ?_;refine S_loop (α := XS) (fun y => XOK p w0 G0 y ∧ PH.ext w0.heap.size G4 y.G ∧ y.k ≤ p.length ∧ Ws <+: y.Ws ∧ roundW W (List.range p.length) Ws = roundW W ((List.range p.length).drop y.k) y.Ws) (fun y => p.length - y.k) []
   (fun y => [(29, .val (.int .i64 (y.k : Nat))), (28, .val (.int .i64 (p.length : Nat))), (5, .val (.int .i64 (k : Nat))), (4, .val (.pointer (some ⟨b, 0, none⟩))), (0, .val (.slice Ap p.length cp))])
   (fun y => [.hp 1 (expHP b mb y.A y.Ws.length y.c y.xs (y.Ws.map wText))]) (fun y => y.G)
   ⟨0, Ws, A4, c4, xs, G4⟩ ⟨⟨hl120, hext, hcs, hok⟩, PH.ext.refl _ _, Nat.zero_le _, List.prefix_refl _, rfl⟩ rfl ?_ ?_ ?_
  ·exact ⟨⟨_, J, J⟩, ⟨_, J, J⟩, ⟨_, J, J⟩, ⟨_, J, J⟩, ⟨_, J, J⟩, trivial⟩
  ·exact .hp .nil
  clear hcs
  rintro ⟨i, Ws2, A4, c4, xs, G6⟩ ⟨⟨hl2, hext6, hcs, hok2⟩, hext64, hi, hpre, hrW⟩
  simp only at hl2 hext6 hcs hok2 hext64 hi hpre hrW ⊢
  have hWk2 := prefix_at hpre hWk
  have hkl2 : k < Ws2.length := (List.getElem?_eq_some_iff.1 hWk2).1
  refine S_unpair 1 2 3 J J ?_;refine S_hpB 2 4 J J J ?_;refine S_unpair 3 5 6 J J ?_;refine S_reE 4 (.ptr 4 0) J J ?_;refine Va J J ?_
  refine S_condp J (fun h7 => ?_) (fun h7 => ?_) <;> refine Va J J ?_
  ·have hil : i < p.length := by omega
   obtain ⟨cs5, hcs5, hcl5, hrep5, _⟩ := Cs_at hcs hkl2
   have hW5 : wRep G6 W cs5 := by
    have e := List.getElem?_eq_getElem hkl2
    rw [hWk2] at e
    rw [Option.some.inj e]; exact hrep5
   obtain ⟨f1, f2, f3, f4, f5, rfl⟩ := wRep_five hW5
   have hxl := Cs_length hcs
   refine S_capO 6 J fun hnc4 _ _ => ?_;refine S_someO 6 J (by omega) fun g4 o4 eA => ?_
   subst eA
   refine Va J J ?_;refine S_index Tk J J J J J J (by omega) (by omega) ?_;refine Va J J ?_;refine S_lendO 6 J J (fun _ hn0 _ _ => ?_) (fun g5 o5 cur hA5 _ hnc5 hcm5 hlx hfit ht5 hg5 hb5 hcells => ?_)
   ·omega
   cases hA5
   have hgc : gcells (G6.add g4 (.cells cur 35 (0, 0))) ((⟨g4, o4, none⟩ : Addr).add (k * 5)) [f1, f2, f3, f4, f5] := by
    have h1 := (gcells_append (cs := xs.take (k * 5)) (ys := xs.drop (k * 5)) (by rw [List.take_append_drop]; exact hcells)).2
    rw [List.length_take, Nat.min_eq_left (by omega)] at h1
    have h2 := (gcells_append (cs := (xs.drop (k * 5)).take 5) (ys := (xs.drop (k * 5)).drop 5) (by rw [List.take_append_drop]; exact h1)).1
    rw [hcs5] at h2
    exact h2
   refine S_call Tryz.call33 (c_codeF W i _ [f1, f2, f3, f4, f5] _ hgc (wRep_le (le_add hg5) hW5) hn3 (by omega) hWok.inv.head ⟨hWok.inv.m0, hWok.inv.m1⟩) J J J ?_;rintro v12 G10 ⟨rfl, rfl⟩ _
   refine S_backO 6 (base := 0) (by simp [PH.add]; rfl) hb5 (Nat.zero_le _) hnc5 hcm5 hlx hfit ht5 ?_
   rw [PH.del_add hg5]
   refine Va J J ?_
   have hroww : ∀ G', PH.le G6 G' → Cs 5 (wRep G') Ws2 xs := fun G' hl => Cs_mono (fun s _ cs h => wRep_le hl h) hcs
   by_cases hc : codeOf W (i : Nat) = 0
   rotate_left
   ·refine RT J (by simpa using hc) ?_
    refine Va J J ?_;refine S_reE 4 (.val (.pointer (some ⟨b, 0, none⟩))) J J ?_;refine S_pick [4, 5, 6] J ?_;refine S_Bhp 4 2 J J J J ?_;refine S_pair 5 6 3 J J J J ?_;refine S_pair 2 3 1 J J J J ?_;refine S_add J J J J (by omega) ?_;refine Va J J ?_;exact S_again ⟨i + 1, Ws2, some ⟨g4, o4, none⟩, c4, xs, G6⟩ ⟨⟨hl2, hext6, hcs, hok2⟩, hext64, by simp only; omega, hpre, by simp only; rw [hrW, roundW_skip hil hc]⟩ (by simp only; omega) rfl ⟨⟨_, rfl, by simp [denO]⟩, ⟨_, rfl, rfl⟩, ⟨_, rfl, rfl⟩, ⟨_, rfl, rfl⟩, ⟨_, rfl, rfl⟩, trivial⟩ (.hp .nil)
   refine RF J (by simpa using hc) ?_;refine Va J J ?_
   have hst := hWok.step (by omega) hc
   have hrd := hWok.inv.rdy (by omega)
   have hstI := hst.inv
   refine S_index Tk J J J J J J (by omega) (by omega) ?_;refine Va J J ?_;refine S_valV J J J (V_loadRA Tk 6 J J (add_lit' ..) J hcs5 hcl5) ?_;refine Va J J ?_;refine S_callN 20 Tryz.call20 (c_wcopyO W _ _ hW5 ⟨hWok.inv.n1, hn3⟩ ⟨hrd.sd, hrd.q0, hrd.q1⟩) J J J ?_;rintro v4 G7 A7 ⟨cs4, ts4, rfl, rfl, htd4⟩ hext7
   refine S_newHP 20 J J ?_;refine S_csV 20 J ?_;rintro bp4 bc4 br4 bs4 kp4 asd4 ksd4 kc4 kr4 ks4 rfl
   refine Va J J ?_;refine AZ ZT_ok J J J J fun b7 => ?_;refine Va J J ?_;refine S_V2P 7 20 21 J J J J J J ?_;refine S_reE 7 (.val (.pointer (some ⟨b7, 0, none⟩))) J J ?_;refine S_callM 21 Tryz.call34 (c_step W i b7 ts4 _ hrd htd4 (by omega) (hWok.inv.go hc)) J J J J (fun _ => J) ?_;rintro v8 G8 A8 ⟨ts8, rfl, htd8⟩ hext8
   refine S_P2V 21 60 20 J J J fun cs8 => ?_;refine S_reE 7 (.ptr 60 0) J J ?_;refine S_csV 20 J ?_;rintro bp8 bc8 br8 bs8 kp8 asd8 ksd8 kc8 kr8 ks8 rfl
   have hrd2 := hst.inv.rdy (by omega)
   refine S_frzV 20 J J (fun _ h => h) htd8 hstI.n3 ⟨by have := hrd2.sd; omega, by have := hrd2.q0; omega, by have := hrd2.q1; omega⟩ fun G9 hext9 hWs => ?_
   have hext79 := (hext7.trans hext8).trans hext9
   refine S_Bhp 4 2 J J J J ?_;refine S_pair 5 6 3 J J J J ?_;refine S_pair 2 3 1 J J J J ?_;refine Va J J ?_;refine S_callM 1 Tryz.call31 (c_add Ws2 (W.step i) _ b mb _ c4 xs G9 (TabG_le (hext6.trans hext79).le hTab) (hst.tok (by omega)) hWs (by omega)) J J J J (fun _ => J) ?_;rintro v G11 A' ⟨rfl, q1, q2⟩ hext11
   obtain ⟨A12, c12, xs12, rfl, hcs12⟩ := add_of (hroww _ (hext79.trans hext11).le) (WG_le hext11.le hWs) q1 q2
   have hextz := hext79.trans hext11
   refine S_unpair 1 2 3 J J ?_;refine S_hpB 2 44 J J J ?_;refine S_unpair 3 5 6 J J ?_;refine S_reE 4 (.ptr 44 0) J J ?_;refine Va J J ?_
   refine S_condp J (fun h12 => ?_) (fun h12 => ?_) <;> refine Va J J ?_
   ·have hnone : allW p = none := by rw [hround, hrW, roundW_none hil hc (by omega)]
    exact S_retp (Res.t2 Tryz.results15 J J J J) (hext6.trans hextz) ⟨_, by rw [hnone]; rfl, fun Ws h => by rw [hnone] at h; cases h⟩
   ·refine S_reE 4 (.val (.pointer (some ⟨b, 0, none⟩))) J J ?_
    refine S_Bhp 44 2 J J J J ?_;refine S_pair 5 6 3 J J J J ?_;refine S_pair 2 3 1 J J J J ?_;refine S_add J J J J (by omega) ?_;refine Va J J ?_;refine S_pick [1] J ?_;exact S_again ⟨i + 1, addW Ws2 (W.step i), A12, c12, xs12, G11⟩ ⟨⟨by simp only; omega, hext6.trans hextz, hcs12, hok2.add hst (by omega) (by rw [Wld.step_len]; exact hWn) (by omega)⟩, hext64.trans hextz, by simp only; omega, hpre.trans (addW_pre _ _), by simp only; rw [hrW, roundW_go hil hc (by omega)]⟩ (by simp only; omega) rfl ⟨⟨_, rfl, by simp [denO]⟩, ⟨_, rfl, rfl⟩, ⟨_, rfl, rfl⟩, ⟨_, rfl, rfl⟩, ⟨_, rfl, rfl⟩, trivial⟩ (.hp .nil)
  ·have e0 : i = p.length := by omega
   subst e0
   rw [List.drop_of_length_le (by simp)] at hrW
   refine S_reE 4 (.val (.pointer (some ⟨b, 0, none⟩))) J J ?_;refine S_Bhp 4 2 J J J J ?_;refine S_pair 5 6 3 J J J J ?_;refine S_pair 2 3 1 J J J J ?_;refine S_add J J J J (by omega) ?_;refine Va J J ?_;exact S_again ⟨k + 1, Ws2, A4, c4, xs, G6⟩ ⟨⟨hl2, hext6, hcs, hok2⟩, hkl2, by simp only; rw [hround, hrW, show 122 - (k + 1) = 121 - k by omega]; rfl⟩ (by simp only; omega) rfl ⟨⟨_, rfl, by simp [denO]⟩, ⟨_, rfl, rfl⟩, ⟨_, rfl, rfl⟩, trivial⟩ (.hp .nil)
 ·have e0 : k = Ws.length := by omega
  have hsome : allW p = some Ws := by rw [hall, show 122 - k = (121 - k) + 1 by omega, allF_end (by rw [e0]; simp)]
  refine S_reE 4 (.val (.pointer (some ⟨b, 0, none⟩))) J J ?_;refine S_rebase 6 (fun _ h => h) J J ?_;refine S_freezeR 6 J J (Nat.le_refl _) fun Gf hextf hncf hcmf hclf => ?_;refine S_freezeB 4 J J J J (fun _ h => h) fun hextb => ?_;refine S_retp (Res.t2 Tryz.results15 J J J J) ((hext.trans hextf).trans hextb) ⟨_, by rw [hsome]; rfl, fun Ws' h => ?_⟩
  rw [hsome] at h
  cases h
  refine ⟨b, mb, _, J, gcells_add (pre := []), WsG_le hextb.le ?_⟩
  exact frz (Cs_mono (fun s _ cs h => wRep_le hextf.le h) hcs) J (by omega) hncf hcmf hclf
end
section
section
variable {C : Ctx} {k : List It} {E : Env} {ι : Ids} {L : List Ent} {G : PH}
end
def KG (P : Program) (n : Nat) (fn : Func) (G : PH) (Post : Value → PH → Prop) (w : World) : Ctx := ⟨P, none, n, bodyPostM (FW none) 0 P fn (PureR G w Post), w, fun _ => False, true⟩
theorem Pure.introG {P : Program} {f : FuncId} {fn : Func} {c : Code} {vs : List Value} {G : PH} {Post : Value → PH → Prop} {n : Nat} (hf : P.funcs[f]? = some fn) (hn : fn.ntmps = n) (hb : fn.body = some c) (hle : Nat.ble vs.length n = true)
  (hx : ∀ w, Emb G w → X (KG P n fn G Post w) [.code c] (envOf 0 vs) [] [] G) : Pure P f vs G Post := by
 intro w hw
 have hle' : vs.length ≤ n := Nat.le_of_ble_eq_true hle
 refine (callsIn_FW (r := none) (n := 0)).1 (callsIn_of_wp_marks hf hb trivial ?_ J)
 refine hx w hw { tmps := vs.toArray ++ Array.replicate (fn.ntmps - vs.toArray.size) undef, defers := [] } w DfsOk.nil (by simp [hn, KG]; omega) ?_ ?_
 ·intro i s hi
  obtain ⟨_, v, hv, rfl⟩ := look_envOf hi
  refine ⟨v, J, ?_⟩
  simp only [Nat.sub_zero] at hv
  rw [Array.getElem?_append_left (by
   have := (List.getElem?_eq_some_iff.1 hv).1
   simpa using this)]
  simpa using hv
 ·exact ⟨rfl, rfl, rfl, Nat.le_refl _, fun _ _ _ => rfl, hw, [], trivial, fun T hT => by cases hT⟩
def cellsOf (B : Nat) (G : PH) : PH := fun b => if b < B then G b else match G b with
 | some (.cells c t f) => some (.cells c t f)
 | _ => none
theorem cellsOf_gcell (B : Nat) (G : PH) (a : Addr) : gcell (cellsOf B G) a = gcell G a := by
 unfold gcell cellsOf
 by_cases h : a.block < B
 ·simp [h]
 ·simp only [h, if_false]
  cases hg : G a.block with
  | none => rfl
  | some o => cases o <;> rfl
theorem leaveG {P : Program} {fn : Func} {tmps : Array Value} {R : Ending → World → Prop} {w0 : World} {v : Value} {H : PH} (hres : ∀ w, (results fn tmps).run P w = .ok v w) (hR : ∀ w, Below w0.heap.size w0 w → Emb H w → R (.returned v) w) :
  ∀ (Ds : List Nat) (w : World), Ds.Nodup → (∀ D ∈ Ds, w0.heap.size ≤ D ∧ H D = none ∧ w.heap[D]? = some (.deferred (some []))) → Below w0.heap.size w0 w → Emb H w → LeavesInM (FW none) 0 P fn tmps R (Ds.map fun D => { target := .collected D, args := #[] }) .returning w := by
 intro Ds
 induction Ds with
 | nil => intro w _ _ hb hE; exact ⟨v, hres w, hR w hb hE⟩
 | cons D Ds ih =>
  intro w hn hD hb hE
  obtain ⟨h1, h0, h2⟩ := hD D (List.mem_cons_self ..)
  refine ⟨by simp, .inl ⟨_, _, J, run_takeDeferred h2, ih _ (List.nodup_cons.1 hn).2 ?_ ?_ ?_⟩⟩
  ·intro D' hD'
   obtain ⟨h3, h3', h4⟩ := hD D' (List.mem_cons_of_mem _ hD')
   refine ⟨h3, h3', ?_⟩
   rw [World.putObj_heap_other (by rintro rfl; exact (List.nodup_cons.1 hn).1 hD')]
   exact h4
  ·refine ⟨hb.os, hb.tape, hb.output, ?_, fun b hb' => ?_⟩
   ·have := hb.size; simp; omega
   ·rw [World.putObj_heap_other (by omega)]
    exact hb.block b hb'
  ·intro b o hbo
   rw [World.putObj_heap_other (by rintro rfl; rw [h0] at hbo; cases hbo)]
   exact hE b o hbo
section
variable {P : Program} {fn : Func} {n : Nat} {G0 G : PH} {Post : Value → PH → Prop} {w0 : World} {k : List It} {E : Env} {ι : Ids} {L : List Ent}
end
end
section
theorem leaveC {P : Program} {fn : Func} {tmps : Array Value} {R : Ending → World → Prop} {w0 : World} {v : Value} {H : PH} (hres : ∀ w, Emb H w → (results fn tmps).run P w = .ok v w) (hR : ∀ w, Below w0.heap.size w0 w → Emb H w → R (.returned v) w) :
  ∀ (Ds : List Nat) (w : World), Ds.Nodup → (∀ D ∈ Ds, w0.heap.size ≤ D ∧ H D = none ∧ w.heap[D]? = some (.deferred (some []))) → Below w0.heap.size w0 w → Emb H w → LeavesInM (FW none) 0 P fn tmps R (Ds.map fun D => { target := .collected D, args := #[] }) .returning w := by
 intro Ds
 induction Ds with
 | nil => intro w _ _ hb hE; exact ⟨v, hres w hE, hR w hb hE⟩
 | cons D Ds ih =>
  intro w hn hD hb hE
  obtain ⟨h1, h0, h2⟩ := hD D (List.mem_cons_self ..)
  refine ⟨by simp, .inl ⟨_, _, J, run_takeDeferred h2, ih _ (List.nodup_cons.1 hn).2 ?_ ?_ ?_⟩⟩
  ·intro D' hD'
   obtain ⟨h3, h3', h4⟩ := hD D' (List.mem_cons_of_mem _ hD')
   refine ⟨h3, h3', ?_⟩
   rw [World.putObj_heap_other (by rintro rfl; exact (List.nodup_cons.1 hn).1 hD')]
   exact h4
  ·refine ⟨hb.os, hb.tape, hb.output, ?_, fun b hb' => ?_⟩
   ·have := hb.size; simp; omega
   ·rw [World.putObj_heap_other (by omega)]
    exact hb.block b hb'
  ·intro b o hbo
   rw [World.putObj_heap_other (by rintro rfl; rw [h0] at hbo; cases hbo)]
   exact hE b o hbo
section
variable {P : Program} {fn : Func} {n : Nat} {G0 G : PH} {Post : Value → Prop} {w0 : World} {k : List It} {E : Env} {ι : Ids} {L : List Ent}
end
end
section
def PH.un (G H : PH) : PH := fun b => match G b with
 | some o => some o
 | none => H b
theorem PH.le_un (G H : PH) : G.le (G.un H) := fun b o h => by simp [PH.un, h]
theorem PH.un_newp {G G2 : PH} (h : G.le G2) : G.un (newp G G2) = G2 := by
 funext b
 unfold PH.un newp
 cases hb : G b with
 | none => rfl
 | some o => exact (h b o hb).symm
def frzHP (H : PH) : HP where
 holds w S := (∀ b o, H b = some o → w.heap[b]? = some o) ∧ ∀ b, S b ↔ (H b).isSome = true
 loc w w' S h hs := ⟨fun b o hb => by rw [hs b ((h.2 b).2 (by simp [hb]))]; exact h.1 b o hb, h.2⟩
 lt w S h b hb := by
  have := (h.2 b).1 hb
  obtain ⟨o, ho⟩ := Option.isSome_iff_exists.1 this
  exact (Array.getElem?_eq_some_iff.1 (h.1 b o ho)).1
section
variable {C : Ctx} {k : List It} {E : Env} {ι : Ids} {L : List Ent} {G : PH}
theorem S_frH (κ : Nat) {H : PH} {L' : List Ent} (hL : getH κ L = some (frzHP H)) (hL' : delH κ L = some L') (hk : (∀ b o, H b = some o → C.S0 b ∨ C.w0.heap.size ≤ b) → (∀ b o, H b = some o → G b = none) → X C k E ι L' (G.un H)) : X C k E ι L G := by
 intro a w g1 g2 g3 g4
 obtain ⟨Ss, ho, hS⟩ := g4.own
 obtain ⟨S, Ss', hA, hm, ho', hT⟩ := owns_del ho hL hL'
 have hin : ∀ b o, H b = some o → S b := fun b o hb => (hA.2 b).2 (by simp [hb])
 refine hk (fun b o hb => (hS S hm b (hin b o hb)).2) (fun b o hb => (hS S hm b (hin b o hb)).1) a w (g1.mono (PH.le_un G H)) g2 g3 ⟨g4.os, g4.tape, g4.output, g4.size, g4.keep, fun b o hb => ?_, Ss', ho', fun T hT' b hb => ⟨?_, (hS T (hT T hT').1 b hb).2⟩⟩
 ·unfold PH.un at hb
  cases hg : G b with
  | some o' => rw [hg] at hb; cases hb; exact g4.emb b o hg
  | none => rw [hg] at hb; exact hA.1 b o hb
 ·have h0 := (hS T (hT T hT').1 b hb).1
  have h1 : ¬ S b := (hT T hT').2 b hb
  unfold PH.un
  rw [h0]
  cases hh : H b with
  | none => rfl
  | some o => exact absurd (hin b o hh) h1
theorem S_thaw (κ : Nat) {G0 : PH} (hms : C.ms = false) (hle : G0.le G) (hnew : ∀ b o, G b = some o → G0 b = none → C.S0 b ∨ C.w0.heap.size ≤ b) (hk : X C k E ι (.hp κ (frzHP (newp G0 G)) :: L) G0) : X C k E ι L G := by
 intro a w g1 g2 g3 g4
 obtain ⟨Ss, ho, hS⟩ := g4.own
 have hnp : ∀ b o, newp G0 G b = some o → G b = some o ∧ G0 b = none := by
  intro b o hb
  unfold newp at hb
  cases hq : G0 b with
  | none => rw [hq] at hb; exact ⟨hb, J⟩
  | some o' => rw [hq] at hb; cases hb
 refine hk a w (by rw [g1.eq hms]; exact DfsOk.nil) g2 g3 ⟨g4.os, g4.tape, g4.output, g4.size, g4.keep, fun b o hb => g4.emb b o (hle b o hb), (fun b => (newp G0 G b).isSome = true) :: Ss, ⟨⟨fun b o hb => g4.emb b o (hnp b o hb).1, fun b => Iff.rfl⟩, fun T hT b hb hb' => ?_, ho⟩, ?_⟩
 ·obtain ⟨o, ho'⟩ := Option.isSome_iff_exists.1 hb
  have := (hS T hT b hb').1
  rw [(hnp b o ho').1] at this
  cases this
 ·intro T hT b hb
  rcases List.mem_cons.1 hT with rfl | hT
  ·obtain ⟨o, ho'⟩ := Option.isSome_iff_exists.1 hb
   obtain ⟨h1, h2⟩ := hnp b o ho'
   exact ⟨h2, hnew b o h1 h2⟩
  ·obtain ⟨h1, h2⟩ := hS T hT b hb
   refine ⟨?_, h2⟩
   cases hq : G0 b with
   | none => rfl
   | some o => rw [hle b o hq] at h1; cases h1
theorem S_shortO (κ : Nat) {base e sz n m c : Nat} {A : Option Addr} {xs : List Value} {L' : List Ent} (hm : m ≤ n) (hL : getH κ L = some (rowO base e sz A n c xs)) (hL' : setH κ (rowO base e sz A m c (xs.take (m * sz))) L = some L') (hk : X C k E ι L' G) : X C k E ι L G := by
 intro a w h1 h2 h3 h4
 refine hk a w h1 h2 h3 ?_;obtain ⟨S, hA, hSG, hturn⟩ := h4.turn hL
 refine hturn _ _ G w S hL' ?_ h4.emb XR (fun b hb => ⟨hSG b hb, .inl hb⟩) J J J (Nat.le_refl _) fun _ _ _ => J
 obtain ⟨q1, q2, q3, q4⟩ := hA
 have hms : m * sz ≤ n * sz := Nat.mul_le_mul_right _ hm
 refine ⟨by rw [List.length_take, Nat.min_eq_left (by omega)], q2, by omega, ?_⟩
 rcases q4 with ⟨h, h', h''⟩ | ⟨g, off, cur, e1, q5, q6, q7, q8, q9⟩
 ·exact .inl ⟨h, h', h''⟩
 ·refine .inr ⟨g, off, cur, e1, q5, q6, q7, ?_, q9⟩
  rw [List.length_take, Nat.min_eq_left (by omega)]
  conv => rhs; rw [← q8]
  rw [List.take_take, Nat.min_eq_left (by omega)]
theorem S_frN (κ : Nat) (hk : X C k E ι (.hp κ (frzHP fun _ => none) :: L) G) : X C k E ι L G := by
 intro a w g1 g2 g3 g4
 obtain ⟨Ss, ho, hS⟩ := g4.own
 refine hk a w g1 g2 g3 ⟨g4.os, g4.tape, g4.output, g4.size, g4.keep, g4.emb, (fun _ => False) :: Ss, ⟨⟨fun b o hb => (by cases hb), fun b => (by simp)⟩, fun T hT b hb => hb.elim, ho⟩, ?_⟩
 intro T hT b hb
 rcases List.mem_cons.1 hT with rfl | hT
 ·exact hb.elim
 ·exact hS T hT b hb
end
section
variable {P : Program} {fn : Func} {n : Nat} {G0 G : PH} {Post : Value → Prop} {w0 : World} {k : List It} {E : Env} {ι : Ids} {L : List Ent}
theorem S_retC2 {T : Tab} (hT : tabOk P T) {t ty t' ty' : Nat} {i i' : TyI} {s s' : Sym} {v v' : Value} {ad ad' : Addr} (hw0 : Emb G0 w0) (hr : fn.results = #[.cell t ty, .cell t' ty']) (hl : look t E = some s) (hv : denO ι s = some (.pointer (some ad))) (ht : lookT ty T = some i) (hk0 : i.k.isAgg = false) (hc : gcell G ad = some v)
  (hl' : look t' E = some s') (hv' : denO ι s' = some (.pointer (some ad'))) (ht' : lookT ty' T = some i') (hk0' : i'.k.isAgg = false) (hc' : gcell G ad' = some v') (hp : Post (.tuple #[v, v'])) : X (KC P n fn G0 Post w0) (.code .ret :: k) E ι L G := by
 intro a w h1 h2 h3 h4
 refine wpE_ret (wpE_out k ?_)
 obtain ⟨Ds, d1, d2, d3⟩ := h1
 show LeavesInM _ _ _ _ _ _ a.defers .returning w
 rw [d2]
 have hsub : ∀ b o, cellsOf w0.heap.size G b = some o → G b = some o := by
  intro b o hbo
  unfold cellsOf at hbo
  split at hbo
  ·exact hbo
  ·split at hbo
   ·rename_i h; rw [h]; exact hbo
   ·cases hbo
 have hcut : ∀ D, w0.heap.size ≤ D → G D = some (.deferred (some [])) → cellsOf w0.heap.size G D = none := by
  intro D h5 h6
  unfold cellsOf
  rw [if_neg (by omega), h6]
 refine leaveC (w0 := w0) (v := .tuple #[v, v']) (H := cellsOf w0.heap.size G) (fun w' hE' => ?_) (fun w' hb hE => ?_) Ds w d1 (fun D hD => ⟨(d3 D hD).1, hcut D (d3 D hD).1 (d3 D hD).2, h4.emb _ _ (d3 D hD).2⟩) (h4.below fun _ h => h) (fun b o hbo => h4.emb b o (hsub b o hbo))
 ·obtain ⟨u, hu, htt⟩ := h3 t s hl
  rw [hv] at hu; cases hu
  obtain ⟨u, hu, htt'⟩ := h3 t' s' hl'
  rw [hv'] at hu; cases hu
  have e0 : a.tmps[t]?.getD undef = .pointer (some ad) := by rw [htt]; rfl
  have e0' : a.tmps[t']?.getD undef = .pointer (some ad') := by rw [htt']; rfl
  have e1 : (loadVar ty ad).run P w' = .ok v w' := by
   simp [loadVar, tyOk_agg (hT _ _ ht), hk0, gcell_emb hE' ((cellsOf_gcell _ _ _).trans hc)]
  have e1' : (loadVar ty' ad').run P w' = .ok v' w' := by
   simp [loadVar, tyOk_agg (hT _ _ ht'), hk0', gcell_emb hE' ((cellsOf_gcell _ _ _).trans hc')]
  simp [results, hr, asAddr, e0, e1, e0', e1']
 ·refine ⟨.tuple #[v, v'], G0, rfl, ⟨hp, rfl⟩, PH.ext.refl _ _, fun b o hbo => ?_, hb⟩
  have hlt : b < w0.heap.size := (Array.getElem?_eq_some_iff.1 (hw0 b o hbo)).1
  rw [hb.block b hlt]
  exact hw0 b o hbo
end
theorem ext_un {B : Nat} {G H : PH} (hB : ∀ b o, H b = some o → B ≤ b) : PH.ext B G (G.un H) := ⟨PH.le_un G H, fun b o h1 h2 => by
 unfold PH.un at h1
 rw [h2] at h1
 exact hB b o h1⟩
theorem ext_addW {B : Nat} {G : PH} {D : Nat} {o : Obj} (h : G D = none) (hB : B ≤ D) : PH.ext B G (G.add D o) := ⟨le_add h, fun b o' h1 h2 => by
 unfold PH.add at h1
 split at h1
 ·rename_i e; omega
 ·rw [h2] at h1; cases h1⟩
theorem un_add_le {G H : PH} {D : Nat} {o : Obj} (hD : G D = none) (hH : ∀ b o', H b = some o' → (G.add D o) b = none) : (G.un H).le ((G.add D o).un H) := by
 intro b o' hb
 unfold PH.un at hb ⊢
 cases hq : G b with
 | some o2 => rw [hq] at hb; cases hb; rw [le_add hD _ _ hq]
 | none => rw [hq] at hb; rw [hH b o' hb]; exact hb
section
variable {P : Program} {fn : Func} {n : Nat} {G0 G : PH} {Post : Value → PH → Prop} {w0 : World} {k : List It} {E : Env} {ι : Ids} {L : List Ent}
theorem S_retG2 {t t' : Nat} {s s' : Sym} {v v' : Value} (hw0 : Emb G0 w0) (hext : PH.ext w0.heap.size G0 G) (hr : fn.results = #[.tmp t, .tmp t']) (hl : look t E = some s) (hv : denO ι s = some v) (hl' : look t' E = some s') (hv' : denO ι s' = some v') (hp : ∀ H : PH, (∀ a, gcell H a = gcell G a) → Post (.tuple #[v, v']) H) : X (KG P n fn G0 Post w0) (.code .ret :: k) E ι L G := by
 intro a w h1 h2 h3 h4
 refine wpE_ret (wpE_out k ?_)
 obtain ⟨Ds, d1, d2, d3⟩ := h1
 show LeavesInM _ _ _ _ _ _ a.defers .returning w
 rw [d2]
 have hsub : ∀ b o, cellsOf w0.heap.size G b = some o → G b = some o := by
  intro b o hbo
  unfold cellsOf at hbo
  split at hbo
  ·exact hbo
  ·split at hbo
   ·rename_i h; rw [h]; exact hbo
   ·cases hbo
 refine leaveG (w0 := w0) (v := .tuple #[v, v']) (H := cellsOf w0.heap.size G) (fun w' => ?_) (fun w' hb hE => ?_) Ds w d1 (fun D hD => ⟨(d3 D hD).1, ?_, h4.emb _ _ (d3 D hD).2⟩) (h4.below fun _ h => h) (fun b o hbo => h4.emb b o (hsub b o hbo))
 ·obtain ⟨u, hu, ht⟩ := h3 t s hl
  rw [hv] at hu; cases hu
  obtain ⟨u, hu, ht'⟩ := h3 t' s' hl'
  rw [hv'] at hu; cases hu
  simp [results, hr, ht, ht']
 ·refine ⟨.tuple #[v, v'], cellsOf w0.heap.size G, rfl, hp _ (cellsOf_gcell _ _), ⟨fun b o hbo => ?_, fun b o hbo hn => hext.new b o (hsub b o hbo) hn⟩, hE, hb⟩
  have hlt : b < w0.heap.size := (Array.getElem?_eq_some_iff.1 (hw0 b o hbo)).1
  unfold cellsOf
  rw [if_pos hlt]
  exact hext.le b o hbo
 ·have h5 : w0.heap.size ≤ D := (d3 D hD).1
  unfold cellsOf
  rw [if_neg (by omega), (d3 D hD).2]
end
end
section
attribute [local irreducible] X Pure Mod
theorem c_final (W : Wld) (ad0 : Addr) (vs0 : List Value) (G : PH) (hg : gcells G ad0 vs0) (hW : WG G W (.agg vs0.toArray)) (hC : Cod W) : Pure Tryz.prog 36 [.pointer (some ad0)] G fun v' G' => v' = .bool (finalW W) ∧ G' = G := by
 have hcode : ∀ i, i < W.procs.length → Pure Tryz.prog 33 [.pointer (some ad0), .int .i64 (i : Nat)] G fun v' G' => v' = .int .i64 (codeOf W (i : Nat)) ∧ G' = G := fun i hi => c_codeF W i ad0 vs0 G hg hW hC.n3 hi hC.hd hC.m
 have hn3 := hC.n3
 obtain ⟨vp, vc, vr, vs, vd, e0, hpr, _⟩ := hW
 obtain rfl : vs0 = [vp, vc, vr, vs, vd] := by simpa using congrArg (fun v => match v with | .agg x => x.toList | _ => []) e0
 clear e0
 obtain ⟨Ap, cp, rfl, _⟩ := id hpr
 obtain ⟨w1, w2, w3, w4, w5, _⟩ := hg
 refine Pure.intro Tryz.func36 Tryz.ntmps36 J J fun w => ?_; refine Va J J ?_;refine S_load Tk J J J J J (by simpa [add_zero', add_add'] using w1) ?_;refine Va J J ?_;refine S_loop (α := Nat) (fun i => i ≤ W.procs.length ∧ ∀ j, j < i → ¬ codeOf W (j : Nat) = 0) (fun i => W.procs.length - i) []
  (fun i => [(9, .val (.int .i64 (i : Nat))), (8, .val (.int .i64 (W.procs.length : Nat))), (0, .val (.pointer (some ad0)))]) (fun _ => []) (fun _ => G) 0 ⟨Nat.zero_le _, fun j h => by omega⟩ rfl ⟨⟨_, rfl, rfl⟩, ⟨_, rfl, rfl⟩, ⟨_, rfl, rfl⟩, trivial⟩ .nil ?_
 rintro i ⟨hi, hn⟩
 refine Va J J ?_
 refine S_condp J (fun h5 => ?_) (fun h5 => ?_) <;> refine Va J J ?_
 ·have hil : i < W.procs.length := by omega
  refine S_call Tryz.call33 (hcode i hil) J J J ?_;rintro v G2 ⟨rfl, rfl⟩ _
  refine Va J J ?_
  refine S_condp J (fun h6 => ?_) (fun h6 => ?_) <;> refine Va J J ?_
  ·refine S_retp (Res.t1 Tryz.results36 J J) XR ⟨?_, J⟩
   have : finalW W = false := by
    unfold finalW
    rw [List.all_eq_false]
    exact ⟨i, List.mem_range.2 hil, by simp [h6]⟩
   rw [this]
  ·refine S_add J J J J (by omega) ?_
   refine Va J J ?_;refine S_again (i + 1) ⟨hil, fun j hj => ?_⟩ (by omega) J ⟨⟨_, J, by simp [denO]⟩, ⟨_, J, J⟩, ⟨_, J, J⟩, trivial⟩ .nil
   rcases Nat.lt_or_ge j i with h | h
   ·exact hn j h
   ·obtain rfl : j = i := by omega
    exact h6
 ·have e0 : i = W.procs.length := by omega
  subst e0
  refine S_retp (Res.t1 Tryz.results36 J J) XR ⟨?_, J⟩
  have : finalW W = true := by
   unfold finalW
   rw [List.all_eq_true]
   intro j hj
   simpa using hn j (List.mem_range.1 hj)
  rw [this]
theorem wRep_sl {G : PH} {W : Wld} {cs : List Value} (h : wRep G W cs) : ∃ Ap cp Ac cc Ar cr As cs' Ad cd, cs = [.slice Ap W.procs.length cp, .slice Ac 3 cc, .slice Ar 2 cr, .slice As 2 cs', .slice Ad W.said.length cd] := by
 obtain ⟨vp, vc, vr, vs, vd, e, hpr, hce, hro, hsg, hsd⟩ := h
 have e2 : cs = [vp, vc, vr, vs, vd] := by simpa using congrArg (fun v => match v with | .agg x => x.toList | _ => []) e
 subst e2
 obtain ⟨Ap, cp, rfl, _⟩ := hpr
 obtain ⟨Ac, cc, rfl, _⟩ := hce
 obtain ⟨Ar, cr, rfl, _⟩ := hro
 obtain ⟨As, cs_, rfl, _⟩ := hsg
 obtain ⟨Ad, cd, rfl, _⟩ := hsd
 exact ⟨Ap, cp, Ac, cc, Ar, cr, As, cs_, Ad, cd, J⟩
theorem explP_ok {p : List (List Stm)} {Ws : List Wld} {G : PH} {pv : Value} (hp : PrgS G p pv) (h : explP p = some Ws) : Wsok p.length Ws := by
 unfold explP at h
 split at h
 ·rename_i hpo
  exact allW_ok hpo hp.2.1 (prg_iL hp.1) h
 ·cases h
theorem endsP_of (p : List (List Stm)) : endsP p = (explP p).map endsW := by
 unfold endsP explP
 split <;> rfl
def manyP (p : List (List Stm)) : Nat := ((explP p).getD []).length
theorem c_iAllMany (p : List (List Stm)) (pv : Value) (G : PH) (hp : PrgS G p pv) (hTab : TabG G) : Pure Tryz.prog 13 [pv] G fun v' G' => v' = .tuple #[.int .i64 (manyP p : Nat), .bool (explP p).isSome] := by
 have hok := @explP_ok p
 unfold manyP
 have he := c_explore p pv G hp hTab
 obtain ⟨Ap, cp, rfl, _⟩ := id hp.1
 refine Pure.intro Tryz.func13 Tryz.ntmps13 J J fun w => ?_; refine Va J J ?_;refine S_call Tryz.call15 he J J J ?_;rintro v1 G1 ⟨pt, rfl, hpt⟩ hext1
 cases hx : explP p with
 | none =>
  refine Va J J ?_;refine RT J (by simp) ?_;refine Va J J ?_;exact S_retp (Res.t2 Tryz.results13 J J J J) hext1 J
 | some Ws =>
  have hle := (hok hp hx).le
  obtain ⟨b, mb, lv, rfl, hg, hWs⟩ := hpt Ws hx
  obtain ⟨Al, cl, rfl, _⟩ := id hWs
  obtain ⟨w1, w2, _⟩ := hg
  refine Va J J ?_;refine RF J (by simp) ?_;refine Va J J ?_;refine S_load Tk J J J J J (by simpa [add_zero', add_add'] using w2) ?_;refine Va J J ?_;exact S_retp (Res.t2 Tryz.results13 J J J J) hext1 J
def encW (G : PH) (W : Wld) (vs : List Value) : Prop := ∃ cs, wRep G W cs ∧ vs = [Value.agg cs.toArray]
theorem c_ends1 (p : List (List Stm)) (Ws : List Wld) (b b1 mb : Nat) (lv : Value) (G : PH) (hok : Wsok p.length Ws) (h1 : gcell G ⟨b1, 0, none⟩ = some (.pointer (some ⟨b, 0, none⟩))) (hg : gcells G ⟨b, 0, none⟩ [.map (some mb), lv]) (hWs : WsG G Ws lv) :
  IterR Tryz.prog 35 #[.pointer (some ⟨b1, 0, none⟩)] G (encW G) (endsW Ws) := by
 refine IterR_of fun l A Ax hY => ?_
 have hle := hok.le
 obtain ⟨Al, cl, rfl, _⟩ := id hWs
 obtain ⟨w1, w2, _⟩ := hg
 refine Mod.intro Tryz.func35 Tryz.ntmps35 J J fun w S => ?_;refine Va J J ?_;refine S_load Tk J J J J J h1 ?_;refine Va J J ?_;refine S_load Tk J J J J J (by simpa [add_zero', add_add'] using w2) ?_;refine Va J J ?_;refine S_loop (α := Nat) (fun i => i ≤ Ws.length) (fun i => Ws.length - i) []
  (fun i => [(10, .val (.int .i64 (i : Nat))), (9, .val (.int .i64 (Ws.length : Nat))), (8, .val (.slice Al Ws.length cl)), (0, .val (.func (.yield l) #[] #[]))]) (fun i => [.hp 1 (A (endsW (Ws.take i)))]) (fun _ => G) 0 (Nat.zero_le _) rfl ⟨⟨_, rfl, rfl⟩, ⟨_, rfl, rfl⟩, ⟨_, rfl, rfl⟩, ⟨_, rfl, rfl⟩, trivial⟩ (by simp only [List.take_zero, endsW, List.filter_nil]; exact .hp .nil) ?_
 intro k hk
 refine Va J J ?_
 refine S_condp J (fun h5 => ?_) (fun h5 => ?_) <;> refine Va J J ?_
 ·have hkl : k < Ws.length := by omega
  have hnx := endsW_take hkl
  have hpre : endsW (Ws.take (k + 1)) <+: endsW Ws := ⟨endsW (Ws.drop (k + 1)), by unfold endsW; rw [← List.filter_append, List.take_append_drop]⟩
  obtain ⟨hWok, hWn⟩ := hok.ok k _ (List.getElem?_eq_getElem hkl)
  obtain ⟨ad, cs5, e5, hc5, hW5⟩ := Sr_at hWs hkl
  subst e5
  generalize Ws[k] = W at hnx hWok hWn hW5
  obtain ⟨fa, fb, fc, fd, fe, ff, fg, fh, fi, fj, rfl⟩ := wRep_sl hW5
  refine S_index Tk J J J J J J (by omega) (by omega) ?_;refine Va J J ?_;refine S_loadA Tk J J J J J (by simpa using hc5) ?_;refine Va J J ?_;refine AZ ZT_ok J J J J fun b4 => ?_;refine Va J J ?_;refine S_lendB 4 J J J J fun hGb hb0 => ?_;refine S_call Tryz.call36 (vs := [.pointer (some ⟨b4, 0, none⟩)]) (c_final W ⟨b4, 0, none⟩ [.slice fa W.procs.length fb, .slice fc 3 fd, .slice fe 2 ff, .slice fg 2 fh, .slice fi W.said.length fj] _ (gcells_add (pre := [])) (wRep_le (le_add hGb) hW5) hWok.cod) J J J ?_
  rintro v2 G2 ⟨rfl, rfl⟩ _
  refine S_backB 4 (vL [.slice fa W.procs.length fb, .slice fc 3 fd, .slice fe 2 ff, .slice fg 2 fh, .slice fi W.said.length fj]) (PH.add_self _ _ _) J (denL_vL _ _) hb0 ?_
  rw [PH.del_add hGb]
  refine Va J J ?_
  by_cases hf : finalW W = true
  ·rw [if_pos hf] at hnx
   refine GT J J hf ?_;refine Va J J ?_
   have hHY := hY (endsW (Ws.take k)) W [Value.agg [.slice fa W.procs.length fb, .slice fc 3 fd, .slice fe 2 ff, .slice fg 2 fh, .slice fi W.said.length fj].toArray] (by rw [← hnx]; exact hpre) ⟨_, hW5, J⟩
   refine S_yield 1 l J J hHY J J J J (fun _ => J) ?_ ?_ <;> refine Va J J ?_
   ·refine RF J (by simp [hf]) ?_
    refine Va J J ?_;refine S_add J J J J (by omega) ?_;refine Va J J ?_;refine S_again (k + 1) hkl (by omega) J ⟨⟨_, J, by simp [denO]⟩, ⟨_, J, J⟩, ⟨_, J, J⟩, ⟨_, J, J⟩, trivial⟩ ?_
    rw [hnx]
    first | exact .hp .nil | exact .drop (.hp .nil)
   ·refine RT J (by simp [hf]) ?_
    refine Va J J ?_;exact S_retm 1 (Res.t0 Tryz.results35) J XR (.inr ⟨_, J⟩)
  ·rw [if_neg hf, List.append_nil] at hnx
   refine GF J J (by simpa using hf) ?_;refine Va J J ?_;refine S_add J J J J (by omega) ?_;refine Va J J ?_;refine S_again (k + 1) hkl (by omega) J ⟨⟨_, J, by simp [denO]⟩, ⟨_, J, J⟩, ⟨_, J, J⟩, ⟨_, J, J⟩, trivial⟩ ?_
   rw [hnx]
   first | exact .hp .nil | exact .drop (.hp .nil)
 ·have e0 : k = Ws.length := by omega
  subst e0
  rw [List.take_length]
  exact S_endm 1 (Res.t0 Tryz.results35) J XR (.inl J)
theorem c_ends (b : Nat) (G : PH) : Pure Tryz.prog 16 [.pointer (some ⟨b, 0, none⟩)] G fun v' G' => ∃ b1, v' = .func (.func 35) #[] #[.pointer (some ⟨b1, 0, none⟩)] ∧ gcell G' ⟨b1, 0, none⟩ = some (.pointer (some ⟨b, 0, none⟩)) := by
 refine Pure.intro Tryz.func16 Tryz.ntmps16 J J fun w => ?_; refine Va J J ?_;refine S_box J J J J J fun b1 => ?_;refine Va J J ?_;refine S_valV J J J (V_makeFunc J) ?_;refine Va J J ?_;refine S_freezeB 1 J J J J (fun _ h => h) fun hext1 => ?_;refine S_retp (Res.t1 Tryz.results16 J J) hext1 ⟨b1, J, by simp [gcell, PH.add_self]⟩
end
section
def exHP {α : Type} (F : α → HP) : HP where
 holds w S := ∃ a, (F a).holds w S
 loc w w' S h hs := by
  obtain ⟨a, h⟩ := h
  exact ⟨a, (F a).loc w w' S h hs⟩
 lt w S h := by
  obtain ⟨a, h⟩ := h
  exact (F a).lt w S h
section
variable {C : Ctx} {k : List It} {E : Env} {ι : Ids} {L : List Ent} {G : PH}
theorem S_exOpen {α : Type} (κ : Nat) {F : α → HP} {L' : α → List Ent} (hL : getH κ L = some (exHP F)) (hL' : ∀ a, setH κ (F a) L = some (L' a)) (hk : ∀ a, X C k E ι (L' a) G) : X C k E ι L G := by
 intro act w h1 h2 h3 h4
 obtain ⟨S, ⟨a, hA⟩, hSG, hturn⟩ := h4.turn hL
 exact hk a act w h1 h2 h3 (hturn _ _ G w S (hL' a) hA h4.emb XR (fun b hb => ⟨hSG b hb, .inl hb⟩) J J J (Nat.le_refl _) fun _ _ _ => J)
theorem S_exClose {α : Type} (κ : Nat) (F : α → HP) (a : α) {A : HP} {L' : List Ent} (hL : getH κ L = some A) (hF : A = F a) (hL' : setH κ (exHP F) L = some L') (hk : X C k E ι L' G) : X C k E ι L G := by
 intro act w h1 h2 h3 h4
 obtain ⟨S, hA, hSG, hturn⟩ := h4.turn hL
 rw [hF] at hA
 exact hk act w h1 h2 h3 (hturn _ _ G w S hL' ⟨a, hA⟩ h4.emb XR (fun b hb => ⟨hSG b hb, .inl hb⟩) J J J (Nat.le_refl _) fun _ _ _ => J)
end
end
section
attribute [local irreducible] X Pure Mod
theorem c_CloneU (l : List Int) (v : Value) (G : PH) (h : IntsU G l v) : Pure Tryz.prog 38 [v] G fun v' G' => IntsU G' l v' := by
  obtain ⟨xs, hx, hc⟩ := Sr_Sx (rep := intU) (sz := 1) (fun n cs h => by rw [show cs = [.int .i64 n] from h]; rfl) h
  obtain rfl := Cs_intU_eq hc
  refine (c_CloneInt v _ _ G hx (intC1 _)).mono fun v' G' _ h' => ?_;obtain ⟨A, c, rfl, h2, h3, h4, h5, h6⟩ := h'
  refine Sx_Sr ⟨A, c, J, h2, h3, h4, h5, ?_⟩ J hc
  rcases h6 with h6 | ⟨a, h6, h7⟩
  · exact .inl h6
  · exact .inr ⟨a, h6, gcells_le (newp_le _ _) h7⟩
theorem c_CloneSay (v : Value) (n : Nat) (xs : List Value) (G : PH) (h : Sx G 2 v n xs) (h1 : ∀ u ∈ xs, u.oneCell' = true) : Pure Tryz.prog 39 [v] G fun v' G' => Sx (newp G G') 2 v' n xs := by
  obtain ⟨A, c, rfl, hn, hnc, hcm, hlen, hrow⟩ := h
  refine Pure.intro Tryz.func39 Tryz.ntmps39 J J fun w => ?_; refine Va J J ?_
  cases A with
  | none =>
    refine S_valV J J J (V_eqNil Tk J J) ?_;refine Va J J ?_;refine RT J J ?_;refine Va J J ?_;refine S_retp (Res.t1 Tryz.results39 J J) XR ⟨none, 0, ?_, by omega, ?_, by simp [maxLen], hlen, ?_⟩
    · rcases hrow with rfl | ⟨a, h, _⟩
      · rfl
      · cases h
    · rcases hrow with rfl | ⟨a, h, _⟩
      · exact Nat.le_refl _
      · cases h
    · rcases hrow with rfl | ⟨a, h, _⟩
      · exact .inl J
      · cases h
  | some a =>
    refine S_valV J J J (V_eqNil Tk J J) ?_;refine Va J J ?_;refine RF J J ?_;refine Va J J ?_;refine S_emptyO Tk 5 J J J J fun A => ?_;refine Va J J ?_;refine S_appO Tk 5 J J J J J J J J J J J (fun _ _ => J) (src_G hlen (by
      rcases hrow with h | ⟨a', h, h2⟩
      · exact .inl h
      · exact .inr ⟨a', h, h2⟩)) h1 (by simp only; omega) (by simp only [maxLen]; omega) (Nat.le_refl _) fun A' c' => ?_
    refine Va J J ?_;refine S_freezeR 5 J J (Nat.le_refl _) fun G' hext hnc' hcm' hcells => ?_;refine S_retp (Res.t1 Tryz.results39 J J) hext ⟨A', c', by simp [denO], hn, by simpa using hnc', hcm', hlen, ?_⟩
    simpa using hcells
theorem c_CloneSU (l : List (Int × Int)) (v : Value) (G : PH) (h : SaysU G l v) : Pure Tryz.prog 39 [v] G fun v' G' => SaysU G' l v' := by
  obtain ⟨xs, hx, hc⟩ := Sr_Sx (rep := sayU) (sz := 2) (fun n cs h => by rw [show cs = [.int .i64 n.1, .int .i64 n.2] from h]; rfl) h
  obtain rfl := Cs_sayU_eq hc
  refine (c_CloneSay v _ _ G hx (saidC_one _)).mono fun v' G' _ h' => ?_;obtain ⟨A, c, rfl, h2, h3, h4, h5, h6⟩ := h'
  refine Sx_Sr ⟨A, c, J, h2, h3, h4, h5, ?_⟩ J hc
  rcases h6 with h6 | ⟨a, h6, h7⟩
  · exact .inl h6
  · exact .inr ⟨a, h6, gcells_le (newp_le _ _) h7⟩
structure CY where
  b3 : Nat
  Ac : Option Addr
  cc : Nat
  Ar : Option Addr
  cr : Nat
  Ad : Option Addr
  cd : Nat
  G : PH
structure CL where
  i : Nat
  A : Option Addr
  c : Nat
  xs : List Value
  G : PH
theorem c_wcopy (W : Wld) (v : Value) (G : PH) (hW : WG G W v) (hn : W.procs.length ≤ 3) : Pure Tryz.prog 20 [v] G fun v' G' => WG G' W v' := by
  obtain ⟨vp, vc, vr, vs, vd, rfl, hpr, hce, hro, hsg, hsd⟩ := hW
  obtain ⟨Ac, cc, rfl, _⟩ := id hce
  obtain ⟨Ar, cr, rfl, _⟩ := id hro
  obtain ⟨Ad, cd, rfl, _⟩ := id hsd
  obtain ⟨Ap, cp, rfl, _⟩ := id hpr
  obtain ⟨As, cs', rfl, _⟩ := id hsg
  refine Pure.intro Tryz.func20 Tryz.ntmps20 J J fun w => ?_; refine Va J J ?_;refine S_box J J J J J fun b1 => ?_;refine Va J J ?_;refine AZ ZT_ok J J J J fun b2 => ?_;refine Va J J ?_;refine S_cut (α := CY) (fun y => PH.ext w.heap.size G y.G ∧ IntsU y.G [W.c0, W.c1, W.c2] (.slice y.Ac 3 y.cc) ∧ IntsU y.G [W.m0, W.m1] (.slice y.Ar 2 y.cr) ∧ SaysU y.G W.said (.slice y.Ad W.said.length y.cd)) (fun y => [(1, b1), (2, b2), (3, y.b3)]) (fun y => [(1, .ptr 1 0), (2, .ptr 2 0), (3, .ptr 3 0)])
    (fun y => [.blk 1 35 (vL [.slice Ap W.procs.length cp, .slice Ac [W.c0, W.c1, W.c2].length cc, .slice Ar [W.m0, W.m1].length cr, .slice As [W.q0, W.q1].length cs', .slice Ad W.said.length cd]), .blk 2 35 (vL [.slice none 0 0, .slice none 0 0, .slice none 0 0, .slice none 0 0, .slice none 0 0]),
      .blk 3 35 (vL [.slice none 0 0, .slice y.Ac 3 y.cc, .slice y.Ar 2 y.cr, .slice none 0 0, .slice y.Ad W.said.length y.cd])]) (fun y => y.G) ?_ ?_
  · refine Ds J J J ?_
    refine Da J J ?_
    repeat' (first
      | exact trivial
      | (refine D_list J ?_)
      | refine And.intro ?_ ?_
      | (refine N_call 2 Tryz.call38 (c_CloneU _ _ _ hce) J J J J J J J J J J ?_
         rintro v2 G2 hv2 hext2
         obtain ⟨A2, c2, rfl, _⟩ := id hv2
         refine Da J J ?_)
      | (refine N_call 5 Tryz.call38 (c_CloneU _ _ _ (IntsU_le hext2.le hro)) J J J J J J J J J J ?_
         rintro v5 G5 hv5 hext5
         obtain ⟨A5, c5, rfl, _⟩ := id hv5
         refine Da J J ?_)
      | (refine N_call 8 Tryz.call39 (c_CloneSU _ _ _ (Sr_mono (hext2.le.trans hext5.le) (fun _ _ _ h => h) hsd)) J J J J J J J J J J ?_
         rintro v8 G8 hv8 hext8
         obtain ⟨A8, c8, rfl, _⟩ := id hv8
         refine Da J J ?_)
      | (refine N_turn Tk 10 J J J J fun back => ?_
         refine AZ ZT_ok J J J J fun b3 => ?_;refine back _ _ _ _ (by kernel_rfl) ?_
         clear back
         refine Da J J ?_)
      | fail)
    all_goals (refine N_store Tk 11 rfl rfl rfl rfl rfl rfl rfl rfl (by kernel_rfl) ?_)
    all_goals refine D_adv Tk (by decide) rfl rfl ?_
    all_goals (refine DD ?_)
    all_goals refine S_adv Tk rfl 1000 rfl ?_
    all_goals (refine S_pick [1, 2, 3] rfl ?_)
    all_goals exact S_meet ⟨_, _, _, _, _, _, _, _⟩ ⟨(hext2.trans hext5).trans hext8, IntsU_le (hext5.trans hext8).le hv2, IntsU_le hext8.le hv5, hv8⟩ rfl ⟨⟨_, rfl, rfl⟩, ⟨_, rfl, rfl⟩, ⟨_, rfl, rfl⟩, trivial⟩ (.blk rfl rfl (.blk rfl rfl (.blk rfl rfl .nil)))
  rintro ⟨b3, A2, c2, A5, c5, A8, c8, G0⟩ ⟨hext0, hv2, hv5, hv8⟩
  simp only at hext0 hv2 hv5 hv8 ⊢
  refine S_nilO (base := w.heap.size) (e := 38) (size := 5) 20 ?_;refine Va J J ?_;refine S_loop (α := CL) (fun y => y.i ≤ W.procs.length ∧ PH.ext w.heap.size G0 y.G ∧ Cs 5 (prcRep y.G) (W.procs.take y.i) y.xs) (fun y => W.procs.length - y.i) [(1, b1), (2, b2), (3, b3)]
    (fun y => [(21, .val (.int .i64 (y.i : Nat))), (19, .val (.slice Ap W.procs.length cp)), (20, .val (.int .i64 (W.procs.length : Nat))), (1, .ptr 1 0), (2, .ptr 2 0), (3, .ptr 3 0)])
    (fun y => [.hp 20 (rowO w.heap.size 38 5 y.A y.i y.c y.xs), .blk 1 35 (vL [.slice Ap W.procs.length cp, .slice Ac [W.c0, W.c1, W.c2].length cc, .slice Ar [W.m0, W.m1].length cr, .slice As [W.q0, W.q1].length cs', .slice Ad W.said.length cd]), .blk 2 35 (vL [.slice none 0 0, .slice none 0 0, .slice none 0 0, .slice none 0 0, .slice none 0 0]),
      .blk 3 35 (vL [.slice y.A y.i y.c, .slice A2 3 c2, .slice A5 2 c5, .slice none 0 0, .slice A8 W.said.length c8])]) (fun y => y.G) ⟨0, none, 0, [], G0⟩ ⟨Nat.zero_le _, PH.ext.refl _ _, rfl⟩ rfl ?_ ?_ ?_
  · exact ⟨⟨_, J, J⟩, ⟨_, J, J⟩, ⟨_, J, J⟩, ⟨_, J, J⟩, ⟨_, J, J⟩, ⟨_, J, J⟩, trivial⟩
  · exact .hp (.blk J J (.blk J J (.blk J J .nil)))
  rintro ⟨i, A20, c20, xs, G1⟩ ⟨hi, hext, hcs⟩
  simp only at hi hext hcs ⊢
  refine Va J J ?_
  refine S_condp J (fun h => ?_) (fun h => ?_) <;> refine Va J J ?_
  · have hil : i < W.procs.length := by omega
    obtain ⟨ad, ys, rfl, hys, vr, vt, rfl, hvr, hvt⟩ := Sr_at (Sr_mono (hext0.trans hext).le (fun _ _ _ h => prcRep_le (hext0.trans hext).le h) hpr) hil
    obtain ⟨Ar3, cr3, rfl, _⟩ := id hvr
    obtain ⟨At3, ct3, rfl, _⟩ := id hvt
    refine S_index Tk J J J J J J (by omega) (by omega) ?_;refine Va J J ?_;refine S_loadA Tk J J J J J (by simpa using hys) ?_;refine Va J J ?_;refine AZ ZT_ok J J J J fun b5 => ?_;refine Va J J ?_;refine Ds J J J ?_;refine Da J J ?_;refine D_sole 2 J J (N_call 2 Tryz.call38 (c_CloneU _ _ _ hvr) J J J J J J J J J J ?_)
    rintro vb G2 hvb hext2
    obtain ⟨Ab, cb, rfl, _⟩ := id hvb
    refine Da J J ?_;refine D_sole 5 J J (N_call 5 Tryz.call40 (c_copyStmts _ _ _ (Sts_le hext2.le hvt)) J J J J J J J J J J ?_)
    rintro ve G3 hve hext3
    obtain ⟨Ae, ce, rfl, _⟩ := id hve
    refine Da J J ?_;refine Ns 7 J J J J J J J J J ?_;refine Da J J ?_;refine Ns 9 J J J J J J J J J ?_;refine DD ?_;refine Va J J ?_;refine S_slice Tk ZT_ok J J J J (by decide) (by decide) J J J J fun b36 => ?_;refine Va J J ?_
    refine S_app1 Tk 20 36 J J J J J J J J J J J J J J (by intro u hu; simp at hu; rcases hu with rfl | rfl | rfl | rfl | rfl <;> rfl) rfl (fun _ _ => rfl) (by omega) (Nat.le_refl _) fun A6 c6 => ?_
    refine Va J J ?_;refine S_add J J J J (by omega) ?_;refine Va J J ?_
    have hle := hext2.le.trans hext3.le
    refine S_again ⟨i + 1, A6, c6, xs ++ [.slice Ab [W.procs[i].r0, W.procs[i].r1, W.procs[i].r2].length cb, .slice Ae W.procs[i].todo.length ce, .int .i64 W.procs[i].mode, .int .i64 W.procs[i].on, .int .i64 W.procs[i].room], G3⟩ ⟨by simp only; omega, (hext.trans hext2).trans hext3, ?_⟩ (by simp only; omega) rfl ⟨⟨_, rfl, by simp [denO]⟩, ⟨_, rfl, rfl⟩, ⟨_, rfl, rfl⟩, ⟨_, rfl, rfl⟩, ⟨_, rfl, rfl⟩, ⟨_, rfl, rfl⟩, trivial⟩ ?_
    rotate_left
    · first | exact .drop (.hp (.blk J J (.blk J J (.blk J J .nil)))) | exact .drop (.drop (.hp (.blk J J (.blk J J (.blk J J .nil))))) | exact .hp (.blk J J (.blk J J (.blk J J .nil))) | fail
    simp only
    rw [List.take_succ_eq_append_getElem hil]
    exact Cs_append (Cs_mono (fun s _ cs h => prcRep_le hle h) hcs) ⟨_, _, J, IntsU_le hext3.le hvb, hve⟩ J
  have hin : i = W.procs.length := by omega
  subst hin
  rw [List.take_length] at hcs
  refine S_freezeR 20 J J (Nat.le_refl _) fun Gp hextp hncp hcmp hclp => ?_
  have hvp : Sr Gp 5 (prcRep Gp) W.procs _ := frz (Cs_mono (fun s _ cs h => prcRep_le hextp.le h) hcs) rfl (by omega) hncp hcmp hclp
  refine S_nilO (base := w.heap.size) (e := 31) (size := 1) 40 ?_;refine Va J J ?_;refine S_loop (α := CL) (fun y => y.i ≤ [W.q0, W.q1].length ∧ PH.ext w.heap.size Gp y.G ∧ Cs 1 (intsRep y.G) ([W.q0, W.q1].take y.i) y.xs) (fun y => [W.q0, W.q1].length - y.i) [(1, b1), (2, b2), (3, b3)]
    (fun y => [(43, .val (.int .i64 (y.i : Nat))), (41, .val (.slice As [W.q0, W.q1].length cs')), (42, .val (.int .i64 ([W.q0, W.q1].length : Nat))), (1, .ptr 1 0), (2, .ptr 2 0), (3, .ptr 3 0)])
    (fun y => [.hp 40 (rowO w.heap.size 31 1 y.A y.i y.c y.xs), .blk 2 35 (vL [.slice none 0 0, .slice none 0 0, .slice none 0 0, .slice none 0 0, .slice none 0 0]),
      .blk 3 35 (vL [.slice A20 W.procs.length c20, .slice A2 3 c2, .slice A5 2 c5, .slice y.A y.i y.c, .slice A8 W.said.length c8])]) (fun y => y.G) ⟨0, none, 0, [], Gp⟩ ⟨Nat.zero_le _, PH.ext.refl _ _, rfl⟩ rfl ?_ ?_ ?_
  · exact ⟨⟨_, J, J⟩, ⟨_, J, J⟩, ⟨_, J, J⟩, ⟨_, J, J⟩, ⟨_, J, J⟩, ⟨_, J, J⟩, trivial⟩
  · exact .hp (.drop (.blk J J (.blk J J .nil)))
  rintro ⟨i, A40, c40, xs4, G4⟩ ⟨hi, hext4, hcs4⟩
  simp only at hi hext4 hcs4 ⊢
  refine Va J J ?_
  refine S_condp J (fun h7 => ?_) (fun h7 => ?_) <;> refine Va J J ?_
  · have hil : i < [W.q0, W.q1].length := by omega
    have hle4 := ((hext0.trans hext).trans (hextp.trans hext4)).le
    obtain ⟨ad, ys, rfl, hys, vq, rfl, hvq⟩ := Sr_at (Sr_mono hle4 (fun _ _ _ h => intsRep_le hle4 h) hsg) hil
    obtain ⟨Aq, cq, rfl, _⟩ := id hvq
    refine S_index Tk J J J J J J (by omega) (by omega) ?_;refine Va J J ?_;refine S_load Tk J J J J J (by simpa using hys.1) ?_;refine Va J J ?_;refine Ds J J J ?_;refine Da J J ?_;refine D_sole 3 J J (N_call 3 Tryz.call38 (c_CloneU _ _ _ hvq) J J J J J J J J J J ?_)
    rintro vb G6 hvb hext6
    obtain ⟨Ab, cb, rfl, _⟩ := id hvb
    refine Da J J ?_;refine Nt 4 J J J J J J fun back => ?_;refine S_slice Tk ZT_ok J J J J (by decide) (by decide) J J J J fun b51 => ?_;refine back _ _ _ _ (by kernel_rfl) ?_; clear back
    refine Da J J ?_;refine Nt 5 J J J J J J fun back => ?_;refine S_app1 Tk 40 51 J J J J J J J J J J J J J J (by intro u hu; simp at hu; rcases hu with rfl; rfl) rfl (fun _ _ => rfl) (by omega) (Nat.le_refl _) fun A6 c6 => ?_;refine back _ _ _ _ (by kernel_rfl) ?_; clear back
    refine Da J J ?_;refine Ns 7 J J J J J J J J J ?_;refine DD ?_;refine Va J J ?_;refine S_add J J J J (by simp at hil; omega) ?_;refine Va J J ?_;refine S_again ⟨i + 1, A6, c6, xs4 ++ [.slice Ab ([W.q0, W.q1][i]).length cb], G6⟩ ⟨by simp only; omega, hext4.trans hext6, ?_⟩ (by simp only; omega) rfl ⟨⟨_, rfl, by simp [denO]⟩, ⟨_, rfl, rfl⟩, ⟨_, rfl, rfl⟩, ⟨_, rfl, rfl⟩, ⟨_, rfl, rfl⟩, ⟨_, rfl, rfl⟩, trivial⟩ ?_
    rotate_left
    · first | exact .drop (.hp (.blk J J (.blk J J .nil))) | exact .hp (.blk J J (.blk J J .nil)) | exact .drop (.drop (.hp (.blk J J (.blk J J .nil)))) | fail
    simp only
    rw [List.take_succ_eq_append_getElem hil]
    exact Cs_append (Cs_mono (fun s _ cs h => intsRep_le hext6.le h) hcs4) ⟨_, J, hvb⟩ J
  · have hin : i = [W.q0, W.q1].length := by omega
    subst hin
    rw [List.take_length] at hcs4
    refine S_freezeR 40 J J (Nat.le_refl _) fun Gf hextf hncf hcmf hclf => ?_
    have hvf : Sr Gf 1 (intsRep Gf) [W.q0, W.q1] _ := frz (Cs_mono (fun s _ cs h => intsRep_le hextf.le h) hcs4) rfl (by simp) hncf hcmf hclf
    have hle := hext4.le.trans hextf.le
    have hle2 := hext.le.trans (hextp.le.trans hle)
    exact S_retp (Res.c1 Tk Tryz.results20 rfl rfl) (((hext0.trans hext).trans (hextp.trans hext4)).trans hextf) ⟨_, _, _, _, _, rfl, Sr_mono hle (fun _ _ _ h => prcRep_le hle h) hvp, IntsU_le hle2 hv2, IntsU_le hle2 hv5, hvf, Sr_mono hle2 (fun _ _ _ h => h) hv8⟩
end
section
attribute [local irreducible] X Pure Mod
theorem gcells_gcW {G H : PH} (h : ∀ a, gcell H a = gcell G a) : ∀ {cs : List Value} {a : Addr}, gcells G a cs → gcells H a cs
 | [], _, _ => trivial
 | _ :: _, a, hc => ⟨by rw [h]; exact hc.1, gcells_gcW h hc.2⟩
theorem Rw_gcW {α : Type} {G H : PH} {sz : Nat} {rep rep' : α → List Value → Prop} (h : ∀ a, gcell H a = gcell G a) : ∀ {l : List α} {ad : Addr}, (∀ x ∈ l, ∀ cs, rep x cs → rep' x cs) → Rw G sz rep l ad → Rw H sz rep' l ad
 | [], _, _, _ => trivial
 | x :: l, ad, hr, hx => by
  obtain ⟨⟨cs, h1, h2⟩, h3⟩ := hx
  exact ⟨⟨cs, gcells_gcW h h1, hr x (List.mem_cons_self ..) cs h2⟩, Rw_gcW h (fun y hy => hr y (List.mem_cons_of_mem _ hy)) h3⟩
theorem Sr_gcW {α : Type} {G H : PH} {sz : Nat} {rep rep' : α → List Value → Prop} (h : ∀ a, gcell H a = gcell G a) {l : List α} (hr : ∀ x ∈ l, ∀ cs, rep x cs → rep' x cs) {v : Value} (hv : Sr G sz rep l v) : Sr H sz rep' l v := by
 obtain ⟨A, c, h1, h2, h3, h4, h5⟩ := hv
 refine ⟨A, c, h1, h2, h3, h4, ?_⟩
 rcases h5 with h5 | ⟨ad, h5, h6⟩
 ·exact .inl h5
 ·exact .inr ⟨ad, h5, Rw_gcW h hr h6⟩
mutual
theorem Stm.rep_gcW {G H : PH} (hl : ∀ a, gcell H a = gcell G a) : ∀ (s : Stm) (cs : List Value), Stm.rep G s cs → Stm.rep H s cs
 | .mk k a b n x y, cs, h => by
  obtain ⟨vx, vy, e, h1, h2, h3, h4, h5, h6⟩ := Stm.rep_iff.1 h
  exact Stm.rep_iff.2 ⟨vx, vy, e, h1, h2, h3, h4, Sr_gcW hl (Stm.reps_gcW hl x) h5, Sr_gcW hl (Stm.reps_gcW hl y) h6⟩
theorem Stm.reps_gcW {G H : PH} (hl : ∀ a, gcell H a = gcell G a) : ∀ (L : List Stm), ∀ s ∈ L, ∀ cs, Stm.rep G s cs → Stm.rep H s cs
 | [], s, hs, _, _ => by cases hs
 | t :: L, s, hs, cs, h => by
  rcases List.mem_cons.1 hs with e | hs'
  ·rw [e] at h ⊢; exact Stm.rep_gcW hl t cs h
  ·exact Stm.reps_gcW hl L s hs' cs h
end
theorem WG_gcW {G H : PH} (hl : ∀ a, gcell H a = gcell G a) {W : Wld} {v : Value} (h : WG G W v) : WG H W v := by
 obtain ⟨vp, vc, vr, vs, vd, rfl, h1, h2, h3, h4, h5⟩ := h
 refine ⟨vp, vc, vr, vs, vd, rfl, Sr_gcW hl (fun p _ cs h => ?_) h1, Sr_gcW hl (fun _ _ _ h => h) h2, Sr_gcW hl (fun _ _ _ h => h) h3, Sr_gcW hl (fun q _ cs h => ?_) h4, Sr_gcW hl (fun _ _ _ h => h) h5⟩
 ·obtain ⟨u, t, e, i1, i2⟩ := h
  exact ⟨u, t, e, Sr_gcW hl (fun _ _ _ h => h) i1, Sr_gcW hl (Stm.reps_gcW hl _) i2⟩
 ·obtain ⟨u, e, i1⟩ := h
  exact ⟨u, e, Sr_gcW hl (fun _ _ _ h => h) i1⟩
theorem WsG_gcW {G H : PH} (hl : ∀ a, gcell H a = gcell G a) {Ws : List Wld} {v : Value} (h : WsG G Ws v) : WsG H Ws v := Sr_gcW hl (fun _ _ _ h => WG_gcW hl h) h
abbrev OutY (G : PH) (pre : List Wld) := {y : PH × Option Addr × Nat × List Value // Cs 5 (wRep (G.un y.1)) pre y.2.2.2}
def outF (b base : Nat) (G : PH) (pre : List Wld) (y : OutY G pre) : HP := pairHP (frzHP y.1.1) (pairHP (blkHP b 27 [.slice y.1.2.1 pre.length y.1.2.2.1]) (rowO base 35 5 y.1.2.1 pre.length y.1.2.2.1 y.1.2.2.2))
theorem c_iAllEnds (p : List (List Stm)) (pv : Value) (G : PH) (hp : PrgS G p pv) (hTab : TabG G) : Pure Tryz.prog 10 [pv] G fun v' G' => ∃ lv, v' = .tuple #[lv, .bool (endsP p).isSome] ∧ WsG G' ((endsP p).getD []) lv := by
 have hok := @explP_ok p
 have he := c_explore p pv G hp hTab
 obtain ⟨Ap, cp, rfl, _⟩ := id hp.1
 refine Pure.introG Tryz.func10 Tryz.ntmps10 J J fun w hw => ?_;refine Va J J ?_;refine S_call Tryz.call15 he J J J ?_;rintro v1 G1 ⟨pt, rfl, hpt⟩ hext1
 rw [endsP_of]
 cases hx : explP p with
 | none =>
  refine Va J J ?_;refine RT J (by simp) ?_;refine Va J J ?_;exact S_retG2 hw hext1 Tryz.results10 J J J J fun H hH => ⟨_, J, WsG_nil⟩
 | some Ws =>
  have hWok := hok hp hx
  have hle := hWok.le
  obtain ⟨b, mb, lv, rfl, hg, hWs⟩ := hpt Ws hx
  refine Va J J ?_;refine RF J (by simp) ?_;refine Va J J ?_;refine AZ ZT_ok J J J J fun b6 => ?_;refine Va J J ?_;refine S_call Tryz.call16 (c_ends b _) J J J ?_;rintro v2 G2 ⟨b1, rfl, hb1⟩ hext2
  refine Va J J ?_
  have hWs2 := WsG_le hext2.le hWs
  have hel := endsW_le Ws
  simp only [Option.map_some, Option.getD_some, Option.isSome_some]
  refine S_nilO (base := w.heap.size) (e := 35) (size := 5) 20 ?_;refine S_reE 6 (.val (.pointer (some ⟨b6, 0, none⟩))) J J ?_;refine S_Bhp 6 21 J J J J ?_;refine S_pair 21 20 30 J J J J ?_;refine S_frN 22 ?_;refine S_pair 22 30 31 J J J J ?_;refine S_exClose 31 (outF b6 w.heap.size G2 []) ⟨(fun _ => none, none, 0, []), J⟩ J J J ?_;refine S_range (fun pre => [.hp 31 (exHP (outF b6 w.heap.size G2 pre))]) (fun pre => [.hp 31 deadHP])
   rfl rfl rfl Tryz.call35 (c_ends1 p Ws b b1 mb lv G2 hWok hb1 (gcells_le hext2.le hg) hWs2) (fun x vs h => by obtain ⟨cs, _, rfl⟩ := h; rfl) rfl (.hp .nil) ?_ ?_ ?_
  ·intro l pre x vs W S I hpre henc hW hI
   obtain ⟨cs, hrep, rfl⟩ := henc
   have hpl : pre.length + 1 ≤ (endsW Ws).length := by have := hpre.length_le; simpa using this
   have hxm : x ∈ Ws := (List.mem_filter.1 (hpre.subset (by simp : x ∈ pre ++ [x]))).1
   have hx3 : x.procs.length ≤ 3 := by
    obtain ⟨i, hi, rfl⟩ := List.getElem_of_mem hxm
    exact (hWok.ok i _ (List.getElem?_eq_getElem hi)).1.inv.n3
   obtain ⟨fa, fb, fc, fd, fe, ff, fg, fh, fi, fj, rfl⟩ := wRep_sl hrep
   refine Va J J ?_;refine AZ ZT_ok J J J J fun b7 => ?_;refine Va J J ?_;refine hI _ _ _ fun W2 S2 hW2 => ?_;refine S_exOpen 31 J (fun _ => J) ?_;rintro ⟨⟨H, A1, c1, xs⟩, hcs⟩
   unfold outF
   simp only at hcs ⊢
   refine S_unpair 31 22 30 J J ?_;refine S_unpair 30 21 20 J J ?_;refine S_frH 22 J J fun hHb hHn => ?_;refine S_hpB 21 102 J J J ?_;refine S_reE 6 (.ptr 102 0) J J ?_
   have hxl := Cs_length hcs
   refine Va J J ?_;refine Ds J J J ?_;refine Da J J ?_;refine D_sole 2 J J (N_call 2 Tryz.call20 (c_wcopy x _ _ (WG_le (PH.le_un _ _) hrep) hx3) J J J J J J J J J J ?_)
   rintro v2 G3 hW3 hext3
   obtain ⟨vs3, rfl⟩ : ∃ vs3 : List Value, v2 = .agg vs3.toArray := by
    obtain ⟨_, _, _, _, _, rfl, _⟩ := id hW3
    exact ⟨_, J⟩
   obtain ⟨ga, gb, gc, gd, ge, gf, gg, gh, gi, gj, rfl⟩ := wRep_sl hW3
   refine Da J J ?_;refine Nt 3 J J J J J J fun back => ?_;refine S_slice Tk ZT_ok J J J J (by decide) (by decide) J J J J fun b21 => ?_;refine back _ _ _ _ (by kernel_rfl) ?_; clear back
   refine Da J J ?_;refine Nt 4 J J J J J J fun back => ?_
   refine S_app1 Tk 20 21 J J J J J J J J J J J J J J (by intro u hu; simp at hu; rcases hu with rfl | rfl | rfl | rfl | rfl <;> rfl) rfl (fun _ _ => rfl) (by omega) hW2 fun A6 c6 => ?_
   refine back _ _ _ _ (by kernel_rfl) ?_; clear back
   refine Da J J ?_;refine Ns 5 J J J J J J J J J ?_;refine DD ?_;refine Va J J ?_
   have hle3 : G2.le G3 := (PH.le_un G2 H).trans hext3.le
   refine S_Bhp 102 21 J J J J ?_;refine S_pair 21 20 30 J J J J ?_;refine S_thaw 22 (G0 := G2) J hle3 (fun bb o hb hn => ?_) ?_
   ·cases hq : (G2.un H) bb with
    | none => exact .inr (hext3.new bb o hb hq)
    | some o' =>
     unfold PH.un at hq
     rw [hn] at hq
     exact hHb bb o' hq
   refine S_pair 22 30 31 J J J J ?_;refine S_exClose 31 (outF b6 w.heap.size G2 (pre ++ [x])) ⟨(newp G2 G3, A6, c6, xs ++ [.slice ga x.procs.length gb, .slice gc 3 gd, .slice ge 2 gf, .slice gg 2 gh, .slice gi x.said.length gj]), ?_⟩ J ?_ J ?_
   ·simp only
    rw [PH.un_newp hle3]
    exact Cs_append (Cs_mono (fun _ _ _ h => wRep_le hext3.le h) hcs) hW3 J
   ·simp [outF]; try rfl
   refine S_pick [31] J ?_;exact S_roundEnd (.hp .nil)
  ·intro D hD hDs
   refine S_exOpen 31 J (fun _ => J) ?_;rintro ⟨⟨H, A1, c1, xs⟩, hcs⟩
   unfold outF
   simp only at hcs ⊢
   refine S_unpair 31 22 30 J J ?_;refine S_unpair 30 21 20 J J ?_;refine S_frH 22 J J fun hHb hHn => ?_;refine S_hpB 21 103 J J J ?_;refine S_reE 6 (.ptr 103 0) J J ?_;refine Va J J ?_
   have hle4 := un_add_le hD hHn
   refine S_freezeR 20 J J (Nat.le_refl _) fun Gf hextf hncf hcmf hclf => ?_
   have hv : WsG Gf (endsW Ws) (.slice A1 (endsW Ws).length c1) := frz (Cs_mono (fun _ _ _ h => wRep_le (hle4.trans hextf.le) h) hcs) rfl (by omega) hncf hcmf hclf
   refine S_retG2 hw ((((hext1.trans hext2).trans (ext_addW hD hDs)).trans (ext_un fun bb o hb => ?_)).trans hextf) Tryz.results10 J J J J fun H hH => ⟨_, J, WsG_gcW hH hv⟩
   rcases hHb bb o hb with h | h
   ·exact h.elim
   ·exact h
  ·intro D pre hD hDs
   exact S_dead 31 J
end
section
theorem run_appendIn {P : Program} (w : World) (base t ty e : Nat) (i : TypeInfo) (z : Value) (sz : Nat) (ht : P.underlying t = some (.slice e)) (hi : P.info? e = some i) (hz : i.zero = some z) (hsz : i.size = sz) (hpos : 0 < sz)
  {g off n c : Nat} {xs : List Value} {S : Nat → Prop} (hA : (rowO base e sz (some ⟨g, off, none⟩) n c xs).holds w S) {v : Value} {m : Nat} {news : List Value} (hs : SrcOk w sz v m news) (h1 : ∀ u ∈ news, u.oneCell' = true) (hroom : n + m ≤ c) :
  ∃ w', (Builtin.append_ #[t, t] ty #[.slice (some ⟨g, off, none⟩) n c, v]).run P w = .ok (.slice (some ⟨g, off, none⟩) (n + m) c) w' ∧ (rowO base e sz (some ⟨g, off, none⟩) (n + m) c (xs ++ news)).holds w' S ∧
   w'.os = w.os ∧ w'.tape = w.tape ∧ w'.output = w.output ∧ w.heap.size ≤ w'.heap.size ∧ (∀ b, b < w.heap.size → ¬ S b → w'.heap[b]? = w.heap[b]?) := by
 obtain ⟨hl, A2, c2, rfl, hsrc⟩ := hs
 obtain ⟨hxl, hcm, hnc, hcase⟩ := hA
 rcases hcase with ⟨h, _⟩ | ⟨g', off', cur, e', hbg, hg, hfit, htake, hS⟩
 ·cases h
 cases e'
 subst hsz
 by_cases hm : m = 0
 ·subst hm
  have hn : news = [] := List.eq_nil_of_length_eq_zero (by simpa using hl)
  subst hn
  refine ⟨w, ?_, by simp only [Nat.add_zero, List.append_nil]; exact ⟨hxl, hcm, hnc, .inr ⟨g, off, cur, rfl, hbg, hg, hfit, htake, hS⟩⟩, rfl, rfl, rfl, Nat.le_refl _, fun _ _ _ => rfl⟩
  have hf : ∀ w, (Builtin.firstCells i.size 0 (.slice A2 0 c2)).run P w = .ok #[] w := by
   intro w
   cases A2 with
   | none => exact run_firstCells_none (P := P) w i.size 0 0 c2
   | some a => exact run_firstCells_some (P := P) w i.size 0 a 0 c2 [] (by simp) (by simp)
  have hst : ∀ a, (storeCells a []).run P w = .ok () w := fun a => by simp [storeCells]
  simp [Builtin.append_, run_underlying ht, sizeOf, typeInfo, hi, Builtin.lenOf, hnc, hf, hst]
 ·rcases hsrc with h0 | ⟨a, rfl, hnews⟩
  ·exact absurd h0 hm
  have hf := run_firstCells_some (P := P) w i.size m a m c2 news hl hnews
  have hlen : off + n * i.size + news.length ≤ cur.size := by
   rw [hl, Nat.add_assoc, ← Nat.add_mul]
   exact Nat.le_trans (Nat.add_le_add_left (Nat.mul_le_mul_right _ hroom) _) hfit
  have hst := run_storeCells_at P g (off + n * i.size) e news 0 cur w hg (by simpa using hlen) h1
  simp only [Nat.add_zero] at hst
  refine ⟨w.setRow g (cur.toList.take (off + n * i.size) ++ news ++ cur.toList.drop (off + n * i.size + news.length)).toArray, ?_, ⟨by rw [List.length_append, hxl, hl, Nat.add_mul], hcm, hroom, .inr ⟨g, off, _, rfl, hbg, setRow_heap w g cur _ e _ hg, ?_, ?_, hS⟩⟩, rfl, rfl, rfl, by simp, fun b _ hb => setRow_other w g b _ (fun e => hb ((hS b).2 e))⟩
  ·simp [Builtin.append_, run_underlying ht, sizeOf, typeInfo, hi, Builtin.lenOf, hroom, hf, add_lit', hst]
  ·simp only [List.size_toArray, List.length_append, List.length_take, List.length_drop, Array.length_toList]
   omega
  ·have hlc : off + n * i.size ≤ cur.toList.length := by rw [Array.length_toList]; omega
   have e1 : List.take (off + n * i.size) cur.toList = List.take off cur.toList ++ xs := by
    rw [List.take_add, ← hxl, htake]
   show (List.drop off (List.take (off + n * i.size) cur.toList ++ news ++ List.drop (off + n * i.size + news.length) cur.toList)).take (xs ++ news).length = xs ++ news
   rw [e1]
   have hoff : (List.take off cur.toList).length = off := by rw [List.length_take]; omega
   rw [List.append_assoc, List.append_assoc]
   have hd : List.drop off (List.take off cur.toList ++ (xs ++ (news ++ List.drop (off + n * i.size + news.length) cur.toList))) = xs ++ (news ++ List.drop (off + n * i.size + news.length) cur.toList) := by
    have := List.drop_left (l₁ := List.take off cur.toList) (l₂ := xs ++ (news ++ List.drop (off + n * i.size + news.length) cur.toList))
    rw [hoff] at this
    exact this
   rw [hd, ← List.append_assoc]
   exact List.take_left
theorem run_appendOut {P : Program} (w : World) (base t ty e : Nat) (i : TypeInfo) (z : Value) (sz : Nat) (ht : P.underlying t = some (.slice e)) (hi : P.info? e = some i) (hz : i.zero = some z) (hsz : i.size = sz) (hzs : z.cells.size = sz) (hpos : 0 < sz)
  {g off n c : Nat} {xs : List Value} {S : Nat → Prop} (hA : (rowO base e sz (some ⟨g, off, none⟩) n c xs).holds w S) {v : Value} {m : Nat} {news : List Value} (hs : SrcOk w sz v m news) (h1 : ∀ u ∈ news, u.oneCell' = true)
  (h63 : n + m ≤ maxLen) (hby : (n + m) * i.bytes ≤ 140737488355328) (hbase : base ≤ w.heap.size) (hroom : c < n + m) :
  ∃ c' w', (Builtin.append_ #[t, t] ty #[.slice (some ⟨g, off, none⟩) n c, v]).run P w = .ok (.slice (some ⟨w.heap.size, 0, none⟩) (n + m) c') w' ∧ (rowO base e sz (some ⟨w.heap.size, 0, none⟩) (n + m) c' (xs ++ news)).holds w' (fun b => b = w.heap.size) ∧
   w'.os = w.os ∧ w'.tape = w.tape ∧ w'.output = w.output ∧ w.heap.size ≤ w'.heap.size ∧ (∀ b, b < w.heap.size → w'.heap[b]? = w.heap[b]?) := by
 obtain ⟨hl, A2, c2, rfl, hsrc⟩ := hs
 obtain ⟨hxl, hcm, hnc, hcase⟩ := hA
 have hsmall : n + m ≤ 9223372036854775807 := by simp only [maxLen] at h63; omega
 rcases hcase with ⟨h, _⟩ | ⟨g', off', cur, e', hbg, hg, hfit, htake, hS⟩
 ·cases h
 cases e'
 subst hsz
 rcases hsrc with h0 | ⟨a, rfl, hnews⟩
 ·omega
 have grown : ∀ (old : Nat), (rowO base e i.size (some ⟨w.heap.size, 0, none⟩) (n + m) (grownCap w (n + m) old e) (xs ++ news)).holds (w.drew.alloc (.cells (xs.toArray ++ news.toArray ++ Builtin.zeroCells z.cells (grownCap w (n + m) old e - (n + m))) e)) (fun b => b = w.heap.size) := by
  intro old
  have hge := grownCap_ge w (n + m) old e
  have hcm' : grownCap w (n + m) old e ≤ maxLen := grownCap_le_maxLen w (n + m) old e h63
  refine ⟨by rw [List.length_append, hxl, hl, Nat.add_mul], hcm', hge, .inr ⟨_, 0, _, rfl, hbase, heap_alloc_new w.drew _, ?_, ?_, fun b => Iff.rfl⟩⟩
  ·simp only [Array.size_append, List.size_toArray, size_zeroCells, hzs, hxl, hl, ← Nat.add_mul]
   rw [Nat.zero_add]
   exact Nat.mul_le_mul_right _ (by omega)
  ·simp only [Array.toList_append, List.drop_zero]
   exact List.take_left
 have hold : ∀ old b, b < w.heap.size → (w.drew.alloc (.cells (xs.toArray ++ news.toArray ++ Builtin.zeroCells z.cells (grownCap w (n + m) old e - (n + m))) e)).heap[b]? = w.heap[b]? := fun old b hb => heap_alloc_old w.drew _ hb
 have holds : ∀ j u, xs[j]? = some u → w.cell? ((⟨g, off, none⟩ : Addr).add j) = some u := cells_at hg htake
 have hr := run_append_grow (P := P) w t ty e i z ht hi hz ⟨g, off, none⟩ n c xs hxl holds a m c2 news hl hnews (by omega) (by omega) (growslice_fits (by omega) hby)
 exact ⟨_, _, hr, grown c, rfl, rfl, rfl, by simp, fun b hb => hold c b hb⟩
section
variable {C : Ctx} {k : List It} {E : Env} {ι : Ids} {L : List Ent} {G : PH} {all : Array Oper} {l : List Oper}
theorem S_appSplit {T : Tab} (hT : tabOk C.P T) (κ κ' : Nat) {d t e sz' sz : Nat} {os os' : List Nat} {tk : TK} {zi : ZI} {s x : Operand} {ss sx : Sym} {ty : Nat} {pos : String} {af : Array Edge} {g : Option (Nat × Bool)} {base base' gb off : Nat} {vx : Value} {n m c : Nat} {xs news : List Value} {L1 : List Ent} {L2 : Option Addr → Nat → List Ent}
  (ht : lookT t T = some ⟨.slc e, sz', os'⟩) (he : lookT e T = some ⟨tk, sz, os⟩) (hz : lookZ e T.zs = some zi) (hzs : zi.zs.length = sz) (hsz : Nat.ble 1 sz = true)
  (hg : guardOf all E g = .on) (hN : Nat.ble (d + 1) C.n = true) (hs : ev E s = some ss) (hds : denO ι ss = some (.slice (some ⟨gb, off, none⟩) n c)) (hx : ev E x = some sx) (hdx : denO ι sx = some vx)
  (hL : getH κ L = some (rowO base e sz (some ⟨gb, off, none⟩) n c xs)) (hL1 : setH κ (rowO base e sz (some ⟨gb, off, none⟩) (n + m) c (xs ++ news)) L = some L1)
  (hL0 : getH κ' L = some (rowO base' e sz none 0 0 [])) (hL2 : ∀ A' c', setH κ' (rowO base' e sz A' (n + m) c' (xs ++ news)) L = some (L2 A' c'))
  (hsrc : ∀ w, SatW C ι L G w → SrcOk w sz vx m news) (h1 : ∀ u ∈ news, u.oneCell' = true) (hby : (n + m) * zi.b ≤ 140737488355328) (h63 : n + m ≤ maxLen) (hbase : base' ≤ C.w0.heap.size) (hb0 : base = 0 ∨ base ≤ C.w0.heap.size)
  (hin : n + m ≤ c → X C (.ops all l :: k) ((d, .val (.slice (some ⟨gb, off, none⟩) (n + m) c)) :: E) ι L1 G)
  (hout : c < n + m → ∀ g' c', X C (.ops all l :: k) ((d, .val (.slice (some ⟨g', 0, none⟩) (n + m) c')) :: E) ι (L2 (some ⟨g', 0, none⟩) c') G) : X C (.ops all (⟨some d, .call ⟨.builtin .append, #[s, x], #[t, t]⟩, ty, pos, af, g⟩ :: l) :: k) E ι L G := by
 intro a w g1 g2 g3 g4
 have hdn : d < a.tmps.size := by rw [g2]; exact Nat.le_of_ble_eq_true hN
 have es := ev_sound g3 hs
 have ex := ev_sound g3 hx
 rw [hds] at es
 rw [hdx] at ex
 simp only [Option.some.injEq] at es ex
 have hu := tyOk_slice (hT _ _ ht) rfl
 obtain ⟨dsc, inf, _, hi, _, hsize, _⟩ := tyOk_parts (hT _ _ he)
 obtain ⟨inf', vz, hi', hv, hb, hc, _⟩ := viewZ_eq (hT.z _ _ hz)
 rw [hi] at hi'; cases hi'
 have hGlt : ∀ b o, G b = some o → b < w.heap.size := fun b o hb => (Array.getElem?_eq_some_iff.1 (g4.emb b o hb)).1
 obtain ⟨S2, hA, hS2G, hturn⟩ := g4.turn hL
 by_cases hroom : n + m ≤ c
 ·obtain ⟨w', hr, hA', q1, q2, q3, q4, q5⟩ := run_appendIn (P := C.P) w base t ty e inf vz sz hu hi hv hsize (Nat.le_of_ble_eq_true hsz) hA (hsrc w g4) h1 hroom
  have hrun : (execOp a.eval ⟨some d, .call ⟨.builtin .append, #[s, x], #[t, t]⟩, ty, pos, af, g⟩).run C.P w = .ok (.value (.slice (some ⟨gb, off, none⟩) (n + m) c)) w' := by
   simp only [execOp, resolve, invoke, List.map_toArray, List.map_cons, List.map_nil, ← es, ← ex]
   simp [builtin, hr]
  refine wpE_val (guardOf_on g3 hg) (by intro c h; cases h) hrun ?_;refine hin hroom _ _ g1 (by simp [Act.put, g2]) (g3.put hdn J) ?_;refine hturn _ _ G w' S2 hL1 hA' ?_ XR (fun b hb => ⟨hS2G b hb, .inl hb⟩) q1 q2 q3 q4 q5
  intro b o hb
  rw [q5 b (hGlt b o hb) (fun h => by rw [hS2G b h] at hb; cases hb)]
  exact g4.emb b o hb
 ·obtain ⟨S3, hA3, hS3G, hturn3⟩ := g4.turn hL0
  have hA0 : (rowO 0 e sz (some ⟨gb, off, none⟩) n c xs).holds w S2 := by
   obtain ⟨q1, q2, q3, q4⟩ := hA
   refine ⟨q1, q2, q3, ?_⟩
   rcases q4 with q4 | ⟨g', off', cur, e1, e2, e3⟩
   ·exact .inl q4
   ·exact .inr ⟨g', off', cur, e1, Nat.zero_le _, e3⟩
  obtain ⟨c', w', hr, hA', q1, q2, q3, q4, q5⟩ := run_appendOut (P := C.P) w 0 t ty e inf vz sz hu hi hv hsize (by rw [hc]; simpa using hzs) (Nat.le_of_ble_eq_true hsz) hA0 (hsrc w g4) h1 h63 (by rw [hb]; exact hby) (Nat.zero_le _) (by omega)
  have hrun : (execOp a.eval ⟨some d, .call ⟨.builtin .append, #[s, x], #[t, t]⟩, ty, pos, af, g⟩).run C.P w = .ok (.value (.slice (some ⟨w.heap.size, 0, none⟩) (n + m) c')) w' := by
   simp only [execOp, resolve, invoke, List.map_toArray, List.map_cons, List.map_nil, ← es, ← ex]
   simp [builtin, hr]
  refine wpE_val (guardOf_on g3 hg) (by intro c h; cases h) hrun ?_;refine hout (by omega) w.heap.size c' _ _ g1 (by simp [Act.put, g2]) (g3.put hdn J) ?_
  have hA4 : (rowO base' e sz (some ⟨w.heap.size, 0, none⟩) (n + m) c' (xs ++ news)).holds w' (fun b => b = w.heap.size) := by
   obtain ⟨r1, r2, r3, r4⟩ := hA'
   refine ⟨r1, r2, r3, ?_⟩
   rcases r4 with ⟨r4, _⟩ | ⟨g', off', cur, e1, e2, e3⟩
   ·cases r4
   ·cases e1
    exact .inr ⟨_, _, cur, J, Nat.le_trans hbase g4.size, e3⟩
  refine hturn3 _ _ G w' _ (hL2 _ _) hA4 ?_ XR ?_ q1 q2 q3 q4 (fun b hb _ => q5 b hb)
  ·intro b o hb
   rw [q5 b (hGlt b o hb)]
   exact g4.emb b o hb
  ·intro b hb
   subst hb
   refine ⟨?_, .inr (Nat.le_refl _)⟩
   cases hq : G w.heap.size with
   | none => rfl
   | some o => have := hGlt _ _ hq; omega
theorem src_pre (κ : Nat) {base e sz : Nat} {A : Option Addr} {n c m c' : Nat} {xs news : List Value} (hL : getH κ L = some (rowO base e sz A n c xs)) (hm : m ≤ n) (hn : xs.take (m * sz) = news) : ∀ w, SatW C ι L G w → SrcOk w sz (.slice A m c') m news := by
 intro w h
 obtain ⟨Ss, ho, _⟩ := h.own
 obtain ⟨S, ⟨q1, q2, q3, q4⟩, _⟩ := owns_split ho hL
 subst hn
 refine ⟨by rw [List.length_take, q1]; exact Nat.min_eq_left (Nat.mul_le_mul_right _ hm), A, c', J, ?_⟩
 rcases q4 with ⟨rfl, rfl, _⟩ | ⟨g, off, cur, rfl, _, hg, hfit, htake, _⟩
 ·exact .inl (by omega)
 ·refine .inr ⟨_, rfl, fun j u hj => cells_at hg htake j u ?_⟩
  rw [List.getElem?_take] at hj
  split at hj
  ·exact hj
  ·cases hj
end
end
end Go.Proofs.YtbecgghgcglafaaGreatDoor
