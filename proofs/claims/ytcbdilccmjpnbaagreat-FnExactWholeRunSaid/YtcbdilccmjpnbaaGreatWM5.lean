/- Walks of the program's functions, one after the other (part 5); without conditions of their own. -/
import Derived.Test.YtcbdilccmjpnbaaGreatWM2
import Derived.Test.YtcbdilccmjpnbaaGreatWM3
import Derived.Test.YtcbdilccmjpnbaaGreatWM4
set_option linter.unusedVariables false
set_option linter.unusedSimpArgs false
set_option maxRecDepth 100000
set_option maxHeartbeats 4000000
open Go.RowKit
namespace Go.Proofs.YtcbdilccmjpnbaaGreat
section
def KC (P : Program) (n : Nat) (fn : Func) (G : PH) (Post : Value → Prop) (w : World) : Ctx := ⟨P, none, n, bodyPostM (FW none) 0 P fn (PureR G w fun v G' => Post v ∧ G' = G), w, fun _ => False, true⟩
theorem Pure.introM {P : Program} {f : FuncId} {fn : Func} {c : Code} {vs : List Value} {G : PH} {Post : Value → Prop} {n : Nat} (hf : P.funcs[f]? = some fn) (hn : fn.ntmps = n) (hb : fn.body = some c) (hle : Nat.ble vs.length n = true)
  (hx : ∀ w, Emb G w → X (KC P n fn G Post w) [.code c] (envOf 0 vs) [] [] G) : Pure P f vs G fun v G' => Post v ∧ G' = G := by
 intro w hw
 have hle' : vs.length ≤ n := Nat.le_of_ble_eq_true hle
 refine (callsIn_FW (r := none) (n := 0)).1 (callsIn_of_wp_marks hf hb trivial ?_ J)
 refine hx w hw { tmps := vs.toArray ++ Array.replicate (fn.ntmps - vs.toArray.size) undef, defers := [] } w DfsOk.nil (by simp [hn, KC]; omega) ?_ ?_
 ·intro i s hi
  obtain ⟨_, v, hv, rfl⟩ := look_envOf hi
  refine ⟨v, J, ?_⟩
  simp only [Nat.sub_zero] at hv
  rw [Array.getElem?_append_left (by
   have := (List.getElem?_eq_some_iff.1 hv).1
   simpa using this)]
  simpa using hv
 ·exact ⟨rfl, rfl, rfl, Nat.le_refl _, fun _ _ _ => rfl, hw, [], trivial, fun T hT => by cases hT⟩
theorem leaveM {P : Program} {fn : Func} {tmps : Array Value} {R : Ending → World → Prop} {w0 : World} {v : Value} (hres : ∀ w, (results fn tmps).run P w = .ok v w) (hR : ∀ w, Below w0.heap.size w0 w → R (.returned v) w) :
  ∀ (Ds : List Nat) (w : World), Ds.Nodup → (∀ D ∈ Ds, w0.heap.size ≤ D ∧ w.heap[D]? = some (.deferred (some []))) → Below w0.heap.size w0 w → LeavesInM (FW none) 0 P fn tmps R (Ds.map fun D => { target := .collected D, args := #[] }) .returning w := by
 intro Ds
 induction Ds with
 | nil => intro w _ _ hb; exact ⟨v, hres w, hR w hb⟩
 | cons D Ds ih =>
  intro w hn hD hb
  obtain ⟨h1, h2⟩ := hD D (List.mem_cons_self ..)
  refine ⟨by simp, .inl ⟨_, _, J, run_takeDeferred h2, ih _ (List.nodup_cons.1 hn).2 ?_ ?_⟩⟩
  ·intro D' hD'
   obtain ⟨h3, h4⟩ := hD D' (List.mem_cons_of_mem _ hD')
   refine ⟨h3, ?_⟩
   rw [World.putObj_heap_other (by rintro rfl; exact (List.nodup_cons.1 hn).1 hD')]
   exact h4
  ·refine ⟨hb.os, hb.tape, hb.output, ?_, fun b hb' => ?_⟩
   ·have := hb.size; simp; omega
   ·rw [World.putObj_heap_other (by omega)]
    exact hb.block b hb'
section
variable {P : Program} {fn : Func} {n : Nat} {G0 G : PH} {Post : Value → Prop} {w0 : World} {k : List It} {E : Env} {ι : Ids} {L : List Ent}
theorem S_retK {t : Nat} {s : Sym} {v : Value} (hw0 : Emb G0 w0) (hr : fn.results = #[.tmp t]) (hl : look t E = some s) (hv : denO ι s = some v) (hp : Post v) : X (KC P n fn G0 Post w0) (.code .ret :: k) E ι L G := by
 intro a w h1 h2 h3 h4
 refine wpE_ret (wpE_out k ?_)
 obtain ⟨Ds, d1, d2, d3⟩ := h1
 show LeavesInM _ _ _ _ _ _ a.defers .returning w
 rw [d2]
 refine leaveM (w0 := w0) (v := v) (fun w' => ?_) (fun w' hb => ?_) Ds w d1 (fun D hD => ⟨(d3 D hD).1, h4.emb _ _ (d3 D hD).2⟩) (h4.below fun _ h => h)
 ·obtain ⟨u, hu, ht⟩ := h3 t s hl
  rw [hv] at hu; cases hu
  rw [results_tmp hr]
  simp [Array.getD_eq_getD_getElem?, ht]
 ·refine ⟨v, G0, rfl, ⟨hp, rfl⟩, PH.ext.refl _ _, fun b o hbo => ?_, hb⟩
  have hlt : b < w0.heap.size := (Array.getElem?_eq_some_iff.1 (hw0 b o hbo)).1
  rw [hb.block b hlt]
  exact hw0 b o hbo
end
def deadHP : HP where
 holds _ _ := False
 loc _ _ _ h _ := h
 lt _ _ h := h.elim
theorem S_dead {C : Ctx} {k : List It} {E : Env} {ι : Ids} {L : List Ent} {G : PH} (κ : Nat) (hL : getH κ L = some deadHP) : X C k E ι L G := by
 intro a w h1 h2 h3 h4
 obtain ⟨S, hA, _⟩ := h4.turn hL
 exact hA.elim
end
section
section
variable {C : Ctx} {k : List It} {E : Env} {ι : Ids} {L : List Ent} {G : PH}
end
def cellsOf (B : Nat) (G : PH) : PH := fun b => if b < B then G b else match G b with
 | some (.cells c t f) => some (.cells c t f)
 | _ => none
section
variable {P : Program} {fn : Func} {n : Nat} {G0 G : PH} {Post : Value → PH → Prop} {w0 : World} {k : List It} {E : Env} {ι : Ids} {L : List Ent}
end
end
section
section
variable {P : Program} {fn : Func} {n : Nat} {G0 G : PH} {Post : Value → Prop} {w0 : World} {k : List It} {E : Env} {ι : Ids} {L : List Ent}
end
end
section
def PH.un (G H : PH) : PH := fun b => match G b with
 | some o => some o
 | none => H b
theorem PH.le_un (G H : PH) : G.le (G.un H) := fun b o h => by simp [PH.un, h]
def frzHP (H : PH) : HP where
 holds w S := (∀ b o, H b = some o → w.heap[b]? = some o) ∧ ∀ b, S b ↔ (H b).isSome = true
 loc w w' S h hs := ⟨fun b o hb => by rw [hs b ((h.2 b).2 (by simp [hb]))]; exact h.1 b o hb, h.2⟩
 lt w S h b hb := by
  have := (h.2 b).1 hb
  obtain ⟨o, ho⟩ := Option.isSome_iff_exists.1 this
  exact (Array.getElem?_eq_some_iff.1 (h.1 b o ho)).1
section
variable {C : Ctx} {k : List It} {E : Env} {ι : Ids} {L : List Ent} {G : PH}
theorem S_frH (κ : Nat) {H : PH} {L' : List Ent} (hL : getH κ L = some (frzHP H)) (hL' : delH κ L = some L') (hk : (∀ b o, H b = some o → C.S0 b ∨ C.w0.heap.size ≤ b) → (∀ b o, H b = some o → G b = none) → X C k E ι L' (G.un H)) : X C k E ι L G := by
 intro a w g1 g2 g3 g4
 obtain ⟨Ss, ho, hS⟩ := g4.own
 obtain ⟨S, Ss', hA, hm, ho', hT⟩ := owns_del ho hL hL'
 have hin : ∀ b o, H b = some o → S b := fun b o hb => (hA.2 b).2 (by simp [hb])
 refine hk (fun b o hb => (hS S hm b (hin b o hb)).2) (fun b o hb => (hS S hm b (hin b o hb)).1) a w (g1.mono (PH.le_un G H)) g2 g3 ⟨g4.os, g4.tape, g4.output, g4.size, g4.keep, fun b o hb => ?_, Ss', ho', fun T hT' b hb => ⟨?_, (hS T (hT T hT').1 b hb).2⟩⟩
 ·unfold PH.un at hb
  cases hg : G b with
  | some o' => rw [hg] at hb; cases hb; exact g4.emb b o hg
  | none => rw [hg] at hb; exact hA.1 b o hb
 ·have h0 := (hS T (hT T hT').1 b hb).1
  have h1 : ¬ S b := (hT T hT').2 b hb
  unfold PH.un
  rw [h0]
  cases hh : H b with
  | none => rfl
  | some o => exact absurd (hin b o hh) h1
theorem S_thaw (κ : Nat) {G0 : PH} (hms : C.ms = false) (hle : G0.le G) (hnew : ∀ b o, G b = some o → G0 b = none → C.S0 b ∨ C.w0.heap.size ≤ b) (hk : X C k E ι (.hp κ (frzHP (newp G0 G)) :: L) G0) : X C k E ι L G := by
 intro a w g1 g2 g3 g4
 obtain ⟨Ss, ho, hS⟩ := g4.own
 have hnp : ∀ b o, newp G0 G b = some o → G b = some o ∧ G0 b = none := by
  intro b o hb
  unfold newp at hb
  cases hq : G0 b with
  | none => rw [hq] at hb; exact ⟨hb, J⟩
  | some o' => rw [hq] at hb; cases hb
 refine hk a w (by rw [g1.eq hms]; exact DfsOk.nil) g2 g3 ⟨g4.os, g4.tape, g4.output, g4.size, g4.keep, fun b o hb => g4.emb b o (hle b o hb), (fun b => (newp G0 G b).isSome = true) :: Ss, ⟨⟨fun b o hb => g4.emb b o (hnp b o hb).1, fun b => Iff.rfl⟩, fun T hT b hb hb' => ?_, ho⟩, ?_⟩
 ·obtain ⟨o, ho'⟩ := Option.isSome_iff_exists.1 hb
  have := (hS T hT b hb').1
  rw [(hnp b o ho').1] at this
  cases this
 ·intro T hT b hb
  rcases List.mem_cons.1 hT with rfl | hT
  ·obtain ⟨o, ho'⟩ := Option.isSome_iff_exists.1 hb
   obtain ⟨h1, h2⟩ := hnp b o ho'
   exact ⟨h2, hnew b o h1 h2⟩
  ·obtain ⟨h1, h2⟩ := hS T hT b hb
   refine ⟨?_, h2⟩
   cases hq : G0 b with
   | none => rfl
   | some o => rw [hle b o hq] at h1; cases h1
end
section
variable {P : Program} {fn : Func} {n : Nat} {G0 G : PH} {Post : Value → Prop} {w0 : World} {k : List It} {E : Env} {ι : Ids} {L : List Ent}
end
theorem ext_un {B : Nat} {G H : PH} (hB : ∀ b o, H b = some o → B ≤ b) : PH.ext B G (G.un H) := ⟨PH.le_un G H, fun b o h1 h2 => by
 unfold PH.un at h1
 rw [h2] at h1
 exact hB b o h1⟩
section
variable {P : Program} {fn : Func} {n : Nat} {G0 G : PH} {Post : Value → PH → Prop} {w0 : World} {k : List It} {E : Env} {ι : Ids} {L : List Ent}
end
end
section
def wcell (H : PH) (a : Addr) : Option Value :=
 match H a.block with
 | some (.cells c _ f) => if f = (0, 0) ∧ a.spot = none then c[a.off]? else none
 | _ => none
theorem wcell_iff {H : PH} {a : Addr} {v : Value} : wcell H a = some v ↔ ∃ c t, H a.block = some (.cells c t (0, 0)) ∧ a.spot = none ∧ c[a.off]? = some v := by
 unfold wcell
 constructor
 ·intro h
  split at h
  ·rename_i c t f hb
   split at h
   ·rename_i hf
    obtain ⟨rfl, hs⟩ := hf
    exact ⟨c, t, hb, hs, h⟩
   ·cases h
  ·cases h
 ·rintro ⟨c, t, hb, hs, h⟩
  rw [hb]
  simp [hs, h]
theorem wcell_g {H : PH} {a : Addr} {v : Value} (h : wcell H a = some v) : gcell H a = some v := by
 obtain ⟨c, t, hb, hs, h⟩ := wcell_iff.1 h
 unfold gcell
 rw [hb]
 simp [hs, h]
theorem wcell_le {H H' : PH} (hl : H.le H') {a : Addr} {v : Value} (h : wcell H a = some v) : wcell H' a = some v := by
 obtain ⟨c, t, hb, hs, h⟩ := wcell_iff.1 h
 exact wcell_iff.2 ⟨c, t, hl _ _ hb, hs, h⟩
theorem wcell_some {H : PH} {a : Addr} {v : Value} (h : wcell H a = some v) : (H a.block).isSome = true := by
 obtain ⟨c, t, hb, hs, h⟩ := wcell_iff.1 h
 simp [hb]
inductive Shp where
 | int
 | sl (w : Nat) (cells : List Shp)
def ptrV : Value → Addr
 | .slice (some b) _ _ => b
 | _ => ⟨0, 0, none⟩
def ptrAt (H : PH) (a : Addr) : Addr := ((wcell H a).map ptrV).getD ⟨0, 0, none⟩
theorem ptrAt_eq {H : PH} {a : Addr} {v : Value} (h : wcell H a = some v) : ptrAt H a = ptrV v := by simp [ptrAt, h]
mutual
def Lies (H : PH) : Shp → Value → Prop
 | .int, v => ∃ n, v = .int .i64 n
 | .sl w cells, v => ∃ A n c, v = .slice A n c ∧ cells.length = n * w ∧ n ≤ 1000000000 ∧ n ≤ c ∧ c ≤ maxLen ∧ (n = 0 ∨ ∃ ad, A = some ad ∧ LiesR H cells ad)
def LiesR (H : PH) : List Shp → Addr → Prop
 | [], _ => True
 | s :: r, ad => (∃ v, wcell H ad = some v ∧ Lies H s v) ∧ LiesR H r (ad.add 1)
end
mutual
def adsC (H : PH) : Shp → Addr → List Addr
 | .int, ad => [ad]
 | .sl w cells, ad => adsR H cells (ptrAt H ad)
def adsR (H : PH) : List Shp → Addr → List Addr
 | [], _ => []
 | s :: r, ad => adsC H s ad ++ adsR H r (ad.add 1)
end
def adsV (H : PH) : Shp → Value → List Addr
 | .int, _ => []
 | .sl _ cells, v => adsR H cells (ptrV v)
mutual
def numC : Shp → Nat
 | .int => 1
 | .sl _ cells => numR cells
def numR : List Shp → Nat
 | [] => 0
 | s :: r => numC s + numR r
end
def numV : Shp → Nat
 | .int => 0
 | .sl _ cells => numR cells
mutual
theorem adsC_len (H : PH) : ∀ (s : Shp) (ad : Addr), (adsC H s ad).length = numC s
 | .int, ad => by simp [adsC, numC]
 | .sl w cells, ad => by simp only [adsC, numC]; exact adsR_len H cells _
theorem adsR_len (H : PH) : ∀ (r : List Shp) (ad : Addr), (adsR H r ad).length = numR r
 | [], ad => by simp [adsR, numR]
 | s :: r, ad => by simp only [adsR, numR, List.length_append, adsC_len H s, adsR_len H r]
end
theorem adsV_len (H : PH) (s : Shp) (v : Value) : (adsV H s v).length = numV s := by
 cases s
 ·rfl
 ·exact adsR_len H _ _
theorem adsR_append (H : PH) : ∀ (r s : List Shp) (ad : Addr), adsR H (r ++ s) ad = adsR H r ad ++ adsR H s (ad.add r.length)
 | [], s, ad => by simp [adsR, add_zero']
 | x :: r, s, ad => by
  simp only [List.cons_append, adsR, adsR_append H r s, List.append_assoc, List.length_cons, add_add']
  rw [Nat.add_comm 1]
theorem numR_append : ∀ (r s : List Shp), numR (r ++ s) = numR r + numR s
 | [], s => by simp [numR]
 | x :: r, s => by simp only [List.cons_append, numR, numR_append r s]; omega
theorem LiesR_append {H : PH} : ∀ {r s : List Shp} {ad : Addr}, LiesR H (r ++ s) ad ↔ LiesR H r ad ∧ LiesR H s (ad.add r.length)
 | [], s, ad => by simp [LiesR, add_zero']
 | x :: r, s, ad => by
  simp only [List.cons_append, LiesR, LiesR_append (r := r), List.length_cons, add_add', and_assoc]
  rw [Nat.add_comm 1]
def Tn (H H' : PH) : Prop := ∀ a v, wcell H a = some v → wcell H' a = some v ∨ ∃ n m, v = .int .i64 n ∧ wcell H' a = some (.int .i64 m)
theorem Tn.refl (H : PH) : Tn H H := fun a v h => .inl h
theorem Tn.of_le {H H' : PH} (h : H.le H') : Tn H H' := fun a v hv => .inl (wcell_le h hv)
theorem Tn.trans {H H1 H2 : PH} (h : Tn H H1) (h' : Tn H1 H2) : Tn H H2 := by
 intro a v hv
 rcases h a v hv with h1 | ⟨n, m, rfl, h1⟩
 ·exact h' a v h1
 ·rcases h' a _ h1 with h2 | ⟨n', m', e, h2⟩
  ·exact .inr ⟨n, m, J, h2⟩
  ·exact .inr ⟨n, m', J, h2⟩
theorem Tn.slice {H H' : PH} (h : Tn H H') {a : Addr} {A : Option Addr} {n c : Nat} (hv : wcell H a = some (.slice A n c)) : wcell H' a = some (.slice A n c) := by
 rcases h a _ hv with h1 | ⟨_, _, e, _⟩
 ·exact h1
 ·cases e
mutual
theorem Lies_tn {H H' : PH} (h : Tn H H') : ∀ (s : Shp) (v : Value), Lies H s v → Lies H' s v
 | .int, v, hv => by simpa [Lies] using hv
 | .sl w cells, v, hv => by
  simp only [Lies] at hv ⊢
  obtain ⟨A, n, c, e, h1, h2, h3, h4, h5⟩ := hv
  refine ⟨A, n, c, e, h1, h2, h3, h4, ?_⟩
  rcases h5 with h5 | ⟨ad, h5, h6⟩
  ·exact .inl h5
  ·exact .inr ⟨ad, h5, LiesR_tn h cells ad h6⟩
theorem LiesR_tn {H H' : PH} (h : Tn H H') : ∀ (r : List Shp) (ad : Addr), LiesR H r ad → LiesR H' r ad
 | [], ad, _ => by simp [LiesR]
 | .int :: r, ad, hr => by
  simp only [LiesR] at hr ⊢
  obtain ⟨⟨v, h1, h2⟩, h3⟩ := hr
  refine ⟨?_, LiesR_tn h r _ h3⟩
  rcases h ad v h1 with h4 | ⟨n, m, rfl, h4⟩
  ·exact ⟨v, h4, by simpa [Lies] using h2⟩
  ·exact ⟨_, h4, by simp only [Lies]; exact ⟨m, J⟩⟩
 | .sl w cells :: r, ad, hr => by
  simp only [LiesR] at hr ⊢
  obtain ⟨⟨v, h1, h2⟩, h3⟩ := hr
  have h2' := Lies_tn h (.sl w cells) v h2
  refine ⟨?_, LiesR_tn h r _ h3⟩
  obtain ⟨A, n, c, rfl, _⟩ := (show ∃ A n c, v = .slice A n c ∧ _ by simpa only [Lies] using h2)
  exact ⟨_, h.slice h1, h2'⟩
end
theorem ptrAt_tn {H H' : PH} (h : Tn H H') {a : Addr} {w : Nat} {cells : List Shp} {v : Value} (hv : wcell H a = some v) (hl : Lies H (.sl w cells) v) : ptrAt H' a = ptrAt H a := by
 obtain ⟨A, n, c, rfl, _⟩ := (show ∃ A n c, v = .slice A n c ∧ _ by simpa only [Lies] using hl)
 rw [ptrAt_eq hv, ptrAt_eq (h.slice hv)]
theorem Lies_sl {H : PH} {w : Nat} {cells : List Shp} {v : Value} (h : Lies H (.sl w cells) v) : ∃ A n c, v = .slice A n c ∧ cells.length = n * w ∧ n ≤ 1000000000 ∧ n ≤ c ∧ c ≤ maxLen ∧ LiesR H cells (ptrV v) := by
 simp only [Lies] at h
 obtain ⟨A, n, c, rfl, h1, h2, h3, h4, h5⟩ := h
 refine ⟨A, n, c, J, h1, h2, h3, h4, ?_⟩
 rcases h5 with rfl | ⟨ad, rfl, h6⟩
 ·have : cells = [] := List.eq_nil_of_length_eq_zero (by rw [h1]; simp)
  subst this
  simp [LiesR]
 ·exact h6
mutual
theorem adsC_tn {H H' : PH} (h : Tn H H') : ∀ (s : Shp) (ad : Addr) (v : Value), wcell H ad = some v → Lies H s v → adsC H' s ad = adsC H s ad
 | .int, ad, v, _, _ => by simp [adsC]
 | .sl w cells, ad, v, hv, hl => by
  simp only [adsC]
  rw [ptrAt_tn h hv hl]
  obtain ⟨A, n, c, rfl, _, _, _, _, h6⟩ := Lies_sl hl
  rw [ptrAt_eq hv]
  exact adsR_tn h cells _ h6
theorem adsR_tn {H H' : PH} (h : Tn H H') : ∀ (r : List Shp) (ad : Addr), LiesR H r ad → adsR H' r ad = adsR H r ad
 | [], ad, _ => by simp [adsR]
 | s :: r, ad, hr => by
  simp only [LiesR] at hr
  obtain ⟨⟨v, h1, h2⟩, h3⟩ := hr
  simp only [adsR]
  rw [adsC_tn h s ad v h1 h2, adsR_tn h r _ h3]
end
theorem adsV_tn {H H' : PH} (h : Tn H H') {s : Shp} {v : Value} (hl : Lies H s v) : adsV H' s v = adsV H s v := by
 cases s with
 | int => rfl
 | sl w cells =>
  obtain ⟨A, n, c, rfl, _, _, _, _, h6⟩ := Lies_sl hl
  exact adsR_tn h cells _ h6
def isInt (H : PH) (a : Addr) : Prop := ∃ n, wcell H a = some (.int .i64 n)
mutual
theorem adsC_int {H : PH} : ∀ (s : Shp) (ad : Addr) (v : Value), wcell H ad = some v → Lies H s v → ∀ a ∈ adsC H s ad, isInt H a
 | .int, ad, v, hv, hl, a, ha => by
  simp only [adsC, List.mem_singleton] at ha
  subst ha
  simp only [Lies] at hl
  obtain ⟨n, rfl⟩ := hl
  exact ⟨n, hv⟩
 | .sl w cells, ad, v, hv, hl, a, ha => by
  simp only [adsC] at ha
  rw [ptrAt_eq hv] at ha
  obtain ⟨A, n, c, rfl, _, _, _, _, h6⟩ := Lies_sl hl
  exact adsR_int cells _ h6 a ha
theorem adsR_int {H : PH} : ∀ (r : List Shp) (ad : Addr), LiesR H r ad → ∀ a ∈ adsR H r ad, isInt H a
 | [], ad, _, a, ha => by simp [adsR] at ha
 | s :: r, ad, hr, a, ha => by
  simp only [LiesR] at hr
  obtain ⟨⟨v, h1, h2⟩, h3⟩ := hr
  simp only [adsR, List.mem_append] at ha
  rcases ha with ha | ha
  ·exact adsC_int s ad v h1 h2 a ha
  ·exact adsR_int r _ h3 a ha
end
theorem adsV_int {H : PH} {s : Shp} {v : Value} (hl : Lies H s v) : ∀ a ∈ adsV H s v, isInt H a := by
 cases s with
 | int => intro a ha; cases ha
 | sl w cells =>
  obtain ⟨A, n, c, rfl, _, _, _, _, h6⟩ := Lies_sl hl
  exact adsR_int cells _ h6
def PH.setC (H : PH) (a : Addr) (v : Value) : PH := fun b => if b = a.block then (match H b with
 | some (.cells c t f) => some (.cells (c.setIfInBounds a.off v) t f)
 | o => o) else H b
theorem setC_at {H : PH} {a : Addr} {u v : Value} (h : wcell H a = some u) : wcell (H.setC a v) a = some v := by
 obtain ⟨c, t, hb, hs, h⟩ := wcell_iff.1 h
 have hlt := (Array.getElem?_eq_some_iff.1 h).1
 refine wcell_iff.2 ⟨c.setIfInBounds a.off v, t, ?_, hs, ?_⟩
 ·simp only [PH.setC, if_true, hb]
 ·simp [hlt]
theorem setC_ne {H : PH} {a b : Addr} {u x v : Value} (ha : wcell H a = some u) (h : wcell H b = some x) (hne : b ≠ a) : wcell (H.setC a v) b = some x := by
 obtain ⟨c, t, hb, hs, h⟩ := wcell_iff.1 h
 obtain ⟨c', t', hb', hs', h'⟩ := wcell_iff.1 ha
 by_cases e : b.block = a.block
 ·have ho : a.off ≠ b.off := fun e' => hne (by cases a; cases b; simp_all)
  refine wcell_iff.2 ⟨c.setIfInBounds a.off v, t, ?_, hs, ?_⟩
  ·unfold PH.setC; rw [if_pos e, hb]
  ·rw [Array.getElem?_setIfInBounds_ne ho]; exact h
 ·refine wcell_iff.2 ⟨c, t, ?_, hs, h⟩
  unfold PH.setC; rw [if_neg e]; exact hb
theorem setC_tn {H : PH} {a : Addr} {k : Int} (ha : isInt H a) : Tn H (H.setC a (.int .i64 k)) := by
 obtain ⟨n, h⟩ := ha
 intro b v hv
 by_cases e : b = a
 ·subst e
  rw [h] at hv; cases hv
  exact .inr ⟨n, k, J, setC_at h⟩
 ·exact .inl (setC_ne h hv e)
theorem setC_else {H : PH} {a : Addr} {v : Value} {b : Nat} (h : b ≠ a.block) : (H.setC a v) b = H b := by unfold PH.setC; rw [if_neg h]
theorem setC_some {H : PH} {a : Addr} {v : Value} {b : Nat} : ((H.setC a v) b).isSome = (H b).isSome := by
 unfold PH.setC
 split
 ·split
  ·rename_i h; rw [h]; rfl
  ·rfl
 ·rfl
def wr : PH → List Addr → Int → PH
 | H, [], _ => H
 | H, a :: qs, k => wr (H.setC a (.int .i64 k)) qs (k + 1)
theorem wr_append : ∀ (H : PH) (qs rs : List Addr) (k : Int), wr H (qs ++ rs) k = wr (wr H qs k) rs (k + qs.length)
 | H, [], rs, k => by simp [wr]
 | H, a :: qs, rs, k => by
  simp only [List.cons_append, wr, wr_append _ qs rs, List.length_cons]
  congr 1
  omega
theorem isInt_tn {H H' : PH} (h : Tn H H') {a : Addr} (ha : isInt H a) : isInt H' a := by
 obtain ⟨n, hn⟩ := ha
 rcases h a _ hn with h1 | ⟨_, m, _, h1⟩
 ·exact ⟨n, h1⟩
 ·exact ⟨m, h1⟩
theorem wr_tn : ∀ (qs : List Addr) (H : PH) (k : Int), (∀ a ∈ qs, isInt H a) → 0 ≤ k → k + qs.length ≤ 4611686018427387904 → Tn H (wr H qs k)
 | [], H, k, _, _, _ => Tn.refl H
 | a :: qs, H, k, h, h0, h1 => by
  simp only [List.length_cons] at h1
  have t1 := setC_tn (h a (List.mem_cons_self ..)) (k := k)
  exact t1.trans (wr_tn qs _ (k + 1) (fun b hb => isInt_tn t1 (h b (List.mem_cons_of_mem _ hb))) (by omega) (by omega))
theorem wr_out : ∀ (qs : List Addr) (H : PH) (k : Int) {b : Addr} {v : Value}, (∀ a ∈ qs, isInt H a) → 0 ≤ k → k + qs.length ≤ 4611686018427387904 → b ∉ qs → wcell H b = some v → wcell (wr H qs k) b = some v
 | [], H, k, b, v, _, _, _, _, hv => hv
 | a :: qs, H, k, b, v, h, h0, h1, hb, hv => by
  simp only [List.length_cons] at h1
  have t1 := setC_tn (h a (List.mem_cons_self ..)) (k := k)
  obtain ⟨n, ha⟩ := h a (List.mem_cons_self ..)
  exact wr_out qs _ (k + 1) (fun b hb => isInt_tn t1 (h b (List.mem_cons_of_mem _ hb))) (by omega) (by omega) (fun hm => hb (List.mem_cons_of_mem _ hm)) (setC_ne ha hv (fun e => hb (by rw [e]; exact List.mem_cons_self ..)))
theorem wr_at : ∀ (qs : List Addr) (H : PH) (k : Int), (∀ a ∈ qs, isInt H a) → 0 ≤ k → k + qs.length ≤ 4611686018427387904 → qs.Nodup → ∀ i (hi : i < qs.length), wcell (wr H qs k) qs[i] = some (.int .i64 (k + i))
 | a :: qs, H, k, h, h0, h1, hd, i, hi => by
  simp only [List.length_cons] at h1
  have t1 := setC_tn (h a (List.mem_cons_self ..)) (k := k)
  obtain ⟨n, ha⟩ := h a (List.mem_cons_self ..)
  have hn := (List.nodup_cons.1 hd)
  have hint : ∀ b ∈ qs, isInt (H.setC a (.int .i64 k)) b := fun b hb => isInt_tn t1 (h b (List.mem_cons_of_mem _ hb))
  cases i with
  | zero =>
   simp only [List.getElem_cons_zero, wr]
   rw [wr_out qs _ (k + 1) hint (by omega) (by omega) hn.1 (setC_at ha)]
   simp
  | succ i =>
   have hi' : i < qs.length := by simpa using hi
   have := wr_at qs _ (k + 1) hint (by omega) (by omega) hn.2 i hi'
   simp only [List.getElem_cons_succ, wr]
   rw [this]
   congr 2
   omega
theorem wr_else : ∀ (qs : List Addr) (H : PH) (k : Int) {b : Nat}, (∀ a ∈ qs, b ≠ a.block) → (wr H qs k) b = H b
 | [], H, k, b, _ => rfl
 | a :: qs, H, k, b, h => by
  simp only [wr]
  rw [wr_else qs _ _ fun x hx => h x (List.mem_cons_of_mem _ hx), setC_else (h a (List.mem_cons_self ..))]
theorem wr_some : ∀ (qs : List Addr) (H : PH) (k : Int) {b : Nat}, ((wr H qs k) b).isSome = (H b).isSome
 | [], H, k, b => rfl
 | a :: qs, H, k, b => by simp only [wr]; rw [wr_some qs, setC_some]
end
section
theorem V_loadH {C : Ctx} {ι : Ids} {E : Env} {L : List Ent} {G : PH} {d : Option Nat} {ty : Nat} {pos : String} {af : Array Edge} {g : Option (Nat × Bool)} {T : Tab} (hT : tabOk C.P T) (κ : Nat) {H : PH} {t : Nat} {i : TyI} {x : Operand} {v : Value} {ad : Addr}
  (hL : getH κ L = some (frzHP H)) (hx : ev E x = some (.val (.pointer (some ad)))) (ht : lookT t T = some i) (hk0 : i.k.isAgg = false) (hc : wcell H ad = some v) : Vl C ι E L G ⟨d, .load t x, ty, pos, af, g⟩ v := by
 intro a w hE hw
 obtain ⟨Ss, ho, _⟩ := hw.own
 obtain ⟨S, ⟨q1, q2⟩, _⟩ := owns_split ho hL
 have ex := ev_sound hE hx
 simp only [denO, Option.some.injEq] at ex
 have this : w.cell? ad = some v := gcell_emb (G := H) q1 (wcell_g hc)
 simp only [execOp, ← ex]
 simp [Instr.loadAt, loadVar, Instr.sureAddr, tyOk_agg (hT _ _ ht), hk0, this]
section
variable {C : Ctx} {k : List It} {E : Env} {ι : Ids} {L : List Ent} {G : PH} {all : Array Oper} {l : List Oper}
theorem S_storeH {T : Tab} (hT : tabOk C.P T) (κ : Nat) {H : PH} {t : Nat} {i : TyI} {x y : Operand} {s : Sym} {ty : Nat} {u v : Value} {L' : List Ent} {pos : String} {af : Array Edge} {g : Option (Nat × Bool)} {ad : Addr}
  (hL : getH κ L = some (frzHP H)) (hL' : setH κ (frzHP (H.setC ad v)) L = some L')
  (hx : ev E x = some (.val (.pointer (some ad)))) (hy : ev E y = some s) (hys : denO ι s = some v) (hone : v.oneCell' = true) (ht : lookT t T = some i) (hsz : i.size = 1) (hc : wcell H ad = some u) (hg : guardOf all E g = .on)
  (hk : X C (.ops all l :: k) E ι L' G) : X C (.ops all (⟨none, .store t x y, ty, pos, af, g⟩ :: l) :: k) E ι L G := by
 intro a w h1 h2 h3 h4
 obtain ⟨S, ⟨q1, q2⟩, hSG, hturn⟩ := h4.turn hL
 have ex := ev_sound h3 hx
 have ey := ev_sound h3 hy
 rw [hys] at ey
 simp only [denO, Option.some.injEq] at ex ey
 obtain ⟨cur, e, hb, hs, hcv⟩ := wcell_iff.1 hc
 obtain ⟨gb, o, sp⟩ := ad
 simp only at hs hb hcv
 subst hs
 have hlt := (Array.getElem?_eq_some_iff.1 hcv).1
 have q5 := q1 _ _ hb
 obtain ⟨w', hr, hh', hoth, e1, e2, e3, e4⟩ := run_storeCells_blk (P := C.P) (w := w) (b := gb) (o := o) (ty := e) (cs := cur.toList) (vs := [v]) (by simpa using q5) (by simp; omega) (by intro u hu; rw [List.mem_singleton.1 hu]; exact hone)
 have hrun : (execOp a.eval ⟨none, .store t x y, ty, pos, af, g⟩).run C.P w = .ok .skip w' := by
  have hcells : (a.eval y).cells = [v].toArray := by
   rw [← ey]; exact oneCell_of (P := C.P) hone
  simp only [execOp, ← ex]
  simp [Instr.storeAt, Instr.sureAddr, storeVar, tyOk_size (hT _ _ ht), hsz, hcells]
  rw [hr]
  try simp
 refine wpE_skipv (guardOf_on h3 hg) (by rintro c h; cases h) hrun ?_;refine hk _ _ h1 h2 h3 ?_
 have hSb : S gb := (q2 gb).2 (by rw [hb]; rfl)
 refine hturn _ _ G w' S hL' ?_ (fun b o' hbG => ?_) XR (fun b hb => ⟨hSG b hb, .inl hb⟩) e1 e2 e3 (by rw [e4]; exact Nat.le_refl _) fun b _ hn => hoth b fun h => hn (h ▸ hSb)
 ·refine ⟨fun b o' hbo => ?_, fun b => by rw [setC_some]; exact q2 b⟩
  by_cases eb : b = gb
  ·subst eb
   simp only [PH.setC, if_true, hb, Option.some.injEq] at hbo
   subst hbo
   rw [hh']
   congr 2
   rw [List.length_singleton, set_mid (by simpa using hlt)]
   apply Array.toList_inj.1
   simp
  ·rw [setC_else (by exact eb)] at hbo
   rw [hoth b eb]
   exact q1 b o' hbo
 ·rw [hoth b (by rintro rfl; have h9 := hSG _ hSb; rw [h9] at hbG; cases hbG)]
  exact h4.emb b o' hbG
end
mutual
def tcS : Stm → List Shp
 | .mk _ _ _ _ x y => [.int, .int, .int, .int, .sl 6 (tcT x), .sl 6 (tcT y)]
def tcT : List Stm → List Shp
 | [] => []
 | s :: r => tcS s ++ tcT r
end
def shT (L : List Stm) : Shp := .sl 6 (tcT L)
theorem tcS_len (s : Stm) : (tcS s).length = 6 := by cases s; simp [tcS]
theorem tcT_len : ∀ L : List Stm, (tcT L).length = L.length * 6
 | [] => rfl
 | s :: r => by simp only [tcT, List.length_append, tcS_len, tcT_len r, List.length_cons]; omega
theorem tcT_append : ∀ L M : List Stm, tcT (L ++ M) = tcT L ++ tcT M
 | [], M => by simp [tcT]
 | s :: r, M => by simp only [List.cons_append, tcT, tcT_append r M, List.append_assoc]
def tcI (n : Nat) : List Shp := List.replicate n .int
def shI (n : Nat) : Shp := .sl 1 (tcI n)
theorem numR_I (n : Nat) : numR (tcI n) = n := by
 induction n with
 | zero => rfl
 | succ n ih =>
  rw [show tcI (n + 1) = .int :: tcI n from rfl]
  simp only [numR, ih, numC]; omega
end
section
def WR (H : PH) (cells : List Shp) (ad : Addr) (k : Int) (m : Nat) : PH := wr H (adsR H (cells.take m) ad) k
def KR (k : Int) (cells : List Shp) (m : Nat) : Int := k + numR (cells.take m)
theorem WR_zero (H : PH) (cells : List Shp) (ad : Addr) (k : Int) : WR H cells ad k 0 = H := by simp [WR, adsR, wr]
theorem KR_zero (k : Int) (cells : List Shp) : KR k cells 0 = k := by simp [KR, numR]
theorem WR_all {H : PH} {cells : List Shp} {ad : Addr} {k : Int} {m : Nat} (h : cells.length ≤ m) : WR H cells ad k m = wr H (adsR H cells ad) k := by rw [WR, List.take_of_length_le h]
theorem KR_all {k : Int} {cells : List Shp} {m : Nat} (h : cells.length ≤ m) : KR k cells m = k + numR cells := by rw [KR, List.take_of_length_le h]
theorem take_cell {cells : List Shp} {m : Nat} {c : Shp} (h : cells[m]? = some c) : cells.take (m + 1) = cells.take m ++ [c] ∧ cells = cells.take m ++ c :: cells.drop (m + 1) ∧ (cells.take m).length = m := by
 obtain ⟨hm, rfl⟩ := List.getElem?_eq_some_iff.1 h
 refine ⟨List.take_succ_eq_append_getElem hm, ?_, by simp; omega⟩
 conv => lhs; rw [← List.take_append_drop m cells, List.drop_eq_getElem_cons hm]
theorem WR_succ {H : PH} {cells : List Shp} {ad : Addr} {k : Int} {m : Nat} {c : Shp} (h : cells[m]? = some c) : WR H cells ad k (m + 1) = wr (WR H cells ad k m) (adsC H c (ad.add m)) (KR k cells m) := by
 obtain ⟨h1, _, h3⟩ := take_cell h
 unfold WR KR
 rw [h1, adsR_append, wr_append, h3, adsR_len]
 simp [adsR]
theorem KR_succ {k : Int} {cells : List Shp} {m : Nat} {c : Shp} (h : cells[m]? = some c) : KR k cells (m + 1) = KR k cells m + numC c := by
 obtain ⟨h1, _, h3⟩ := take_cell h
 unfold KR
 rw [h1, numR_append]
 simp [numR]
 omega
theorem numR_take (cells : List Shp) (m : Nat) : numR (cells.take m) ≤ numR cells := by
 conv => rhs; rw [← List.take_append_drop m cells, numR_append]
 omega
structure MkC (H : PH) (cells : List Shp) (ad : Addr) (k : Int) : Prop where
 lies : LiesR H cells ad
 k0 : 0 ≤ k
 kb : k + numR cells ≤ 1152921504606846976
theorem MkC.tn {H : PH} {cells : List Shp} {ad : Addr} {k : Int} (h : MkC H cells ad k) (m : Nat) : Tn H (WR H cells ad k m) := by
 have hb := h.kb
 have h0 := h.k0
 have ht := numR_take cells m
 refine wr_tn _ _ _ (fun a ha => ?_) h0 (by rw [adsR_len]; omega)
 have hl : LiesR H (cells.take m ++ cells.drop m) ad := by rw [List.take_append_drop]; exact h.lies
 exact adsR_int _ _ (LiesR_append.1 hl).1 a ha
theorem MkC.bnd {H : PH} {cells : List Shp} {ad : Addr} {k : Int} (h : MkC H cells ad k) (m : Nat) : 0 ≤ KR k cells m ∧ KR k cells m ≤ 1152921504606846976 := by
 have hb := h.kb
 have h0 := h.k0
 have ht := numR_take cells m
 unfold KR
 omega
theorem MkC.at {H : PH} {cells : List Shp} {ad : Addr} {k : Int} (h : MkC H cells ad k) {m : Nat} {c : Shp} (hm : cells[m]? = some c) : ∃ v, wcell H (ad.add m) = some v ∧ Lies H c v := by
 obtain ⟨_, h2, h3⟩ := take_cell hm
 have hl := h.lies
 rw [h2] at hl
 have := (LiesR_append.1 hl).2
 rw [h3] at this
 simp only [LiesR] at this
 exact this.1
theorem MkC.int {H : PH} {cells : List Shp} {ad : Addr} {k : Int} (h : MkC H cells ad k) (m : Nat) (a : Addr) (ha : a = ad.add m) (hm : cells[m]? = some .int) :
  (∃ u, wcell (WR H cells ad k m) a = some u) ∧ (WR H cells ad k m).setC a (.int .i64 (KR k cells m)) = WR H cells ad k (m + 1) ∧ KR k cells m + 1 = KR k cells (m + 1) ∧ 0 ≤ KR k cells m ∧ KR k cells m ≤ 1152921504606846976 := by
 subst ha
 obtain ⟨v, h1, h2⟩ := h.at hm
 refine ⟨?_, ?_, ?_, (h.bnd m).1, (h.bnd m).2⟩
 ·rcases h.tn m _ _ h1 with h3 | ⟨_, u, _, h3⟩
  ·exact ⟨_, h3⟩
  ·exact ⟨_, h3⟩
 ·rw [WR_succ hm]; simp [adsC, wr]
 ·rw [KR_succ hm]; simp [numC]
theorem MkC.sl {H : PH} {cells : List Shp} {ad : Addr} {k : Int} (h : MkC H cells ad k) (m : Nat) (a : Addr) (ha : a = ad.add m) {w : Nat} {cs : List Shp} (hm : cells[m]? = some (.sl w cs)) :
  ∃ v, wcell (WR H cells ad k m) a = some v ∧ Lies (WR H cells ad k m) (.sl w cs) v ∧ wr (WR H cells ad k m) (adsV (WR H cells ad k m) (.sl w cs) v) (KR k cells m) = WR H cells ad k (m + 1) ∧ KR k cells m + numV (.sl w cs) = KR k cells (m + 1) ∧ 0 ≤ KR k cells m ∧ KR k cells m + numV (.sl w cs) ≤ 1152921504606846976 := by
 subst ha
 obtain ⟨v, h1, h2⟩ := h.at hm
 have hs := KR_succ (k := k) hm
 have hb := h.bnd (m + 1)
 obtain ⟨A, n, c, rfl, _⟩ := Lies_sl h2
 refine ⟨_, (h.tn m).slice h1, Lies_tn (h.tn m) _ _ h2, ?_, by rw [hs]; rfl, (h.bnd m).1, by rw [hs] at hb; exact hb.2⟩
 rw [WR_succ hm, adsV_tn (h.tn m) h2]
 congr 1
 simp only [adsC, adsV]
 rw [ptrAt_eq h1]
theorem MkC.slc {H : PH} {cells : List Shp} {ad : Addr} {k : Int} (h : MkC H cells ad k) (m : Nat) (a : Addr) (ha : a = ad.add m) (c : Shp) (hc : ∃ w cs, c = .sl w cs) (hm : cells[m]? = some c) :
  ∃ v, wcell (WR H cells ad k m) a = some v ∧ Lies (WR H cells ad k m) c v ∧ wr (WR H cells ad k m) (adsV (WR H cells ad k m) c v) (KR k cells m) = WR H cells ad k (m + 1) ∧ KR k cells m + numV c = KR k cells (m + 1) ∧ 0 ≤ KR k cells m ∧ KR k cells m + numV c ≤ 1152921504606846976 := by
 obtain ⟨w, cs, rfl⟩ := hc
 exact h.sl m a ha hm
theorem Lies_slA {H : PH} {w : Nat} {cells : List Shp} {v : Value} (h : Lies H (.sl w cells) v) : ∃ A n c, v = .slice A n c ∧ cells.length = n * w ∧ n ≤ 1000000000 ∧ n ≤ c ∧ c ≤ maxLen ∧ (0 < n → ∃ ad, A = some ad) ∧ LiesR H cells (ptrV v) := by
 obtain ⟨A, n, c, rfl, h1, h2, h3, h4, h5⟩ := Lies_sl h
 refine ⟨A, n, c, rfl, h1, h2, h3, h4, fun hn => ?_, h5⟩
 simp only [Lies] at h
 obtain ⟨A', n', c', e, _, _, _, _, h6⟩ := h
 cases e
 rcases h6 with h6 | ⟨ad, h6, _⟩
 ·omega
 ·exact ⟨ad, h6⟩
theorem tcT_at : ∀ (L : List Stm) (i j : Nat) (hi : i < L.length), j < 6 → (tcT L)[i * 6 + j]? = (tcS L[i])[j]?
 | s :: L, 0, j, _, hj => by
  simp only [tcT, List.getElem_cons_zero]
  rw [List.getElem?_append_left (by rw [tcS_len]; omega)]
  simp
 | s :: L, i + 1, j, hi, hj => by
  simp only [tcT, List.getElem_cons_succ]
  rw [List.getElem?_append_right (by rw [tcS_len]; omega), tcS_len, ← tcT_at L i j (by simpa using hi) hj]
  congr 1
  omega
theorem tcT_int {L : List Stm} {i : Nat} (hi : i < L.length) (j : Nat) (hj : j < 4) : (tcT L)[i * 6 + j]? = some .int := by
 rw [tcT_at L i j hi (by omega)]
 cases L[i]
 match j, hj with
 | 0, _ => rfl
 | 1, _ => rfl
 | 2, _ => rfl
 | 3, _ => rfl
theorem tcT_b {L : List Stm} {i : Nat} (hi : i < L.length) : (tcT L)[i * 6 + 4]? = some (shT L[i].body) := by
 rw [tcT_at L i 4 hi (by omega)]
 cases L[i]; rfl
theorem tcT_e {L : List Stm} {i : Nat} (hi : i < L.length) : (tcT L)[i * 6 + 5]? = some (shT L[i].els) := by
 rw [tcT_at L i 5 hi (by omega)]
 cases L[i]; rfl
theorem tcI_at {n i : Nat} (h : i < n) : (tcI n)[i]? = some .int := by unfold tcI; simp [h]
theorem tcI_len (n : Nat) : (tcI n).length = n := by simp [tcI]
def MkP (f : Nat) (s : Shp) : Prop := ∀ (H : PH) (v : Value) (k : Int) (G : PH), Lies H s v → 0 ≤ k → k + numV s ≤ 1152921504606846976 →
 Mod Tryz.prog f [v, .int .i64 k] G (frzHP H) fun v' G' A' => v' = .int .i64 (k + numV s) ∧ G' = G ∧ A' = frzHP (wr H (adsV H s v) k)
end
section
attribute [local irreducible] X Pure Mod
theorem c_markIntS (n : Nat) : MkP 13 (shI n) := by
 intro H v k G hl h0 hb
 obtain ⟨A, n', c, rfl, hlen, hn, hnc, hcm, hA, hR⟩ := Lies_slA hl
 obtain rfl : n = n' := by rw [tcI_len] at hlen; omega
 have hM : MkC H (tcI n) (ptrV (.slice A (n) c)) k := ⟨hR, h0, hb⟩
 have hce : (tcI n).length ≤ n * 1 := Nat.le_of_eq hlen
 show Mod _ _ _ _ _ fun v' G' A' => v' = .int .i64 (k + numR (tcI n)) ∧ G' = G ∧ A' = frzHP (wr H (adsR H (tcI n) (ptrV (.slice A (n) c))) k)
 generalize hp : ptrV (.slice A (n) c) = ad at hM
 refine Mod.intro Tryz.func13 Tryz.ntmps13 J J fun w S => ?_;refine Va J J ?_;refine S_loop (α := Nat) (fun i => i ≤ n) (fun i => n - i) [] (fun i => [(5, .val (.int .i64 (i : Nat))), (1, .val (.int .i64 (KR k (tcI n) (i * 1)))), (0, .val (.slice A (n) c))])
  (fun i => [.hp 1 (frzHP (WR H (tcI n) ad k (i * 1)))]) (fun _ => G) 0 (Nat.zero_le _) rfl ⟨⟨_, rfl, rfl⟩, ⟨_, rfl, by rw [Nat.zero_mul, KR_zero]⟩, ⟨_, rfl, rfl⟩, trivial⟩ (by rw [Nat.zero_mul, WR_zero]; exact .hp .nil) ?_
 intro i hi
 refine Va J J ?_
 refine S_condp J (fun h5 => ?_) (fun h5 => ?_) <;> refine Va J J ?_
 ·have hil : i < n := by omega
  obtain ⟨ad', rfl⟩ := hA (by omega)
  obtain rfl : ad' = ad := hp
  obtain ⟨⟨u_, hu_⟩, hset_, hnum_, hk0_, hkb_⟩ := hM.int (i * 1) (ad'.add (((i : Nat) : Int).toNat * 1)) (by simp [add_add', add_zero']) (tcI_at (by omega))
  refine S_index Tk J J J J J J (by omega) (by omega) ?_;refine Va J J ?_;refine S_storeH Tk 1 J J J J J J J J hu_ J ?_
  rw [hset_]
  refine Va J J ?_;refine S_add J J J J (by omega) ?_
  rw [hnum_]
  clear hu_ hset_ hnum_ hk0_ hkb_ u_
  refine Va J J ?_;refine S_add J J J J (by omega) ?_;refine Va J J ?_;refine S_again (i + 1) (by omega) (by omega) J ⟨⟨_, J, by simp [denO]⟩, ⟨_, J, by rw [show i * 1 + 1 = (i + 1) * 1 by omega]⟩, ⟨_, J, J⟩, trivial⟩ ?_
  rw [show i * 1 + 1 = (i + 1) * 1 by omega]
  exact .hp .nil
 ·have e0 : i = n := by omega
  subst e0
  exact S_retm 1 (Res.t1 Tryz.results13 J J) J XR ⟨by rw [KR_all hce], J, by rw [WR_all hce]⟩
def shII (ns : List Nat) : Shp := .sl 1 (ns.map shI)
def shY (n : Nat) : Shp := .sl 2 (tcI (n * 2))
theorem c_markIntSS (ns : List Nat) : MkP 36 (shII ns) := by
 intro H v k G hl h0 hb
 obtain ⟨A, n', c, rfl, hlen, hn, hnc, hcm, hA, hR⟩ := Lies_slA hl
 obtain rfl : ns.length = n' := by rw [List.length_map] at hlen; omega
 have hM : MkC H (ns.map shI) (ptrV (.slice A (ns.length) c)) k := ⟨hR, h0, hb⟩
 have hce : (ns.map shI).length ≤ ns.length * 1 := Nat.le_of_eq hlen
 show Mod _ _ _ _ _ fun v' G' A' => v' = .int .i64 (k + numR (ns.map shI)) ∧ G' = G ∧ A' = frzHP (wr H (adsR H (ns.map shI) (ptrV (.slice A (ns.length) c))) k)
 generalize hp : ptrV (.slice A (ns.length) c) = ad at hM
 refine Mod.intro Tryz.func36 Tryz.ntmps36 J J fun w S => ?_;refine Va J J ?_;refine S_loop (α := Nat) (fun i => i ≤ ns.length) (fun i => ns.length - i) [] (fun i => [(5, .val (.int .i64 (i : Nat))), (1, .val (.int .i64 (KR k (ns.map shI) (i * 1)))), (0, .val (.slice A (ns.length) c))])
  (fun i => [.hp 1 (frzHP (WR H (ns.map shI) ad k (i * 1)))]) (fun _ => G) 0 (Nat.zero_le _) rfl ⟨⟨_, rfl, rfl⟩, ⟨_, rfl, by rw [Nat.zero_mul, KR_zero]⟩, ⟨_, rfl, rfl⟩, trivial⟩ (by rw [Nat.zero_mul, WR_zero]; exact .hp .nil) ?_
 intro i hi
 refine Va J J ?_
 refine S_condp J (fun h5 => ?_) (fun h5 => ?_) <;> refine Va J J ?_
 ·have hil : i < ns.length := by omega
  obtain ⟨ad', rfl⟩ := hA (by omega)
  obtain rfl : ad' = ad := hp
  obtain ⟨v_, hw_, hl_, hset_, hnum_, hk0_, hkb_⟩ := hM.slc (i * 1) (ad'.add (((i : Nat) : Int).toNat * 1)) (by simp [add_add', add_zero']) (shI ns[i]) ⟨_, _, rfl⟩ ((by rw [Nat.mul_one, List.getElem?_map, List.getElem?_eq_getElem hil]; rfl))
  obtain ⟨A_, n_, c_, rfl, _⟩ := Lies_sl hl_
  refine S_index Tk J J J J J J (by omega) (by omega) ?_;refine Va J J ?_;refine S_valV J J J (V_loadH Tk 1 J J J J hw_) ?_;refine Va J J ?_;refine S_callM 1 Tryz.call13 (c_markIntS ns[i] _ _ _ _ hl_ hk0_ hkb_) J J J J (fun _ => J) ?_;rintro v1_ G1_ A1_ ⟨rfl, rfl, rfl⟩ _
  rw [hset_, hnum_]
  clear hw_ hl_ hset_ hnum_ hk0_ hkb_
  refine Va J J ?_;refine S_add J J J J (by omega) ?_;refine Va J J ?_;refine S_again (i + 1) (by omega) (by omega) J ⟨⟨_, J, by simp [denO]⟩, ⟨_, J, by rw [show i * 1 + 1 = (i + 1) * 1 by omega]⟩, ⟨_, J, J⟩, trivial⟩ ?_
  rw [show i * 1 + 1 = (i + 1) * 1 by omega]
  exact .hp .nil
 ·have e0 : i = ns.length := by omega
  subst e0
  exact S_retm 1 (Res.t1 Tryz.results36 J J) J XR ⟨by rw [KR_all hce], J, by rw [WR_all hce]⟩
theorem c_markSayS (n : Nat) : MkP 37 (shY n) := by
 intro H v k G hl h0 hb
 obtain ⟨A, n', c, rfl, hlen, hn, hnc, hcm, hA, hR⟩ := Lies_slA hl
 obtain rfl : n = n' := by rw [tcI_len] at hlen; omega
 have hM : MkC H (tcI (n * 2)) (ptrV (.slice A (n) c)) k := ⟨hR, h0, hb⟩
 have hce : (tcI (n * 2)).length ≤ n * 2 := Nat.le_of_eq hlen
 show Mod _ _ _ _ _ fun v' G' A' => v' = .int .i64 (k + numR (tcI (n * 2))) ∧ G' = G ∧ A' = frzHP (wr H (adsR H (tcI (n * 2)) (ptrV (.slice A (n) c))) k)
 generalize hp : ptrV (.slice A (n) c) = ad at hM
 refine Mod.intro Tryz.func37 Tryz.ntmps37 J J fun w S => ?_;refine Va J J ?_;refine S_loop (α := Nat) (fun i => i ≤ n) (fun i => n - i) [] (fun i => [(5, .val (.int .i64 (i : Nat))), (1, .val (.int .i64 (KR k (tcI (n * 2)) (i * 2)))), (0, .val (.slice A (n) c))])
  (fun i => [.hp 1 (frzHP (WR H (tcI (n * 2)) ad k (i * 2)))]) (fun _ => G) 0 (Nat.zero_le _) rfl ⟨⟨_, rfl, rfl⟩, ⟨_, rfl, by rw [Nat.zero_mul, KR_zero]⟩, ⟨_, rfl, rfl⟩, trivial⟩ (by rw [Nat.zero_mul, WR_zero]; exact .hp .nil) ?_
 intro i hi
 refine Va J J ?_
 refine S_condp J (fun h5 => ?_) (fun h5 => ?_) <;> refine Va J J ?_
 ·have hil : i < n := by omega
  obtain ⟨ad', rfl⟩ := hA (by omega)
  obtain rfl : ad' = ad := hp
  obtain ⟨⟨u_, hu_⟩, hset_, hnum_, hk0_, hkb_⟩ := hM.int (i * 2) ((ad'.add (((i : Nat) : Int).toNat * 2)).add 0) (by simp [add_add', add_zero']) (tcI_at (by omega))
  refine S_index Tk J J J J J J (by omega) (by omega) ?_;refine Va J J ?_;refine S_storeH Tk 1 J J J J J J J J hu_ J ?_
  rw [hset_]
  refine Va J J ?_;refine S_add J J J J (by omega) ?_
  rw [hnum_]
  clear hu_ hset_ hnum_ hk0_ hkb_ u_
  refine Va J J ?_;obtain ⟨⟨u_, hu_⟩, hset_, hnum_, hk0_, hkb_⟩ := hM.int (i * 2 + 1) ((ad'.add (((i : Nat) : Int).toNat * 2)).add 1) (by simp [add_add', add_zero']) (tcI_at (by omega))
  refine S_index Tk J J J J J J (by omega) (by omega) ?_;refine Va J J ?_;refine S_storeH Tk 1 J J J J J J J J hu_ J ?_
  rw [hset_]
  refine Va J J ?_;refine S_add J J J J (by omega) ?_
  rw [hnum_]
  clear hu_ hset_ hnum_ hk0_ hkb_ u_
  refine Va J J ?_;refine S_add J J J J (by omega) ?_;refine Va J J ?_;refine S_again (i + 1) (by omega) (by omega) J ⟨⟨_, J, by simp [denO]⟩, ⟨_, J, by rw [show i * 2 + 1 + 1 = (i + 1) * 2 by omega]⟩, ⟨_, J, J⟩, trivial⟩ ?_
  rw [show i * 2 + 1 + 1 = (i + 1) * 2 by omega]
  exact .hp .nil
 ·have e0 : i = n := by omega
  subst e0
  exact S_retm 1 (Res.t1 Tryz.results37 J J) J XR ⟨by rw [KR_all hce], J, by rw [WR_all hce]⟩
theorem c_markStmtS_of (L : List Stm) (hx : ∀ i (hi : i < L.length), MkP 34 (shT L[i].body) ∧ MkP 34 (shT L[i].els)) : MkP 34 (shT L) := by
 intro H v k G hl h0 hb
 obtain ⟨A, n', c, rfl, hlen, hn, hnc, hcm, hA, hR⟩ := Lies_slA hl
 obtain rfl : L.length = n' := by rw [tcT_len] at hlen; omega
 have hM : MkC H (tcT L) (ptrV (.slice A (L.length) c)) k := ⟨hR, h0, hb⟩
 have hce : (tcT L).length ≤ L.length * 6 := Nat.le_of_eq hlen
 show Mod _ _ _ _ _ fun v' G' A' => v' = .int .i64 (k + numR (tcT L)) ∧ G' = G ∧ A' = frzHP (wr H (adsR H (tcT L) (ptrV (.slice A (L.length) c))) k)
 generalize hp : ptrV (.slice A (L.length) c) = ad at hM
 refine Mod.intro Tryz.func34 Tryz.ntmps34 J J fun w S => ?_;refine Va J J ?_;refine S_loop (α := Nat) (fun i => i ≤ L.length) (fun i => L.length - i) [] (fun i => [(5, .val (.int .i64 (i : Nat))), (1, .val (.int .i64 (KR k (tcT L) (i * 6)))), (0, .val (.slice A (L.length) c))])
  (fun i => [.hp 1 (frzHP (WR H (tcT L) ad k (i * 6)))]) (fun _ => G) 0 (Nat.zero_le _) rfl ⟨⟨_, rfl, rfl⟩, ⟨_, rfl, by rw [Nat.zero_mul, KR_zero]⟩, ⟨_, rfl, rfl⟩, trivial⟩ (by rw [Nat.zero_mul, WR_zero]; exact .hp .nil) ?_
 intro i hi
 refine Va J J ?_
 refine S_condp J (fun h5 => ?_) (fun h5 => ?_) <;> refine Va J J ?_
 ·have hil : i < L.length := by omega
  obtain ⟨ad', rfl⟩ := hA (by omega)
  obtain rfl : ad' = ad := hp
  obtain ⟨⟨u_, hu_⟩, hset_, hnum_, hk0_, hkb_⟩ := hM.int (i * 6) ((ad'.add (((i : Nat) : Int).toNat * 6)).add 0) (by simp [add_add', add_zero']) (tcT_int hil 0 (by omega))
  refine S_index Tk J J J J J J (by omega) (by omega) ?_;refine Va J J ?_;refine S_storeH Tk 1 J J J J J J J J hu_ J ?_
  rw [hset_]
  refine Va J J ?_;refine S_add J J J J (by omega) ?_
  rw [hnum_]
  clear hu_ hset_ hnum_ hk0_ hkb_ u_
  refine Va J J ?_;obtain ⟨⟨u_, hu_⟩, hset_, hnum_, hk0_, hkb_⟩ := hM.int (i * 6 + 1) ((ad'.add (((i : Nat) : Int).toNat * 6)).add 1) (by simp [add_add', add_zero']) (tcT_int hil 1 (by omega))
  refine S_index Tk J J J J J J (by omega) (by omega) ?_;refine Va J J ?_;refine S_storeH Tk 1 J J J J J J J J hu_ J ?_
  rw [hset_]
  refine Va J J ?_;refine S_add J J J J (by omega) ?_
  rw [hnum_]
  clear hu_ hset_ hnum_ hk0_ hkb_ u_
  refine Va J J ?_;obtain ⟨⟨u_, hu_⟩, hset_, hnum_, hk0_, hkb_⟩ := hM.int (i * 6 + 1 + 1) ((ad'.add (((i : Nat) : Int).toNat * 6)).add 2) (by simp [add_add', add_zero']) (tcT_int hil 2 (by omega))
  refine S_index Tk J J J J J J (by omega) (by omega) ?_;refine Va J J ?_;refine S_storeH Tk 1 J J J J J J J J hu_ J ?_
  rw [hset_]
  refine Va J J ?_;refine S_add J J J J (by omega) ?_
  rw [hnum_]
  clear hu_ hset_ hnum_ hk0_ hkb_ u_
  refine Va J J ?_;obtain ⟨⟨u_, hu_⟩, hset_, hnum_, hk0_, hkb_⟩ := hM.int (i * 6 + 1 + 1 + 1) ((ad'.add (((i : Nat) : Int).toNat * 6)).add 3) (by simp [add_add', add_zero']) (tcT_int hil 3 (by omega))
  refine S_index Tk J J J J J J (by omega) (by omega) ?_;refine Va J J ?_;refine S_storeH Tk 1 J J J J J J J J hu_ J ?_
  rw [hset_]
  refine Va J J ?_;refine S_add J J J J (by omega) ?_
  rw [hnum_]
  clear hu_ hset_ hnum_ hk0_ hkb_ u_
  refine Va J J ?_;obtain ⟨v_, hw_, hl_, hset_, hnum_, hk0_, hkb_⟩ := hM.slc (i * 6 + 1 + 1 + 1 + 1) ((ad'.add (((i : Nat) : Int).toNat * 6)).add 4) (by simp [add_add', add_zero']) (shT L[i].body) ⟨_, _, rfl⟩ (tcT_b hil)
  obtain ⟨A_, n_, c_, rfl, _⟩ := Lies_sl hl_
  refine S_index Tk J J J J J J (by omega) (by omega) ?_;refine Va J J ?_;refine S_valV J J J (V_loadH Tk 1 J J J J hw_) ?_;refine Va J J ?_;refine S_callM 1 Tryz.call34 ((hx i hil).1 _ _ _ _ hl_ hk0_ hkb_) J J J J (fun _ => J) ?_;rintro v1_ G1_ A1_ ⟨rfl, rfl, rfl⟩ _
  rw [hset_, hnum_]
  clear hw_ hl_ hset_ hnum_ hk0_ hkb_
  refine Va J J ?_;obtain ⟨v_, hw_, hl_, hset_, hnum_, hk0_, hkb_⟩ := hM.slc (i * 6 + 1 + 1 + 1 + 1 + 1) ((ad'.add (((i : Nat) : Int).toNat * 6)).add 5) (by simp [add_add', add_zero']) (shT L[i].els) ⟨_, _, rfl⟩ (tcT_e hil)
  obtain ⟨A_, n_, c_, rfl, _⟩ := Lies_sl hl_
  refine S_index Tk J J J J J J (by omega) (by omega) ?_;refine Va J J ?_;refine S_valV J J J (V_loadH Tk 1 J J J J hw_) ?_;refine Va J J ?_;refine S_callM 1 Tryz.call34 ((hx i hil).2 _ _ _ _ hl_ hk0_ hkb_) J J J J (fun _ => J) ?_;rintro v1_ G1_ A1_ ⟨rfl, rfl, rfl⟩ _
  rw [hset_, hnum_]
  clear hw_ hl_ hset_ hnum_ hk0_ hkb_
  refine Va J J ?_;refine S_add J J J J (by omega) ?_;refine Va J J ?_;refine S_again (i + 1) (by omega) (by omega) J ⟨⟨_, J, by simp [denO]⟩, ⟨_, J, by rw [show i * 6 + 1 + 1 + 1 + 1 + 1 + 1 = (i + 1) * 6 by omega]⟩, ⟨_, J, J⟩, trivial⟩ ?_
  rw [show i * 6 + 1 + 1 + 1 + 1 + 1 + 1 = (i + 1) * 6 by omega]
  exact .hp .nil
 ·have e0 : i = L.length := by omega
  subst e0
  exact S_retm 1 (Res.t1 Tryz.results34 J J) J XR ⟨by rw [KR_all hce], J, by rw [WR_all hce]⟩
mutual
theorem MkT_stm : ∀ (s : Stm), MkP 34 (shT s.body) ∧ MkP 34 (shT s.els)
 | .mk k a b n x y => ⟨c_markStmtS x, c_markStmtS y⟩
theorem MkT_at : ∀ (L : List Stm) (k : Nat) (hk : k < L.length), MkP 34 (shT L[k].body) ∧ MkP 34 (shT L[k].els)
 | [], k, hk => absurd hk (by simp)
 | s :: L, 0, _ => MkT_stm s
 | s :: L, k + 1, hk => MkT_at L k (by simpa using hk)
theorem c_markStmtS : ∀ (L : List Stm), MkP 34 (shT L)
 | L => c_markStmtS_of L (MkT_at L)
end
def shTT (p : List (List Stm)) : Shp := .sl 1 (p.map shT)
theorem c_markStmtSS (p : List (List Stm)) : MkP 12 (shTT p) := by
 intro H v k G hl h0 hb
 obtain ⟨A, n', c, rfl, hlen, hn, hnc, hcm, hA, hR⟩ := Lies_slA hl
 obtain rfl : p.length = n' := by rw [List.length_map] at hlen; omega
 have hM : MkC H (p.map shT) (ptrV (.slice A (p.length) c)) k := ⟨hR, h0, hb⟩
 have hce : (p.map shT).length ≤ p.length * 1 := Nat.le_of_eq hlen
 show Mod _ _ _ _ _ fun v' G' A' => v' = .int .i64 (k + numR (p.map shT)) ∧ G' = G ∧ A' = frzHP (wr H (adsR H (p.map shT) (ptrV (.slice A (p.length) c))) k)
 generalize hp : ptrV (.slice A (p.length) c) = ad at hM
 refine Mod.intro Tryz.func12 Tryz.ntmps12 J J fun w S => ?_;refine Va J J ?_;refine S_loop (α := Nat) (fun i => i ≤ p.length) (fun i => p.length - i) [] (fun i => [(5, .val (.int .i64 (i : Nat))), (1, .val (.int .i64 (KR k (p.map shT) (i * 1)))), (0, .val (.slice A (p.length) c))])
  (fun i => [.hp 1 (frzHP (WR H (p.map shT) ad k (i * 1)))]) (fun _ => G) 0 (Nat.zero_le _) rfl ⟨⟨_, rfl, rfl⟩, ⟨_, rfl, by rw [Nat.zero_mul, KR_zero]⟩, ⟨_, rfl, rfl⟩, trivial⟩ (by rw [Nat.zero_mul, WR_zero]; exact .hp .nil) ?_
 intro i hi
 refine Va J J ?_
 refine S_condp J (fun h5 => ?_) (fun h5 => ?_) <;> refine Va J J ?_
 ·have hil : i < p.length := by omega
  obtain ⟨ad', rfl⟩ := hA (by omega)
  obtain rfl : ad' = ad := hp
  obtain ⟨v_, hw_, hl_, hset_, hnum_, hk0_, hkb_⟩ := hM.slc (i * 1) (ad'.add (((i : Nat) : Int).toNat * 1)) (by simp [add_add', add_zero']) (shT p[i]) ⟨_, _, rfl⟩ ((by rw [Nat.mul_one, List.getElem?_map, List.getElem?_eq_getElem hil]; rfl))
  obtain ⟨A_, n_, c_, rfl, _⟩ := Lies_sl hl_
  refine S_index Tk J J J J J J (by omega) (by omega) ?_;refine Va J J ?_;refine S_valV J J J (V_loadH Tk 1 J J J J hw_) ?_;refine Va J J ?_;refine S_callM 1 Tryz.call34 (c_markStmtS p[i] _ _ _ _ hl_ hk0_ hkb_) J J J J (fun _ => J) ?_;rintro v1_ G1_ A1_ ⟨rfl, rfl, rfl⟩ _
  rw [hset_, hnum_]
  clear hw_ hl_ hset_ hnum_ hk0_ hkb_
  refine Va J J ?_;refine S_add J J J J (by omega) ?_;refine Va J J ?_;refine S_again (i + 1) (by omega) (by omega) J ⟨⟨_, J, by simp [denO]⟩, ⟨_, J, by rw [show i * 1 + 1 = (i + 1) * 1 by omega]⟩, ⟨_, J, J⟩, trivial⟩ ?_
  rw [show i * 1 + 1 = (i + 1) * 1 by omega]
  exact .hp .nil
 ·have e0 : i = p.length := by omega
  subst e0
  exact S_retm 1 (Res.t1 Tryz.results12 J J) J XR ⟨by rw [KR_all hce], J, by rw [WR_all hce]⟩
end
section
def Hd (G : PH) (qs : List Addr) (k : Int) : Prop := ∀ i (hi : i < qs.length), wcell G qs[i] = some (.int .i64 (k + i))
theorem Hd_append {G : PH} {qs rs : List Addr} {k : Int} : Hd G (qs ++ rs) k ↔ Hd G qs k ∧ Hd G rs (k + qs.length) := by
 constructor
 ·intro h
  refine ⟨fun i hi => ?_, fun i hi => ?_⟩
  ·have := h i (by rw [List.length_append]; omega)
   rwa [List.getElem_append_left hi] at this
  ·have := h (qs.length + i) (by rw [List.length_append]; omega)
   rw [List.getElem_append_right (by omega)] at this
   simp only [Nat.add_sub_cancel_left] at this
   rw [this]
   congr 2
   omega
 ·rintro ⟨h1, h2⟩ i hi
  rw [List.length_append] at hi
  rcases Nat.lt_or_ge i qs.length with h | h
  ·rw [List.getElem_append_left h]; exact h1 i h
  ·rw [List.getElem_append_right h, h2 (i - qs.length) (by omega)]
   congr 2
   omega
theorem Hd_wr {H : PH} {qs : List Addr} {k : Int} (h : ∀ a ∈ qs, isInt H a) (h0 : 0 ≤ k) (hb : k + qs.length ≤ 4611686018427387904) (hd : qs.Nodup) : Hd (wr H qs k) qs k :=
 fun i hi => wr_at qs H k h h0 hb hd i hi
theorem Hd_le {G G' : PH} (hl : G.le G') {qs : List Addr} {k : Int} (h : Hd G qs k) : Hd G' qs k := fun i hi => wcell_le hl (h i hi)
structure HdC (G : PH) (cells : List Shp) (ad : Addr) (k : Int) : Prop where
 lies : LiesR G cells ad
 k0 : 0 ≤ k
 kb : k + numR cells ≤ 1152921504606846976
 hd : Hd G (adsR G cells ad) k
theorem HdC.bnd {G : PH} {cells : List Shp} {ad : Addr} {k : Int} (h : HdC G cells ad k) (m : Nat) : 0 ≤ KR k cells m ∧ KR k cells m ≤ 1152921504606846976 := by
 have hb := h.kb
 have h0 := h.k0
 have ht := numR_take cells m
 unfold KR
 omega
theorem HdC.at {G : PH} {cells : List Shp} {ad : Addr} {k : Int} (h : HdC G cells ad k) {m : Nat} {c : Shp} (hm : cells[m]? = some c) : (∃ v, wcell G (ad.add m) = some v ∧ Lies G c v) ∧ Hd G (adsC G c (ad.add m)) (KR k cells m) := by
 obtain ⟨_, h2, h3⟩ := take_cell hm
 have hl := h.lies
 have hh := h.hd
 rw [h2] at hl
 rw [h2, adsR_append, Hd_append, h3] at hh
 have := (LiesR_append.1 hl).2
 rw [h3] at this
 simp only [LiesR] at this
 refine ⟨this.1, ?_⟩
 have h5 := hh.2
 simp only [adsR] at h5
 have h6 := (Hd_append.1 h5).1
 rw [adsR_len] at h6
 exact h6
theorem HdC.int {G : PH} {cells : List Shp} {ad : Addr} {k : Int} (h : HdC G cells ad k) (m : Nat) (a : Addr) (ha : a = ad.add m) (hm : cells[m]? = some .int) :
  wcell G a = some (.int .i64 (KR k cells m)) ∧ KR k cells m + 1 = KR k cells (m + 1) ∧ 0 ≤ KR k cells m ∧ KR k cells m ≤ 1152921504606846976 := by
 subst ha
 obtain ⟨_, h2⟩ := h.at hm
 refine ⟨?_, by rw [KR_succ hm]; simp [numC], (h.bnd m).1, (h.bnd m).2⟩
 have := h2 0 (by simp [adsC])
 simpa [adsC] using this
theorem HdC.slc {G : PH} {cells : List Shp} {ad : Addr} {k : Int} (h : HdC G cells ad k) (m : Nat) (a : Addr) (ha : a = ad.add m) (c : Shp) (hc : ∃ w cs, c = .sl w cs) (hm : cells[m]? = some c) :
  ∃ v, wcell G a = some v ∧ Lies G c v ∧ Hd G (adsV G c v) (KR k cells m) ∧ KR k cells m + numV c = KR k cells (m + 1) ∧ 0 ≤ KR k cells m ∧ KR k cells m + numV c ≤ 1152921504606846976 := by
 subst ha
 obtain ⟨w, cs, rfl⟩ := hc
 obtain ⟨⟨v, h1, h2⟩, h3⟩ := h.at hm
 have hs := KR_succ (k := k) hm
 have hb := h.bnd (m + 1)
 refine ⟨v, h1, h2, ?_, by rw [hs]; rfl, (h.bnd m).1, by rw [hs] at hb; exact hb.2⟩
 simp only [adsC] at h3
 rw [ptrAt_eq h1] at h3
 exact h3
def HdP (f : Nat) (s : Shp) : Prop := ∀ (G : PH) (v : Value) (k : Int), Lies G s v → 0 ≤ k → k + numV s ≤ 1152921504606846976 → Hd G (adsV G s v) k →
 Pure Tryz.prog f [v, .int .i64 k] G fun v' G' => v' = .int .i64 (k + numV s) ∧ G' = G
end
section
def wcells (H : PH) (a : Addr) (xs : List Value) : Prop := ∀ j v, xs[j]? = some v → wcell H (a.add j) = some v
theorem wcells_le {H H' : PH} (hl : H.le H') {a : Addr} {xs : List Value} (h : wcells H a xs) : wcells H' a xs := fun j v hj => wcell_le hl (h j v hj)
theorem wcells_row {H : PH} {g off : Nat} {cur : Array Value} {e : Nat} {xs : List Value} (hH : H g = some (.cells cur e (0, 0))) (ht : (cur.toList.drop off).take xs.length = xs) : wcells H ⟨g, off, none⟩ xs := by
 intro j v hj
 rw [add_lit']
 refine wcell_iff.2 ⟨cur, e, hH, J, ?_⟩
 rw [← ht] at hj
 rw [List.getElem?_take] at hj
 split at hj
 ·rw [List.getElem?_drop] at hj
  simpa using hj
 ·cases hj
def LiesL (H : PH) : List Shp → List Value → Prop
 | [], [] => True
 | s :: r, v :: vs => Lies H s v ∧ LiesL H r vs
 | _, _ => False
def adsL (H : PH) : List Shp → List Value → List Addr
 | s :: r, v :: vs => adsV H s v ++ adsL H r vs
 | _, _ => []
theorem LiesL_len {H : PH} : ∀ {r : List Shp} {vs : List Value}, LiesL H r vs → r.length = vs.length
 | [], [], _ => rfl
 | s :: r, v :: vs, h => by simp only [LiesL] at h; simp [LiesL_len h.2]
 | [], _ :: _, h => by simp [LiesL] at h
 | _ :: _, [], h => by simp [LiesL] at h
theorem LiesL_append {H : PH} : ∀ {r s : List Shp} {vs us : List Value}, LiesL H r vs → LiesL H s us → LiesL H (r ++ s) (vs ++ us)
 | [], s, [], us, _, h => h
 | x :: r, s, v :: vs, us, h, h' => by
  simp only [LiesL] at h
  exact ⟨h.1, LiesL_append h.2 h'⟩
 | [], _, _ :: _, _, h, _ => by simp [LiesL] at h
 | _ :: _, _, [], _, h, _ => by simp [LiesL] at h
theorem adsL_append {H : PH} : ∀ {r s : List Shp} {vs us : List Value}, r.length = vs.length → adsL H (r ++ s) (vs ++ us) = adsL H r vs ++ adsL H s us
 | [], s, [], us, _ => by simp [adsL]
 | x :: r, s, v :: vs, us, h => by
  simp only [List.cons_append, adsL]
  rw [adsL_append (by simpa using h), List.append_assoc]
 | [], _, _ :: _, _, h => by simp at h
 | _ :: _, _, [], _, h => by simp at h
theorem LiesL_tn {H H' : PH} (ht : Tn H H') : ∀ {r : List Shp} {vs : List Value}, LiesL H r vs → LiesL H' r vs
 | [], [], _ => by simp [LiesL]
 | s :: r, v :: vs, h => by
  simp only [LiesL] at h ⊢
  exact ⟨Lies_tn ht s v h.1, LiesL_tn ht h.2⟩
 | [], _ :: _, h => by simp [LiesL] at h
 | _ :: _, [], h => by simp [LiesL] at h
theorem adsL_tn {H H' : PH} (ht : Tn H H') : ∀ {r : List Shp} {vs : List Value}, LiesL H r vs → adsL H' r vs = adsL H r vs
 | [], [], _ => rfl
 | s :: r, v :: vs, h => by
  simp only [LiesL] at h
  simp only [adsL]
  rw [adsV_tn ht h.1, adsL_tn ht h.2]
 | [], _ :: _, h => by simp [LiesL] at h
 | _ :: _, [], h => by simp [LiesL] at h
theorem adsL_int {H : PH} : ∀ {r : List Shp} {vs : List Value}, LiesL H r vs → ∀ a ∈ adsL H r vs, isInt H a
 | [], [], _, a, ha => by simp [adsL] at ha
 | s :: r, v :: vs, h, a, ha => by
  simp only [LiesL] at h
  simp only [adsL, List.mem_append] at ha
  rcases ha with ha | ha
  ·exact adsV_int h.1 a ha
  ·exact adsL_int h.2 a ha
 | [], _ :: _, h, _, _ => by simp [LiesL] at h
 | _ :: _, [], h, _, _ => by simp [LiesL] at h
theorem isInt_some {H : PH} {a : Addr} (h : isInt H a) : (H a.block).isSome = true := by
 obtain ⟨n, hn⟩ := h
 exact wcell_some hn
theorem newp_some {G G' : PH} {b : Nat} (h : (newp G G' b).isSome = true) : G b = none ∧ (G' b).isSome = true := by
 unfold newp at h
 split at h
 ·cases h
 ·rename_i hn; exact ⟨hn, h⟩
def FL (G G' : PH) (r : List Shp) (vs : List Value) : Prop := LiesL (newp G G') r vs ∧ (adsL (newp G G') r vs).Nodup
def FT (G G' : PH) (s : Shp) (v : Value) : Prop := Lies (newp G G') s v ∧ (adsV (newp G G') s v).Nodup
theorem FL_nil {G G' : PH} : FL G G' [] [] := ⟨by simp [LiesL], by simp [adsL]⟩
theorem newp_rt {G G1 G2 : PH} (h : G1.le G2) : (newp G G1).le (newp G G2) := by
 intro b o hb
 unfold newp at hb ⊢
 split at hb
 ·cases hb
 ·exact h b o hb
theorem FL.mono {G G1 G2 : PH} (h12 : G1.le G2) {r : List Shp} {vs : List Value} (h : FL G G1 r vs) : FL G G2 r vs := by
 have ht := Tn.of_le (newp_rt (G := G) h12)
 exact ⟨LiesL_tn ht h.1, by rw [adsL_tn ht h.1]; exact h.2⟩
theorem FT.mono {G G1 G2 : PH} (h12 : G1.le G2) {s : Shp} {v : Value} (h : FT G G1 s v) : FT G G2 s v := by
 have ht := Tn.of_le (newp_rt (G := G) h12)
 exact ⟨Lies_tn ht _ _ h.1, by rw [adsV_tn ht h.1]; exact h.2⟩
theorem FT.low {G G1 G2 : PH} (h01 : G.le G1) (h12 : G1.le G2) {s : Shp} {v : Value} (h : FT G1 G2 s v) : FT G G2 s v := by
 have ht := Tn.of_le (newp_mono h01 h12)
 exact ⟨Lies_tn ht _ _ h.1, by rw [adsV_tn ht h.1]; exact h.2⟩
theorem FL.app {G G1 G2 : PH} (h01 : G.le G1) (h12 : G1.le G2) {r s : List Shp} {vs us : List Value} (h : FL G G1 r vs) (h' : FL G1 G2 s us) : FL G G2 (r ++ s) (vs ++ us) := by
 have ht := Tn.of_le (newp_rt (G := G) h12)
 have ht' := Tn.of_le (newp_mono h01 h12)
 refine ⟨LiesL_append (LiesL_tn ht h.1) (LiesL_tn ht' h'.1), ?_⟩
 rw [adsL_append (LiesL_len h.1), adsL_tn ht h.1, adsL_tn ht' h'.1, List.nodup_append]
 refine ⟨h.2, h'.2, fun a ha b hb e => ?_⟩
 subst e
 have h1 := newp_some (isInt_some (adsL_int h.1 a ha))
 have h2 := newp_some (isInt_some (adsL_int h'.1 a hb))
 rw [h2.1] at h1
 cases h1.2
theorem FL_int (G G' : PH) (n : Int) : FL G G' [.int] [.int .i64 n] := ⟨⟨by simp only [Lies]; exact ⟨n, J⟩, by simp [LiesL]⟩, by simp [adsL, adsV]⟩
theorem FL_one {G G' : PH} {s : Shp} {v : Value} (h : FT G G' s v) : FL G G' [s] [v] := ⟨⟨h.1, by simp [LiesL]⟩, by simp only [adsL, List.append_nil]; exact h.2⟩
theorem row_ads {H0 H : PH} (hle : H0.le H) : ∀ (r : List Shp) (vs : List Value) (ad : Addr), LiesL H0 r vs → (adsL H0 r vs).Nodup → H0 ad.block = none → ad.spot = none → wcells H ad vs →
  LiesR H r ad ∧ (adsR H r ad).Nodup ∧ ∀ a ∈ adsR H r ad, (a.block = ad.block ∧ ad.off ≤ a.off ∧ a.spot = none) ∨ a ∈ adsL H0 r vs
 | [], [], ad, _, _, _, _, _ => by simp [LiesR, adsR]
 | s :: r, v :: vs, ad, hl, hd, hb, hs, hw => by
  simp only [LiesL] at hl
  simp only [adsL] at hd
  obtain ⟨d1, d2, d3⟩ := List.nodup_append.1 hd
  have ht := Tn.of_le hle
  have h0 : wcell H ad = some v := by have := hw 0 v rfl; rwa [add_zero'] at this
  have had1 : (ad.add 1).block = ad.block ∧ (ad.add 1).off = ad.off + 1 ∧ (ad.add 1).spot = none := by
   obtain ⟨b, o, sp⟩ := ad
   simp only at hs
   subst hs
   simp [Addr.add]
  obtain ⟨i1, i2, i3⟩ := row_ads hle r vs (ad.add 1) hl.2 d2 (by rw [had1.1]; exact hb) had1.2.2 (fun j u hj => by rw [add_add', Nat.add_comm]; exact hw (j + 1) u (by simpa using hj))
  have hC : adsC H s ad = match s with | .int => [ad] | .sl _ _ => adsV H0 s v := by
   cases s with
   | int => simp [adsC]
   | sl w cs =>
    simp only [adsC]
    rw [ptrAt_eq h0, ← adsV_tn ht hl.1]
    rfl
  have hnb : ∀ x ∈ adsL H0 (s :: r) (v :: vs), x.block ≠ ad.block := fun x hx e => by
   have h1 := isInt_some (adsL_int (H := H0) (r := s :: r) (vs := v :: vs) ⟨hl.1, hl.2⟩ x hx)
   rw [e, hb] at h1
   cases h1
  have hCm : ∀ a ∈ adsC H s ad, (a = ad) ∨ a ∈ adsV H0 s v := by
   intro a ha
   rw [hC] at ha
   cases s with
   | int => left; simpa using ha
   | sl w cs => right; exact ha
  refine ⟨⟨⟨v, h0, Lies_tn ht s v hl.1⟩, i1⟩, ?_, ?_⟩
  ·simp only [adsR]
   refine List.nodup_append.2 ⟨?_, i2, fun a ha b hb' e => ?_⟩
   ·rw [hC]
    cases s with
    | int => simp
    | sl w cs => exact d1
   ·subst e
    rcases i3 a hb' with ⟨j1, j2, j3⟩ | hm
    ·rcases hCm a ha with rfl | hv
     ·rw [had1.2.1] at j2; omega
     ·exact hnb a (by simp only [adsL, List.mem_append]; exact .inl hv) (by rw [j1, had1.1])
    ·rcases hCm a ha with rfl | hv
     ·exact hnb a (by simp only [adsL, List.mem_append]; exact .inr hm) J
     ·exact d3 a hv a hm J
  ·intro a ha
   simp only [adsR, List.mem_append] at ha
   rcases ha with ha | ha
   ·rcases hCm a ha with rfl | hv
    ·exact .inl ⟨J, Nat.le_refl _, hs⟩
    ·exact .inr (by simp only [adsL, List.mem_append]; exact .inl hv)
   ·rcases i3 a ha with ⟨j1, j2, j3⟩ | hm
    ·exact .inl ⟨by rw [j1, had1.1], by rw [had1.2.1] at j2; omega, j3⟩
    ·exact .inr (by simp only [adsL, List.mem_append]; exact .inr hm)
 | [], _ :: _, _, h, _, _, _, _ => by simp [LiesL] at h
 | _ :: _, [], _, h, _, _, _, _ => by simp [LiesL] at h
theorem FT_row {G G1 G2 : PH} (h01 : G.le G1) (h12 : G1.le G2) {w n c : Nat} {r : List Shp} {vs : List Value} {A : Option Addr} (h : FL G G1 r vs) (hr : r.length = n * w) (hn : n ≤ 1000000000) (hnc : n ≤ c) (hcm : c ≤ maxLen)
  (hA : n = 0 ∨ ∃ a, A = some a ∧ G1 a.block = none ∧ a.spot = none ∧ wcells (newp G1 G2) a vs) : FT G G2 (.sl w r) (.slice A n c) := by
 rcases hA with rfl | ⟨a, rfl, hb, hs, hw⟩
 ·have : r = [] := List.eq_nil_of_length_eq_zero (by rw [hr]; simp)
  subst this
  exact ⟨by simp only [Lies]; exact ⟨A, 0, c, J, by simp, hn, hnc, hcm, .inl J⟩, by simp [adsV, adsR]⟩
 ·have hH0 : newp G G1 a.block = none := by
   unfold newp
   split
   ·rfl
   ·exact hb
  obtain ⟨i1, i2, _⟩ := row_ads (newp_rt (G := G) h12) r vs a h.1 h.2 hH0 hs (wcells_le (newp_mono h01 h12) hw)
  exact ⟨by simp only [Lies]; exact ⟨_, n, c, J, hr, hn, hnc, hcm, .inr ⟨a, J, i1⟩⟩, i2⟩
section
variable {C : Ctx} {k : List It} {E : Env} {ι : Ids} {L : List Ent} {G : PH}
theorem S_freezeW (κ : Nat) {base e sz : Nat} {A : Option Addr} {n c : Nat} {xs : List Value} {L' : List Ent} (hL : getH κ L = some (rowO base e sz A n c xs)) (hL' : delH κ L = some L') (hb0 : C.w0.heap.size ≤ base)
  (hk : ∀ G', PH.ext C.w0.heap.size G G' → n ≤ c → c ≤ maxLen → (n = 0 ∨ ∃ a, A = some a ∧ gcells (newp G G') a xs) → (n = 0 ∨ ∃ a, A = some a ∧ G a.block = none ∧ a.spot = none ∧ wcells (newp G G') a xs) → X C k E ι L' G') : X C k E ι L G := by
 refine S_lendO κ hL hL' (fun hA hn hc hx => ?_) (fun g off cur hA hbg hnc hcm hl hfit ht hG hb hcells => ?_)
 ·exact hk G XR (by omega) (by rw [hc]; simp [maxLen]) (.inl hn) (.inl hn)
 ·refine hk _ ⟨le_add hG, fun b o hbo hn => ?_⟩ hnc hcm (.inr ⟨_, hA, ?_⟩) (.inr ⟨_, hA, hG, J, ?_⟩)
  ·unfold PH.add at hbo
   split at hbo
   ·rename_i e'; subst e'; omega
   ·rw [hn] at hbo; cases hbo
  ·refine gcells_row (cur := cur) (e := e) (fr := (0, 0)) ?_ xs off ht
   simp [newp, hG, PH.add]
  ·exact wcells_row (cur := cur) (e := e) (by simp [newp, hG, PH.add]) ht
end
end
section
attribute [local irreducible] X Pure Mod
theorem FL_six {G G1 G2 : PH} (h1 : G.le G1) (h2 : G1.le G2) (k a b n : Int) {x y : List Stm} {vx vy : Value} (hx : FT G G1 (shT x) vx) (hy : FT G1 G2 (shT y) vy) : FL G G2 (tcS (.mk k a b n x y)) [.int .i64 k, .int .i64 a, .int .i64 b, .int .i64 n, vx, vy] := by
 have a3 : FL G G2 ([shT x] ++ [shT y]) ([vx] ++ [vy]) := (FL_one hx).app h1 h2 (FL_one hy)
 have a4 := (FL_int G G n).app (PH.le.refl _) (h1.trans h2) a3
 have a5 := (FL_int G G b).app (PH.le.refl _) (h1.trans h2) a4
 have a6 := (FL_int G G a).app (PH.le.refl _) (h1.trans h2) a5
 have a7 := (FL_int G G k).app (PH.le.refl _) (h1.trans h2) a6
 simp only [tcS]
 exact a7
def ToSN (s : Stm) : Prop := ∀ (cs : List Value) (G : PH), s.cnt ≤ 1048576 → Stm.rep G s cs → Pure Tryz.prog 49 [.agg cs.toArray] G fun v' G' => ∃ cs', v' = .agg cs'.toArray ∧ Stm.rep G' s cs' ∧ FL G G' (tcS s) cs'
def ToLN (L : List Stm) : Prop := ∀ (v : Value) (G : PH), cntL L ≤ 1048576 → Sts G L v → Pure Tryz.prog 22 [v] G fun v' G' => Sts G' L v' ∧ FT G G' (shT L) v'
theorem c_toStmtN (s : Stm) (hx : ToLN s.body) (hy : ToLN s.els) : ToSN s := by
 intro cs G hc hrep
 obtain ⟨k, a, b, n, x, y⟩ := s
 obtain ⟨vx, vy, rfl, hk, ha, hb, hn, hvx, hvy⟩ := Stm.rep_iff.1 hrep
 simp only [Stm.body, Stm.els] at hx hy
 rw [cnt_mk] at hc
 have hcx := hx _ G (by omega) hvx
 obtain ⟨Ax, cx, rfl, _⟩ := id hvx
 obtain ⟨Ay, cy, rfl, _⟩ := id hvy
 refine Pure.intro Tryz.func49 Tryz.ntmps49 J J fun w => ?_; refine Va J J ?_;refine S_box J J J J J fun b1 => ?_;refine Va J J ?_;refine AZ ZT_ok J J J J fun b2 => ?_;refine Va J J ?_;refine AZ ZT_ok J J J J fun b3 => ?_;refine Va J J ?_;refine S_call Tryz.call22 hcx J J J ?_;rintro v1 G1 ⟨hv1, ft1⟩ hext1
 obtain ⟨A1, c1, rfl, _⟩ := id hv1
 refine Va J J ?_;refine S_call Tryz.call22 (hy _ G1 (by omega) (Sts_le hext1.le hvy)) J J J ?_;rintro v2 G2 ⟨hv2, ft2⟩ hext2
 obtain ⟨A2, c2, rfl, _⟩ := id hv2
 refine Va J J ?_;exact S_retp (Res.c1 Tk Tryz.results49 J J) (hext1.trans hext2) ⟨[_, _, _, _, _, _], J, Stm.rep_iff.2 ⟨_, _, J, hk, ha, hb, hn, Sts_le hext2.le hv1, hv2⟩, FL_six hext1.le hext2.le k a b n ft1 ft2⟩
theorem c_toStmtSN (L : List Stm) (hs : ∀ k (hk : k < L.length), ToSN L[k]) : ToLN L := by
 intro v G hc hv
 have hln := len_cnt L
 obtain ⟨A, c, rfl, _⟩ := id hv
 refine Pure.intro Tryz.func22 Tryz.ntmps22 J J fun w => ?_; refine Va J J ?_;refine S_make Tk ZT_ok J J J J J J (by show 80 * L.length ≤ _; omega) (by omega) rfl rfl rfl fun bm => ?_;refine Va J J ?_;refine S_blkO 7 70 (base := w.heap.size) (n := L.length) (c := L.length) (o := 0) (sz := 6) (xs := repL L.length zStm) rfl rfl (denL_vL _ _) rfl (.inr (.inr ⟨rfl, fun _ h => h⟩)) (by rw [List.drop_zero]; exact List.take_of_length_le (by rw [repL_length]; exact Nat.le_refl _)) (repL_length _ _) (Nat.le_refl _) (by simp [maxLen]; omega) (by rw [repL_length]; simp) ?_
 refine S_loop (α := Nat × List Value × PH) (fun y => y.1 ≤ L.length ∧ PH.ext w.heap.size G y.2.2 ∧ Cs 6 (Stm.rep y.2.2) (L.take y.1) y.2.1 ∧ FL G y.2.2 (tcT (L.take y.1)) y.2.1) (fun y => L.length - y.1) []
  (fun y => [(4, .val (.int .i64 (y.1 : Nat))), (3, .val (.slice (some ⟨bm, 0, none⟩) L.length L.length)), (0, .val (.slice A L.length c))])
  (fun y => [.hp 70 (rowO w.heap.size 76 6 (some ⟨bm, 0, none⟩) L.length L.length (y.2.1 ++ repL (L.length - y.1) zStm))]) (fun y => y.2.2) (0, [], G) ⟨Nat.zero_le _, PH.ext.refl _ _, rfl, FL_nil⟩ rfl ⟨⟨_, rfl, rfl⟩, ⟨_, rfl, rfl⟩, ⟨_, rfl, rfl⟩, trivial⟩ (.hp .nil) ?_
 rintro ⟨k, ds, G1⟩ ⟨hk, hext, hcs, hfl⟩
 simp only at hk hext hcs hfl ⊢
 refine Va J J ?_
 refine S_condp J (fun h5 => ?_) (fun h5 => ?_) <;> refine Va J J ?_
 ·have hkl : k < L.length := by omega
  obtain ⟨m, hm⟩ : ∃ m, L.length - k = m + 1 := ⟨L.length - k - 1, by omega⟩
  rw [hm]
  obtain ⟨ad, cs, rfl, hcell, hrep⟩ := Sr_at (Sts_le hext.le hv) hkl
  have hdl := Cs_length hcs
  rw [List.length_take, Nat.min_eq_left hk] at hdl
  have hck : L[k].cnt ≤ 1048576 := by
   have : ∀ (L : List Stm) (k : Nat) (hk : k < L.length), L[k].cnt ≤ cntL L := by
    intro L
    induction L with
    | nil => intro k hk; simp at hk
    | cons s r ih =>
     intro k hk
     cases k with
     | zero => simp only [cntL, List.getElem_cons_zero]; omega
     | succ k => have := ih k (by simpa using hk); simp only [cntL, List.getElem_cons_succ]; omega
   have := this L k hkl
   omega
  refine S_index Tk J J J J J J (by omega) (by omega) ?_;refine Va J J ?_;refine S_loadA Tk J J J J (Stm.rep_len hrep) hcell ?_;refine Va J J ?_;refine S_call Tryz.call49 (hs k hkl cs G1 hck hrep) J J J ?_;rintro v1 G2 ⟨cs1, rfl, hrep1, fl1⟩ hext2
  have hl1 := Stm.rep_len hrep1
  refine Va J J ?_;refine S_index Tk J J J J J J (by omega) (by omega) ?_;refine Va J J ?_;refine S_storeOA Tk 70 (o := k * 6) J J J (by simp [add_lit']) J J (Stm.rep_one _ _ hrep1) J hl1 J (by rw [List.length_append, hdl, repL_length]; show _ ≤ _ + (m + 1) * 6; omega) rfl ?_
  rw [over_app hdl (by rw [hl1]; rfl)]
  refine Va J J ?_;refine S_add J J J J (by omega) ?_;refine Va J J ?_;refine S_again (k + 1, ds ++ cs1, G2) ⟨by simp only; omega, hext.trans hext2, ?_, by simp only; rw [List.take_succ_eq_append_getElem hkl, tcT_append, tcT, tcT, List.append_nil]; exact hfl.app hext.le hext2.le fl1⟩ (by simp only; omega) rfl ⟨⟨_, rfl, by simp [denO]⟩, ⟨_, rfl, rfl⟩, ⟨_, rfl, rfl⟩, trivial⟩ ?_
  ·simp only
   rw [List.take_succ_eq_append_getElem hkl]
   exact Cs_append (Cs_mono (fun s _ cs h => Stm.rep_le hext2.le s cs h) hcs) hrep1 hl1
  ·simp only [show L.length - (k + 1) = m by omega]
   exact .hp .nil
 ·have e0 : k = L.length := by omega
  subst e0
  rw [Nat.sub_self, repL, List.append_nil, List.take_length] at *
  refine S_freezeW 70 J J (Nat.le_refl _) fun Gf hextf hncf hcmf hclf hnew => ?_;refine S_retp (Res.t1 Tryz.results22 J J) (hext.trans hextf) ?_;exact ⟨frz (Cs_mono (Stm.reps_le hextf.le _) hcs) J (by omega) hncf hcmf hclf, FT_row hext.le hextf.le hfl (tcT_len _) (by omega) hncf hcmf hnew⟩
theorem ToLN_of (L : List Stm) (h : ∀ k (hk : k < L.length), ToLN L[k].body ∧ ToLN L[k].els) : ToLN L :=
 c_toStmtSN L fun k hk => c_toStmtN _ (h k hk).1 (h k hk).2
mutual
theorem ToLN_stm : ∀ (s : Stm), ToLN s.body ∧ ToLN s.els
 | .mk k a b n x y => ⟨ToLN_all x, ToLN_all y⟩
theorem ToLN_at : ∀ (L : List Stm) (k : Nat) (hk : k < L.length), ToLN L[k].body ∧ ToLN L[k].els
 | [], k, hk => absurd hk (by simp)
 | s :: L, 0, _ => ToLN_stm s
 | s :: L, k + 1, hk => ToLN_at L k (by simpa using hk)
theorem ToLN_all : ∀ (L : List Stm), ToLN L
 | L => ToLN_of L (ToLN_at L)
end
theorem c_toSSN (p : List (List Stm)) (v : Value) (G : PH) (hv : Prg G p v) (hc : cntP p ≤ 1048576) : Pure Tryz.prog 6 [v] G fun v' G' => Prg G' p v' ∧ FT G G' (shTT p) v' := by
 have hln := len_cntP p
 obtain ⟨A, c, rfl, _⟩ := id hv
 refine Pure.intro Tryz.func6 Tryz.ntmps6 J J fun w => ?_; refine Va J J ?_;refine S_make Tk ZT_ok J J J J J J (by show 24 * p.length ≤ _; omega) (by omega) rfl rfl rfl fun bm => ?_;refine Va J J ?_;refine S_blkO 7 70 (base := w.heap.size) (n := p.length) (c := p.length) (o := 0) (sz := 1) (xs := repL p.length [.slice none 0 0]) rfl rfl (denL_vL _ _) rfl (.inr (.inr ⟨rfl, fun _ h => h⟩)) (by rw [List.drop_zero]; exact List.take_of_length_le (by rw [repL_length]; exact Nat.le_refl _)) (repL_length _ _) (Nat.le_refl _) (by simp [maxLen]; omega) (by rw [repL_length]; simp) ?_
 refine S_loop (α := Nat × List Value × PH) (fun y => y.1 ≤ p.length ∧ PH.ext w.heap.size G y.2.2 ∧ Cs 1 (stsRep y.2.2) (p.take y.1) y.2.1 ∧ FL G y.2.2 ((p.take y.1).map shT) y.2.1) (fun y => p.length - y.1) []
  (fun y => [(4, .val (.int .i64 (y.1 : Nat))), (3, .val (.slice (some ⟨bm, 0, none⟩) p.length p.length)), (0, .val (.slice A p.length c))])
  (fun y => [.hp 70 (rowO w.heap.size 50 1 (some ⟨bm, 0, none⟩) p.length p.length (y.2.1 ++ repL (p.length - y.1) [.slice none 0 0]))]) (fun y => y.2.2) (0, [], G) ⟨Nat.zero_le _, PH.ext.refl _ _, rfl, FL_nil⟩ rfl ⟨⟨_, rfl, rfl⟩, ⟨_, rfl, rfl⟩, ⟨_, rfl, rfl⟩, trivial⟩ (.hp .nil) ?_
 rintro ⟨k, ds, G1⟩ ⟨hk, hext, hcs, hfl⟩
 simp only at hk hext hcs hfl ⊢
 refine Va J J ?_
 refine S_condp J (fun h5 => ?_) (fun h5 => ?_) <;> refine Va J J ?_
 ·have hkl : k < p.length := by omega
  obtain ⟨m, hm⟩ : ∃ m, p.length - k = m + 1 := ⟨p.length - k - 1, by omega⟩
  rw [hm]
  obtain ⟨ad, cs, rfl, hcell, u, rfl, hu⟩ := Sr_at (Prg_le hext.le hv) hkl
  have hdl := Cs_length hcs
  rw [List.length_take, Nat.min_eq_left hk] at hdl
  have hck := cntP_mem (List.getElem_mem hkl)
  have hpk := List.take_succ_eq_append_getElem hkl
  have hto := ToLN_all p[k] u G1 (by omega) hu
  generalize p[k] = q at hpk hto hu hck
  obtain ⟨A1, c1, rfl, _⟩ := id hu
  refine S_index Tk J J J J J J (by omega) (by omega) ?_;refine Va J J ?_;refine S_load Tk J J J J J (by simpa [add_zero'] using gcells_at hcell 0 _ J) ?_;refine Va J J ?_;refine S_call Tryz.call22 hto J J J ?_;rintro v1 G2 ⟨hv1, ft1⟩ hext2
  obtain ⟨A2, c2, rfl, _⟩ := id hv1
  refine Va J J ?_;refine S_index Tk J J J J J J (by omega) (by omega) ?_;refine Va J J ?_;refine S_storeO Tk 70 (o := k) J J J (by simp [add_lit']) J J J J J (by rw [List.length_append, hdl, repL_length]; show _ < _ + (m + 1) * 1; omega) rfl ?_
  rw [set_app (by rw [hdl, Nat.mul_one])]
  refine Va J J ?_;refine S_add J J J J (by omega) ?_;refine Va J J ?_;refine S_again (k + 1, ds ++ [.slice A2 q.length c2], G2) ⟨by simp only; omega, hext.trans hext2, ?_, by simp only; rw [hpk, List.map_append]; exact hfl.app hext.le hext2.le (FL_one ft1)⟩ (by simp only; omega) rfl ⟨⟨_, rfl, by simp [denO]⟩, ⟨_, rfl, rfl⟩, ⟨_, rfl, rfl⟩, trivial⟩ ?_
  ·simp only
   rw [hpk]
   exact Cs_append (Cs_mono (fun s _ cs h => stsRep_le hext2.le h) hcs) ⟨_, J, hv1⟩ J
  ·simp only [show p.length - (k + 1) = m by omega]
   exact .hp .nil
 ·have e0 : k = p.length := by omega
  subst e0
  rw [Nat.sub_self, repL, List.append_nil, List.take_length] at *
  refine S_freezeW 70 J J (Nat.le_refl _) fun Gf hextf hncf hcmf hclf hnew => ?_;refine S_retp (Res.t1 Tryz.results6 J J) (hext.trans hextf) ?_;exact ⟨frz (Cs_mono (fun _ _ _ h => stsRep_le hextf.le h) hcs) J (by omega) hncf hcmf hclf, FT_row hext.le hextf.le hfl (by simp) (by omega) hncf hcmf hnew⟩
end
section
section
variable {C : Ctx} {k : List It} {E : Env} {ι : Ids} {L : List Ent} {G : PH}
theorem S_freezeM (κ : Nat) {base e sz : Nat} {v : Value} {n : Nat} {xs : List Value} {L' : List Ent} (hL : getH κ L = some (rowHP base e sz v n xs)) (hL' : delH κ L = some L') (hb0 : C.w0.heap.size ≤ base)
  (hk : ∀ G', PH.ext C.w0.heap.size G G' → (v = .slice none 0 0 ∧ n = 0 ∧ xs = [] ∨ ∃ g cap, v = .slice (some ⟨g, 0, none⟩) n cap ∧ n ≤ cap ∧ cap ≤ maxLen ∧ gcells G' ⟨g, 0, none⟩ xs ∧ G g = none ∧ wcells (newp G G') ⟨g, 0, none⟩ xs) → X C k E ι L' G') : X C k E ι L G := by
 intro a w g1 g2 g3 g4
 obtain ⟨Ss, ho, hS⟩ := g4.own
 obtain ⟨S, Ss', hA, hm, ho', hT⟩ := owns_del ho hL hL'
 have hb := hA.2
 rcases hA.1.2 with ⟨rfl, rfl⟩ | ⟨g, cap, cur, rfl, hbg, hh, hnc, hcm, hcs, htake⟩
 ·have hx : xs = [] := List.eq_nil_of_length_eq_zero (by simpa using hA.1.1)
  subst hx
  exact hk G XR (.inl ⟨rfl, rfl, rfl⟩) a w g1 g2 g3 ⟨g4.os, g4.tape, g4.output, g4.size, g4.keep, g4.emb, Ss', ho', fun T hT' => hS T (hT T hT').1⟩
 ·have hSg : S g := (hb g).2 rfl
  have hGg : G g = none := (hS S hm g hSg).1
  have hext : PH.ext C.w0.heap.size G (G.add g (.cells cur e (0, 0))) := by
   refine ⟨fun b o hbo => ?_, fun b o hbo hn => ?_⟩
   ·unfold PH.add
    rw [if_neg (by rintro rfl; rw [hGg] at hbo; cases hbo)]
    exact hbo
   ·unfold PH.add at hbo
    split at hbo
    ·rename_i e'; subst e'; omega
    ·rw [hn] at hbo; cases hbo
  refine hk _ hext (.inr ⟨g, cap, J, hnc, hcm, gcells_row (cur := cur) (e := e) (fr := (0, 0)) (by simp [PH.add]) xs 0 ?_, hGg, wcells_row (cur := cur) (e := e) (by simp [newp, hGg, PH.add]) (by rw [List.drop_zero, hA.1.1]; exact htake)⟩) a w (g1.mono hext.le) g2 g3 ⟨g4.os, g4.tape, g4.output, g4.size, g4.keep, ?_, Ss', ho', ?_⟩
  ·rw [List.drop_zero, hA.1.1]; exact htake
  ·intro b o hbo
   unfold PH.add at hbo
   split at hbo
   ·rename_i e'; subst e'; cases hbo; exact hh
   ·exact g4.emb b o hbo
  ·intro T hT' b hbT
   obtain ⟨h5, h6⟩ := hT T hT'
   obtain ⟨h7, h8⟩ := hS T h5 b hbT
   refine ⟨?_, h8⟩
   unfold PH.add
   rw [if_neg (by rintro rfl; exact h6 _ hbT hSg)]
   exact h7
end
attribute [local irreducible] X Pure Mod
theorem c_copyStmtsN_of (L : List Stm) (hb : ∀ k (hk : k < L.length) v G, Sts G L[k].body v → Pure Tryz.prog 52 [v] G fun v' G' => Sts G' L[k].body v' ∧ FT G G' (shT L[k].body) v') (he : ∀ k (hk : k < L.length) v G, Sts G L[k].els v → Pure Tryz.prog 52 [v] G fun v' G' => Sts G' L[k].els v' ∧ FT G G' (shT L[k].els) v')
  (v : Value) (G : PH) (hL : Sts G L v) : Pure Tryz.prog 52 [v] G fun v' G' => Sts G' L v' ∧ FT G G' (shT L) v' := by
 obtain ⟨A, c, rfl, hn, hc1, hc2, hr⟩ := id hL
 refine Pure.intro Tryz.func52 Tryz.ntmps52 J J fun w => ?_;refine S_row0 (base := w.heap.size) (e := 76) (size := 6) 3 ?_;refine Va J J ?_;refine S_loop (α := Nat × PH × Value × List Value) (fun x => x.1 ≤ L.length ∧ PH.ext w.heap.size G x.2.1 ∧ Cs 6 (Stm.rep x.2.1) (L.take x.1) x.2.2.2 ∧ FL G x.2.1 (tcT (L.take x.1)) x.2.2.2) (fun x => L.length - x.1) []
  (fun x => [(8, .val (.int .i64 x.1)), (6, .val (.slice A L.length c)), (7, .val (.int .i64 L.length)), (3, .val x.2.2.1)]) (fun x => [.hp 3 (rowHP w.heap.size 76 6 x.2.2.1 x.1 x.2.2.2)]) (fun x => x.2.1) (0, G, .slice none 0 0, []) ⟨Nat.zero_le _, PH.ext.refl _ _, rfl, FL_nil⟩ rfl
  ⟨⟨_, rfl, rfl⟩, ⟨_, rfl, rfl⟩, ⟨_, rfl, rfl⟩, ⟨_, rfl, rfl⟩, trivial⟩ (.hp .nil) ?_
 rintro ⟨k, G1, out, xs⟩ ⟨hk, hext, hcs, hfl⟩
 simp only at hk hext hcs hfl ⊢
 refine Va J J ?_
 refine S_condp J (fun h => ?_) (fun h => ?_) <;> refine Va J J ?_
 ·have hkl : k < L.length := by omega
  obtain ⟨ad, cs, rfl, hcs1, hrep⟩ := Sr_at (Sts_le hext.le hL) hkl
  have hbk := hb k hkl
  have hek := he k hkl
  rcases hs : L[k] with ⟨q1, q2, q3, q4, x, y⟩
  rw [hs] at hrep hbk hek
  obtain ⟨vx, vy, rfl, i1, i2, i3, i4, hx, hy⟩ := Stm.rep_iff.1 hrep
  obtain ⟨Ax, cx, rfl, _⟩ := id hx
  obtain ⟨Ay, cy, rfl, _⟩ := id hy
  refine S_index Tk J J J J J J (by omega) (by omega) ?_;refine Va J J ?_;refine S_loadA Tk J J J J J (by simpa using hcs1) ?_;refine Va J J ?_;refine AZ ZT_ok J J J J fun b => ?_;refine Va J J ?_;refine Ds J J J ?_;refine Da J J ?_;refine D_sole 2 J J (N_call 2 Tryz.call52 (hbk _ _ hx) J J J J J J J J J J ?_)
  rintro vb G2 ⟨hvb, ftb⟩ hext2
  obtain ⟨Ab, cb, rfl, _⟩ := id hvb
  refine Da J J ?_;refine D_sole 5 J J (N_call 5 Tryz.call52 (hek _ _ (Sts_le hext2.le hy)) J J J J J J J J J J ?_)
  rintro ve G3 ⟨hve, fte⟩ hext3
  obtain ⟨Ae, ce, rfl, _⟩ := id hve
  refine Da J J ?_;refine Ns 7 J J J J J J J J J ?_;refine Da J J ?_;refine Ns 9 J J J J J J J J J ?_;refine DD ?_;refine Va J J ?_;refine S_slice Tk ZT_ok J J J J (by decide) (by decide) J J J J fun b2 => ?_;refine S_app Tk ZT_ok 3 22 J J J J J J J J J J J J J J J (fun _ => J) (by simp only; omega) (by unfold maxLen; omega) (Nat.le_refl _) fun g cap hcap => ?_;refine Va J J ?_;refine S_add J J J J (by omega) ?_
  refine Va J J ?_
  have hle : G1.le G3 := hext2.le.trans hext3.le
  refine S_again (k + 1, G3, _, _) ⟨by simp only; omega, (hext.trans hext2).trans hext3, ?_, ?_⟩ (by simp only; omega) rfl ⟨⟨_, rfl, rfl⟩, ⟨_, rfl, rfl⟩, ⟨_, rfl, rfl⟩, ⟨_, rfl, rfl⟩, trivial⟩ (.drop (.drop (.hp .nil)))
  ·simp only
   rw [List.take_succ_eq_append_getElem hkl]
   refine Cs_append (Cs_mono (fun s _ cs h => Stm.rep_le hle s cs h) hcs) ?_ J
   rw [hs]
   exact Stm.rep_iff.2 ⟨_, _, J, i1, i2, i3, i4, Sts_le hext3.le hvb, hve⟩
  ·simp only
   rw [List.take_succ_eq_append_getElem hkl, tcT_append, tcT, tcT, List.append_nil, hs]
   exact hfl.app hext.le hle (FL_six hext2.le hext3.le q1 q2 q3 q4 ftb fte)
 ·refine S_freezeM 3 J J (Nat.le_refl _) fun G' hext' hv => ?_
  have hkL : k = L.length := by omega
  refine S_retP Tryz.results52 J J (hext.trans hext') ?_
  rw [hkL, List.take_length] at hcs hfl
  refine ⟨Sr_of (Cs_mono (fun s _ cs h => Stm.rep_le hext'.le s cs h) hcs) hkL hn (by decide) ?_, ?_⟩
  ·rcases hv with hv | ⟨g, cap, h1, h2, h3, h4, _⟩
   ·exact .inl hv
   ·exact .inr ⟨g, cap, h1, h2, h3, h4⟩
  ·rcases hv with ⟨rfl, h1, h2⟩ | ⟨g, cap, rfl, h2, h3, h4, h5, h6⟩
   ·have hL0 : L.length = 0 := by omega
    have := FT_row (w := 6) (n := 0) (c := 0) (A := none) hext.le hext'.le hfl (by rw [tcT_len, hL0]) (by omega) (Nat.le_refl _) (by simp [maxLen]) (.inl rfl)
    exact this
   ·rw [hkL] at h2 ⊢
    exact FT_row hext.le hext'.le hfl (tcT_len _) hn h2 h3 (.inr ⟨_, J, h5, J, h6⟩)
mutual
theorem c_copyStmN : ∀ (s : Stm), (∀ v G, Sts G s.body v → Pure Tryz.prog 52 [v] G fun v' G' => Sts G' s.body v' ∧ FT G G' (shT s.body) v') ∧ (∀ v G, Sts G s.els v → Pure Tryz.prog 52 [v] G fun v' G' => Sts G' s.els v' ∧ FT G G' (shT s.els) v')
 | .mk k a b n x y => ⟨fun v G h => c_copyStmtsN x v G h, fun v G h => c_copyStmtsN y v G h⟩
theorem c_copyAllN : ∀ (L : List Stm), ∀ k (hk : k < L.length), (∀ v G, Sts G L[k].body v → Pure Tryz.prog 52 [v] G fun v' G' => Sts G' L[k].body v' ∧ FT G G' (shT L[k].body) v') ∧ (∀ v G, Sts G L[k].els v → Pure Tryz.prog 52 [v] G fun v' G' => Sts G' L[k].els v' ∧ FT G G' (shT L[k].els) v')
 | [], k, hk => absurd hk (by simp)
 | s :: L, 0, _ => c_copyStmN s
 | s :: L, k + 1, hk => c_copyAllN L k (by simpa using hk)
theorem c_copyStmtsN : ∀ (L : List Stm) (v : Value) (G : PH), Sts G L v → Pure Tryz.prog 52 [v] G fun v' G' => Sts G' L v' ∧ FT G G' (shT L) v'
 | L, v, G, h => c_copyStmtsN_of L (fun k hk v G h => (c_copyAllN L k hk).1 v G h) (fun k hk v G h => (c_copyAllN L k hk).2 v G h) v G h
end
end
section
attribute [local irreducible] X Pure Mod
theorem fm_len {α : Type} {f : α → List Shp} {w : Nat} (hw : ∀ x, (f x).length = w) : ∀ (L : List α), (L.flatMap f).length = L.length * w
 | [] => by simp
 | x :: L => by simp only [List.flatMap_cons, List.length_append, hw, fm_len hw L, List.length_cons, Nat.succ_mul]; omega
theorem fm_at {α : Type} {f : α → List Shp} {w : Nat} (hw : ∀ x, (f x).length = w) : ∀ (L : List α) (i j : Nat) (hi : i < L.length), j < w → (L.flatMap f)[i * w + j]? = (f L[i])[j]?
 | x :: L, 0, j, _, hj => by
  simp only [List.flatMap_cons, List.getElem_cons_zero]
  rw [List.getElem?_append_left (by rw [hw]; omega)]
  simp
 | x :: L, i + 1, j, hi, hj => by
  simp only [List.flatMap_cons, List.getElem_cons_succ]
  rw [List.getElem?_append_right (by rw [hw, Nat.succ_mul]; omega), hw, ← fm_at hw L i j (by simpa using hi) hj]
  congr 1
  rw [Nat.succ_mul]; omega
abbrev PSh := Nat × List Stm
def tcP (q : PSh) : List Shp := [shI q.1, shT q.2, .int, .int, .int]
def shP (ps : List PSh) : Shp := .sl 5 (ps.flatMap tcP)
theorem tcP_len (q : PSh) : (tcP q).length = 5 := rfl
structure WSh where
 ps : List PSh
 nc : Nat
 nr : Nat
 ns : List Nat
 nd : Nat
def tcW (q : WSh) : List Shp := [shP q.ps, shI q.nc, shI q.nr, shII q.ns, shY q.nd]
theorem tcW_len (q : WSh) : (tcW q).length = 5 := rfl
theorem c_markProcS (ps : List PSh) : MkP 35 (shP ps) := by
 intro H v k G hl h0 hb
 obtain ⟨A, n', c, rfl, hlen, hn, hnc, hcm, hA, hR⟩ := Lies_slA hl
 obtain rfl : ps.length = n' := by rw [fm_len tcP_len] at hlen; omega
 have hM : MkC H (ps.flatMap tcP) (ptrV (.slice A (ps.length) c)) k := ⟨hR, h0, hb⟩
 have hce : (ps.flatMap tcP).length ≤ ps.length * 5 := Nat.le_of_eq hlen
 show Mod _ _ _ _ _ fun v' G' A' => v' = .int .i64 (k + numR (ps.flatMap tcP)) ∧ G' = G ∧ A' = frzHP (wr H (adsR H (ps.flatMap tcP) (ptrV (.slice A (ps.length) c))) k)
 generalize hp : ptrV (.slice A (ps.length) c) = ad at hM
 refine Mod.intro Tryz.func35 Tryz.ntmps35 J J fun w S => ?_;refine Va J J ?_;refine S_loop (α := Nat) (fun i => i ≤ ps.length) (fun i => ps.length - i) [] (fun i => [(5, .val (.int .i64 (i : Nat))), (1, .val (.int .i64 (KR k (ps.flatMap tcP) (i * 5)))), (0, .val (.slice A (ps.length) c))])
  (fun i => [.hp 1 (frzHP (WR H (ps.flatMap tcP) ad k (i * 5)))]) (fun _ => G) 0 (Nat.zero_le _) rfl ⟨⟨_, rfl, rfl⟩, ⟨_, rfl, by rw [Nat.zero_mul, KR_zero]⟩, ⟨_, rfl, rfl⟩, trivial⟩ (by rw [Nat.zero_mul, WR_zero]; exact .hp .nil) ?_
 intro i hi
 refine Va J J ?_
 refine S_condp J (fun h5 => ?_) (fun h5 => ?_) <;> refine Va J J ?_
 ·have hil : i < ps.length := by omega
  obtain ⟨ad', rfl⟩ := hA (by omega)
  obtain rfl : ad' = ad := hp
  obtain ⟨v_, hw_, hl_, hset_, hnum_, hk0_, hkb_⟩ := hM.slc (i * 5) ((ad'.add (((i : Nat) : Int).toNat * 5)).add 0) (by simp [add_add', add_zero']) (shI ps[i].1) ⟨_, _, rfl⟩ (((fm_at tcP_len ps i 0 hil (by omega)).trans rfl))
  obtain ⟨A_, n_, c_, rfl, _⟩ := Lies_sl hl_
  refine S_index Tk J J J J J J (by omega) (by omega) ?_;refine Va J J ?_;refine S_valV J J J (V_loadH Tk 1 J J J J hw_) ?_;refine Va J J ?_;refine S_callM 1 Tryz.call13 (c_markIntS ps[i].1 _ _ _ _ hl_ hk0_ hkb_) J J J J (fun _ => J) ?_;rintro v1_ G1_ A1_ ⟨rfl, rfl, rfl⟩ _
  rw [hset_, hnum_]
  clear hw_ hl_ hset_ hnum_ hk0_ hkb_
  refine Va J J ?_;obtain ⟨v_, hw_, hl_, hset_, hnum_, hk0_, hkb_⟩ := hM.slc (i * 5 + 1) ((ad'.add (((i : Nat) : Int).toNat * 5)).add 1) (by simp [add_add', add_zero']) (shT ps[i].2) ⟨_, _, rfl⟩ (((fm_at tcP_len ps i 1 hil (by omega)).trans rfl))
  obtain ⟨A_, n_, c_, rfl, _⟩ := Lies_sl hl_
  refine S_index Tk J J J J J J (by omega) (by omega) ?_;refine Va J J ?_;refine S_valV J J J (V_loadH Tk 1 J J J J hw_) ?_;refine Va J J ?_;refine S_callM 1 Tryz.call34 (c_markStmtS ps[i].2 _ _ _ _ hl_ hk0_ hkb_) J J J J (fun _ => J) ?_;rintro v1_ G1_ A1_ ⟨rfl, rfl, rfl⟩ _
  rw [hset_, hnum_]
  clear hw_ hl_ hset_ hnum_ hk0_ hkb_
  refine Va J J ?_;obtain ⟨⟨u_, hu_⟩, hset_, hnum_, hk0_, hkb_⟩ := hM.int (i * 5 + 1 + 1) ((ad'.add (((i : Nat) : Int).toNat * 5)).add 2) (by simp [add_add', add_zero']) (((fm_at tcP_len ps i 2 hil (by omega)).trans rfl))
  refine S_index Tk J J J J J J (by omega) (by omega) ?_;refine Va J J ?_;refine S_storeH Tk 1 J J J J J J J J hu_ J ?_
  rw [hset_]
  refine Va J J ?_;refine S_add J J J J (by omega) ?_
  rw [hnum_]
  clear hu_ hset_ hnum_ hk0_ hkb_ u_
  refine Va J J ?_;obtain ⟨⟨u_, hu_⟩, hset_, hnum_, hk0_, hkb_⟩ := hM.int (i * 5 + 1 + 1 + 1) ((ad'.add (((i : Nat) : Int).toNat * 5)).add 3) (by simp [add_add', add_zero']) (((fm_at tcP_len ps i 3 hil (by omega)).trans rfl))
  refine S_index Tk J J J J J J (by omega) (by omega) ?_;refine Va J J ?_;refine S_storeH Tk 1 J J J J J J J J hu_ J ?_
  rw [hset_]
  refine Va J J ?_;refine S_add J J J J (by omega) ?_
  rw [hnum_]
  clear hu_ hset_ hnum_ hk0_ hkb_ u_
  refine Va J J ?_;obtain ⟨⟨u_, hu_⟩, hset_, hnum_, hk0_, hkb_⟩ := hM.int (i * 5 + 1 + 1 + 1 + 1) ((ad'.add (((i : Nat) : Int).toNat * 5)).add 4) (by simp [add_add', add_zero']) (((fm_at tcP_len ps i 4 hil (by omega)).trans rfl))
  refine S_index Tk J J J J J J (by omega) (by omega) ?_;refine Va J J ?_;refine S_storeH Tk 1 J J J J J J J J hu_ J ?_
  rw [hset_]
  refine Va J J ?_;refine S_add J J J J (by omega) ?_
  rw [hnum_]
  clear hu_ hset_ hnum_ hk0_ hkb_ u_
  refine Va J J ?_;refine S_add J J J J (by omega) ?_;refine Va J J ?_;refine S_again (i + 1) (by omega) (by omega) J ⟨⟨_, J, by simp [denO]⟩, ⟨_, J, by rw [show i * 5 + 1 + 1 + 1 + 1 + 1 = (i + 1) * 5 by omega]⟩, ⟨_, J, J⟩, trivial⟩ ?_
  rw [show i * 5 + 1 + 1 + 1 + 1 + 1 = (i + 1) * 5 by omega]
  exact .hp .nil
 ·have e0 : i = ps.length := by omega
  subst e0
  exact S_retm 1 (Res.t1 Tryz.results35 J J) J XR ⟨by rw [KR_all hce], J, by rw [WR_all hce]⟩
end
section
attribute [local irreducible] X Pure Mod
theorem LiesL_ints (H : PH) : ∀ l : List Int, LiesL H (tcI l.length) (intC l) ∧ adsL H (tcI l.length) (intC l) = []
 | [] => by simp [tcI, intC, LiesL, adsL]
 | n :: l => by
  obtain ⟨h1, h2⟩ := LiesL_ints H l
  rw [show tcI (n :: l).length = .int :: tcI l.length from rfl, show intC (n :: l) = .int .i64 n :: intC l from rfl]
  exact ⟨⟨by simp only [Lies]; exact ⟨n, J⟩, h1⟩, by simp only [adsL, adsV, h2]; rfl⟩
theorem FL_ints (G G' : PH) (l : List Int) : FL G G' (tcI l.length) (intC l) := ⟨(LiesL_ints _ l).1, by rw [(LiesL_ints _ l).2]; exact List.nodup_nil⟩
theorem LiesL_said (H : PH) : ∀ l : List (Int × Int), LiesL H (tcI (l.length * 2)) (saidC l) ∧ adsL H (tcI (l.length * 2)) (saidC l) = []
 | [] => by simp [tcI, saidC, LiesL, adsL]
 | (a, b) :: l => by
  obtain ⟨h1, h2⟩ := LiesL_said H l
  rw [show tcI (((a, b) :: l).length * 2) = .int :: .int :: tcI (l.length * 2) by
   simp only [List.length_cons, Nat.succ_mul]; rfl, show saidC ((a, b) :: l) = .int .i64 a :: .int .i64 b :: saidC l from rfl]
  exact ⟨⟨by simp only [Lies]; exact ⟨a, J⟩, by simp only [Lies]; exact ⟨b, J⟩, h1⟩, by simp only [adsL, adsV, h2]; rfl⟩
theorem FL_said (G G' : PH) (l : List (Int × Int)) : FL G G' (tcI (l.length * 2)) (saidC l) := ⟨(LiesL_said _ l).1, by rw [(LiesL_said _ l).2]; exact List.nodup_nil⟩
theorem FT_nil {G G' : PH} {w : Nat} : FT G G' (.sl w []) (.slice none 0 0) := ⟨by simp only [Lies]; exact ⟨none, 0, 0, J, by simp, by omega, Nat.le_refl _, by simp [maxLen], .inl J⟩, by simp [adsV, adsR]⟩
theorem c_CloneFT (l : List Int) (v : Value) (G : PH) (h0 : IntsU G l v) : Pure Tryz.prog 60 [v] G fun v' G' => IntsU G' l v' ∧ FT G G' (shI l.length) v' := by
 obtain ⟨xs, h, hc⟩ := Sr_Sx (rep := intU) (sz := 1) (fun n cs h => by rw [show cs = [.int .i64 n] from h]; rfl) h0
 obtain rfl := Cs_intU_eq hc
 have h1 := intC1 l
 obtain ⟨A, c, rfl, hn, hnc, hcm, hlen, hrow⟩ := h
 refine Pure.intro Tryz.func60 Tryz.ntmps60 J J fun w => ?_; refine Va J J ?_
 cases A with
 | none =>
  refine S_valV J J J (V_eqNil Tk J J) ?_;refine Va J J ?_;refine RT J J ?_;refine Va J J ?_;obtain rfl : l = [] := List.eq_nil_of_length_eq_zero (by rcases hrow with h | ⟨a, h, _⟩; exact h; cases h)
  exact S_retp (Res.t1 Tryz.results60 J J) XR ⟨⟨none, 0, J, by simp, by simp, by simp [maxLen], .inl J⟩, FT_nil⟩
 | some a =>
  refine S_valV J J J (V_eqNil Tk J J) ?_;refine Va J J ?_;refine RF J J ?_;refine Va J J ?_;refine S_emptyO Tk 5 J J J J fun A => ?_;refine Va J J ?_;refine S_appO Tk 5 J J J J J J J J J J J (fun _ _ => J) (src_G hlen (by
   rcases hrow with h | ⟨a', h, h2⟩
   ·exact .inl h
   ·exact .inr ⟨a', h, h2⟩)) h1 (by simp only; omega) (by simp only [maxLen]; omega) (Nat.le_refl _) fun A' c' => ?_
  refine Va J J ?_;refine S_freezeW 5 J J (Nat.le_refl _) fun G' hext hnc' hcm' hcells hnew => ?_
  have hsx : Sx (newp G G') 1 (.slice A' l.length c') l.length (intC l) := ⟨A', c', rfl, hn, by simpa using hnc', hcm', hlen, by simpa using hcells⟩
  have hft := FT_row (w := 1) (n := l.length) (c := c') (A := A') (PH.le.refl _) hext.le (FL_ints G G l) (by simp [tcI_len]) (by simpa using hn) (by simpa using hnc') hcm' (by simpa using hnew)
  refine S_retp (Res.t1 Tryz.results60 J J) hext ?_
  simp only [denO, Nat.zero_add]
  exact ⟨Sx_Sr (Sx_le (newp_le _ _) hsx) J hc, hft⟩
theorem c_CloneFY (l : List (Int × Int)) (v : Value) (G : PH) (h0 : SaysU G l v) : Pure Tryz.prog 61 [v] G fun v' G' => SaysU G' l v' ∧ FT G G' (shY l.length) v' := by
 obtain ⟨xs, h, hc⟩ := Sr_Sx (rep := sayU) (sz := 2) (fun n cs h => by rw [show cs = [.int .i64 n.1, .int .i64 n.2] from h]; rfl) h0
 obtain rfl := Cs_sayU_eq hc
 have h1 := saidC_one l
 obtain ⟨A, c, rfl, hn, hnc, hcm, hlen, hrow⟩ := h
 refine Pure.intro Tryz.func61 Tryz.ntmps61 J J fun w => ?_; refine Va J J ?_
 cases A with
 | none =>
  refine S_valV J J J (V_eqNil Tk J J) ?_;refine Va J J ?_;refine RT J J ?_;refine Va J J ?_;obtain rfl : l = [] := List.eq_nil_of_length_eq_zero (by rcases hrow with h | ⟨a, h, _⟩; exact h; cases h)
  exact S_retp (Res.t1 Tryz.results61 J J) XR ⟨⟨none, 0, J, by simp, by simp, by simp [maxLen], .inl J⟩, FT_nil⟩
 | some a =>
  refine S_valV J J J (V_eqNil Tk J J) ?_;refine Va J J ?_;refine RF J J ?_;refine Va J J ?_;refine S_emptyO Tk 5 J J J J fun A => ?_;refine Va J J ?_;refine S_appO Tk 5 J J J J J J J J J J J (fun _ _ => J) (src_G hlen (by
   rcases hrow with h | ⟨a', h, h2⟩
   ·exact .inl h
   ·exact .inr ⟨a', h, h2⟩)) h1 (by simp only; omega) (by simp only [maxLen]; omega) (Nat.le_refl _) fun A' c' => ?_
  refine Va J J ?_;refine S_freezeW 5 J J (Nat.le_refl _) fun G' hext hnc' hcm' hcells hnew => ?_
  have hsx : Sx (newp G G') 2 (.slice A' l.length c') l.length (saidC l) := ⟨A', c', rfl, hn, by simpa using hnc', hcm', hlen, by simpa using hcells⟩
  have hft := FT_row (w := 2) (n := l.length) (c := c') (A := A') (PH.le.refl _) hext.le (FL_said G G l) (by simp [tcI_len]) (by simpa using hn) (by simpa using hnc') hcm' (by simpa using hnew)
  refine S_retp (Res.t1 Tryz.results61 J J) hext ?_
  simp only [denO, Nat.zero_add]
  exact ⟨Sx_Sr (Sx_le (newp_le _ _) hsx) J hc, hft⟩
end
section
attribute [local irreducible] X Pure Mod
theorem Ints_all {G : PH} {q : List Int} {v : Value} (h : Ints G q v) : ∀ x ∈ q, I64 x := by
 intro x hx
 obtain ⟨k, hk, rfl⟩ := List.getElem_of_mem hx
 obtain ⟨A, c, rfl, _⟩ := id h
 obtain ⟨ad, cs, _, _, _, hi⟩ := Sr_at h hk
 exact hi
theorem Ints_U {G : PH} {q : List Int} {v : Value} (h : Ints G q v) : IntsU G q v := Sr_mono (PH.le.refl _) (fun x _ cs h => h.1) h
theorem intC_app (l m : List Int) : intC (l ++ m) = intC l ++ intC m := by
 induction l with
 | nil => rfl
 | cons n l ih => rw [List.cons_append, show intC (n :: (l ++ m)) = .int .i64 n :: intC (l ++ m) from rfl, ih]; rfl
theorem c_toIntSN (q : List Int) (v : Value) (G : PH) (hq : Ints G q v) (hc : q.length ≤ 1048576) : Pure Tryz.prog 7 [v] G fun v' G' => Ints G' q v' ∧ FT G G' (shI q.length) v' := by
 have hall := Ints_all hq
 obtain ⟨A, c, rfl, _⟩ := id hq
 refine Pure.intro Tryz.func7 Tryz.ntmps7 J J fun w => ?_; refine Va J J ?_;refine S_make Tk ZT_ok J J J J J J (by show 8 * q.length ≤ _; omega) (by omega) rfl rfl rfl fun bm => ?_;refine Va J J ?_;refine S_blkO 7 70 (base := w.heap.size) (n := q.length) (c := q.length) (o := 0) (sz := 1) (xs := repL q.length [.int .i64 0]) rfl rfl (denL_vL _ _) rfl (.inr (.inr ⟨rfl, fun _ h => h⟩)) (by rw [List.drop_zero]; exact List.take_of_length_le (by rw [repL_length]; exact Nat.le_refl _)) (repL_length _ _) (Nat.le_refl _) (by simp [maxLen]; omega) (by rw [repL_length]; simp) ?_
 refine S_loop (α := Nat) (fun k => k ≤ q.length) (fun k => q.length - k) []
  (fun k => [(4, .val (.int .i64 (k : Nat))), (3, .val (.slice (some ⟨bm, 0, none⟩) q.length q.length)), (0, .val (.slice A q.length c))])
  (fun k => [.hp 70 (rowO w.heap.size 3 1 (some ⟨bm, 0, none⟩) q.length q.length (intC (q.take k) ++ repL (q.length - k) [.int .i64 0]))]) (fun _ => G) 0 (Nat.zero_le _) rfl ⟨⟨_, rfl, rfl⟩, ⟨_, rfl, rfl⟩, ⟨_, rfl, rfl⟩, trivial⟩ (.hp .nil) ?_
 intro k hk
 refine Va J J ?_
 refine S_condp J (fun h5 => ?_) (fun h5 => ?_) <;> refine Va J J ?_
 ·have hkl : k < q.length := by omega
  obtain ⟨m, hm⟩ : ∃ m, q.length - k = m + 1 := ⟨q.length - k - 1, by omega⟩
  rw [hm]
  have hdl : (intC (q.take k)).length = k := by rw [intC_length, List.length_take]; omega
  obtain ⟨ad, cs, rfl, hcell, rfl, _⟩ := Sr_at hq hkl
  have hqk := List.take_succ_eq_append_getElem hkl
  generalize q[k] = x at hqk hcell
  refine S_index Tk J J J J J J (by omega) (by omega) ?_;refine Va J J ?_;refine S_load Tk J J J J J (by simpa [add_zero'] using gcells_at hcell 0 _ J) ?_;refine Va J J ?_;refine S_index Tk J J J J J J (by omega) (by omega) ?_;refine Va J J ?_;refine S_storeO Tk 70 (o := k) J J J (by simp [add_lit']) J J J J J (by rw [List.length_append, hdl, repL_length]; show _ < _ + (m + 1) * 1; omega) rfl ?_
  rw [set_app hdl]
  refine Va J J ?_;refine S_add J J J J (by omega) ?_;refine Va J J ?_;refine S_again (k + 1) hkl (by omega) J ⟨⟨_, J, by simp [denO]⟩, ⟨_, J, J⟩, ⟨_, J, J⟩, trivial⟩ ?_
  rw [show q.length - (k + 1) = m by omega, hqk, intC_app]
  exact .hp .nil
 ·have e0 : k = q.length := by omega
  subst e0
  rw [Nat.sub_self, repL, List.append_nil, List.take_length] at *
  refine S_freezeW 70 J J (Nat.le_refl _) fun Gf hextf hncf hcmf hclf hnew => ?_;refine S_retp (Res.t1 Tryz.results7 J J) hextf ?_;exact ⟨frz (Cs_intC hall) J (by omega) hncf hcmf hclf, FT_row (PH.le.refl _) hextf.le (FL_ints G G q) (by simp [tcI_len]) (by omega) hncf hcmf hnew⟩
end
section
attribute [local irreducible] X Pure Mod
theorem c_heldIntS (n : Nat) : HdP 39 (shI n) := by
 intro G v k hl h0 hb hh
 obtain ⟨A, n', c, rfl, hlen, hn, hnc, hcm, hA, hR⟩ := Lies_slA hl
 obtain rfl : n = n' := by rw [tcI_len] at hlen; omega
 have hM : HdC G (tcI n) (ptrV (.slice A (n) c)) k := ⟨hR, h0, hb, hh⟩
 have hce : (tcI n).length ≤ n * 1 := Nat.le_of_eq hlen
 show Pure _ _ _ _ fun v' G' => v' = .int .i64 (k + numR (tcI n)) ∧ G' = G
 generalize hp : ptrV (.slice A (n) c) = ad at hM
 refine Pure.intro Tryz.func39 Tryz.ntmps39 J J fun w => ?_; refine Va J J ?_;refine S_loop (α := Nat) (fun i => i ≤ n) (fun i => n - i) [] (fun i => [(5, .val (.int .i64 (i : Nat))), (1, .val (.int .i64 (KR k (tcI n) (i * 1)))), (0, .val (.slice A (n) c))])
  (fun i => []) (fun _ => G) 0 (Nat.zero_le _) rfl ⟨⟨_, rfl, rfl⟩, ⟨_, rfl, by rw [Nat.zero_mul, KR_zero]⟩, ⟨_, rfl, rfl⟩, trivial⟩ .nil ?_
 intro i hi
 refine Va J J ?_
 refine S_condp J (fun h5 => ?_) (fun h5 => ?_) <;> refine Va J J ?_
 ·have hil : i < n := by omega
  obtain ⟨ad', rfl⟩ := hA (by omega)
  obtain rfl : ad' = ad := hp
  obtain ⟨hw_, hnum_, hk0_, hkb_⟩ := hM.int (i * 1) (ad'.add (((i : Nat) : Int).toNat * 1)) (by simp [add_add', add_zero']) (tcI_at (by omega))
  refine S_index Tk J J J J J J (by omega) (by omega) ?_;refine Va J J ?_;refine S_load Tk J J J J J (wcell_g hw_) ?_;refine Va J J ?_;refine RF J (by simp) ?_;refine Va J J ?_;refine S_add J J J J (by omega) ?_
  rw [hnum_]
  clear hw_ hnum_ hk0_ hkb_
  refine Va J J ?_;refine S_add J J J J (by omega) ?_;refine Va J J ?_;exact S_again (i + 1) (by omega) (by omega) J ⟨⟨_, J, by simp [denO]⟩, ⟨_, J, by rw [show i * 1 + 1 = (i + 1) * 1 by omega]⟩, ⟨_, J, J⟩, trivial⟩ .nil
 ·have e0 : i = n := by omega
  subst e0
  exact S_retp (Res.t1 Tryz.results39 J J) XR ⟨by rw [KR_all hce], J⟩
theorem c_heldIntSS (ns : List Nat) : HdP 40 (shII ns) := by
 intro G v k hl h0 hb hh
 obtain ⟨A, n', c, rfl, hlen, hn, hnc, hcm, hA, hR⟩ := Lies_slA hl
 obtain rfl : ns.length = n' := by rw [List.length_map] at hlen; omega
 have hM : HdC G (ns.map shI) (ptrV (.slice A (ns.length) c)) k := ⟨hR, h0, hb, hh⟩
 have hce : (ns.map shI).length ≤ ns.length * 1 := Nat.le_of_eq hlen
 show Pure _ _ _ _ fun v' G' => v' = .int .i64 (k + numR (ns.map shI)) ∧ G' = G
 generalize hp : ptrV (.slice A (ns.length) c) = ad at hM
 refine Pure.intro Tryz.func40 Tryz.ntmps40 J J fun w => ?_; refine Va J J ?_;refine S_loop (α := Nat) (fun i => i ≤ ns.length) (fun i => ns.length - i) [] (fun i => [(5, .val (.int .i64 (i : Nat))), (1, .val (.int .i64 (KR k (ns.map shI) (i * 1)))), (0, .val (.slice A (ns.length) c))])
  (fun i => []) (fun _ => G) 0 (Nat.zero_le _) rfl ⟨⟨_, rfl, rfl⟩, ⟨_, rfl, by rw [Nat.zero_mul, KR_zero]⟩, ⟨_, rfl, rfl⟩, trivial⟩ .nil ?_
 intro i hi
 refine Va J J ?_
 refine S_condp J (fun h5 => ?_) (fun h5 => ?_) <;> refine Va J J ?_
 ·have hil : i < ns.length := by omega
  obtain ⟨ad', rfl⟩ := hA (by omega)
  obtain rfl : ad' = ad := hp
  obtain ⟨v_, hw_, hl_, hh_, hnum_, hk0_, hkb_⟩ := hM.slc (i * 1) (ad'.add (((i : Nat) : Int).toNat * 1)) (by simp [add_add', add_zero']) (shI ns[i]) ⟨_, _, rfl⟩ ((by rw [Nat.mul_one, List.getElem?_map, List.getElem?_eq_getElem hil]; rfl))
  obtain ⟨A_, n_, c_, rfl, _⟩ := Lies_sl hl_
  refine S_index Tk J J J J J J (by omega) (by omega) ?_;refine Va J J ?_;refine S_load Tk J J J J J (wcell_g hw_) ?_;refine Va J J ?_;refine S_call Tryz.call39 (c_heldIntS ns[i] _ _ _ hl_ hk0_ hkb_ hh_) J J J ?_;rintro v1_ G1_ ⟨rfl, rfl⟩ _
  rw [hnum_]
  have hb_ := hM.bnd (i * 1 + 1)
  refine Va J J ?_;refine RF J (by first | (simp; omega) | (simp at hb_ ⊢; omega)) ?_
  clear hw_ hl_ hnum_ hk0_ hkb_ hh_ hb_
  refine Va J J ?_;refine S_add J J J J (by omega) ?_;refine Va J J ?_;exact S_again (i + 1) (by omega) (by omega) J ⟨⟨_, J, by simp [denO]⟩, ⟨_, J, by rw [show i * 1 + 1 = (i + 1) * 1 by omega]⟩, ⟨_, J, J⟩, trivial⟩ .nil
 ·have e0 : i = ns.length := by omega
  subst e0
  exact S_retp (Res.t1 Tryz.results40 J J) XR ⟨by rw [KR_all hce], J⟩
theorem c_heldSayS (n : Nat) : HdP 41 (shY n) := by
 intro G v k hl h0 hb hh
 obtain ⟨A, n', c, rfl, hlen, hn, hnc, hcm, hA, hR⟩ := Lies_slA hl
 obtain rfl : n = n' := by rw [tcI_len] at hlen; omega
 have hM : HdC G (tcI (n * 2)) (ptrV (.slice A (n) c)) k := ⟨hR, h0, hb, hh⟩
 have hce : (tcI (n * 2)).length ≤ n * 2 := Nat.le_of_eq hlen
 show Pure _ _ _ _ fun v' G' => v' = .int .i64 (k + numR (tcI (n * 2))) ∧ G' = G
 generalize hp : ptrV (.slice A (n) c) = ad at hM
 refine Pure.intro Tryz.func41 Tryz.ntmps41 J J fun w => ?_; refine Va J J ?_;refine S_loop (α := Nat) (fun i => i ≤ n) (fun i => n - i) [] (fun i => [(5, .val (.int .i64 (i : Nat))), (1, .val (.int .i64 (KR k (tcI (n * 2)) (i * 2)))), (0, .val (.slice A (n) c))])
  (fun i => []) (fun _ => G) 0 (Nat.zero_le _) rfl ⟨⟨_, rfl, rfl⟩, ⟨_, rfl, by rw [Nat.zero_mul, KR_zero]⟩, ⟨_, rfl, rfl⟩, trivial⟩ .nil ?_
 intro i hi
 refine Va J J ?_
 refine S_condp J (fun h5 => ?_) (fun h5 => ?_) <;> refine Va J J ?_
 ·have hil : i < n := by omega
  obtain ⟨ad', rfl⟩ := hA (by omega)
  obtain rfl : ad' = ad := hp
  obtain ⟨hw_, hnum_, hk0_, hkb_⟩ := hM.int (i * 2) ((ad'.add (((i : Nat) : Int).toNat * 2)).add 0) (by simp [add_add', add_zero']) (tcI_at (by omega))
  refine S_index Tk J J J J J J (by omega) (by omega) ?_;refine Va J J ?_;refine S_load Tk J J J J J (wcell_g hw_) ?_;refine Va J J ?_;refine RF J (by simp) ?_;refine Va J J ?_;refine S_add J J J J (by omega) ?_
  rw [hnum_]
  clear hw_ hnum_ hk0_ hkb_
  refine Va J J ?_;obtain ⟨hw_, hnum_, hk0_, hkb_⟩ := hM.int (i * 2 + 1) ((ad'.add (((i : Nat) : Int).toNat * 2)).add 1) (by simp [add_add', add_zero']) (tcI_at (by omega))
  refine S_index Tk J J J J J J (by omega) (by omega) ?_;refine Va J J ?_;refine S_load Tk J J J J J (wcell_g hw_) ?_;refine Va J J ?_;refine RF J (by simp) ?_;refine Va J J ?_;refine S_add J J J J (by omega) ?_
  rw [hnum_]
  clear hw_ hnum_ hk0_ hkb_
  refine Va J J ?_;refine S_add J J J J (by omega) ?_;refine Va J J ?_;exact S_again (i + 1) (by omega) (by omega) J ⟨⟨_, J, by simp [denO]⟩, ⟨_, J, by rw [show i * 2 + 1 + 1 = (i + 1) * 2 by omega]⟩, ⟨_, J, J⟩, trivial⟩ .nil
 ·have e0 : i = n := by omega
  subst e0
  exact S_retp (Res.t1 Tryz.results41 J J) XR ⟨by rw [KR_all hce], J⟩
theorem c_heldStmtS_of (L : List Stm) (hx : ∀ i (hi : i < L.length), HdP 65 (shT L[i].body) ∧ HdP 65 (shT L[i].els)) : HdP 65 (shT L) := by
 intro G v k hl h0 hb hh
 obtain ⟨A, n', c, rfl, hlen, hn, hnc, hcm, hA, hR⟩ := Lies_slA hl
 obtain rfl : L.length = n' := by rw [tcT_len] at hlen; omega
 have hM : HdC G (tcT L) (ptrV (.slice A (L.length) c)) k := ⟨hR, h0, hb, hh⟩
 have hce : (tcT L).length ≤ L.length * 6 := Nat.le_of_eq hlen
 show Pure _ _ _ _ fun v' G' => v' = .int .i64 (k + numR (tcT L)) ∧ G' = G
 generalize hp : ptrV (.slice A (L.length) c) = ad at hM
 refine Pure.intro Tryz.func65 Tryz.ntmps65 J J fun w => ?_; refine Va J J ?_;refine S_loop (α := Nat) (fun i => i ≤ L.length) (fun i => L.length - i) [] (fun i => [(5, .val (.int .i64 (i : Nat))), (1, .val (.int .i64 (KR k (tcT L) (i * 6)))), (0, .val (.slice A (L.length) c))])
  (fun i => []) (fun _ => G) 0 (Nat.zero_le _) rfl ⟨⟨_, rfl, rfl⟩, ⟨_, rfl, by rw [Nat.zero_mul, KR_zero]⟩, ⟨_, rfl, rfl⟩, trivial⟩ .nil ?_
 intro i hi
 refine Va J J ?_
 refine S_condp J (fun h5 => ?_) (fun h5 => ?_) <;> refine Va J J ?_
 ·have hil : i < L.length := by omega
  obtain ⟨ad', rfl⟩ := hA (by omega)
  obtain rfl : ad' = ad := hp
  obtain ⟨hw_, hnum_, hk0_, hkb_⟩ := hM.int (i * 6) ((ad'.add (((i : Nat) : Int).toNat * 6)).add 0) (by simp [add_add', add_zero']) (tcT_int hil 0 (by omega))
  refine S_index Tk J J J J J J (by omega) (by omega) ?_;refine Va J J ?_;refine S_load Tk J J J J J (wcell_g hw_) ?_;refine Va J J ?_;refine RF J (by simp) ?_;refine Va J J ?_;refine S_add J J J J (by omega) ?_
  rw [hnum_]
  clear hw_ hnum_ hk0_ hkb_
  refine Va J J ?_;obtain ⟨hw_, hnum_, hk0_, hkb_⟩ := hM.int (i * 6 + 1) ((ad'.add (((i : Nat) : Int).toNat * 6)).add 1) (by simp [add_add', add_zero']) (tcT_int hil 1 (by omega))
  refine S_index Tk J J J J J J (by omega) (by omega) ?_;refine Va J J ?_;refine S_load Tk J J J J J (wcell_g hw_) ?_;refine Va J J ?_;refine RF J (by simp) ?_;refine Va J J ?_;refine S_add J J J J (by omega) ?_
  rw [hnum_]
  clear hw_ hnum_ hk0_ hkb_
  refine Va J J ?_;obtain ⟨hw_, hnum_, hk0_, hkb_⟩ := hM.int (i * 6 + 1 + 1) ((ad'.add (((i : Nat) : Int).toNat * 6)).add 2) (by simp [add_add', add_zero']) (tcT_int hil 2 (by omega))
  refine S_index Tk J J J J J J (by omega) (by omega) ?_;refine Va J J ?_;refine S_load Tk J J J J J (wcell_g hw_) ?_;refine Va J J ?_;refine RF J (by simp) ?_;refine Va J J ?_;refine S_add J J J J (by omega) ?_
  rw [hnum_]
  clear hw_ hnum_ hk0_ hkb_
  refine Va J J ?_;obtain ⟨hw_, hnum_, hk0_, hkb_⟩ := hM.int (i * 6 + 1 + 1 + 1) ((ad'.add (((i : Nat) : Int).toNat * 6)).add 3) (by simp [add_add', add_zero']) (tcT_int hil 3 (by omega))
  refine S_index Tk J J J J J J (by omega) (by omega) ?_;refine Va J J ?_;refine S_load Tk J J J J J (wcell_g hw_) ?_;refine Va J J ?_;refine RF J (by simp) ?_;refine Va J J ?_;refine S_add J J J J (by omega) ?_
  rw [hnum_]
  clear hw_ hnum_ hk0_ hkb_
  refine Va J J ?_;obtain ⟨v_, hw_, hl_, hh_, hnum_, hk0_, hkb_⟩ := hM.slc (i * 6 + 1 + 1 + 1 + 1) ((ad'.add (((i : Nat) : Int).toNat * 6)).add 4) (by simp [add_add', add_zero']) (shT L[i].body) ⟨_, _, rfl⟩ (tcT_b hil)
  obtain ⟨A_, n_, c_, rfl, _⟩ := Lies_sl hl_
  refine S_index Tk J J J J J J (by omega) (by omega) ?_;refine Va J J ?_;refine S_load Tk J J J J J (wcell_g hw_) ?_;refine Va J J ?_;refine S_call Tryz.call65 ((hx i hil).1 _ _ _ hl_ hk0_ hkb_ hh_) J J J ?_;rintro v1_ G1_ ⟨rfl, rfl⟩ _
  rw [hnum_]
  have hb_ := hM.bnd (i * 6 + 1 + 1 + 1 + 1 + 1)
  refine Va J J ?_;refine RF J (by first | (simp; omega) | (simp at hb_ ⊢; omega)) ?_
  clear hw_ hl_ hnum_ hk0_ hkb_ hh_ hb_
  refine Va J J ?_;obtain ⟨v_, hw_, hl_, hh_, hnum_, hk0_, hkb_⟩ := hM.slc (i * 6 + 1 + 1 + 1 + 1 + 1) ((ad'.add (((i : Nat) : Int).toNat * 6)).add 5) (by simp [add_add', add_zero']) (shT L[i].els) ⟨_, _, rfl⟩ (tcT_e hil)
  obtain ⟨A_, n_, c_, rfl, _⟩ := Lies_sl hl_
  refine S_index Tk J J J J J J (by omega) (by omega) ?_;refine Va J J ?_;refine S_load Tk J J J J J (wcell_g hw_) ?_;refine Va J J ?_;refine S_call Tryz.call65 ((hx i hil).2 _ _ _ hl_ hk0_ hkb_ hh_) J J J ?_;rintro v1_ G1_ ⟨rfl, rfl⟩ _
  rw [hnum_]
  have hb_ := hM.bnd (i * 6 + 1 + 1 + 1 + 1 + 1 + 1)
  refine Va J J ?_;refine RF J (by first | (simp; omega) | (simp at hb_ ⊢; omega)) ?_
  clear hw_ hl_ hnum_ hk0_ hkb_ hh_ hb_
  refine Va J J ?_;refine S_add J J J J (by omega) ?_;refine Va J J ?_;exact S_again (i + 1) (by omega) (by omega) J ⟨⟨_, J, by simp [denO]⟩, ⟨_, J, by rw [show i * 6 + 1 + 1 + 1 + 1 + 1 + 1 = (i + 1) * 6 by omega]⟩, ⟨_, J, J⟩, trivial⟩ .nil
 ·have e0 : i = L.length := by omega
  subst e0
  exact S_retp (Res.t1 Tryz.results65 J J) XR ⟨by rw [KR_all hce], J⟩
mutual
theorem HdT_stm : ∀ (s : Stm), HdP 65 (shT s.body) ∧ HdP 65 (shT s.els)
 | .mk k a b n x y => ⟨c_heldStmtS x, c_heldStmtS y⟩
theorem HdT_at : ∀ (L : List Stm) (k : Nat) (hk : k < L.length), HdP 65 (shT L[k].body) ∧ HdP 65 (shT L[k].els)
 | [], k, hk => absurd hk (by simp)
 | s :: L, 0, _ => HdT_stm s
 | s :: L, k + 1, hk => HdT_at L k (by simpa using hk)
theorem c_heldStmtS : ∀ (L : List Stm), HdP 65 (shT L)
 | L => c_heldStmtS_of L (HdT_at L)
end
theorem c_heldProcS (ps : List PSh) : HdP 38 (shP ps) := by
 intro G v k hl h0 hb hh
 obtain ⟨A, n', c, rfl, hlen, hn, hnc, hcm, hA, hR⟩ := Lies_slA hl
 obtain rfl : ps.length = n' := by rw [fm_len tcP_len] at hlen; omega
 have hM : HdC G (ps.flatMap tcP) (ptrV (.slice A (ps.length) c)) k := ⟨hR, h0, hb, hh⟩
 have hce : (ps.flatMap tcP).length ≤ ps.length * 5 := Nat.le_of_eq hlen
 show Pure _ _ _ _ fun v' G' => v' = .int .i64 (k + numR (ps.flatMap tcP)) ∧ G' = G
 generalize hp : ptrV (.slice A (ps.length) c) = ad at hM
 refine Pure.intro Tryz.func38 Tryz.ntmps38 J J fun w => ?_; refine Va J J ?_;refine S_loop (α := Nat) (fun i => i ≤ ps.length) (fun i => ps.length - i) [] (fun i => [(5, .val (.int .i64 (i : Nat))), (1, .val (.int .i64 (KR k (ps.flatMap tcP) (i * 5)))), (0, .val (.slice A (ps.length) c))])
  (fun i => []) (fun _ => G) 0 (Nat.zero_le _) rfl ⟨⟨_, rfl, rfl⟩, ⟨_, rfl, by rw [Nat.zero_mul, KR_zero]⟩, ⟨_, rfl, rfl⟩, trivial⟩ .nil ?_
 intro i hi
 refine Va J J ?_
 refine S_condp J (fun h5 => ?_) (fun h5 => ?_) <;> refine Va J J ?_
 ·have hil : i < ps.length := by omega
  obtain ⟨ad', rfl⟩ := hA (by omega)
  obtain rfl : ad' = ad := hp
  obtain ⟨v_, hw_, hl_, hh_, hnum_, hk0_, hkb_⟩ := hM.slc (i * 5) ((ad'.add (((i : Nat) : Int).toNat * 5)).add 0) (by simp [add_add', add_zero']) (shI ps[i].1) ⟨_, _, rfl⟩ (((fm_at tcP_len ps i 0 hil (by omega)).trans rfl))
  obtain ⟨A_, n_, c_, rfl, _⟩ := Lies_sl hl_
  refine S_index Tk J J J J J J (by omega) (by omega) ?_;refine Va J J ?_;refine S_load Tk J J J J J (wcell_g hw_) ?_;refine Va J J ?_;refine S_call Tryz.call39 (c_heldIntS ps[i].1 _ _ _ hl_ hk0_ hkb_ hh_) J J J ?_;rintro v1_ G1_ ⟨rfl, rfl⟩ _
  rw [hnum_]
  have hb_ := hM.bnd (i * 5 + 1)
  refine Va J J ?_;refine RF J (by first | (simp; omega) | (simp at hb_ ⊢; omega)) ?_
  clear hw_ hl_ hnum_ hk0_ hkb_ hh_ hb_
  refine Va J J ?_;obtain ⟨v_, hw_, hl_, hh_, hnum_, hk0_, hkb_⟩ := hM.slc (i * 5 + 1) ((ad'.add (((i : Nat) : Int).toNat * 5)).add 1) (by simp [add_add', add_zero']) (shT ps[i].2) ⟨_, _, rfl⟩ (((fm_at tcP_len ps i 1 hil (by omega)).trans rfl))
  obtain ⟨A_, n_, c_, rfl, _⟩ := Lies_sl hl_
  refine S_index Tk J J J J J J (by omega) (by omega) ?_;refine Va J J ?_;refine S_load Tk J J J J J (wcell_g hw_) ?_;refine Va J J ?_;refine S_call Tryz.call65 (c_heldStmtS ps[i].2 _ _ _ hl_ hk0_ hkb_ hh_) J J J ?_;rintro v1_ G1_ ⟨rfl, rfl⟩ _
  rw [hnum_]
  have hb_ := hM.bnd (i * 5 + 1 + 1)
  refine Va J J ?_;refine RF J (by first | (simp; omega) | (simp at hb_ ⊢; omega)) ?_
  clear hw_ hl_ hnum_ hk0_ hkb_ hh_ hb_
  refine Va J J ?_;obtain ⟨hw_, hnum_, hk0_, hkb_⟩ := hM.int (i * 5 + 1 + 1) ((ad'.add (((i : Nat) : Int).toNat * 5)).add 2) (by simp [add_add', add_zero']) (((fm_at tcP_len ps i 2 hil (by omega)).trans rfl))
  refine S_index Tk J J J J J J (by omega) (by omega) ?_;refine Va J J ?_;refine S_load Tk J J J J J (wcell_g hw_) ?_;refine Va J J ?_;refine RF J (by simp) ?_;refine Va J J ?_;refine S_add J J J J (by omega) ?_
  rw [hnum_]
  clear hw_ hnum_ hk0_ hkb_
  refine Va J J ?_;obtain ⟨hw_, hnum_, hk0_, hkb_⟩ := hM.int (i * 5 + 1 + 1 + 1) ((ad'.add (((i : Nat) : Int).toNat * 5)).add 3) (by simp [add_add', add_zero']) (((fm_at tcP_len ps i 3 hil (by omega)).trans rfl))
  refine S_index Tk J J J J J J (by omega) (by omega) ?_;refine Va J J ?_;refine S_load Tk J J J J J (wcell_g hw_) ?_;refine Va J J ?_;refine RF J (by simp) ?_;refine Va J J ?_;refine S_add J J J J (by omega) ?_
  rw [hnum_]
  clear hw_ hnum_ hk0_ hkb_
  refine Va J J ?_;obtain ⟨hw_, hnum_, hk0_, hkb_⟩ := hM.int (i * 5 + 1 + 1 + 1 + 1) ((ad'.add (((i : Nat) : Int).toNat * 5)).add 4) (by simp [add_add', add_zero']) (((fm_at tcP_len ps i 4 hil (by omega)).trans rfl))
  refine S_index Tk J J J J J J (by omega) (by omega) ?_;refine Va J J ?_;refine S_load Tk J J J J J (wcell_g hw_) ?_;refine Va J J ?_;refine RF J (by simp) ?_;refine Va J J ?_;refine S_add J J J J (by omega) ?_
  rw [hnum_]
  clear hw_ hnum_ hk0_ hkb_
  refine Va J J ?_;refine S_add J J J J (by omega) ?_;refine Va J J ?_;exact S_again (i + 1) (by omega) (by omega) J ⟨⟨_, J, by simp [denO]⟩, ⟨_, J, by rw [show i * 5 + 1 + 1 + 1 + 1 + 1 = (i + 1) * 5 by omega]⟩, ⟨_, J, J⟩, trivial⟩ .nil
 ·have e0 : i = ps.length := by omega
  subst e0
  exact S_retp (Res.t1 Tryz.results38 J J) XR ⟨by rw [KR_all hce], J⟩
end
section
attribute [local irreducible] X Pure Mod
theorem mark_part {H0 H : PH} (t0 : Tn H0 H) {s : Shp} {v : Value} (hl : Lies H0 s v) {k : Int} (h0 : 0 ≤ k) (hb : k + numV s ≤ 1152921504606846976) : Lies H s v ∧ wr H (adsV H s v) k = wr H (adsV H0 s v) k ∧ Tn H0 (wr H (adsV H0 s v) k) := by
 have h1 := Lies_tn t0 _ _ hl
 have e := adsV_tn t0 hl
 have hn := adsV_len H s v
 refine ⟨h1, by rw [e], ?_⟩
 rw [← e]
 exact t0.trans (wr_tn _ H k (adsV_int h1) h0 (by rw [hn]; omega))
theorem c_markWorld (q : WSh) (H : PH) (cs : List Value) (k : Int) (G : PH) (hl : LiesL H (tcW q) cs) (h0 : 0 ≤ k) (hb : k + numR (tcW q) ≤ 1152921504606846976) :
  Mod Tryz.prog 14 [.agg cs.toArray, .int .i64 k] G (frzHP H) fun v' G' A' => v' = .int .i64 (k + numR (tcW q)) ∧ G' = G ∧ A' = frzHP (wr H (adsL H (tcW q) cs) k) := by
 have hlen := LiesL_len hl
 rw [tcW_len] at hlen
 obtain ⟨v1, v2, v3, v4, v5, rfl⟩ : ∃ v1 v2 v3 v4 v5, cs = [v1, v2, v3, v4, v5] := by
  match cs, hlen with
  | [a, b, c, d, e], _ => exact ⟨a, b, c, d, e, rfl⟩
 have hnum : numR (tcW q) = numV (shP q.ps) + numV (shI q.nc) + numV (shI q.nr) + numV (shII q.ns) + numV (shY q.nd) := by
  simp only [tcW, numR, shP, shI, shII, shY, numC, numV]; omega
 have hads : adsL H (tcW q) [v1, v2, v3, v4, v5] = adsV H (shP q.ps) v1 ++ (adsV H (shI q.nc) v2 ++ (adsV H (shI q.nr) v3 ++ (adsV H (shII q.ns) v4 ++ adsV H (shY q.nd) v5))) := by
  simp only [tcW, adsL, List.append_nil]
 rw [hnum] at hb ⊢
 rw [hads]
 simp only [tcW, LiesL] at hl
 obtain ⟨l1, l2, l3, l4, l5, _⟩ := hl
 clear hads hnum hlen
 obtain ⟨p1, e1, t1⟩ := mark_part (Tn.refl H) l1 h0 (by omega)
 obtain ⟨p2, e2, t2⟩ := mark_part t1 l2 (k := k + numV (shP q.ps)) (by omega) (by omega)
 obtain ⟨p3, e3, t3⟩ := mark_part t2 l3 (k := k + numV (shP q.ps) + numV (shI q.nc)) (by omega) (by omega)
 obtain ⟨p4, e4, t4⟩ := mark_part t3 l4 (k := k + numV (shP q.ps) + numV (shI q.nc) + numV (shI q.nr)) (by omega) (by omega)
 obtain ⟨p5, e5, t5⟩ := mark_part t4 l5 (k := k + numV (shP q.ps) + numV (shI q.nc) + numV (shI q.nr) + numV (shII q.ns)) (by omega) (by omega)
 rw [wr_append, wr_append, wr_append, wr_append, adsV_len, adsV_len, adsV_len, adsV_len]
 have c1 := c_markProcS q.ps H v1 k G p1 h0 (by omega)
 have c2 := c_markIntS q.nc _ v2 (k + numV (shP q.ps)) G p2 (by omega) (by omega)
 have c3 := c_markIntS q.nr _ v3 (k + numV (shP q.ps) + numV (shI q.nc)) G p3 (by omega) (by omega)
 have c4 := c_markIntSS q.ns _ v4 (k + numV (shP q.ps) + numV (shI q.nc) + numV (shI q.nr)) G p4 (by omega) (by omega)
 have c5 := c_markSayS q.nd _ v5 (k + numV (shP q.ps) + numV (shI q.nc) + numV (shI q.nr) + numV (shII q.ns)) G p5 (by omega) (by omega)
 rw [e2] at c2
 rw [e3] at c3
 rw [e4] at c4
 rw [e5] at c5
 generalize wr H (adsV H (shP q.ps) v1) k = H1 at c1 c2 c3 c4 c5 ⊢
 generalize wr H1 (adsV H (shI q.nc) v2) (k + numV (shP q.ps)) = H2 at c2 c3 c4 c5 ⊢
 generalize wr H2 (adsV H (shI q.nr) v3) (k + numV (shP q.ps) + numV (shI q.nc)) = H3 at c3 c4 c5 ⊢
 generalize wr H3 (adsV H (shII q.ns) v4) (k + numV (shP q.ps) + numV (shI q.nc) + numV (shI q.nr)) = H4 at c4 c5 ⊢
 obtain ⟨A1, n1, z1, rfl, _⟩ := Lies_sl l1
 obtain ⟨A2, n2, z2, rfl, _⟩ := Lies_sl l2
 obtain ⟨A3, n3, z3, rfl, _⟩ := Lies_sl l3
 obtain ⟨A4, n4, z4, rfl, _⟩ := Lies_sl l4
 obtain ⟨A5, n5, z5, rfl, _⟩ := Lies_sl l5
 refine Mod.intro Tryz.func14 Tryz.ntmps14 J J fun w S => ?_;refine Va J J ?_;refine S_box J J J J J fun b1 => ?_;refine Va J J ?_;refine S_callM 1 Tryz.call35 c1 J J J J (fun _ => J) ?_;rintro u1 G1 X1 ⟨rfl, rfl, rfl⟩ _
 refine Va J J ?_;refine S_callM 1 Tryz.call13 c2 J J J J (fun _ => J) ?_;rintro u1 G1 X1 ⟨rfl, rfl, rfl⟩ _
 refine Va J J ?_;refine S_callM 1 Tryz.call13 c3 J J J J (fun _ => J) ?_;rintro u1 G1 X1 ⟨rfl, rfl, rfl⟩ _
 refine Va J J ?_;refine S_callM 1 Tryz.call36 c4 J J J J (fun _ => J) ?_;rintro u1 G1 X1 ⟨rfl, rfl, rfl⟩ _
 refine Va J J ?_;refine S_callM 1 Tryz.call37 c5 J J J J (fun _ => J) ?_;rintro u1 G1 X1 ⟨rfl, rfl, rfl⟩ _
 refine Va J J ?_;refine S_retm 1 (Res.t1 Tryz.results14 J J) J XR ⟨?_, J, J⟩
 congr 1
 omega
theorem c_heldWorld (q : WSh) (cs : List Value) (k : Int) (G : PH) (hl : LiesL G (tcW q) cs) (h0 : 0 ≤ k) (hb : k + numR (tcW q) ≤ 1152921504606846976) (hh : Hd G (adsL G (tcW q) cs) k) :
  Pure Tryz.prog 15 [.agg cs.toArray, .int .i64 k] G fun v' G' => v' = .int .i64 (k + numR (tcW q)) ∧ G' = G := by
 have hlen := LiesL_len hl
 rw [tcW_len] at hlen
 obtain ⟨v1, v2, v3, v4, v5, rfl⟩ : ∃ v1 v2 v3 v4 v5, cs = [v1, v2, v3, v4, v5] := by
  match cs, hlen with
  | [a, b, c, d, e], _ => exact ⟨a, b, c, d, e, rfl⟩
 have hnum : numR (tcW q) = numV (shP q.ps) + numV (shI q.nc) + numV (shI q.nr) + numV (shII q.ns) + numV (shY q.nd) := by
  simp only [tcW, numR, shP, shI, shII, shY, numC, numV]; omega
 have hads : adsL G (tcW q) [v1, v2, v3, v4, v5] = adsV G (shP q.ps) v1 ++ (adsV G (shI q.nc) v2 ++ (adsV G (shI q.nr) v3 ++ (adsV G (shII q.ns) v4 ++ adsV G (shY q.nd) v5))) := by
  simp only [tcW, adsL, List.append_nil]
 rw [hnum] at hb ⊢
 rw [hads] at hh
 simp only [tcW, LiesL] at hl
 obtain ⟨l1, l2, l3, l4, l5, _⟩ := hl
 rw [Hd_append, Hd_append, Hd_append, Hd_append, adsV_len, adsV_len, adsV_len, adsV_len] at hh
 obtain ⟨h1, h2, h3, h4, h5⟩ := hh
 have c1 := c_heldProcS q.ps G v1 _ l1 h0 (by omega) h1
 have c2 := c_heldIntS q.nc G v2 _ l2 (by omega) (by omega) h2
 have c3 := c_heldIntS q.nr G v3 _ l3 (by omega) (by omega) h3
 have c4 := c_heldIntSS q.ns G v4 _ l4 (by omega) (by omega) h4
 have c5 := c_heldSayS q.nd G v5 _ l5 (by omega) (by omega) h5
 obtain ⟨A1, n1, z1, rfl, _⟩ := Lies_sl l1
 obtain ⟨A2, n2, z2, rfl, _⟩ := Lies_sl l2
 obtain ⟨A3, n3, z3, rfl, _⟩ := Lies_sl l3
 obtain ⟨A4, n4, z4, rfl, _⟩ := Lies_sl l4
 obtain ⟨A5, n5, z5, rfl, _⟩ := Lies_sl l5
 clear l1 l2 l3 l4 l5 h1 h2 h3 h4 h5
 refine Pure.intro Tryz.func15 Tryz.ntmps15 J J fun w => ?_; refine Va J J ?_;refine S_box J J J J J fun b1 => ?_;refine Va J J ?_;refine S_call Tryz.call38 c1 J J J ?_;rintro u1 G1 ⟨rfl, rfl⟩ _
 refine Va J J ?_;refine RF J (by simp; omega) ?_;refine Va J J ?_;refine S_call Tryz.call39 c2 J J J ?_;rintro u1 G1 ⟨rfl, rfl⟩ _
 refine Va J J ?_;refine RF J (by simp; omega) ?_;refine Va J J ?_;refine S_call Tryz.call39 c3 J J J ?_;rintro u1 G1 ⟨rfl, rfl⟩ _
 refine Va J J ?_;refine RF J (by simp; omega) ?_;refine Va J J ?_;refine S_call Tryz.call40 c4 J J J ?_;rintro u1 G1 ⟨rfl, rfl⟩ _
 refine Va J J ?_;refine RF J (by simp; omega) ?_;refine Va J J ?_;refine S_call Tryz.call41 c5 J J J ?_;rintro u1 G1 ⟨rfl, rfl⟩ _
 refine Va J J ?_;refine RF J (by simp; omega) ?_;refine Va J J ?_;refine S_retp (Res.t1 Tryz.results15 J J) XR ⟨?_, J⟩
 congr 1
 omega
end
end Go.Proofs.YtcbdilccmjpnbaaGreat
