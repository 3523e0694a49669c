/- Walks of the program's functions, one after the other (part 11); without conditions of their own. -/
import Derived.Test.YtcbdilccmjpnbaaGreatDoorWM10
import Derived.Test.YtcbdilccmjpnbaaGreatDoorWM2
set_option linter.unusedVariables false
set_option linter.unusedSimpArgs false
set_option maxRecDepth 100000
set_option maxHeartbeats 4000000
open Go.RowKit
namespace Go.Proofs.YtcbdilccmjpnbaaGreatDoor
section
open Go.ChangeShapes Go.WideShapes Go.ChangeAt Go.RowKit
def GA (w : World) : PH := fun b => w.heap[b]?
theorem GA_emb (w : World) : Emb (GA w) w := fun b o h => h
theorem gcell_GA {w : World} {a : Addr} {v : Value} (h : w.cell? a = some v) : gcell (GA w) a = some v := by
 unfold gcell GA
 unfold World.cell? at h
 cases ho : w.heap[a.block]? with
 | none => simp [ho] at h
 | some o => cases o <;> simp_all
theorem gcells_GA {w : World} {a : Addr} {n : Nat} {cs : List Value} (h : w.cells? 0 a n = some cs) : gcells (GA w) a cs ∧ cs.length = n := by
 unfold World.cells? at h
 rw [if_pos (Nat.zero_le _)] at h
 have hl : cs.length = n := by simpa using mapM_some_length h
 refine ⟨gcells_of fun j v hj => gcell_GA ?_, hl⟩
 have hjl : j < n := by rw [← hl]; exact (List.getElem?_eq_some_iff.1 hj).1
 have := mapM_some_get h j j (by simp [hjl])
 rw [this, hj]
theorem Rw_build {α : Type} {G : PH} {sz : Nat} {rep : α → List Value → Prop} : ∀ (n : Nat) (a : Addr), (∀ i, i < n → ∃ s cs, gcells G (a.add (i * sz)) cs ∧ rep s cs) → ∃ L : List α, L.length = n ∧ Rw G sz rep L a
 | 0, a, _ => ⟨[], rfl, trivial⟩
 | n + 1, a, h => by
  obtain ⟨s, cs, h1, h2⟩ := h 0 (by omega)
  obtain ⟨L, h3, h4⟩ := Rw_build (G := G) (sz := sz) (rep := rep) n (a.add sz) fun i hi => by
   obtain ⟨s, cs, h1, h2⟩ := h (i + 1) (by omega)
   refine ⟨s, cs, ?_, h2⟩
   rw [add_add', show sz + i * sz = (i + 1) * sz by rw [Nat.succ_mul]; omega]
   exact h1
  exact ⟨s :: L, by simp [h3], ⟨cs, by simpa [add_zero'] using h1, h2⟩, h4⟩
theorem i64_wf {n : Int} (h : (Lit.int .i64 n).wf = true) : I64 n := by
 have e1 : IntKind.i64.min = -9223372036854775808 := rfl
 have e2 : IntKind.i64.max = 9223372036854775807 := rfl
 simp only [Lit.wf, Bool.and_eq_true, decide_eq_true_eq, e1, e2] at h
 exact h
theorem cI : Tryz.prog.cellsOf 3 = 1 := by kernel_rfl
theorem cLS : Tryz.prog.cellsOf 39 = 1 := by kernel_rfl
theorem cLT : Tryz.prog.cellsOf 75 = 6 := by kernel_rfl
section
variable {H : Type} {enc : TypeId × Value → H} {W : World}
theorem fld_of {fs : Array Field} {xs : List (DataW H × List MemPlace)} {cs : List Value} {n2 : Nat} (hf : ∀ (i : Nat) (f : Field), fs[i]? = some f → DataW.trod enc Tryz.prog W 0 (fun _ => true) true n2 f.type ((cs.drop f.offset).take (Tryz.prog.cellsOf f.type)) = xs[i]?)
  (j ty off : Nat) (y : DataW H × List MemPlace) (hy : xs[j]? = some y) (h : ∃ f : Field, fs[j]? = some f ∧ f.type = ty ∧ f.offset = off) : DataW.trod enc Tryz.prog W 0 (fun _ => true) true n2 ty ((cs.drop off).take (Tryz.prog.cellsOf ty)) = some y := by
 obtain ⟨f, hj, rfl, rfl⟩ := h
 exact (hf j f hj).trans hy
theorem trod_sts : ∀ (fuel : Nat) (cs : List Value) (x : DataW H × List MemPlace), DataW.trod enc Tryz.prog W 0 (fun _ => true) true fuel 39 cs = some x → ∃ L v, cs = [v] ∧ Sts0 (GA W) L v := by
 intro fuel
 induction fuel using Nat.strongRecOn with
 | ind fuel ih =>
  intro cs x h
  rcases DataW.trod_slice Tryz.underlying39 h with ⟨rfl, _⟩ | ⟨a, len, cap, elems, rest, n1, rfl, rfl, _, _, hlc, hcm, hel, hat, _, _⟩
  ·exact ⟨[], _, J, none, 0, J, by simp, by simp [maxLen], .inl J⟩
  ·obtain ⟨L, hL, hR⟩ := Rw_build (G := GA W) (sz := 6) (rep := Stm.rep0 (GA W)) len a fun i hi => by
    have h1 := hat i hi
    rw [cLT] at h1
    obtain ⟨e, he⟩ : ∃ e, elems[i]? = some e := ⟨elems[i], List.getElem?_eq_getElem (by omega)⟩
    rw [he, Option.bind_eq_some_iff] at h1
    obtain ⟨cs1, h2, h3⟩ := h1
    obtain ⟨g1, g2⟩ := gcells_GA h2
    obtain ⟨xs, n2, rfl, _, _, hxl, hf⟩ := DataW.trod_struct Tryz.underlying75 h3
    obtain ⟨c0, c1, c2, c3, c4, c5, rfl⟩ : ∃ c0 c1 c2 c3 c4 c5, cs1 = [c0, c1, c2, c3, c4, c5] := by
     match cs1, g2 with
     | [c0, c1, c2, c3, c4, c5], _ => exact ⟨c0, c1, c2, c3, c4, c5, rfl⟩
    have get : ∀ j, j < 6 → ∃ y, xs[j]? = some y := fun j hj => ⟨xs[j]'(by rw [hxl]; exact hj), List.getElem?_eq_getElem _⟩
    obtain ⟨y0, p0⟩ := get 0 (by omega)
    obtain ⟨y1, p1⟩ := get 1 (by omega)
    obtain ⟨y2, p2⟩ := get 2 (by omega)
    obtain ⟨y3, p3⟩ := get 3 (by omega)
    obtain ⟨y4, p4⟩ := get 4 (by omega)
    obtain ⟨y5, p5⟩ := get 5 (by omega)
    have fld := @fld_of H enc W _ xs _ n2 hf
    have f0 := fld 0 3 0 _ p0 ⟨_, rfl, rfl, rfl⟩
    have f1 := fld 1 3 1 _ p1 ⟨_, rfl, rfl, rfl⟩
    have f2 := fld 2 3 2 _ p2 ⟨_, rfl, rfl, rfl⟩
    have f3 := fld 3 3 3 _ p3 ⟨_, rfl, rfl, rfl⟩
    have f4 := fld 4 39 4 _ p4 ⟨_, rfl, rfl, rfl⟩
    have f5 := fld 5 39 5 _ p5 ⟨_, rfl, rfl, rfl⟩
    rw [cI] at f0 f1 f2 f3
    rw [cLS] at f4 f5
    obtain ⟨z0, r0, _, w0⟩ := DataW.trod_int Tryz.underlying3 f0
    obtain ⟨z1, r1, _, w1⟩ := DataW.trod_int Tryz.underlying3 f1
    obtain ⟨z2, r2, _, w2⟩ := DataW.trod_int Tryz.underlying3 f2
    obtain ⟨z3, r3, _, w3⟩ := DataW.trod_int Tryz.underlying3 f3
    obtain ⟨x4, v4, r4, q4⟩ := ih n2 (by omega) _ _ f4
    obtain ⟨x5, v5, r5, q5⟩ := ih n2 (by omega) _ _ f5
    simp only [List.drop_succ_cons, List.drop_zero, List.take_succ_cons, List.take_zero, List.cons.injEq, and_true] at r0 r1 r2 r3 r4 r5
    refine ⟨.mk z0 z1 z2 z3 x4 x5, _, g1, Stm.rep0_iff.2 ⟨v4, v5, ?_, i64_wf w0, i64_wf w1, i64_wf w2, i64_wf w3, q4, q5⟩⟩
    rw [r0, r1, r2, r3, r4, r5]
   exact ⟨L, _, J, some a, cap, by rw [hL], by omega, hcm, .inr ⟨a, J, hR⟩⟩
theorem trod_prg {fuel : Nat} {cs : List Value} {x : DataW H × List MemPlace} (h : DataW.trod enc Tryz.prog W 0 (fun _ => true) true fuel 22 cs = some x) : ∃ p v, cs = [v] ∧ Prg0 (GA W) p v := by
 rcases DataW.trod_slice Tryz.underlying22 h with ⟨rfl, _⟩ | ⟨a, len, cap, elems, rest, n1, rfl, rfl, _, _, hlc, hcm, hel, hat, _, _⟩
 ·exact ⟨[], _, J, none, 0, J, by simp, by simp [maxLen], .inl J⟩
 ·obtain ⟨L, hL, hR⟩ := Rw_build (G := GA W) (sz := 1) (rep := stsRep0 (GA W)) len a fun i hi => by
   have h1 := hat i hi
   rw [cLS] at h1
   obtain ⟨e, he⟩ : ∃ e, elems[i]? = some e := ⟨elems[i], List.getElem?_eq_getElem (by omega)⟩
   rw [he, Option.bind_eq_some_iff] at h1
   obtain ⟨cs1, h2, h3⟩ := h1
   obtain ⟨g1, g2⟩ := gcells_GA h2
   obtain ⟨L1, v1, rfl, q⟩ := trod_sts _ _ _ h3
   exact ⟨L1, _, g1, v1, J, q⟩
  exact ⟨L, _, J, some a, cap, by rw [hL], by omega, hcm, .inr ⟨a, J, hR⟩⟩
end
theorem TabG_GA {w : World} (hT : Lib.TabIs Tryz.prog w "internal/strconv.uint64pow10" .u64 Lib.pow10Tab) : TabG (GA w) := by
 obtain ⟨g, hg, o, ho⟩ : ∃ g, Tryz.prog.globalNamed "internal/strconv.uint64pow10" = some g ∧ ∃ o, w.heap[g]? = some o := by
  unfold Lib.TabIs World.var? at hT
  cases hg : Tryz.prog.globalNamed "internal/strconv.uint64pow10" with
  | none => rw [hg] at hT; cases hT
  | some g =>
   refine ⟨g, J, ?_⟩
   rw [hg] at hT
   cases ho : w.heap[g]? with
   | none => simp [ho] at hT
   | some o => exact ⟨o, rfl⟩
 intro w' hw'
 have h1 : w'.heap[g]? = some o := hw' g o ho
 unfold Lib.TabIs World.var? at hT ⊢
 rw [hg] at hT ⊢
 simp only [Option.bind_some, ho, h1] at hT ⊢
 exact hT
theorem lawPT {f : FuncId} {pv : Value} {w : World} (hT : Lib.TabIs Tryz.prog w "internal/strconv.uint64pow10" .u64 Lib.pow10Tab) (h : ∃ p, Prg0 (GA w) p pv)
  (hc : ∀ G p, TabG G → Prg0 G p pv → Pure Tryz.prog f [pv] G fun v G' => v = .bool true) :
  Calls Tryz.prog f #[pv] w fun e w' => e = .returned (.bool true) ∧ Below w.heap.size w w' := by
 obtain ⟨p, hp⟩ := h
 exact (hc (GA w) p (TabG_GA hT) hp w (GA_emb w)).mono fun e w' ⟨v, G', h1, h2, h3, h4, h5⟩ => ⟨by rw [h1, h2], h5⟩
end
end Go.Proofs.YtcbdilccmjpnbaaGreatDoor
