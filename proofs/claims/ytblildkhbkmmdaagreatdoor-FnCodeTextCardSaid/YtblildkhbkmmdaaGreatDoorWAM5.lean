/- Walks of the program's functions, one after the other (part 5); without conditions of their own. -/
import Derived.Test.YtblildkhbkmmdaaGreatDoorWAM2
import Derived.Test.YtblildkhbkmmdaaGreatDoorWAM3
import Derived.Test.YtblildkhbkmmdaaGreatDoorWAM4
import Derived.Laws.CopyRow
import Derived.Lib.AtoiErrMem
import Derived.Lib.ItoaLen
import Derived.Lib.Join
import Derived.Lib.SplitLaws
import Derived.Shelf.Bits.Mul64
import Derived.Shelf.LaysC
import Derived.Shelf.LaysM
import Derived.Shelf.Strconv.AtoiAll
import Derived.Shelf.Strconv.ErrVarAll
import Derived.Shelf.Strconv.Itoa3
import Derived.Shelf.Strings.OnBuilder
import Derived.Shelf.Strings.Split
import Derived.Test.YtblildkhbkmmdaaGreatDoorProg
set_option linter.unusedVariables false
set_option linter.unusedSimpArgs false
set_option maxRecDepth 100000
set_option maxHeartbeats 4000000
open Go.RowKit
namespace Go.Proofs.YtblildkhbkmmdaaGreatDoor
section
attribute [local irreducible] X Pure Mod
theorem c_moves (i : Ins) (room : Int) (G : PH) (hr : -1 ≤ room) : Pure Tryz.prog 42 [.agg (insC i).toArray, .int .i64 room] G fun v G' => (∃ r, v = .tuple #[.int .i64 r, .bool (heldI i (room + 1)).2] ∧ ((heldI i (room + 1)).2 = true → r = (heldI i (room + 1)).1 - 1)) ∧ G' = G := by
 obtain ⟨op, a, b, n⟩ := i
 rw [show (insC ⟨op, a, b, n⟩).toArray = #[.int .i64 op, .int .i64 a, .int .i64 b, .int .i64 n] from rfl]
 have d1 : decide (room + 1 = 0) = decide (room = -1) := by rw [decide_eq_decide]; omega
 have d2 : decide (room + 1 = a + 1) = decide (room = a) := by rw [decide_eq_decide]; omega
 have d3 : decide (0 < room + 1) = decide (¬ room = -1) := by rw [decide_eq_decide]; omega
 refine Pure.intro Tryz.func42 Tryz.ntmps42 J J fun w => ?_; refine Va J J ?_;refine S_box J J J J J fun b1 => ?_;refine Va J J ?_
 refine S_condp J (fun h8 => ?_) (fun h8 => ?_) <;> refine Va J J ?_
 ·exact S_retp (Res.t2 Tryz.results42 J J J J) XR ⟨⟨_, by simp only [heldI, h8, if_true, d1]; rfl, fun _ => by simp [heldI, h8]⟩, rfl⟩
 refine S_condp J (fun h9 => ?_) (fun h9 => ?_) <;> refine Va J J ?_
 ·refine Ds J J J ?_
  refine Da J J ?_;refine DD ?_;refine Va J J ?_;exact S_retp (Res.t2 Tryz.results42 J J J J) XR ⟨⟨_, by simp only [heldI, if_neg h8, h9, if_true, d2]; rfl, fun _ => by simp [heldI, h8, h9]⟩, rfl⟩
 refine S_condp J (fun h10 => ?_) (fun h10 => ?_) <;> refine Va J J ?_
 ·exact S_retp (Res.t2 Tryz.results42 J J J J) XR ⟨⟨room, by rw [show (heldI ⟨op, a, b, n⟩ (room + 1)).2 = decide (¬ room = -1) by simp only [heldI, if_neg h8, if_neg h9, if_pos h10, d3]], fun _ => by simp [heldI, h8, h9, h10]⟩, J⟩
 refine S_condp J (fun h13 => ?_) (fun h13 => ?_) <;> refine Va J J ?_
 ·exact S_retp (Res.t2 Tryz.results42 J J J J) XR ⟨⟨_, by simp only [heldI, if_neg h8, if_neg h9, if_neg h10, h13, if_true, d1]; rfl, fun h => by simp [heldI, h8, h9, h10, h13] at h ⊢; omega⟩, rfl⟩
 ·exact S_retp (Res.t2 Tryz.results42 J J J J) XR ⟨⟨room, by simp only [heldI, if_neg h8, if_neg h9, if_neg h10, if_neg h13], fun _ => by simp [heldI, h8, h9, h10, h13]⟩, J⟩
theorem c_successors (i : Ins) (x : Nat) (G : PH) (h4 : I4 i) (hx : x ≤ 1000000) : Pure Tryz.prog 43 [.agg (insC i).toArray, .int .i64 (x : Nat)] G fun v' G' => Ints G' (succI i (x : Nat)) v' := by
 obtain ⟨op, a, b, n⟩ := i
 obtain ⟨i0, i1, i2, i3⟩ := h4
 simp only at i0 i1 i2 i3
 rw [show (insC ⟨op, a, b, n⟩).toArray = #[.int .i64 op, .int .i64 a, .int .i64 b, .int .i64 n] from rfl]
 have hix : I64 ((x : Int) + 1) := ⟨by omega, by omega⟩
 refine Pure.intro Tryz.func43 Tryz.ntmps43 J J fun w => ?_; refine Va J J ?_;refine S_box J J J J J fun b1 => ?_;refine Va J J ?_
 refine S_condp J (fun h13 => ?_) (fun h13 => ?_) <;> refine Va J J ?_
 ·refine S_retp (Res.t1 Tryz.results43 J J) XR ?_
  rw [show succI ⟨op, a, b, n⟩ (x : Nat) = [] by simp [succI, h13]]
  exact Sr_nil J
 refine S_condp J (fun h7 => ?_) (fun h7 => ?_) <;> refine Va J J ?_
 ·refine S_sliceG Tk ZT_ok J J J J (by decide) (by decide) J J J J (fun _ => J) fun bq Gq hxq hcq => ?_
  refine Va J J ?_;refine S_retp (Res.t1 Tryz.results43 J J) hxq ?_
  rw [show succI ⟨op, a, b, n⟩ (x : Nat) = [n] by simp [succI, *]]
  exact ints_of hcq J (Nat.le_refl _) (by decide) (by decide) (by intro y hy; simp only [List.mem_cons, List.not_mem_nil, or_false] at hy; (first | (rcases hy with rfl | rfl <;> assumption) | (rcases hy with rfl; assumption)))
 refine S_condp J (fun h6 => ?_) (fun h6 => ?_) <;> refine Va J J ?_
 ·refine S_add J J J J (by omega) ?_
  refine Va J J ?_;refine S_sliceG Tk ZT_ok J J J J (by decide) (by decide) J J J J (fun _ => J) fun bq Gq hxq hcq => ?_;refine Va J J ?_;refine S_retp (Res.t1 Tryz.results43 J J) hxq ?_
  rw [show succI ⟨op, a, b, n⟩ (x : Nat) = [(x : Int) + 1, n] by simp [succI, *]]
  exact ints_of hcq J (Nat.le_refl _) (by decide) (by decide) (by intro y hy; simp only [List.mem_cons, List.not_mem_nil, or_false] at hy; (first | (rcases hy with rfl | rfl <;> assumption) | (rcases hy with rfl; assumption)))
 ·refine S_add J J J J (by omega) ?_
  refine Va J J ?_;refine S_sliceG Tk ZT_ok J J J J (by decide) (by decide) J J J J (fun _ => J) fun bq Gq hxq hcq => ?_;refine Va J J ?_;refine S_retp (Res.t1 Tryz.results43 J J) hxq ?_
  rw [show succI ⟨op, a, b, n⟩ (x : Nat) = [(x : Int) + 1] by simp [succI, *]]
  exact ints_of hcq J (Nat.le_refl _) (by decide) (by decide) (by intro y hy; simp only [List.mem_cons, List.not_mem_nil, or_false] at hy; (first | (rcases hy with rfl | rfl <;> assumption) | (rcases hy with rfl; assumption)))
end
section
section
variable {C : Ctx} {k : List It} {E : Env} {ι : Ids} {L : List Ent} {G : PH} {all : Array Oper} {l : List Oper}
theorem S_copyO (κ : Nat) {base e el t t' d : Nat} {x y : Operand} {gb off o n c ty dl dc sl sc m : Nat} {sa : Addr} {xs cs : List Value} {L' : List Ent} {pos : String} {af : Array Edge} {g : Option (Nat × Bool)}
  (hu : C.P.underlying t = some (.slice el)) (hs : (C.P.info? el).map (·.size) = some 1)
  (hL : getH κ L = some (rowO base e 1 (some ⟨gb, off, none⟩) n c xs)) (hL' : setH κ (rowO base e 1 (some ⟨gb, off, none⟩) n c (xs.take o ++ cs ++ xs.drop (o + m))) L = some L')
  (hx : ev E x = some (.val (.slice (some ⟨gb, off + o, none⟩) dl dc))) (hy : ev E y = some (.val (.slice (some sa) sl sc))) (hm : m = Nat.min sl dl) (ho : o + m ≤ n) (hcm : cs.length = m)
  (hsrc : (∃ so, sa = ⟨gb, off + so, none⟩ ∧ so + m ≤ n ∧ cs = (xs.drop so).take m) ∨ gcells G sa cs) (hone : ∀ v ∈ cs, v.oneCell' = true)
  (hg : guardOf all E g = .on) (hN : Nat.ble (d + 1) C.n = true)
  (hk : X C (.ops all l :: k) ((d, .val (.int .i64 (m : Nat))) :: E) ι L' G) : X C (.ops all (⟨some d, .call ⟨.builtin .copy, #[x, y], #[t, t']⟩, ty, pos, af, g⟩ :: l) :: k) E ι L G := by
 intro a w h1 h2 h3 h4
 obtain ⟨S, hA, hSG, hturn⟩ := h4.turn hL
 obtain ⟨q1, q2, q3, q4⟩ := hA
 rcases q4 with ⟨q, _⟩ | ⟨g', off', cur, q, q0, q5, q6, q7, q8⟩
 ·cases q
 cases q
 have ex := ev_sound h3 hx
 have ey := ev_sound h3 hy
 simp only [denO, Option.some.injEq] at ex ey
 have hxl : xs.length = n := by rw [q1, Nat.mul_one]
 have hcl : off + n ≤ cur.toList.length := by
  rw [Array.length_toList]
  omega
 have hcur : ∀ j, j < n → cur[off + j]? = xs[j]? := by
  intro j hj
  conv => rhs; rw [← q7]
  rw [List.getElem?_take_of_lt (by omega), List.getElem?_drop]
  simp
 have hcell : ∀ j v, cs[j]? = some v → w.cell? (sa.add j) = some v := by
  intro j v hj
  have hjl := (List.getElem?_eq_some_iff.1 hj).1
  rcases hsrc with ⟨so, rfl, hso, rfl⟩ | hgc
  ·rw [List.getElem?_take_of_lt (by omega), List.getElem?_drop] at hj
   rw [add_lit']
   have := hcur (so + j) (by omega)
   rw [hj] at this
   simp only [World.cell?, q5]
   rw [← this]
   congr 1
   simp [Nat.add_assoc]
  ·exact gcell_emb h4.emb (gcells_at hgc j v hj)
 have hrun0 := run_copy_row (P := C.P) w t t' ty el gb (off + o) dl dc sa sl sc cur e cs hu hs q5 (by rw [hcm, hm]) hcell (by simp at hcl ⊢; omega) hone
 have hrun : (execOp a.eval ⟨some d, .call ⟨.builtin .copy, #[x, y], #[t, t']⟩, ty, pos, af, g⟩).run C.P w = .ok (.value (.int .i64 (m : Nat))) (w.setRow gb (cur.toList.take (off + o) ++ cs ++ cur.toList.drop (off + o + cs.length)).toArray) := by
  simp only [execOp, resolve, invoke, List.map_toArray, List.map_cons, List.map_nil, ← ex, ← ey]
  simp [builtin, hrun0, goInt, hcm, Result.andThen]
 have hdn : d < a.tmps.size := by rw [h2]; exact Nat.le_of_ble_eq_true hN
 refine wpE_val (guardOf_on h3 hg) (by rintro c h; cases h) hrun ?_
 have hSb : S gb := (q8 gb).2 rfl
 refine hk _ _ h1 (by simp [Act.put, h2]) (h3.put hdn J) (hturn _ _ G _ S hL' ?_ (fun b o' hbG => ?_) XR (fun b hb => ⟨hSG b hb, .inl hb⟩) J J J (by simp) fun b _ hn => setRow_other _ _ _ _ fun h => hn (h ▸ hSb))
 ·have hcurL : cur.toList = cur.toList.take off ++ xs ++ cur.toList.drop (off + n) := by
   conv => lhs; rw [← List.take_append_drop off cur.toList, ← List.take_append_drop n (cur.toList.drop off)]
   rw [List.drop_drop, List.append_assoc]
   congr 2
   rw [← hxl, q7]
  have hnew : cur.toList.take (off + o) ++ cs ++ cur.toList.drop (off + o + cs.length) = cur.toList.take off ++ (xs.take o ++ cs ++ xs.drop (o + m)) ++ cur.toList.drop (off + n) := by
   have t1 : cur.toList.take (off + o) = cur.toList.take off ++ xs.take o := by
    conv => lhs; rw [hcurL]
    rw [List.append_assoc, List.take_append, List.length_take, Nat.min_eq_left (by omega), List.take_take, Nat.min_eq_right (by omega), List.take_append]
    rw [show off + o - off = o by omega, show o - xs.length = 0 by omega]
    simp
   have t2 : cur.toList.drop (off + o + cs.length) = xs.drop (o + m) ++ cur.toList.drop (off + n) := by
    conv => lhs; rw [hcurL]
    rw [List.append_assoc, List.drop_append, List.length_take, Nat.min_eq_left (by omega), List.drop_append, List.drop_eq_nil_of_le (by simp; omega), hcm]
    rw [show off + o + m - off = o + m by omega, show o + m - xs.length = 0 by omega]
    simp
   rw [t1, t2]
   simp [List.append_assoc]
  have hlen : (xs.take o ++ cs ++ xs.drop (o + m)).length = n := by
   simp only [List.length_append, List.length_take, List.length_drop]
   omega
  refine ⟨by rw [hlen, Nat.mul_one], q2, q3, .inr ⟨gb, off, _, J, q0, setRow_heap _ _ _ _ _ _ q5, ?_, ?_, q8⟩⟩
  ·rw [List.size_toArray, hnew]
   simp only [List.length_append, hlen, List.length_take, List.length_drop] at hcl ⊢
   simp at q6 hcl ⊢
   omega
  ·have key : ∀ (X Y Z : List Value), X.length = off → ((X ++ Y ++ Z).drop off).take Y.length = Y := by
    intro X Y Z hX
    subst hX
    rw [List.append_assoc, List.drop_left, List.take_left]
   rw [List.toList_toArray, hnew]
   exact key _ _ _ (by rw [List.length_take]; omega)
 ·rw [setRow_other _ _ _ _ (by rintro rfl; have h9 := hSG _ hSb; rw [h9] at hbG; cases hbG)]
  exact h4.emb b o' hbG
end
end
section
section
variable {C : Ctx} {E : Env} {ι : Ids} {L : List Ent} {G : PH}
theorem V_lookF {t kt et b clock : Nat} {u : Value} {m x : Operand} {key : Int} {es : Array MapEntry} {d : Option Nat} {ty : Nat} {pos : String} {af : Array Edge} {g : Option (Nat × Bool)}
  (hu : C.P.underlying t = some (.map kt et)) (hk' : C.P.underlying kt = some (.int .i64)) (hb : G b = some (.map es clock)) (hkeys : ∀ e ∈ es.toList, ∃ y, e.key = .int .i64 y) (hf : findI key es.toList = some u) (hm : ev E m = some (.val (.map (some b)))) (hx : ev E x = some (.val (.int .i64 key))) :
  Vl C ι E L G ⟨d, .lookup t m x false, ty, pos, af, g⟩ u := by
 intro a w hE hw
 have em := ev_sound hE hm
 have ex := ev_sound hE hx
 simp only [denO, Option.some.injEq] at em ex
 have hb' := hw.emb _ _ hb
 have hc := MapKept.run_checkKey (P := C.P) (w := w) (k := .int .i64 key) hk' (by simp [MapKept.IsKey]) es.isEmpty 9999
 obtain ⟨r, hr1, hr2⟩ := findNow_find (x := key) (i := 0) hkeys
 have hf' := MapKept.run_findKey (P := C.P) (w := w) hk' hr1
 rw [hf] at hr2
 simp only [execOp, ← em, ← ex]
 cases r with
 | none => cases hr2
 | some p =>
  simp only [Option.map_some, Option.some.injEq] at hr2
  simp [Instr.lookup, run_underlying hu, MapKept.run_getObj_map hb', hc, hf', hr2, Result.andThen]
end
theorem pure_alloc {P : Program} {f : Nat} {vs : List Value} {G : PH} {u : Nat → Value} {o : Obj} (h : ∀ w, Emb G w → Calls P f vs.toArray w fun e w' => e = .returned (u w.heap.size) ∧ w' = w.alloc o) : Pure P f vs G fun v G' => ∃ b, v = u b ∧ G' b = some o := by
 unfold Pure
 intro w hw
 refine (h w hw).mono ?_;rintro e w' ⟨rfl, rfl⟩
 have hGn : G w.heap.size = none := by
  cases hq : G w.heap.size with
  | none => rfl
  | some o' => have := (Array.getElem?_eq_some_iff.1 (hw _ _ hq)).1; omega
 refine ⟨_, G.add w.heap.size o, rfl, ⟨w.heap.size, rfl, PH.add_self _ _ _⟩, ⟨le_add hGn, fun b o' hb hn => ?_⟩, fun b o' hb => ?_, rfl, rfl, rfl, (by show w.heap.size ≤ (w.heap.push o).size; simp), fun b hb => ?_⟩
 ·unfold PH.add at hb
  split at hb
  ·omega
  ·rw [hn] at hb; cases hb
 ·unfold PH.add at hb
  split at hb
  ·rename_i e; subst e; cases hb
   show (w.heap.push o)[w.heap.size]? = _
   simp
  ·have := hw b o' hb
   have hlt := (Array.getElem?_eq_some_iff.1 this).1
   show (w.heap.push o)[b]? = _
   rw [Array.getElem?_push_lt hlt, ← Array.getElem?_eq_getElem hlt]; exact this
 ·show (w.heap.push o)[b]? = _
  rw [Array.getElem?_push_lt hb, ← Array.getElem?_eq_getElem hb]
theorem pure_belowE {P : Program} {f : Nat} {vs : List Value} {G : PH} {Q : Value → Prop} (h : ∀ w, Emb G w → Calls P f vs.toArray w fun e w' => ∃ u, e = .returned u ∧ Q u ∧ Below w.heap.size w w') : Pure P f vs G fun v G' => Q v ∧ G' = G := by
 unfold Pure
 intro w hw
 refine (h w hw).mono ?_;rintro e w' ⟨u, rfl, hq, hb⟩
 refine ⟨u, G, rfl, ⟨hq, rfl⟩, PH.ext.refl _ _, fun b o hbo => ?_, hb⟩
 have hlt : b < w.heap.size := (Array.getElem?_eq_some_iff.1 (hw b o hbo)).1
 rw [hb.block b hlt]
 exact hw b o hbo
end
section
open Go.Shelf
def Tryz.lays156_ren : Go.Shelf.Ren := ⟨fun | 156 => 35 | 165 => 53 | 166 => 54 | 169 => 55 | 240 => 68 | 241 => 69 | 276 => 86 | 277 => 87 | n => n, fun | 31 => 35 | 9 => 9 | 3 => 3 | 4 => 4 | 0 => 0 | 20 => 20 | 72 => 91 | 76 => 66 | 70 => 89 | 37 => 22 | 75 => 65 | 127 => 104 | 164 => 127 | 5 => 5 | 80 => 34 | n => n, fun | n => n⟩
theorem Tryz.lays156 : Go.Proofs.Lays.n156 Tryz.prog Tryz.lays156_ren := {
 mixed := by kernel_rfl
 f156 := Tryz.func35.trans (congrArg some (by kernel_rfl))
 f165 := Tryz.func53.trans (congrArg some (by kernel_rfl))
 f166 := Tryz.func54.trans (congrArg some (by kernel_rfl))
 f169 := Tryz.func55.trans (congrArg some (by kernel_rfl))
 f240 := Tryz.func68.trans (congrArg some (by kernel_rfl))
 f241 := Tryz.func69.trans (congrArg some (by kernel_rfl))
 f276 := Tryz.func86.trans (congrArg some (by kernel_rfl))
 f277 := Tryz.func87.trans (congrArg some (by kernel_rfl))
 t0 := Tryz.underlying0
 a0 := Tryz.isAgg0
 z0 := Tryz.sizeOf0
 v0 := Tryz.zeroValue0
 t3 := Tryz.underlying3
 a3 := Tryz.isAgg3
 z3 := Tryz.sizeOf3
 v3 := Tryz.zeroValue3
 t4 := Tryz.underlying4
 a4 := Tryz.isAgg4
 z4 := Tryz.sizeOf4
 v4 := Tryz.zeroValue4
 t9 := Tryz.underlying9
 a9 := Tryz.isAgg9
 z9 := Tryz.sizeOf9
 v9 := Tryz.zeroValue9
 t20 := Tryz.underlying20
 a20 := Tryz.isAgg20
 z20 := Tryz.sizeOf20
 v20 := Tryz.zeroValue20
 t31 := Tryz.underlying35
 a31 := Tryz.isAgg35
 z31 := Tryz.sizeOf35
 v31 := Tryz.zeroValue35
 t37 := Tryz.underlying22
 a37 := Tryz.isAgg22
 z37 := Tryz.sizeOf22
 v37 := Tryz.zeroValue22
 t70 := Tryz.underlying89
 a70 := Tryz.isAgg89
 z70 := Tryz.sizeOf89
 v70 := Tryz.zeroValue89
 t72 := Tryz.underlying91
 a72 := Tryz.isAgg91
 z72 := Tryz.sizeOf91
 v72 := Tryz.zeroValue91
 t75 := Tryz.underlying65
 a75 := Tryz.isAgg65
 z75 := Tryz.sizeOf65
 v75 := Tryz.zeroValue65
 t76 := Tryz.underlying66
 a76 := Tryz.isAgg66
 z76 := Tryz.sizeOf66
 v76 := Tryz.zeroValue66
 t127 := Tryz.underlying104
 a127 := Tryz.isAgg104
 z127 := Tryz.sizeOf104
 v127 := Tryz.zeroValue104
 t164 := Tryz.underlying127
 a164 := Tryz.isAgg127
 z164 := Tryz.sizeOf127
 v164 := Tryz.zeroValue127 }
theorem Tryz.Builder_Extra_156 : Builder.Extra Tryz.prog Tryz.lays156_ren := {
 sizeBuilder := by kernel_rfl
 liesBuilder := by kernel_rfl
 t5 := Tryz.underlying5
 a5 := Tryz.isAgg5
 z5 := Tryz.sizeOf5
 v5 := Tryz.zeroValue5
 infoByte := by kernel_rfl
 cellsByte := by kernel_rfl
 sizeByte := by kernel_rfl
 neB5 := by decide }
open Go.RowKit in
theorem Tryz.strings_Join_none (a : Option Addr) (c : Nat) (sep : ByteArray) (w : World) :
  Calls Tryz.prog 35 #[.slice a 0 c, .string sep] w fun e w' => e = .returned (.string ⟨#[]⟩) ∧ w' = w := Any.strings_Join_none Tryz.lays156 Tryz.Builder_Extra_156 a c sep w
open Go.RowKit in
theorem Tryz.strings_Join (bk o c : Nat) (xs : List ByteArray) (sep : ByteArray) (w : World) (hcells : ∀ (j : Nat) x, xs[j]? = some x → w.cell? ⟨bk, o + j, none⟩ = some (.string x)) (hbk : bk < w.heap.size) (hN : xs.length ≤ 140737488355328) (hcap : xs.length ≤ c) (hlen : (Lib.join (xs.map (·.data.toList)) sep.data.toList).length ≤ 140737488355328) :
  Calls Tryz.prog 35 #[.slice (some ⟨bk, o, none⟩) xs.length c, .string sep] w fun e w' => e = .returned (.string ⟨(Lib.join (xs.map (·.data.toList)) sep.data.toList).toArray⟩) ∧ Below w.heap.size w w' := Any.strings_Join Tryz.lays156 Tryz.Builder_Extra_156 bk o c xs sep w hcells hbk hN hcap hlen
def Tryz.laysM171_ren : Go.Shelf.Ren := ⟨fun | 171 => 34 | 243 => 52 | 246 => 67 | 283 => 82 | 284 => 83 | 285 => 84 | 286 => 85 | 129 => 97 | 317 => 96 | 318 => 98 | 319 => 99 | 320 => 100 | 337 => 105 | 338 => 106 | n => n, fun | 3 => 3 | 9 => 9 | 2 => 2 | 4 => 4 | 171 => 122 | 0 => 0 | 53 => 118 | 37 => 22 | 5 => 5 | 173 => 125 | 212 => 137 | 51 => 115 | 20 => 20 | 213 => 138 | 46 => 96 | 232 => 151 | 233 => 152 | n => n, fun | 17 => 3 | 18 => 6 | 19 => 7 | n => n⟩
theorem Tryz.laysM171 : Go.Proofs.LaysM.n171 Tryz.prog Tryz.laysM171_ren := {
 mixed := by kernel_rfl
 f129 := Tryz.func97.trans (congrArg some (by kernel_rfl))
 f171 := Tryz.func34.trans (congrArg some (by kernel_rfl))
 f243 := Tryz.func52.trans (congrArg some (by kernel_rfl))
 f246 := Tryz.func67.trans (congrArg some (by kernel_rfl))
 f283 := Tryz.func82.trans (congrArg some (by kernel_rfl))
 f284 := Tryz.func83.trans (congrArg some (by kernel_rfl))
 f285 := Tryz.func84.trans (congrArg some (by kernel_rfl))
 f286 := Tryz.func85.trans (congrArg some (by kernel_rfl))
 f317 := Tryz.func96.trans (congrArg some (by kernel_rfl))
 f318 := Tryz.func98.trans (congrArg some (by kernel_rfl))
 f319 := Tryz.func99.trans (congrArg some (by kernel_rfl))
 f320 := Tryz.func100.trans (congrArg some (by kernel_rfl))
 f337 := Tryz.func105.trans (congrArg some (by kernel_rfl))
 f338 := Tryz.func106.trans (congrArg some (by kernel_rfl))
 t0 := Tryz.underlying0
 a0 := Tryz.isAgg0
 z0 := Tryz.sizeOf0
 v0 := Tryz.zeroValue0
 t2 := Tryz.underlying2
 a2 := Tryz.isAgg2
 z2 := Tryz.sizeOf2
 v2 := Tryz.zeroValue2
 t3 := Tryz.underlying3
 a3 := Tryz.isAgg3
 z3 := Tryz.sizeOf3
 v3 := Tryz.zeroValue3
 t4 := Tryz.underlying4
 a4 := Tryz.isAgg4
 z4 := Tryz.sizeOf4
 v4 := Tryz.zeroValue4
 t5 := Tryz.underlying5
 a5 := Tryz.isAgg5
 z5 := Tryz.sizeOf5
 v5 := Tryz.zeroValue5
 t9 := Tryz.underlying9
 a9 := Tryz.isAgg9
 z9 := Tryz.sizeOf9
 v9 := Tryz.zeroValue9
 t20 := Tryz.underlying20
 a20 := Tryz.isAgg20
 z20 := Tryz.sizeOf20
 v20 := Tryz.zeroValue20
 t37 := Tryz.underlying22
 a37 := Tryz.isAgg22
 z37 := Tryz.sizeOf22
 v37 := Tryz.zeroValue22
 t46 := Tryz.underlying96
 a46 := Tryz.isAgg96
 z46 := Tryz.sizeOf96
 v46 := Tryz.zeroValue96
 t51 := Tryz.underlying115
 a51 := Tryz.isAgg115
 z51 := Tryz.sizeOf115
 v51 := Tryz.zeroValue115
 t53 := Tryz.underlying118
 a53 := Tryz.isAgg118
 z53 := Tryz.sizeOf118
 v53 := Tryz.zeroValue118
 t171 := Tryz.underlying122
 a171 := Tryz.isAgg122
 z171 := Tryz.sizeOf122
 v171 := Tryz.zeroValue122
 t173 := Tryz.underlying125
 a173 := Tryz.isAgg125
 z173 := Tryz.sizeOf125
 v173 := Tryz.zeroValue125
 t212 := Tryz.underlying137
 a212 := Tryz.isAgg137
 z212 := Tryz.sizeOf137
 v212 := Tryz.zeroValue137
 t213 := Tryz.underlying138
 a213 := Tryz.isAgg138
 z213 := Tryz.sizeOf138
 t232 := Tryz.underlying151
 a232 := Tryz.isAgg151
 z232 := Tryz.sizeOf151
 v232 := Tryz.zeroValue151
 t233 := Tryz.underlying152
 a233 := Tryz.isAgg152
 z233 := Tryz.sizeOf152
 v233 := Tryz.zeroValue152
 g17 := by kernel_rfl
 g18 := by kernel_rfl
 g19 := by kernel_rfl
 i0 := by kernel_rfl
 i2 := by kernel_rfl
 i3 := by kernel_rfl
 i4 := by kernel_rfl
 i5 := by kernel_rfl
 i9 := by kernel_rfl
 i20 := by kernel_rfl
 i37 := by kernel_rfl
 i46 := by kernel_rfl
 i51 := by kernel_rfl
 i53 := by kernel_rfl
 i171 := by kernel_rfl
 i173 := by kernel_rfl
 i212 := by kernel_rfl
 i232 := by kernel_rfl
 i233 := by kernel_rfl
 m17 := by kernel_rfl
 m18 := by kernel_rfl
 m19 := by kernel_rfl }
open Go.RowKit Go.Sort Go.Lib in
theorem Tryz.strconv_Itoa (n : Int) (h0 : -9223372036854775808 ≤ n) (h1 : n ≤ 9223372036854775807) (w : World) (htab : Lib.TabIs Tryz.prog w "internal/strconv.uint64pow10" .u64 Lib.pow10Tab) :
  Calls Tryz.prog 34 #[.int .i64 n] w fun e w' => e = .returned (.string ⟨(Lib.itoa n).toArray⟩) ∧ ∃ k os, w' = grow (w.drewN k) os := Any.strconv_Itoa Tryz.laysM171 n h0 h1 w htab
def Tryz.laysC172_ren : Go.Shelf.Ren := ⟨fun | 172 => 37 | 244 => 59 | 245 => 60 | 247 => 74 | 279 => 75 | 280 => 76 | 281 => 77 | 282 => 78 | 287 => 93 | 316 => 94 | 171 => 34 | 205 => 95 | 321 => 103 | 322 => 104 | 243 => 52 | 246 => 67 | 283 => 82 | 284 => 83 | 285 => 84 | 286 => 85 | 129 => 97 | 317 => 96 | 318 => 98 | 319 => 99 | 320 => 100 | 337 => 105 | 338 => 106 | n => n, fun | 9 => 9 | 3 => 3 | 75 => 65 | 76 => 66 | 4 => 4 | 5 => 5 | 167 => 109 | 37 => 22 | 0 => 0 | 85 => 110 | 2 => 2 | 168 => 112 | 53 => 118 | 175 => 130 | 46 => 96 | 210 => 134 | 127 => 104 | 145 => 149 | 143 => 147 | 21 => 21 | 171 => 122 | 173 => 125 | 212 => 137 | 51 => 115 | 20 => 20 | 213 => 138 | 232 => 151 | 233 => 152 | 80 => 34 | n => n, fun | 15 => 1 | 16 => 2 | 17 => 3 | 18 => 6 | 19 => 7 | n => n⟩
theorem Tryz.laysC172 : Go.Proofs.LaysC.n172 Tryz.prog Tryz.laysC172_ren := {
 mixed := by kernel_rfl
 f129 := Tryz.func97.trans (congrArg some (by kernel_rfl))
 f171 := Tryz.func34.trans (congrArg some (by kernel_rfl))
 f172 := Tryz.func37.trans (congrArg some (by kernel_rfl))
 f205 := Tryz.func95.trans (congrArg some (by kernel_rfl))
 f243 := Tryz.func52.trans (congrArg some (by kernel_rfl))
 f244 := Tryz.func59.trans (congrArg some (by kernel_rfl))
 f245 := Tryz.func60.trans (congrArg some (by kernel_rfl))
 f246 := Tryz.func67.trans (congrArg some (by kernel_rfl))
 f247 := Tryz.func74.trans (congrArg some (by kernel_rfl))
 f279 := Tryz.func75.trans (congrArg some (by kernel_rfl))
 f280 := Tryz.func76.trans (congrArg some (by kernel_rfl))
 f281 := Tryz.func77.trans (congrArg some (by kernel_rfl))
 f282 := Tryz.func78.trans (congrArg some (by kernel_rfl))
 f283 := Tryz.func82.trans (congrArg some (by kernel_rfl))
 f284 := Tryz.func83.trans (congrArg some (by kernel_rfl))
 f285 := Tryz.func84.trans (congrArg some (by kernel_rfl))
 f286 := Tryz.func85.trans (congrArg some (by kernel_rfl))
 f287 := Tryz.func93.trans (congrArg some (by kernel_rfl))
 f316 := Tryz.func94.trans (congrArg some (by kernel_rfl))
 f317 := Tryz.func96.trans (congrArg some (by kernel_rfl))
 f318 := Tryz.func98.trans (congrArg some (by kernel_rfl))
 f319 := Tryz.func99.trans (congrArg some (by kernel_rfl))
 f320 := Tryz.func100.trans (congrArg some (by kernel_rfl))
 f321 := Tryz.func103.trans (congrArg some (by kernel_rfl))
 f322 := Tryz.func104.trans (congrArg some (by kernel_rfl))
 f337 := Tryz.func105.trans (congrArg some (by kernel_rfl))
 f338 := Tryz.func106.trans (congrArg some (by kernel_rfl))
 t0 := Tryz.underlying0
 a0 := Tryz.isAgg0
 z0 := Tryz.sizeOf0
 v0 := Tryz.zeroValue0
 t2 := Tryz.underlying2
 a2 := Tryz.isAgg2
 z2 := Tryz.sizeOf2
 v2 := Tryz.zeroValue2
 t3 := Tryz.underlying3
 a3 := Tryz.isAgg3
 z3 := Tryz.sizeOf3
 v3 := Tryz.zeroValue3
 t4 := Tryz.underlying4
 a4 := Tryz.isAgg4
 z4 := Tryz.sizeOf4
 v4 := Tryz.zeroValue4
 t5 := Tryz.underlying5
 a5 := Tryz.isAgg5
 z5 := Tryz.sizeOf5
 v5 := Tryz.zeroValue5
 t9 := Tryz.underlying9
 a9 := Tryz.isAgg9
 z9 := Tryz.sizeOf9
 v9 := Tryz.zeroValue9
 t20 := Tryz.underlying20
 a20 := Tryz.isAgg20
 z20 := Tryz.sizeOf20
 v20 := Tryz.zeroValue20
 t21 := Tryz.underlying21
 a21 := Tryz.isAgg21
 z21 := Tryz.sizeOf21
 v21 := Tryz.zeroValue21
 t37 := Tryz.underlying22
 a37 := Tryz.isAgg22
 z37 := Tryz.sizeOf22
 v37 := Tryz.zeroValue22
 t46 := Tryz.underlying96
 a46 := Tryz.isAgg96
 z46 := Tryz.sizeOf96
 v46 := Tryz.zeroValue96
 t51 := Tryz.underlying115
 a51 := Tryz.isAgg115
 z51 := Tryz.sizeOf115
 v51 := Tryz.zeroValue115
 t53 := Tryz.underlying118
 a53 := Tryz.isAgg118
 z53 := Tryz.sizeOf118
 v53 := Tryz.zeroValue118
 t75 := Tryz.underlying65
 a75 := Tryz.isAgg65
 z75 := Tryz.sizeOf65
 v75 := Tryz.zeroValue65
 t76 := Tryz.underlying66
 a76 := Tryz.isAgg66
 z76 := Tryz.sizeOf66
 v76 := Tryz.zeroValue66
 t85 := Tryz.underlying110
 a85 := Tryz.isAgg110
 z85 := Tryz.sizeOf110
 v85 := Tryz.zeroValue110
 t127 := Tryz.underlying104
 a127 := Tryz.isAgg104
 z127 := Tryz.sizeOf104
 v127 := Tryz.zeroValue104
 t143 := Tryz.underlying147
 a143 := Tryz.isAgg147
 z143 := Tryz.sizeOf147
 v143 := Tryz.zeroValue147
 t145 := Tryz.underlying149
 a145 := Tryz.isAgg149
 z145 := Tryz.sizeOf149
 v145 := Tryz.zeroValue149
 t167 := Tryz.underlying109
 a167 := Tryz.isAgg109
 z167 := Tryz.sizeOf109
 v167 := Tryz.zeroValue109
 t168 := Tryz.underlying112
 a168 := Tryz.isAgg112
 z168 := Tryz.sizeOf112
 v168 := Tryz.zeroValue112
 t171 := Tryz.underlying122
 a171 := Tryz.isAgg122
 z171 := Tryz.sizeOf122
 v171 := Tryz.zeroValue122
 t173 := Tryz.underlying125
 a173 := Tryz.isAgg125
 z173 := Tryz.sizeOf125
 v173 := Tryz.zeroValue125
 t175 := Tryz.underlying130
 a175 := Tryz.isAgg130
 z175 := Tryz.sizeOf130
 v175 := Tryz.zeroValue130
 t210 := Tryz.underlying134
 a210 := Tryz.isAgg134
 z210 := Tryz.sizeOf134
 v210 := Tryz.zeroValue134
 t212 := Tryz.underlying137
 a212 := Tryz.isAgg137
 z212 := Tryz.sizeOf137
 v212 := Tryz.zeroValue137
 t213 := Tryz.underlying138
 a213 := Tryz.isAgg138
 z213 := Tryz.sizeOf138
 t232 := Tryz.underlying151
 a232 := Tryz.isAgg151
 z232 := Tryz.sizeOf151
 v232 := Tryz.zeroValue151
 t233 := Tryz.underlying152
 a233 := Tryz.isAgg152
 z233 := Tryz.sizeOf152
 v233 := Tryz.zeroValue152
 g15 := by kernel_rfl
 g16 := by kernel_rfl
 g17 := by kernel_rfl
 g18 := by kernel_rfl
 g19 := by kernel_rfl
 t80 := Tryz.underlying34
 a80 := Tryz.isAgg34
 z80 := Tryz.sizeOf34
 v80 := Tryz.zeroValue34
 i0 := by kernel_rfl
 i2 := by kernel_rfl
 i3 := by kernel_rfl
 i4 := by kernel_rfl
 i5 := by kernel_rfl
 i9 := by kernel_rfl
 i20 := by kernel_rfl
 i21 := by kernel_rfl
 i37 := by kernel_rfl
 i46 := by kernel_rfl
 i51 := by kernel_rfl
 i53 := by kernel_rfl
 i75 := by kernel_rfl
 i76 := by kernel_rfl
 i80 := by kernel_rfl
 i85 := by kernel_rfl
 i127 := by kernel_rfl
 i143 := by kernel_rfl
 i145 := by kernel_rfl
 i167 := by kernel_rfl
 i168 := by kernel_rfl
 i171 := by kernel_rfl
 i173 := by kernel_rfl
 i175 := by kernel_rfl
 i210 := by kernel_rfl
 i212 := by kernel_rfl
 i232 := by kernel_rfl
 i233 := by kernel_rfl
 m15 := by kernel_rfl
 m16 := by kernel_rfl
 m17 := by kernel_rfl
 m18 := by kernel_rfl
 m19 := by kernel_rfl
 c0 := by kernel_rfl
 c2 := by kernel_rfl
 c3 := by kernel_rfl
 c4 := by kernel_rfl
 c5 := by kernel_rfl
 c9 := by kernel_rfl
 c20 := by kernel_rfl
 c21 := by kernel_rfl
 c37 := by kernel_rfl
 c46 := by kernel_rfl
 c51 := by kernel_rfl
 c53 := by kernel_rfl
 c75 := by kernel_rfl
 c76 := by kernel_rfl
 c80 := by kernel_rfl
 c85 := by kernel_rfl
 c127 := by kernel_rfl
 c143 := by kernel_rfl
 c145 := by kernel_rfl
 c167 := by kernel_rfl
 c168 := by kernel_rfl
 c171 := by kernel_rfl
 c173 := by kernel_rfl
 c175 := by kernel_rfl
 c210 := by kernel_rfl
 c212 := by kernel_rfl
 c213 := by kernel_rfl
 c232 := by kernel_rfl
 c233 := by kernel_rfl }
open Go.RowKit in
theorem Tryz.strconv_Atoi_ok (s : ByteArray) (hmax : s.size ≤ 9223372036854775806) (v : Int) (h : Lib.atoiAll s.data.toList = .ok v) (w : World) :
  Calls Tryz.prog 37 #[.string s] w fun e w' => e = .returned (.tuple #[.int .i64 v, .nilIface]) ∧ (w' = w ∨ ∃ t, w' = Lib.bytesWorld w 5 t) := Any.strconv_Atoi_ok Tryz.laysC172 s hmax v h w
open Go.RowKit in
theorem Tryz.strconv_Atoi_syntax_var (s : ByteArray) (hlim : s.size ≤ 281474976710656) (h : Lib.atoiAll s.data.toList = Lib.NumEnd.syntax) (tp : TypeId) (p : Value) (w : World) (hvar : w.var? Tryz.prog "strconv.ErrSyntax" = some #[.iface tp p]) :
  Calls Tryz.prog 37 #[.string s] w fun e w' => ∃ N, e = .returned (.tuple #[.int .i64 0, .iface 112 (.pointer (some ⟨N, 0, none⟩))]) ∧ w.heap.size ≤ N ∧ w'.heap[N]? = some (.cells #[.string ⟨#[65, 116, 111, 105]⟩, .string s, .iface tp p] 134 (0, 0)) ∧ Below w.heap.size w w' := Any.strconv_Atoi_syntax_var Tryz.laysC172 s hlim h tp p w hvar
open Go.RowKit in
theorem Tryz.strconv_Atoi_range_var (s : ByteArray) (hlim : s.size ≤ 281474976710656) (h : Lib.atoiAll s.data.toList = .range) (tp : TypeId) (p : Value) (w : World) (hvar : w.var? Tryz.prog "strconv.ErrRange" = some #[.iface tp p]) :
  Calls Tryz.prog 37 #[.string s] w fun e w' => ∃ N, e = .returned (.tuple #[.int .i64 (Lib.atoiSat s.data.toList), .iface 112 (.pointer (some ⟨N, 0, none⟩))]) ∧ w.heap.size ≤ N ∧ w'.heap[N]? = some (.cells #[.string ⟨#[65, 116, 111, 105]⟩, .string s, .iface tp p] 134 (0, 0)) ∧ Below w.heap.size w w' := Any.strconv_Atoi_range_var Tryz.laysC172 s hlim h tp p w hvar
def Tryz.lays146_ren : Go.Shelf.Ren := ⟨fun | 146 => 15 | 221 => 36 | 268 => 56 | 138 => 57 | 143 => 58 | 195 => 70 | 197 => 71 | 218 => 72 | 219 => 73 | 260 => 88 | 217 => 89 | 225 => 90 | 224 => 91 | 267 => 92 | 266 => 101 | 314 => 102 | n => n, fun | 9 => 9 | 31 => 35 | 3 => 3 | 4 => 4 | 0 => 0 | 105 => 106 | 21 => 21 | 5 => 5 | 46 => 96 | 119 => 140 | 139 => 143 | 138 => 142 | 146 => 116 | 51 => 115 | n => n, fun | 1 => 0 | 3 => 4 | 4 => 5 | n => n⟩
theorem Tryz.lays146 : Go.Proofs.Lays.n146 Tryz.prog Tryz.lays146_ren := {
 mixed := by kernel_rfl
 f138 := Tryz.func57.trans (congrArg some (by kernel_rfl))
 f143 := Tryz.func58.trans (congrArg some (by kernel_rfl))
 f146 := Tryz.func15.trans (congrArg some (by kernel_rfl))
 f195 := Tryz.func70.trans (congrArg some (by kernel_rfl))
 f197 := Tryz.func71.trans (congrArg some (by kernel_rfl))
 f217 := Tryz.func89.trans (congrArg some (by kernel_rfl))
 f218 := Tryz.func72.trans (congrArg some (by kernel_rfl))
 f219 := Tryz.func73.trans (congrArg some (by kernel_rfl))
 f221 := Tryz.func36.trans (congrArg some (by kernel_rfl))
 f224 := Tryz.func91.trans (congrArg some (by kernel_rfl))
 f225 := Tryz.func90.trans (congrArg some (by kernel_rfl))
 f260 := Tryz.func88.trans (congrArg some (by kernel_rfl))
 f266 := Tryz.func101.trans (congrArg some (by kernel_rfl))
 f267 := Tryz.func92.trans (congrArg some (by kernel_rfl))
 f268 := Tryz.func56.trans (congrArg some (by kernel_rfl))
 f314 := Tryz.func102.trans (congrArg some (by kernel_rfl))
 t0 := Tryz.underlying0
 a0 := Tryz.isAgg0
 z0 := Tryz.sizeOf0
 v0 := Tryz.zeroValue0
 t3 := Tryz.underlying3
 a3 := Tryz.isAgg3
 z3 := Tryz.sizeOf3
 v3 := Tryz.zeroValue3
 t4 := Tryz.underlying4
 a4 := Tryz.isAgg4
 z4 := Tryz.sizeOf4
 v4 := Tryz.zeroValue4
 t5 := Tryz.underlying5
 a5 := Tryz.isAgg5
 z5 := Tryz.sizeOf5
 v5 := Tryz.zeroValue5
 t9 := Tryz.underlying9
 a9 := Tryz.isAgg9
 z9 := Tryz.sizeOf9
 v9 := Tryz.zeroValue9
 t21 := Tryz.underlying21
 a21 := Tryz.isAgg21
 z21 := Tryz.sizeOf21
 v21 := Tryz.zeroValue21
 t31 := Tryz.underlying35
 a31 := Tryz.isAgg35
 z31 := Tryz.sizeOf35
 v31 := Tryz.zeroValue35
 t46 := Tryz.underlying96
 a46 := Tryz.isAgg96
 z46 := Tryz.sizeOf96
 v46 := Tryz.zeroValue96
 t51 := Tryz.underlying115
 a51 := Tryz.isAgg115
 z51 := Tryz.sizeOf115
 v51 := Tryz.zeroValue115
 t105 := Tryz.underlying106
 a105 := Tryz.isAgg106
 z105 := Tryz.sizeOf106
 v105 := Tryz.zeroValue106
 t119 := Tryz.underlying140
 a119 := Tryz.isAgg140
 z119 := Tryz.sizeOf140
 t138 := Tryz.underlying142
 a138 := Tryz.isAgg142
 z138 := Tryz.sizeOf142
 v138 := Tryz.zeroValue142
 t139 := Tryz.underlying143
 a139 := Tryz.isAgg143
 z139 := Tryz.sizeOf143
 v139 := Tryz.zeroValue143
 t146 := Tryz.underlying116
 a146 := Tryz.isAgg116
 z146 := Tryz.sizeOf116
 v146 := Tryz.zeroValue116
 g1 := by kernel_rfl
 g3 := by kernel_rfl
 g4 := by kernel_rfl }
open Go.RowKit Go.Lib in
theorem Tryz.strings_Split (s sep : ByteArray) (m : Int) (w : World) (hs : s.size < 4294967281) (hm : w.cell? ⟨0, 0, none⟩ = some (.int .i64 m)) (h1 : 1 ≤ sep.size) :
  Calls Tryz.prog 15 #[.string s, .string sep] w fun e w' =>
   e = .returned (.slice (some ⟨w.heap.size, 0, none⟩) (Lib.countB s sep + 1) (Lib.countB s sep + 1)) ∧ w' = w.alloc (.cells ((Lib.splitB sep 0 (Lib.countB s sep) s).map Value.string).toArray 9) := Any.strings_Split Tryz.lays146 (by kernel_rfl) s sep m w hs hm h1
def Tryz.lays212_ren : Go.Shelf.Ren := ⟨fun | 212 => 61 | 263 => 79 | 264 => 80 | n => n, fun | 46 => 96 | 51 => 115 | 146 => 116 | 53 => 118 | 148 => 119 | n => n, fun | n => n⟩
theorem Tryz.lays212 : Go.Proofs.Lays.n212 Tryz.prog Tryz.lays212_ren := {
 mixed := by kernel_rfl
 f212 := Tryz.func61.trans (congrArg some (by kernel_rfl))
 f263 := Tryz.func79.trans (congrArg some (by kernel_rfl))
 f264 := Tryz.func80.trans (congrArg some (by kernel_rfl))
 t46 := Tryz.underlying96
 a46 := Tryz.isAgg96
 z46 := Tryz.sizeOf96
 v46 := Tryz.zeroValue96
 t51 := Tryz.underlying115
 a51 := Tryz.isAgg115
 z51 := Tryz.sizeOf115
 v51 := Tryz.zeroValue115
 t53 := Tryz.underlying118
 a53 := Tryz.isAgg118
 z53 := Tryz.sizeOf118
 v53 := Tryz.zeroValue118
 t146 := Tryz.underlying116
 a146 := Tryz.isAgg116
 z146 := Tryz.sizeOf116
 v146 := Tryz.zeroValue116
 t148 := Tryz.underlying119
 a148 := Tryz.isAgg119
 z148 := Tryz.sizeOf119
 v148 := Tryz.zeroValue119 }
open Go.RowKit Go.Lib in
theorem Tryz.bits_Mul (x y : Nat) (hx : x < 18446744073709551616) (hy : y < 18446744073709551616) (w : World) :
  Calls Tryz.prog 61 #[.int .u64 x, .int .u64 y] w fun e w' => e = .returned (.tuple #[.int .u64 ((x * y / 18446744073709551616 : Nat) : Int), .int .u64 ((x * y % 18446744073709551616 : Nat) : Int)]) ∧ w' = w := Any.bits_Mul Tryz.lays212 x y hx hy w
end
section
open Go.Lib (itoa join)
attribute [local irreducible] X Pure Mod
def TabG (G : PH) : Prop := ∀ w, Emb G w → Lib.TabIs Tryz.prog w "internal/strconv.uint64pow10" .u64 Lib.pow10Tab
theorem TabG_le {G G' : PH} (h : G.le G') (hT : TabG G) : TabG G' := fun w hw => hT w fun b o hb => hw b o (h b o hb)
theorem pure_below {P : Program} {f : Nat} {vs : List Value} {G : PH} {u : Value} (h : ∀ w, Emb G w → Calls P f vs.toArray w fun e w' => e = .returned u ∧ Below w.heap.size w w') : Pure P f vs G fun v G' => v = u ∧ G' = G := by
 unfold Pure
 intro w hw
 refine (h w hw).mono ?_;rintro e w' ⟨rfl, hb⟩
 refine ⟨u, G, rfl, ⟨rfl, rfl⟩, PH.ext.refl _ _, fun b o hbo => ?_, hb⟩
 have hlt : b < w.heap.size := (Array.getElem?_eq_some_iff.1 (hw b o hbo)).1
 rw [hb.block b hlt]
 exact hw b o hbo
theorem below_grow (w : World) (k : Nat) (os : Array Obj) : Below w.heap.size w (Sort.grow (w.drewN k) os) :=
 ⟨rfl, rfl, rfl, by simp [Sort.grow, World.drewN], fun b hb => by
  rw [Sort.heap_grow_old _ _ (by simpa [World.drewN] using hb)]; rfl⟩
theorem c_Itoa (n : Int) (hn : I64 n) (G : PH) (hT : TabG G) : Pure Tryz.prog 34 [.int .i64 n] G fun v G' => v = tx (itoa n) ∧ G' = G :=
 pure_below fun w hw => (Tryz.strconv_Itoa n hn.1 hn.2 w (hT w hw)).mono fun e w' ⟨he, k, os, hw'⟩ => ⟨he, hw' ▸ below_grow w k os⟩
theorem c_Join (xs : List (List UInt8)) (sep : List UInt8) (A : Option Addr) (c : Nat) (G : PH) (hv : xs.length = 0 ∨ ∃ g o, A = some ⟨g, o, none⟩ ∧ gcells G ⟨g, o, none⟩ (xs.map tx)) (hc : xs.length ≤ c) (hn : xs.length ≤ 1000000000) (hl : (join xs sep).length ≤ 140737488355328) : Pure Tryz.prog 35 [.slice A xs.length c, tx sep] G fun v' G' => v' = tx (join xs sep) ∧ G' = G := by
 rcases Nat.eq_zero_or_pos xs.length with h0 | h0
 ·obtain rfl := List.eq_nil_of_length_eq_zero h0
  exact pure_below fun w hw => (Tryz.strings_Join_none A c ⟨sep.toArray⟩ w).mono fun e w' ⟨he, hw'⟩ => ⟨he, hw' ▸ Below.refl _ _⟩
 rcases hv with hv | ⟨g, o, rfl, hcs⟩
 ·omega
 have e1 : (xs.map fun x => (⟨x.toArray⟩ : ByteArray)).map (·.data.toList) = xs := by simp [Function.comp_def]
 refine pure_below fun w hw => ?_
 have hcell : ∀ (j : Nat) (x : ByteArray), (xs.map fun x => (⟨x.toArray⟩ : ByteArray))[j]? = some x → w.cell? ⟨g, o + j, none⟩ = some (.string x) := by
  intro j x hj
  rw [List.getElem?_map] at hj
  obtain ⟨y, hy, rfl⟩ := Option.map_eq_some_iff.1 hj
  have := gcell_emb hw (gcells_at hcs j (tx y) (by rw [List.getElem?_map, hy]; rfl))
  rw [show (⟨g, o, none⟩ : Addr).add j = ⟨g, o + j, none⟩ by unfold Addr.add; split <;> simp_all] at this
  exact this
 have hg : g < w.heap.size := by
  have h1 := gcells_at hcs 0 (tx xs[0]) (by simp [h0])
  unfold gcell at h1
  simp only [Addr.add] at h1
  split at h1
  ·rename_i hx
   exact (Array.getElem?_eq_some_iff.1 (hw _ _ hx)).1
  ·cases h1
 have := Tryz.strings_Join g o c (xs.map fun x => (⟨x.toArray⟩ : ByteArray)) ⟨sep.toArray⟩ w hcell hg (by simp; omega) (by simpa using hc) (by rw [e1]; simpa using hl)
 rw [e1] at this
 simpa [tx] using this
theorem S_freezeN {C : Ctx} {k : List It} {E : Env} {ι : Ids} {L : List Ent} {G : PH} (κ : Nat) {base e sz : Nat} {A : Option Addr} {n c : Nat} {xs : List Value} {L' : List Ent} (hL : getH κ L = some (rowO base e sz A n c xs)) (hL' : delH κ L = some L') (hb0 : C.w0.heap.size ≤ base)
  (hk : ∀ G', PH.ext C.w0.heap.size G G' → n ≤ c → c ≤ maxLen → (n = 0 ∨ ∃ g o, A = some ⟨g, o, none⟩ ∧ gcells G' ⟨g, o, none⟩ xs) → X C k E ι L' G') : X C k E ι L G := by
 refine S_lendO κ hL hL' (fun hA hn hc hx => ?_) (fun g off cur hA hbg hnc hcm hl hfit ht hG hb hcells => ?_)
 ·exact hk G XR (by omega) (by rw [hc]; simp [maxLen]) (.inl hn)
 ·refine hk _ ⟨le_add hG, fun b o hbo hn => ?_⟩ hnc hcm (.inr ⟨g, off, hA, ?_⟩)
  ·unfold PH.add at hbo
   split at hbo
   ·rename_i e'; subst e'; omega
   ·rw [hn] at hbo; cases hbo
  ·refine gcells_row (cur := cur) (e := e) (fr := (0, 0)) ?_ xs off ht
   simp [PH.add]
end
section
attribute [local irreducible] X Pure Mod
def VarG (G : PH) (n : String) : Prop := ∃ tp p, ∀ w, Emb G w → w.var? Tryz.prog n = some #[.iface tp p]
def MaxG (G : PH) : Prop := ∃ m, ∀ w, Emb G w → w.cell? ⟨0, 0, none⟩ = some (.int .i64 m)
structure LibG (G : PH) : Prop where
 tab : TabG G
 mx : MaxG G
 es : VarG G "strconv.ErrSyntax"
 er : VarG G "strconv.ErrRange"
theorem emb_le {G G' : PH} (h : G.le G') {w : World} (hw : Emb G' w) : Emb G w := fun b o hb => hw b o (h b o hb)
theorem LibG_le {G G' : PH} (h : G.le G') (hG : LibG G) : LibG G' := by
 obtain ⟨h1, ⟨m, h2⟩, ⟨t3, p3, h3⟩, ⟨t4, p4, h4⟩⟩ := hG
 exact ⟨TabG_le h h1, ⟨m, fun w hw => h2 w (emb_le h hw)⟩, ⟨t3, p3, fun w hw => h3 w (emb_le h hw)⟩, ⟨t4, p4, fun w hw => h4 w (emb_le h hw)⟩⟩
theorem c_Split (s : List UInt8) (b : UInt8) (G : PH) (hs : s.length ≤ 1048576) (hm : MaxG G) : Pure Tryz.prog 15 [tx s, tx [b]] G fun v G' => Txs G' (cutB b s) v := by
 obtain ⟨m, hm⟩ := hm
 have hdat := Lib.splitB_data ⟨[b].toArray⟩ 0 (Lib.countB ⟨s.toArray⟩ ⟨[b].toArray⟩) ⟨s.toArray⟩
 have hlen := Lib.splitB_all ⟨[b].toArray⟩ (by simp [ByteArray.size]) 0 _ ⟨s.toArray⟩ rfl
 have hcut : Lib.splitK [b] 0 (Lib.countB ⟨s.toArray⟩ ⟨[b].toArray⟩) s = cutB b s := split_cut b _ s (Nat.le_refl _)
 simp only [List.toList_toArray] at hdat
 rw [hcut] at hdat
 have hn : (cutB b s).length = Lib.countB ⟨s.toArray⟩ ⟨[b].toArray⟩ + 1 := by rw [← hdat, List.length_map, hlen]
 have hvals : (Lib.splitB ⟨[b].toArray⟩ 0 (Lib.countB ⟨s.toArray⟩ ⟨[b].toArray⟩) ⟨s.toArray⟩).map Value.string = (cutB b s).map tx := by
  rw [← hdat, List.map_map]
  exact List.map_congr_left fun x _ => by simp [tx]
 have hl := cutB_len b s
 have key := pure_alloc (G := G) (f := 15) (vs := [tx s, tx [b]]) (P := Tryz.prog) (u := fun n => .slice (some ⟨n, 0, none⟩) (Lib.countB ⟨s.toArray⟩ ⟨[b].toArray⟩ + 1) (Lib.countB ⟨s.toArray⟩ ⟨[b].toArray⟩ + 1)) (o := .cells ((Lib.splitB ⟨[b].toArray⟩ 0 (Lib.countB ⟨s.toArray⟩ ⟨[b].toArray⟩) ⟨s.toArray⟩).map Value.string).toArray 9) fun w hw => Tryz.strings_Split ⟨s.toArray⟩ ⟨[b].toArray⟩ m w (by simp [ByteArray.size]; omega) (hm w hw) (by simp [ByteArray.size])
 refine key.mono ?_;rintro v G' _ ⟨bk, rfl, hG⟩
 rw [hvals] at hG
 rw [← hn]
 refine frz (G := fun _ => none) (xs := (cutB b s).map tx) (Cs_tx _) J (by omega) (Nat.le_refl _) (by simp only [maxLen]; omega) (.inr ⟨_, rfl, ?_⟩)
 refine gcells_row (cur := ((cutB b s).map tx).toArray) (e := 9) (fr := (0, 0)) (by simp [newp, hG]) _ 0 ?_
 simp only [List.drop_zero, List.toList_toArray]
 exact List.take_of_length_le (by simp)
theorem c_Atoi (s : List UInt8) (G : PH) (hs : s.length ≤ 1048576) (hG : LibG G) : Pure Tryz.prog 37 [tx s] G fun v G' => (match atoiO s with
  | some n => v = .tuple #[.int .i64 n, .nilIface]
  | none => ∃ x t p, v = .tuple #[x, .iface t p]) ∧ G' = G := by
 obtain ⟨_, _, ⟨t3, p3, h3⟩, ⟨t4, p4, h4⟩⟩ := hG
 refine pure_belowE fun w hw => ?_
 unfold atoiO
 have hsz : (⟨s.toArray⟩ : ByteArray).size = s.length := by simp [ByteArray.size]
 rcases h : Lib.atoiAll s with n | _ | _
 ·refine (Tryz.strconv_Atoi_ok ⟨s.toArray⟩ (by rw [hsz]; omega) n (by simpa using h) w).mono ?_
  rintro e w' ⟨rfl, hw'⟩
  refine ⟨_, J, J, ?_⟩
  rcases hw' with rfl | ⟨t, rfl⟩
  ·exact Below.refl _ _
  ·exact Lib.bytesWorld_below w _ t
 ·refine (Tryz.strconv_Atoi_syntax_var ⟨s.toArray⟩ (by rw [hsz]; omega) (by simpa using h) t3 p3 w (h3 w hw)).mono ?_
  rintro e w' ⟨N, rfl, _, _, hb⟩
  exact ⟨_, J, ⟨_, _, _, J⟩, hb⟩
 ·refine (Tryz.strconv_Atoi_range_var ⟨s.toArray⟩ (by rw [hsz]; omega) (by simpa using h) t4 p4 w (h4 w hw)).mono ?_
  rintro e w' ⟨N, rfl, _, _, hb⟩
  exact ⟨_, J, ⟨_, _, _, J⟩, hb⟩
theorem c_bMul (x y : Nat) (hx : x < 18446744073709551616) (hy : y < 18446744073709551616) (G : PH) : Pure Tryz.prog 61 [.int .u64 (x : Nat), .int .u64 (y : Nat)] G fun v G' => v = .tuple #[.int .u64 ((x * y / 18446744073709551616 : Nat) : Int), .int .u64 ((x * y % 18446744073709551616 : Nat) : Int)] ∧ G' = G :=
 pure_below fun w hw => (Tryz.bits_Mul x y hx hy w).mono fun e w' ⟨he, hw'⟩ => ⟨he, hw' ▸ Below.refl _ _⟩
theorem u_insForms : Tryz.prog.underlying 59 = some (.map 3 58) := by kernel_rfl
def limA (k : Nat) : Int := if k ≤ 6 then 3 else if k = 7 then 0 else if k ≤ 11 then 2 else 0
def limB (k : Nat) : Int := if 2 ≤ k ∧ k ≤ 4 then 3 else 0
def fmI (k : Nat) : Value := .agg #[tx (wordN k), .int .i64 (limA k), .int .i64 (limB k), .bool (hasN (k : Nat)), .bool (decide (k = 6) || decide (k = 7))]
def formE : List MapEntry := (List.range 13).map fun k => ⟨.int .i64 ((k + 1 : Nat) : Int), fmI (k + 1), k⟩
theorem formE_keys : ∀ e ∈ formE, ∃ y, e.key = .int .i64 y := by
 intro e he
 obtain ⟨k, _, rfl⟩ := List.mem_map.1 he
 exact ⟨_, J⟩
theorem formE_find (k : Nat) (h1 : 1 ≤ k) (h2 : k ≤ 13) : findI (k : Nat) formE = some (fmI k) := by
 have : k = 1 ∨ k = 2 ∨ k = 3 ∨ k = 4 ∨ k = 5 ∨ k = 6 ∨ k = 7 ∨ k = 8 ∨ k = 9 ∨ k = 10 ∨ k = 11 ∨ k = 12 ∨ k = 13 := by omega
 rcases this with rfl | rfl | rfl | rfl | rfl | rfl | rfl | rfl | rfl | rfl | rfl | rfl | rfl <;> rfl
theorem formE_none (x : Int) (h : ¬ (1 ≤ x ∧ x ≤ 13)) : findI x formE = none := by
 refine findI_none fun e he => ?_;obtain ⟨k, hk, rfl⟩ := List.mem_map.1 he
 have := List.mem_range.1 hk
 exact ⟨_, J, by omega⟩
theorem c_insForms (G : PH) : Pure Tryz.prog 33 [] G fun v G' => ∃ b es, v = .map (some b) ∧ G' b = some (.map es 13) ∧ es.toList = formE := by
 refine Pure.intro Tryz.func33 Tryz.ntmps33 J J fun w => ?_; refine Va J J ?_;refine S_makeMap 1 J J fun b => ?_;refine Va J J ?_
 iterate 13
  refine S_insert 1 u_insForms u_int J J J J J J J ?_;refine Va J J ?_
 refine S_freezeO 1 J J (fun _ h => h) fun hext => ?_;exact S_retP Tryz.results33 J J hext ⟨b, _, J, PH.add_self _ _ _, J⟩
end
section
attribute [local irreducible] X Pure Mod
theorem u_uint : Tryz.prog.underlying 96 = some (.int .u64) := by kernel_rfl
def filled (n f : Nat) (x : Int) : List Int := List.replicate f x ++ List.replicate (n - f) 0
theorem filled_step {n f m : Nat} {x : Int} (h : f + m ≤ n) : ((intC (filled n f x)).take f ++ intC (List.replicate m x) ++ (intC (filled n f x)).drop (f + m)) = intC (filled n (f + m) x) := by
 unfold filled
 rw [intC_append, List.take_left' (by rw [intC_length, List.length_replicate]), List.drop_append, List.drop_eq_nil_of_le (by rw [intC_length, List.length_replicate]; omega), intC_length, List.length_replicate]
 rw [show f + m - f = m by omega, List.nil_append, intC_append, intC_map (List.replicate (f + m) x), ← List.replicate_append_replicate, List.map_append, ← intC_map, ← intC_map]
 congr 1
 rw [intC_map, intC_map, ← List.map_drop, List.drop_replicate, show n - f - m = n - (f + m) by omega]
theorem filled_take {n f m : Nat} {x : Int} (h : m ≤ f) : (intC (filled n f x)).take m = intC (List.replicate m x) := by
 unfold filled
 rw [intC_append, List.take_append_of_le_length (by rw [intC_length, List.length_replicate]; omega), intC_map, intC_map, ← List.map_take, List.take_replicate, Nat.min_eq_left h]
theorem filled_zero (n : Nat) (x : Int) : intC (filled n 0 x) = repL n [.int .i64 0] := by
 unfold filled
 rw [List.replicate_zero, List.nil_append, Nat.sub_zero, intC_map, List.map_replicate]
 induction n with
 | zero => rfl
 | succ n ih => rw [List.replicate_succ, repL, ← ih]; rfl
theorem c_Repeat (x : Int) (n : Nat) (v : Value) (G : PH) (hv : Ints G [x] v) (h1 : 1 ≤ n) (hn : n ≤ 1000000) : Mod Tryz.prog 41 [v, .int .i64 (n : Nat)] G emptyHP fun v' G' A' => G' = G ∧ ∃ g base, v' = .slice (some ⟨g, 0, none⟩) n n ∧ A' = rowO base 3 1 (some ⟨g, 0, none⟩) n n (intC (List.replicate n x)) := by
 obtain ⟨Av, cv, rfl, _, hcv1, hcv2, _⟩ := id hv
 obtain ⟨ad, cs, rfl, hcell, rfl, _⟩ := Sr_at hv (k := 0) (by simp)
 have e0 : ad.add (0 * 1) = ad := by
  rw [Nat.zero_mul]
  unfold Addr.add
  split <;> simp_all
 refine Mod.introE Tryz.func41 Tryz.ntmps41 J J fun w => ?_;refine Va J J ?_;refine RF J (by simp) ?_;refine Va J J ?_;refine S_valV J J J (V_conv J u_intT u_uint (p := 1) (by decide)) ?_;refine Va J J ?_;refine S_valV J J J (V_conv J u_intT u_uint (p := (n : Nat)) (by simp [IntKind.wrap, IntKind.bits, IntKind.signed]; omega)) ?_;refine Va J J ?_;refine S_call Tryz.call61 (c_bMul 1 n (by omega) (by omega) G) J J J ?_
 rintro v1 G1 ⟨rfl, rfl⟩ _
 rw [show 1 * n / 18446744073709551616 = 0 by omega, show 1 * n % 18446744073709551616 = n by omega]
 refine Va J J ?_;refine S_valV J J J (V_gtK J J) ?_;refine Va J J ?_;refine GF J J (by decide) ?_;refine Va J J ?_;refine S_valV J J J (V_gtK J J) ?_;refine Va J J ?_;refine RF J (by simp; omega) ?_;refine Va J J ?_;refine S_valV J J J (V_conv J u_uint u_intT (p := (n : Nat)) (by rw [IntKind.wrap_i64]; omega)) ?_;refine Va J J ?_;refine S_make Tk ZT_ok J J J J J J (by simp; omega) (by omega) rfl rfl rfl fun b30 => ?_
 refine Va J J ?_;refine S_blkO 30 7 (base := 0) (n := n) (c := n) (o := 0) (sz := 1) (xs := intC (filled n 0 x)) J J (denL_vL _ _) J (.inr (.inl J)) (by rw [filled_zero]; exact List.take_of_length_le (by simp [repL_length])) (by simp [intC_length, filled]) (Nat.le_refl _) (by simp only [maxLen]; omega) (by simp [repL_length]) ?_;refine S_reE 7 (.val (.slice (some ⟨b30, 0, none⟩) n n)) J J ?_;refine S_reE 31 (.val (.slice (some ⟨b30, 0, none⟩) n n)) J J ?_
 refine Va J J ?_
 have hst1 := filled_step (n := n) (f := 0) (m := 1) (x := x) (by omega)
 refine S_copyO 7 (o := 0) (m := 1) (cs := intC (List.replicate 1 x)) J J J J J J (by simp only [List.length_singleton]; exact (Nat.min_eq_left h1).symm) (by omega) J (.inr (by rw [← e0]; exact hcell)) (by intro u hu; simp [intC] at hu; subst hu; rfl) rfl rfl ?_
 rw [hst1]
 refine Va J J ?_;refine S_loop (α := Nat) (fun f => 1 ≤ f ∧ f ≤ n) (fun f => n - f) []
  (fun f => [(8, .val (.int .i64 (f : Nat))), (7, .val (.slice (some ⟨b30, 0, none⟩) n n))])
  (fun f => [.hp 7 (rowO 0 3 1 (some ⟨b30, 0, none⟩) n n (intC (filled n f x)))]) (fun _ => G1) (0 + 1) ⟨by omega, by omega⟩ rfl ⟨⟨_, rfl, rfl⟩, ⟨_, rfl, rfl⟩, trivial⟩ (.hp (.drop .nil)) ?_
 rintro f ⟨hf1, hf⟩
 refine Va J J ?_
 refine S_condp J (fun h5 => ?_) (fun h5 => ?_) <;> refine Va J J ?_
 ·have hfn : f < n := by omega
  obtain ⟨m, hm⟩ : ∃ m, m = Nat.min f (n - f) := ⟨_, rfl⟩
  have hm1 : 1 ≤ m := by rw [hm]; exact Nat.le_min.2 ⟨hf1, by omega⟩
  have hm2 : m ≤ f := by rw [hm]; exact Nat.min_le_left _ _
  have hm3 : m ≤ n - f := by rw [hm]; exact Nat.min_le_right _ _
  have hst := filled_step (n := n) (f := f) (m := m) (x := x) (by omega)
  refine D_startK [8] (by exact MO) J J J (by kernel_rfl) ?_;refine Da J J ?_;refine D_val 3 J J J J J J J J J (V_sliceLo (ad' := ⟨b30, 0 + f, none⟩) Tk J J J J (by omega) (by omega) (by rw [add_lit', Nat.mul_one])) ?_;refine D_val 6 J J J J J J J J J (V_sliceHiO (ad' := ⟨b30, 0 + 0, none⟩) Tk J J J J (by omega) (by omega) (by omega) (by rw [add_lit'])) ?_;refine Da J J ?_;refine Nt 7 J J J J J J fun back => ?_
  refine S_copyO 7 (o := f) (m := m) (cs := intC (List.replicate m x)) J J J J J J hm (by omega) (by simp [intC_length]) (.inl ⟨0, J, by omega, by rw [List.drop_zero, filled_take hm2]⟩) (by intro u hu; rw [intC_map, List.map_replicate] at hu; rw [(List.mem_replicate.1 hu).2]; rfl) rfl rfl ?_
  rw [hst]
  refine back _ _ _ _ (by kernel_rfl) ?_; clear back
  refine Da J J ?_;refine D_val 8 J J J J J J J J J (V_add J J (by omega)) ?_;refine Da J J ?_;refine D_sole 9 J J (N_assign Tk 9 J J J J J J J J J (by kernel_rfl) ?_)
  refine DD ?_;refine Va J J ?_;exact S_again (f + m) ⟨by omega, by omega⟩ (by omega) J ⟨⟨_, J, by simp [denO]⟩, ⟨_, J, J⟩, trivial⟩ (.hp .nil)
 ·obtain rfl : f = n := by omega
  refine S_retm 7 (Res.t1 Tryz.results41 J J) J XR ⟨J, b30, 0, J, ?_⟩
  simp [filled]
end
section
attribute [local irreducible] X Pure Mod
def low (l : List Int) : List Int := l.map (· - 1)
theorem low_set (l : List Int) (k : Nat) (a : Int) : (low l).set k (a - 1) = low (l.set k a) := by unfold low; rw [List.map_set]
theorem low_at {l : List Int} {k : Nat} {a : Int} (h : l[k]? = some a) : (low l)[k]? = some (a - 1) := by unfold low; rw [List.getElem?_map, h]; rfl
theorem low_len (l : List Int) : (low l).length = l.length := by simp [low]
theorem c_roomsOk (c : List Ins) (v : Value) (G : PH) (hv : InsG G c v) (hw : walkOk c) (h1 : 1 ≤ c.length) (h60 : c.length ≤ 60) : Pure Tryz.prog 21 [v] G fun v' G' => v' = .bool (roomsP c) := by
 obtain ⟨Ac, cc, rfl, _⟩ := id hv
 refine Pure.intro Tryz.func21 Tryz.ntmps21 J J fun w => ?_; refine Va J J ?_;refine S_sliceG Tk ZT_ok J J J J (by decide) (by decide) J J J J (fun _ => J) fun bq Gq hxq hcq => ?_;refine Va J J ?_;refine S_callN 3 Tryz.call41 (c_Repeat (-2) c.length _ Gq (ints_of hcq J (Nat.le_refl _) (by decide) (by decide) (i64_small (by decide))) h1 (by omega)) J J J ?_;rintro v1 G1 A1 ⟨rfl, gp, base, rfl, rfl⟩ _
 refine S_newRow 3 J J ?_
 rw [show List.replicate c.length (-2 : Int) = low (List.replicate c.length (-1)) by simp [low]]
 refine Va J J ?_;refine S_index Tk J J J J J J (by omega) (by omega) ?_;refine Va J J ?_;refine S_storeO Tk 3 (o := 0) J J J (by simp [add_lit']) J J J J J (by simp [intC_length, low]; omega) rfl ?_;refine Va J J ?_;refine S_sliceB Tk ZT_ok J J J J (by decide) (by decide) J J J J fun b16 hb16 => ?_;refine Va J J ?_;refine S_blkO 16 4 (base := w.heap.size) (n := 1) (c := 1) (o := 0) (sz := 1) J J J J (.inl hb16) J J (Nat.le_refl _) (by simp [maxLen]) (Nat.le_refl _) ?_
 refine S_reE 4 (.val (.slice (some ⟨b16, 0, none⟩) 1 1)) J J ?_;refine Va J J ?_;refine S_loop (α := RM) (fun y => RI c.length y.rooms y.todo ∧ TD y.rooms y.todo ∧ y.k ≤ y.todo.length ∧ roomsP c = roomsF c (c.length + 1 - y.k) y.k y.rooms y.todo ∧ PH.ext w.heap.size G y.G) (fun y => c.length + 1 - y.k) []
  (fun y => [(4, .val (.slice y.A (y.todo.length - y.k) y.cc)), (3, .val (.slice (some ⟨gp, 0, none⟩) c.length c.length)), (0, .val (.slice Ac c.length cc))])
  (fun y => [.hp 4 (rowO w.heap.size 3 1 y.A (y.todo.length - y.k) y.cc (intC (y.todo.drop y.k))), .hp 3 (rowO w.heap.size 3 1 (some ⟨gp, 0, none⟩) c.length c.length (intC (low y.rooms)))]) (fun y => y.G) ⟨0, (List.replicate c.length (-1)).set 0 0, [0], some ⟨b16, 0, none⟩, 1, G1⟩
  ⟨RI.start h1, TD.start h1, Nat.zero_le _, rfl, hxq⟩ rfl ⟨⟨_, rfl, rfl⟩, ⟨_, rfl, rfl⟩, ⟨_, rfl, rfl⟩, trivial⟩ (by rw [← low_set, ← intC_sets]; exact .hp (.hp .nil)) ?_
 rintro ⟨k, rooms, todo, A, cq, G2⟩ ⟨hri, htd, hk, hfuel, hext⟩
 simp only at hri htd hk hfuel hext ⊢
 have htl := hri.len
 obtain ⟨f, hf⟩ : ∃ f, c.length + 1 - k = f + 1 := ⟨c.length - k, by omega⟩
 rw [hf] at hfuel
 refine Va J J ?_
 refine S_condp J (fun h5 => ?_) (fun h5 => ?_) <;> refine Va J J ?_
 ·have hkl : k < todo.length := by omega
  have hxr := hri.td _ (List.getElem_mem hkl)
  have hxt := htd _ (List.getElem_mem hkl)
  have hxk : todo[k]? = some todo[k] := List.getElem?_eq_getElem hkl
  have hdk : (todo.drop k)[0]? = some todo[k] := by rw [List.getElem?_drop]; exact hxk
  generalize hxe : todo[k] = x at hxr hxt hxk hdk
  obtain ⟨x, rfl⟩ := Int.eq_ofNat_of_zero_le hxr.1
  have hxl : x < c.length := by omega
  obtain ⟨rm, hrm, hrd⟩ := getD_at (l := rooms) hxr.1 (by rw [hri.rl]; exact hxr.2)
  rw [Int.toNat_natCast] at hrm hrd hxt
  rw [hrd] at hxt
  have hrg := hri.rg rm (List.mem_of_getElem? hrm)
  have hci : c[x]? = some c[x] := List.getElem?_eq_getElem hxl
  obtain ⟨hiok, _⟩ := hw x _ hci
  have hvx := InsG_le hext.le hv
  obtain ⟨adc, csc, rfl, hcell, rfl, hi4⟩ := Sr_at hvx hxl
  have hsr := succ_range hw hci
  have hsl := succ_len c[x] x
  rw [roomsF_at hxk hci, hrd] at hfuel
  have hq := c_moves c[x] (rm - 1) G2 (by omega)
  have hqn := fun H => c_successors c[x] x H hi4 (by omega)
  rw [Int.sub_add_cancel] at hq
  generalize c[x] = i at *
  refine S_capO 4 J fun hcap4 _ _ => ?_;refine S_someO 4 J (by omega) fun g4 o4 eA => ?_
  subst eA
  refine S_index Tk J J J J J J (by omega) (by omega) ?_;refine Va J J ?_;refine S_valV J J J (V_loadR' Tk 4 (o := 0) J J (by simp [add_lit']) J J (intC_at hdk)) ?_;refine Va J J ?_;obtain ⟨r, hr⟩ : ∃ r, todo.length - k = r + 1 := ⟨todo.length - k - 1, by omega⟩
  rw [hr]
  refine S_tailO Tk 4 J J J J J J (fun _ => J) fun A4 => ?_
  rw [show (intC (todo.drop k)).drop 1 = intC (todo.drop (k + 1)) by rw [intC_map, intC_map, ← List.map_drop, List.drop_drop]]
  refine Va J J ?_;refine Ds J J J ?_;refine Da J J ?_;refine D_val 2 J J J J J J J J J (V_index Tk J J J J (by omega) (by omega)) ?_;refine D_val 6 J J J J J J J J J (V_index Tk J J J J (by omega) (by omega)) ?_;refine Da J J ?_;refine D_val 3 J J J J J J J J J (V_loadA Tk J J J (by simpa using hcell)) ?_;refine D_val 7 J J J J J J J J J (V_loadR' Tk 3 J J (add_lit' ..) J J (by simpa using intC_at (low_at hrm))) ?_
  refine Da J J ?_;refine D_sole 8 J J (N_call 8 Tryz.call42 (hq) J J J J J J J J J J ?_)
  rintro v1 G3 ⟨⟨rr, rfl, hrr⟩, rfl⟩ _
  refine Da J J ?_;refine DD ?_;refine Va J J ?_
  by_cases hok : (heldI i rm).2 = true
  ·refine RF J (by simp [hok]) ?_
   refine Va J J ?_
   rw [if_pos hok] at hfuel
   have hro := held_room hiok ⟨hxt, hrg.2⟩ hok
   obtain rfl := hrr hok
   generalize (heldI i rm).1 = room at hro hfuel
   refine S_index Tk J J J J J J (by omega) (by omega) ?_;refine Va J J ?_;refine S_loadA Tk J J J J J (by simpa using hcell) ?_;refine Va J J ?_;refine S_call Tryz.call43 (hqn G3) J J J ?_;rintro v3 G4 hv3 hext3
   generalize succI i (x : Int) = next at hv3 hsr hsl hfuel
   obtain ⟨A3, c3, rfl, _⟩ := id hv3
   refine Va J J ?_;refine S_loop (α := RV) (fun y => y.j ≤ next.length ∧ RI c.length y.rooms y.todo ∧ TD y.rooms y.todo ∧ todo.length ≤ y.todo.length ∧ visitI room next (rooms, todo) = visitI room (next.drop y.j) (y.rooms, y.todo)) (fun y => next.length - y.j) []
    (fun y => [(46, .val (.int .i64 (y.j : Nat))), (45, .val (.int .i64 (next.length : Nat))), (44, .val (.slice A3 next.length c3)), (6, .val (.int .i64 (room - 1))), (4, .val (.slice y.A (y.todo.length - (k + 1)) y.cc)), (3, .val (.slice (some ⟨gp, 0, none⟩) c.length c.length)), (0, .val (.slice (some adc) c.length cc))])
    (fun y => [.hp 4 (rowO w.heap.size 3 1 y.A (y.todo.length - (k + 1)) y.cc (intC (y.todo.drop (k + 1)))), .hp 3 (rowO w.heap.size 3 1 (some ⟨gp, 0, none⟩) c.length c.length (intC (low y.rooms)))]) (fun _ => G4) ⟨0, rooms, todo, A4, cq - 1⟩
    ⟨Nat.zero_le _, hri, htd, Nat.le_refl _, rfl⟩ rfl ⟨⟨_, rfl, rfl⟩, ⟨_, rfl, rfl⟩, ⟨_, rfl, rfl⟩, ⟨_, rfl, rfl⟩, ⟨_, rfl, by simp only [denO]; congr 2; omega⟩, ⟨_, rfl, rfl⟩, ⟨_, rfl, rfl⟩, trivial⟩ (by rw [show todo.length - (k + 1) = r by omega]; exact .hp (.hp .nil)) ?_
   rintro ⟨j, rooms', todo', A', c'⟩ ⟨hj, hri', htd', htt, hvis⟩
   simp only at hj hri' htd' htt hvis ⊢
   have htl' := hri'.len
   refine Va J J ?_
   refine S_condp J (fun h7 => ?_) (fun h7 => ?_) <;> refine Va J J ?_
   ·have hjl : j < next.length := by omega
    obtain ⟨ad3, cs3, e3, hcs3, rfl, hy64⟩ := Sr_at hv3 hjl
    subst e3
    have hyr := hsr _ (List.getElem_mem hjl)
    rw [List.drop_eq_getElem_cons hjl] at hvis
    generalize next[j] = y at hcs3 hy64 hyr hvis
    obtain ⟨ry, hry, hryd⟩ := getD_at (l := rooms') hyr.1 (by rw [hri'.rl]; exact hyr.2)
    have hryg := hri'.rg ry (List.mem_of_getElem? hry)
    rw [visitI, hryd] at hvis
    refine S_index Tk J J J J J J (by omega) (by omega) ?_;refine Va J J ?_;refine S_load Tk J J J J J (by simpa using hcs3.1) ?_;refine Va J J ?_;refine S_index Tk J J J J J J (by omega) (by omega) ?_;refine Va J J ?_;refine S_valV J J J (V_loadR' Tk 3 J J (add_lit' ..) J J (by simpa using intC_at (low_at hry))) ?_;refine Va J J ?_
    refine S_condp J (fun hneg => ?_) (fun hneg => ?_) <;> refine Va J J ?_
    ·rw [if_pos (by omega)] at hvis
     refine S_index Tk J J J J J J (by omega) (by omega) ?_;refine Va J J ?_;refine S_storeO Tk 3 (o := y.toNat) J J J (by simp [add_lit']) J J J J J (by rw [intC_length, low_len, hri'.rl]; omega) rfl ?_
     rw [intC_sets, low_set]
     refine Va J J ?_;refine S_slice Tk ZT_ok J J J J (by decide) (by decide) J J J J fun b62 => ?_;refine Va J J ?_;refine S_app1 Tk 4 62 J J J J J J J J J J J J J J (by intro u hu; simp at hu; rcases hu with rfl; rfl) rfl (fun _ _ => rfl) (by omega) (Nat.le_refl _) fun A6 c6 => ?_
     rw [intC_snoc]
     refine Va J J ?_;refine S_add J J J J (by omega) ?_;refine Va J J ?_;refine S_again ⟨j + 1, rooms'.set y.toNat room, todo' ++ [y], A6, c6⟩ ⟨hjl, hri'.new hyr hro (by rw [hryd]; omega), htd'.new hro.1 (by rw [hri'.rl]; exact hyr), by simp only [List.length_append]; omega, hvis⟩ (by simp only; omega) rfl ⟨⟨_, rfl, by simp [denO]⟩, ⟨_, rfl, rfl⟩, ⟨_, rfl, rfl⟩, ⟨_, rfl, rfl⟩, ⟨_, rfl, by simp only [denO, List.length_append, List.length_singleton]; congr 2; omega⟩, ⟨_, rfl, rfl⟩, ⟨_, rfl, rfl⟩, trivial⟩ ?_
     simp only [List.length_append, List.length_singleton]
     rw [show todo'.length + 1 - (k + 1) = todo'.length - (k + 1) + 1 by omega, List.drop_append_of_le_length (by omega)]
     first | exact .drop (.hp (.hp .nil)) | exact .hp (.hp .nil)
    ·rw [if_neg (by omega)] at hvis
     refine S_condp J (fun hne => ?_) (fun hne => ?_) <;> refine Va J J ?_
     ·rw [if_pos (by omega)] at hvis
      refine S_add J J J J (by omega) ?_;refine Va J J ?_;exact S_again ⟨j + 1, rooms', todo', A', c'⟩ ⟨hjl, hri', htd', htt, hvis⟩ (by simp only; omega) rfl ⟨⟨_, rfl, by simp [denO]⟩, ⟨_, rfl, rfl⟩, ⟨_, rfl, rfl⟩, ⟨_, rfl, rfl⟩, ⟨_, rfl, rfl⟩, ⟨_, rfl, rfl⟩, ⟨_, rfl, rfl⟩, trivial⟩ (.hp (.hp .nil))
     ·rw [if_neg (by omega)] at hvis
      rw [hvis] at hfuel
      exact S_retp (Res.t1 Tryz.results21 J J) (hext.trans hext3) (by rw [hfuel])
   ·obtain rfl : j = next.length := by omega
    rw [List.drop_length, visitI] at hvis
    rw [hvis] at hfuel
    have hf2 : c.length + 1 - (k + 1) = f := by omega
    rw [← hf2] at hfuel
    exact S_again ⟨k + 1, rooms', todo', A', c', G4⟩ ⟨hri', htd', by simp only; omega, hfuel, hext.trans hext3⟩ (by simp only; omega) rfl ⟨⟨_, rfl, rfl⟩, ⟨_, rfl, rfl⟩, ⟨_, rfl, rfl⟩, trivial⟩ (.hp (.hp .nil))
  ·refine RT J (by simp [hok]) ?_
   refine Va J J ?_
   rw [if_neg hok] at hfuel
   exact S_retp (Res.t1 Tryz.results21 J J) hext (by rw [hfuel])
 ·rw [roomsF_none (by omega)] at hfuel
  exact S_retp (Res.t1 Tryz.results21 J J) hext (by rw [hfuel])
end
section
attribute [local irreducible] X Pure Mod
def iInsB (op a b n many la lb : Int) (at_ : Bool) : Bool :=
 if fitsB a la = false then false else if fitsB b lb = false then false
 else if at_ = true then decide (0 ≤ n) && decide (n < many)
 else if op = 1 then numOk n else if op = 2 then opOk n else decide (n = 0)
theorem iInsB_eq (k : Nat) (h1 : 1 ≤ k) (h2 : k ≤ 13) (a b n many : Int) : iInsB (k : Nat) a b n many (limA k) (limB k) (decide (k = 6) || decide (k = 7)) = insOk ⟨(k : Nat), a, b, n⟩ many := by
 have : k = 1 ∨ k = 2 ∨ k = 3 ∨ k = 4 ∨ k = 5 ∨ k = 6 ∨ k = 7 ∨ k = 8 ∨ k = 9 ∨ k = 10 ∨ k = 11 ∨ k = 12 ∨ k = 13 := by omega
 rcases this with rfl | rfl | rfl | rfl | rfl | rfl | rfl | rfl | rfl | rfl | rfl | rfl | rfl <;> simp [iInsB, insOk, leafOk, fitsB, opOk, numOk, limA, limB] <;> rw [Bool.eq_iff_iff] <;> simp <;> (first | omega | grind)
theorem insOk_none {op : Int} (h : ¬ (1 ≤ op ∧ op ≤ 13)) (a b n many : Int) : insOk ⟨op, a, b, n⟩ many = false := by
 cases hh : insOk ⟨op, a, b, n⟩ many with
 | false => rfl
 | true => exact absurd (insOk_op hh) h
theorem zinsForm : ∀ w, (zeroValue 58).run Tryz.prog w = .ok (.agg #[.string ByteArray.empty, .int .i64 0, .int .i64 0, .bool false, .bool false]) w := by
 intro w
 have h : (Tryz.prog.info? 58).bind (·.zero) = some (.agg #[.string ByteArray.empty, .int .i64 0, .int .i64 0, .bool false, .bool false]) := by kernel_rfl
 cases hi : Tryz.prog.info? 58 with
 | none => rw [hi] at h; cases h
 | some i =>
  rw [hi] at h
  simp only [Option.bind_some] at h
  simp [zeroValue, typeInfo, hi, h]
theorem c_iInsOk (i : Ins) (many : Int) (G : PH) : Pure Tryz.prog 20 [.agg (insC i).toArray, .int .i64 many] G fun v G' => v = .bool (insOk i many) := by
 obtain ⟨op, a, xb, n⟩ := i
 rw [show (insC ⟨op, a, xb, n⟩).toArray = #[.int .i64 op, .int .i64 a,   .int .i64 xb, .int .i64 n] from rfl]
 refine Pure.intro Tryz.func20 Tryz.ntmps20 J J fun w => ?_; refine Va J J ?_;refine S_box J J J J J fun b3 => ?_;refine Va J J ?_;refine Ds J J J ?_;refine Da J J ?_;refine D_or 0 7 J J (N_call 0 Tryz.call33 (c_insForms _) J J J J J J J J J J ?_) (N_new 7 J J J J J J J J J J J (AZ ZT_ok J J J J) fun b => ?_)
 ·rintro v G1 ⟨bm, es, rfl, hbm, hes⟩ hext
  have hkeys := formE_keys
  rw [← hes] at hkeys
  by_cases hr : 1 ≤ op ∧ op ≤ 13
  ·obtain ⟨k, rfl⟩ := Int.eq_ofNat_of_zero_le (show 0 ≤ op by omega)
   have hf := formE_find k (by omega) (by omega)
   have heq := iInsB_eq k (by omega) (by omega) a xb n many
   rw [← hes] at hf
   refine D_val 3 J J J J J J J J J (V_lookupS u_insForms u_int hbm hkeys hf J J) ?_
   clear hf hkeys hes hbm
   unfold fmI
   generalize limA k = la at *
   generalize limB k = lb at *
   generalize hasN (k : Nat) = hn at *
   generalize (decide (k = 6) || decide (k = 7)) = at_ at *
   generalize insOk ⟨(k : Nat), a, xb, n⟩ many = res at *
   refine Da J J ?_;refine D_sole 7 J J (N_new 7 J J J J J J J J J J J (AZ ZT_ok J J J J) fun b => ?_)
   refine Da J J ?_;refine Ns 8 J J J J J J J J J ?_;refine Da J J ?_;refine DD ?_;refine Va J J ?_
   repeat' (first
    | (refine S_condp J (fun h => ?_) (fun h => ?_) <;> refine Va J J ?_) | (refine S_cond J (fun h => ?_) (fun h => ?_) <;> refine Va J J ?_) | (refine S_box J J J J J fun b => ?_; refine Va J J ?_) | (refine AZ ZT_ok J J J J fun b => ?_; refine Va J J ?_) | (refine S_guardp J J (fun h => ?_) (fun h => ?_) <;> refine Va J J ?_) | (refine S_guard J J (fun h => ?_) (fun h => ?_) <;> refine Va J J ?_)
    | (refine S_call Tryz.call38 (c_fits _ _ _) J J J ?_; rintro v G' ⟨rfl, rfl⟩ _; refine Va J J ?_)
    | (refine S_call Tryz.call39 (c_iNumOk _ _) J J J ?_; rintro v G' ⟨rfl, rfl⟩ _; refine Va J J ?_)
    | (refine S_call Tryz.call40 (c_isOp _ _) J J J ?_; rintro v G' ⟨rfl, rfl⟩ _; refine Va J J ?_)
    | refine S_retP Tryz.results20 J J hext ?_)
   all_goals (try clear hcell hq1 hq2)
   all_goals (refine congrArg Value.bool ?_)
   all_goals (rw [← heq]; unfold iInsB)
   all_goals (clear hext heq; cases at_ <;> simp_all <;> omega)
  ·have hf := formE_none op hr
   rw [← hes] at hf
   refine D_val 3 J J J J J J J J J (V_lookupN ZT_ok (z := ⟨40, [.string ByteArray.empty, .int .i64 0, .int .i64 0, .bool false, .bool false], []⟩) u_insForms u_int hbm hkeys hf J J zinsForm) ?_;refine Da J J ?_;refine D_sole 7 J J (N_new 7 J J J J J J J J J J J (AZ ZT_ok J J J J) fun b => ?_)
   refine Da J J ?_;refine Ns 8 J J J J J J J J J ?_;refine Da J J ?_;refine DD ?_;refine Va J J ?_;refine GT J J J ?_;refine Va J J ?_;refine S_retP Tryz.results20 J J hext ?_
   rw [insOk_none hr]
 ·refine Da J J ?_
  refine D_sole 0 J J (N_call 0 Tryz.call33 (c_insForms _) J J J J J J J J J J ?_)
  rintro v G1 ⟨bm, es, rfl, hbm, hes⟩ hext
  have hkeys := formE_keys
  rw [← hes] at hkeys
  by_cases hr : 1 ≤ op ∧ op ≤ 13
  ·obtain ⟨k, rfl⟩ := Int.eq_ofNat_of_zero_le (show 0 ≤ op by omega)
   have hf := formE_find k (by omega) (by omega)
   have heq := iInsB_eq k (by omega) (by omega) a xb n many
   rw [← hes] at hf
   refine D_val 3 J J J J J J J J J (V_lookupS u_insForms u_int hbm hkeys hf J J) ?_
   clear hf hkeys hes hbm
   unfold fmI
   generalize limA k = la at *
   generalize limB k = lb at *
   generalize hasN (k : Nat) = hn at *
   generalize (decide (k = 6) || decide (k = 7)) = at_ at *
   generalize insOk ⟨(k : Nat), a, xb, n⟩ many = res at *
   refine Da J J ?_;refine Ns 8 J J J J J J J J J ?_;refine Da J J ?_;refine DD ?_;refine Va J J ?_
   repeat' (first
    | (refine S_condp J (fun h => ?_) (fun h => ?_) <;> refine Va J J ?_) | (refine S_cond J (fun h => ?_) (fun h => ?_) <;> refine Va J J ?_) | (refine S_box J J J J J fun b => ?_; refine Va J J ?_) | (refine AZ ZT_ok J J J J fun b => ?_; refine Va J J ?_) | (refine S_guardp J J (fun h => ?_) (fun h => ?_) <;> refine Va J J ?_) | (refine S_guard J J (fun h => ?_) (fun h => ?_) <;> refine Va J J ?_)
    | (refine S_call Tryz.call38 (c_fits _ _ _) J J J ?_; rintro v G' ⟨rfl, rfl⟩ _; refine Va J J ?_)
    | (refine S_call Tryz.call39 (c_iNumOk _ _) J J J ?_; rintro v G' ⟨rfl, rfl⟩ _; refine Va J J ?_)
    | (refine S_call Tryz.call40 (c_isOp _ _) J J J ?_; rintro v G' ⟨rfl, rfl⟩ _; refine Va J J ?_)
    | refine S_retP Tryz.results20 J J hext ?_)
   all_goals (try clear hcell hq1 hq2)
   all_goals (refine congrArg Value.bool ?_)
   all_goals (rw [← heq]; unfold iInsB)
   all_goals (clear hext heq; cases at_ <;> simp_all <;> omega)
  ·have hf := formE_none op hr
   rw [← hes] at hf
   refine D_val 3 J J J J J J J J J (V_lookupN ZT_ok (z := ⟨40, [.string ByteArray.empty, .int .i64 0, .int .i64 0, .bool false, .bool false], []⟩) u_insForms u_int hbm hkeys hf J J zinsForm) ?_;refine Da J J ?_;refine Ns 8 J J J J J J J J J ?_;refine Da J J ?_;refine DD ?_;refine Va J J ?_;refine GT J J J ?_;refine Va J J ?_;refine S_retP Tryz.results20 J J hext ?_
   rw [insOk_none hr]
end
section
attribute [local irreducible] X Pure Mod
theorem c_iCodeOk (c : List Ins) (v : Value) (G : PH) (hv : InsG G c v) (hl : c.length ≤ 2000000) : Pure Tryz.prog 8 [v] G fun v' G' => v' = .bool (codeOk c) := by
 obtain ⟨Ac, cc, rfl, _⟩ := id hv
 refine Pure.intro Tryz.func8 Tryz.ntmps8 J J fun w => ?_; refine Va J J ?_
 by_cases hr : 1 ≤ c.length ∧ c.length ≤ 60
 ·refine RF J (by simp; omega) ?_
  refine Va J J ?_;refine S_loop (α := Nat × PH) (fun y => y.1 ≤ c.length ∧ (∀ j i, j < y.1 → c[j]? = some i → insOk i c.length = true ∧ (i.op = 13 ↔ j = c.length - 1)) ∧ PH.ext w.heap.size G y.2) (fun y => c.length - y.1) []
   (fun y => [(15, .val (.int .i64 (y.1 : Nat))), (14, .val (.int .i64 (c.length : Nat))), (13, .val (.slice Ac c.length cc)), (0, .val (.slice Ac c.length cc))]) (fun _ => []) (fun y => y.2) (0, G) ⟨Nat.zero_le _, fun j i h => by simp only at h; omega, PH.ext.refl _ _⟩ rfl ⟨⟨_, rfl, rfl⟩, ⟨_, rfl, rfl⟩, ⟨_, rfl, rfl⟩, ⟨_, rfl, rfl⟩, trivial⟩ .nil ?_
  rintro ⟨k, G1⟩ ⟨hk, hall, hext⟩
  simp only at hk hall hext ⊢
  refine Va J J ?_
  refine S_condp J (fun h5 => ?_) (fun h5 => ?_) <;> refine Va J J ?_
  ·have hkl : k < c.length := by omega
   have hck : c[k]? = some c[k] := List.getElem?_eq_getElem hkl
   obtain ⟨adl, rfl, hcell, _⟩ := InsG_at (InsG_le hext.le hv) hkl
   have hq := fun H => c_iInsOk c[k] (c.length : Nat) H
   generalize hke : c[k] = i at *
   refine S_index Tk J J J J J J (by omega) (by omega) ?_;refine Va J J ?_;refine S_loadA Tk J J J J J (by simpa using hcell) ?_
   rw [insV_eq]
   refine Va J J ?_;refine AZ ZT_ok J J J J fun b4 => ?_;refine Va J J ?_;refine S_call Tryz.call20 (hq G1) J J J ?_;rintro v1 G2 rfl hext2
   refine Va J J ?_
   by_cases hio : insOk i c.length = true
   ·refine GF J J (by simp [hio]) ?_
    refine Va J J ?_;refine S_subI J J J J (by omega) ?_;refine Va J J ?_;refine S_valV J J J (V_neqB (by kernel_rfl) (by kernel_rfl) J J) ?_;refine Va J J ?_
    by_cases hiff : (i.op = 13 ↔ k = c.length - 1)
    ·refine RF J (by
      simp only [Bool.not_eq_false', decide_eq_true_eq, decide_eq_decide]
      rw [hiff]
      omega) ?_
     refine Va J J ?_;refine S_add J J J J (by omega) ?_;refine Va J J ?_;refine S_again (k + 1, G2) ⟨hkl, fun j i' hj hc => ?_, hext.trans hext2⟩ (by simp only; omega) rfl ⟨⟨_, rfl, by simp [denO]⟩, ⟨_, rfl, rfl⟩, ⟨_, rfl, rfl⟩, ⟨_, rfl, rfl⟩, trivial⟩ (.drop .nil)
     rcases Nat.lt_or_ge j k with h | h
     ·exact hall j i' h hc
     ·obtain rfl : j = k := by simp only at hj; omega
      rw [hck] at hc; cases hc
      exact ⟨hio, hiff⟩
    ·refine RT J (by
      simp only [Bool.not_eq_true', decide_eq_false_iff_not, decide_eq_decide]
      intro h
      apply hiff
      rw [h]
      omega) ?_
     refine Va J J ?_;exact S_retp (Res.t1 Tryz.results8 J J) (hext.trans hext2) (by rw [walk_no fun h => hiff (h k i hck).2])
   ·refine GT J J (by simp [hio]) ?_
    refine Va J J ?_;exact S_retp (Res.t1 Tryz.results8 J J) (hext.trans hext2) (by rw [walk_no fun h => hio (h k i hck).1])
  ·obtain rfl : k = c.length := by omega
   have hw : walkOk c := fun k i hki => hall k i (List.getElem?_eq_some_iff.1 hki).1 hki
   refine S_call Tryz.call21 (c_roomsOk c _ G1 (InsG_le hext.le hv) hw hr.1 hr.2) J J J ?_;rintro v1 G2 rfl hext2
   refine Va J J ?_;exact S_retp (Res.t1 Tryz.results8 J J) (hext.trans hext2) (by rw [codeOk_of hr.1 hr.2 hw])
 ·have hno : codeOk c = false := by
   cases hc : codeOk c with
   | false => rfl
   | true => exact absurd ⟨(codeOk_not hc).1, (codeOk_not hc).2.1⟩ hr
  refine RT J (by simp; omega) ?_;refine Va J J ?_;exact S_retp (Res.t1 Tryz.results8 J J) XR (by rw [hno])
end
section
open Go.Lib (itoa decDigits join)
attribute [local irreducible] X Pure Mod
def flI (i : Ins) : List (Bool × Int) := [(hasA i.op, i.a), (hasB i.op, i.b), (hasN i.op, i.n)]
def wrI (l : List (Bool × Int)) : List (List UInt8) := (l.filter (·.1)).map fun x => itoa x.2
theorem wrI_all (i : Ins) : wrI (flI i) = (numsI i).map itoa := by
 unfold wrI flI numsI
 cases hasA i.op <;> cases hasB i.op <;> cases hasN i.op <;> simp
theorem wrI_snoc (l : List (Bool × Int)) (x : Bool × Int) : wrI (l ++ [x]) = wrI l ++ if x.1 then [itoa x.2] else [] := by
 unfold wrI
 rw [List.filter_append, List.map_append]
 cases h : x.1 <;> simp [h]
theorem wrI_len (l : List (Bool × Int)) : (wrI l).length ≤ l.length := by
 unfold wrI
 rw [List.length_map]
 exact List.length_filter_le ..
theorem join_words (w : List UInt8) (L : List (List UInt8)) : join (w :: L) [32] = w ++ L.flatMap fun l => 32 :: l := by
 rw [Lib.join_cons, Lib.joinTail, List.flatMap]
 rfl
theorem lim_has (k : Nat) (h1 : 1 ≤ k) (h2 : k ≤ 13) : decide (0 < limA k) = hasA (k : Nat) ∧ decide (0 < limB k) = hasB (k : Nat) := by
 have : k = 1 ∨ k = 2 ∨ k = 3 ∨ k = 4 ∨ k = 5 ∨ k = 6 ∨ k = 7 ∨ k = 8 ∨ k = 9 ∨ k = 10 ∨ k = 11 ∨ k = 12 ∨ k = 13 := by omega
 rcases this with rfl | rfl | rfl | rfl | rfl | rfl | rfl | rfl | rfl | rfl | rfl | rfl | rfl <;> decide
structure LW where
 j : Nat
 A : Option Addr
 c : Nat
 G : PH
theorem c_line (i : Ins) (G : PH) (hop : 1 ≤ i.op ∧ i.op ≤ 13) (h4 : I4 i) (hT : TabG G) : Pure Tryz.prog 14 [.agg (insC i).toArray] G fun v' G' => v' = tx (lineI i) := by
 obtain ⟨op, a, xb, n⟩ := i
 obtain ⟨i0, i1, i2, i3⟩ := h4
 simp only at i0 i1 i2 i3 hop
 obtain ⟨k, rfl⟩ := Int.eq_ofNat_of_zero_le (show 0 ≤ op by omega)
 rw [show (insC ⟨(k : Nat), a, xb, n⟩).toArray = #[.int .i64 (k : Nat), .int .i64 a, .int .i64 xb, .int .i64 n] from rfl]
 have hlim := lim_has k (by omega) (by omega)
 refine Pure.intro Tryz.func14 Tryz.ntmps14 J J fun w => ?_; refine Va J J ?_;refine S_box J J J J J fun b1 => ?_;refine Va J J ?_;refine Ds J J J ?_;refine Da J J ?_;refine D_or 0 4 J J (N_call 0 Tryz.call33 (c_insForms _) J J J J J J J J J J ?_) (N_new 4 J J J J J J J J J J J (AZ ZT_ok J J J J) fun b => ?_)
 ·rintro v G1 ⟨bm, es, rfl, hbm, hes⟩ hext
  have hkeys := formE_keys
  rw [← hes] at hkeys
  have hf := formE_find k (by omega) (by omega)
  rw [← hes] at hf
  refine D_val 3 J J J J J J J J J (V_lookF u_insForms u_int hbm hkeys hf J J) ?_
  clear hf hkeys hes hbm
  unfold fmI
  refine Da J J ?_;refine D_sole 4 J J (N_new 4 J J J J J J J J J J J (AZ ZT_ok J J J J) fun b => ?_)
  refine Da J J ?_;refine Ns 5 J J J J J J J J J ?_;refine Da J J ?_;refine DD ?_;refine Va J J ?_;refine S_sliceB Tk ZT_ok J J J J (by decide) (by decide) J J J J fun b13 hb13 => ?_;refine Va J J ?_;refine S_blkO 13 4 (base := w.heap.size) (n := 1) (c := 1) (o := 0) (sz := 1) J J J J (.inl hb13) J J (Nat.le_refl _) (by simp [maxLen]) (Nat.le_refl _) ?_;refine S_reE 4 (.val (.slice (some ⟨b13, 0, none⟩) 1 1)) J J ?_
  refine Va J J ?_;refine S_sliceG Tk ZT_ok J J J J (by decide) (by decide) J J J J (fun _ => J) fun bq Gq hxq hcq => ?_
  rw [hlim.1, hlim.2] at hcq
  refine Va J J ?_;refine S_loop (α := LW) (fun y => y.j ≤ 3 ∧ PH.ext w.heap.size Gq y.G) (fun y => 3 - y.j) [(1, b1)]
   (fun y => [(24, .val (.int .i64 (y.j : Nat))), (23, .val (.int .i64 3)), (22, .val (.slice (some ⟨bq, 0, none⟩) 3 3)), (4, .val (.slice y.A (1 + (wrI ((flI ⟨(k : Nat), a, xb, n⟩).take y.j)).length) y.c)), (1, .ptr 1 0)])
   (fun y => [.hp 4 (rowO w.heap.size 9 1 y.A (1 + (wrI ((flI ⟨(k : Nat), a, xb, n⟩).take y.j)).length) y.c ((wordN k :: wrI ((flI ⟨(k : Nat), a, xb, n⟩).take y.j)).map tx)), .blk 1 33 (vL [.int .i64 (k : Nat), .int .i64 a, .int .i64 xb, .int .i64 n])]) (fun y => y.G) ⟨0, some ⟨b13, 0, none⟩, 1, Gq⟩ ⟨by simp only; omega, PH.ext.refl _ _⟩ rfl ⟨⟨_, rfl, rfl⟩, ⟨_, rfl, rfl⟩, ⟨_, rfl, rfl⟩, ⟨_, rfl, rfl⟩, ⟨_, rfl, rfl⟩, trivial⟩ (by first | exact .hp (.drop (.blk rfl rfl .nil)) | exact .hp (.blk rfl rfl .nil)) ?_
  rintro ⟨j, A, cc, G3⟩ ⟨hj, hext3⟩
  simp only at hj hext3 ⊢
  refine Va J J ?_
  have hwl := wrI_len ((flI ⟨(k : Nat), a, xb, n⟩).take j)
  have hfl : (flI ⟨(k : Nat), a, xb, n⟩).length = 3 := rfl
  rw [List.length_take] at hwl
  refine S_condp J (fun h5 => ?_) (fun h5 => ?_) <;> refine Va J J ?_
  ·have hjl : j < (flI ⟨(k : Nat), a, xb, n⟩).length := by omega
   have htk : (flI ⟨(k : Nat), a, xb, n⟩).take (j + 1) = (flI ⟨(k : Nat), a, xb, n⟩).take j ++ [(flI ⟨(k : Nat), a, xb, n⟩)[j]] := List.take_succ_eq_append_getElem hjl
   have hfj : (flI ⟨(k : Nat), a, xb, n⟩)[j]? = some (flI ⟨(k : Nat), a, xb, n⟩)[j] := List.getElem?_eq_getElem hjl
   have hbj : gcell G3 ((⟨bq, 0, none⟩ : Addr).add j) = some (.bool (flI ⟨(k : Nat), a, xb, n⟩)[j].1) := gcells_at (cs := (flI ⟨(k : Nat), a, xb, n⟩).map fun x => .bool x.1) (gcells_le hext3.le hcq) j _ (by rw [List.getElem?_map, hfj]; rfl)
   have hvj : (intC [a, xb, n])[j]? = some (.int .i64 (flI ⟨(k : Nat), a, xb, n⟩)[j].2) := by
    rw [intC_map, show [a, xb, n] = (flI ⟨(k : Nat), a, xb, n⟩).map (·.2) from rfl, List.map_map, List.getElem?_map, hfj]; rfl
   have h64 : I64 (flI ⟨(k : Nat), a, xb, n⟩)[j].2 := by
    have := List.getElem_mem hjl
    generalize (flI ⟨(k : Nat), a, xb, n⟩)[j] = x at this
    simp only [flI, List.mem_cons, List.not_mem_nil, or_false] at this
    rcases this with rfl | rfl | rfl
    ·exact i1
    ·exact i2
    ·exact i3
   generalize (flI ⟨(k : Nat), a, xb, n⟩)[j] = x at htk hbj hvj h64
   have hsn := wrI_snoc ((flI ⟨(k : Nat), a, xb, n⟩).take j) x
   rw [← htk] at hsn
   refine S_index Tk J J J J J J (by omega) (by omega) ?_;refine Va J J ?_;refine S_load Tk J J J J J (by simpa using hbj) ?_;refine Va J J ?_
   by_cases hx1 : x.1 = true
   ·refine RT J hx1 ?_
    refine Va J J ?_
    rw [if_pos hx1] at hsn
    refine S_sliceG Tk ZT_ok J J J J (by decide) (by decide) J J J J (fun _ => J) fun br Gr hxr hcr => ?_;refine Va J J ?_;refine S_index Tk J J J J J J (by omega) (by omega) ?_;refine Va J J ?_;refine S_load Tk J J J J J (by simpa using gcells_at (cs := intC [a, xb, n]) hcr j _ hvj) ?_;refine Va J J ?_;refine S_call Tryz.call34 (c_Itoa x.2 h64 Gr (TabG_le ((hext.trans hxq).trans (hext3.trans hxr)).le hT)) J J J ?_
    rintro v6 G6 ⟨rfl, rfl⟩ _
    refine Va J J ?_;refine S_slice Tk ZT_ok J J J J (by decide) (by decide) J J J J fun b42 => ?_;refine Va J J ?_;refine S_app1 Tk 4 42 J J J J J J J J J J J J J J (by intro u hu; simp at hu; rcases hu with rfl; rfl) rfl (fun _ _ => rfl) (by omega) (Nat.le_refl _) fun A6 c6 => ?_;refine Va J J ?_;refine S_add J J J J (by omega) ?_;refine Va J J ?_;refine S_again ⟨j + 1, A6, c6, _⟩ ⟨by simp only; omega, hext3.trans hxr⟩ (by simp only; omega) rfl ⟨⟨_, rfl, by simp [denO]⟩, ⟨_, rfl, rfl⟩, ⟨_, rfl, rfl⟩, ⟨_, rfl, by simp only [hsn, List.length_append, List.length_singleton, denO]; rfl⟩, ⟨_, rfl, rfl⟩, trivial⟩ ?_
    simp only [hsn, List.length_append, List.length_singleton, List.map_cons, List.map_append, List.map_nil]
    first | exact .drop (.hp (.blk J J .nil)) | exact .hp (.blk J J .nil)
   ·refine RF J (by simpa using hx1) ?_
    refine Va J J ?_
    rw [if_neg hx1, List.append_nil] at hsn
    refine S_add J J J J (by omega) ?_;refine Va J J ?_;refine S_again ⟨j + 1, A, cc, G3⟩ ⟨by simp only; omega, hext3⟩ (by simp only; omega) rfl ⟨⟨_, rfl, by simp [denO]⟩, ⟨_, rfl, rfl⟩, ⟨_, rfl, rfl⟩, ⟨_, rfl, by simp only [hsn]⟩, ⟨_, rfl, rfl⟩, trivial⟩ ?_
    simp only [hsn]
    exact .hp (.blk J J .nil)
  ·obtain rfl : j = 3 := by omega
   have hall : wordN k :: wrI ((flI ⟨(k : Nat), a, xb, n⟩).take 3) = wordN k :: (numsI ⟨(k : Nat), a, xb, n⟩).map itoa := by
    rw [List.take_of_length_le (by omega), wrI_all]
   have hjn : join (wordN k :: wrI ((flI ⟨(k : Nat), a, xb, n⟩).take 3)) [32] = lineI ⟨(k : Nat), a, xb, n⟩ := by
    rw [hall, join_words, List.flatMap_map]
    rfl
   have hlen := line_len (i := ⟨(k : Nat), a, xb, n⟩) ⟨⟨by simp only; omega, by simp only; omega⟩, i1, i2, i3⟩
   refine S_freezeN 4 J J (Nat.le_refl _) fun Gf hextf hncf hcmf hclf => ?_;refine S_call Tryz.call35 (vs := [.slice A (wordN k :: wrI ((flI ⟨(k : Nat), a, xb, n⟩).take 3)).length cc, tx [32]]) (c_Join (wordN k :: wrI ((flI ⟨(k : Nat), a, xb, n⟩).take 3)) [32] A cc Gf (hclf.imp (fun h => by omega) id) (by simp only [List.length_cons]; omega) (by simp only [List.length_cons]; omega) (by rw [hjn]; omega)) rfl rfl (by simp only [List.length_cons, Nat.add_comm 1]; rfl) ?_
   rintro v7 G7 ⟨rfl, rfl⟩ _
   refine Va J J ?_;exact S_retp (Res.t1 Tryz.results14 J J) (((hext.trans hxq).trans hext3).trans hextf) (by rw [hjn])
 ·refine Da J J ?_
  refine D_sole 0 J J (N_call 0 Tryz.call33 (c_insForms _) J J J J J J J J J J ?_)
  rintro v G1 ⟨bm, es, rfl, hbm, hes⟩ hext
  have hkeys := formE_keys
  rw [← hes] at hkeys
  have hf := formE_find k (by omega) (by omega)
  rw [← hes] at hf
  refine D_val 3 J J J J J J J J J (V_lookF u_insForms u_int hbm hkeys hf J J) ?_
  clear hf hkeys hes hbm
  unfold fmI
  refine Da J J ?_;refine Ns 5 J J J J J J J J J ?_;refine Da J J ?_;refine DD ?_;refine Va J J ?_;refine S_sliceB Tk ZT_ok J J J J (by decide) (by decide) J J J J fun b13 hb13 => ?_;refine Va J J ?_;refine S_blkO 13 4 (base := w.heap.size) (n := 1) (c := 1) (o := 0) (sz := 1) J J J J (.inl hb13) J J (Nat.le_refl _) (by simp [maxLen]) (Nat.le_refl _) ?_;refine S_reE 4 (.val (.slice (some ⟨b13, 0, none⟩) 1 1)) J J ?_
  refine Va J J ?_;refine S_sliceG Tk ZT_ok J J J J (by decide) (by decide) J J J J (fun _ => J) fun bq Gq hxq hcq => ?_
  rw [hlim.1, hlim.2] at hcq
  refine Va J J ?_;refine S_loop (α := LW) (fun y => y.j ≤ 3 ∧ PH.ext w.heap.size Gq y.G) (fun y => 3 - y.j) [(1, b1)]
   (fun y => [(24, .val (.int .i64 (y.j : Nat))), (23, .val (.int .i64 3)), (22, .val (.slice (some ⟨bq, 0, none⟩) 3 3)), (4, .val (.slice y.A (1 + (wrI ((flI ⟨(k : Nat), a, xb, n⟩).take y.j)).length) y.c)), (1, .ptr 1 0)])
   (fun y => [.hp 4 (rowO w.heap.size 9 1 y.A (1 + (wrI ((flI ⟨(k : Nat), a, xb, n⟩).take y.j)).length) y.c ((wordN k :: wrI ((flI ⟨(k : Nat), a, xb, n⟩).take y.j)).map tx)), .blk 1 33 (vL [.int .i64 (k : Nat), .int .i64 a, .int .i64 xb, .int .i64 n])]) (fun y => y.G) ⟨0, some ⟨b13, 0, none⟩, 1, Gq⟩ ⟨by simp only; omega, PH.ext.refl _ _⟩ rfl ⟨⟨_, rfl, rfl⟩, ⟨_, rfl, rfl⟩, ⟨_, rfl, rfl⟩, ⟨_, rfl, rfl⟩, ⟨_, rfl, rfl⟩, trivial⟩ (by first | exact .hp (.drop (.blk rfl rfl .nil)) | exact .hp (.blk rfl rfl .nil)) ?_
  rintro ⟨j, A, cc, G3⟩ ⟨hj, hext3⟩
  simp only at hj hext3 ⊢
  refine Va J J ?_
  have hwl := wrI_len ((flI ⟨(k : Nat), a, xb, n⟩).take j)
  have hfl : (flI ⟨(k : Nat), a, xb, n⟩).length = 3 := rfl
  rw [List.length_take] at hwl
  refine S_condp J (fun h5 => ?_) (fun h5 => ?_) <;> refine Va J J ?_
  ·have hjl : j < (flI ⟨(k : Nat), a, xb, n⟩).length := by omega
   have htk : (flI ⟨(k : Nat), a, xb, n⟩).take (j + 1) = (flI ⟨(k : Nat), a, xb, n⟩).take j ++ [(flI ⟨(k : Nat), a, xb, n⟩)[j]] := List.take_succ_eq_append_getElem hjl
   have hfj : (flI ⟨(k : Nat), a, xb, n⟩)[j]? = some (flI ⟨(k : Nat), a, xb, n⟩)[j] := List.getElem?_eq_getElem hjl
   have hbj : gcell G3 ((⟨bq, 0, none⟩ : Addr).add j) = some (.bool (flI ⟨(k : Nat), a, xb, n⟩)[j].1) := gcells_at (cs := (flI ⟨(k : Nat), a, xb, n⟩).map fun x => .bool x.1) (gcells_le hext3.le hcq) j _ (by rw [List.getElem?_map, hfj]; rfl)
   have hvj : (intC [a, xb, n])[j]? = some (.int .i64 (flI ⟨(k : Nat), a, xb, n⟩)[j].2) := by
    rw [intC_map, show [a, xb, n] = (flI ⟨(k : Nat), a, xb, n⟩).map (·.2) from rfl, List.map_map, List.getElem?_map, hfj]; rfl
   have h64 : I64 (flI ⟨(k : Nat), a, xb, n⟩)[j].2 := by
    have := List.getElem_mem hjl
    generalize (flI ⟨(k : Nat), a, xb, n⟩)[j] = x at this
    simp only [flI, List.mem_cons, List.not_mem_nil, or_false] at this
    rcases this with rfl | rfl | rfl
    ·exact i1
    ·exact i2
    ·exact i3
   generalize (flI ⟨(k : Nat), a, xb, n⟩)[j] = x at htk hbj hvj h64
   have hsn := wrI_snoc ((flI ⟨(k : Nat), a, xb, n⟩).take j) x
   rw [← htk] at hsn
   refine S_index Tk J J J J J J (by omega) (by omega) ?_;refine Va J J ?_;refine S_load Tk J J J J J (by simpa using hbj) ?_;refine Va J J ?_
   by_cases hx1 : x.1 = true
   ·refine RT J hx1 ?_
    refine Va J J ?_
    rw [if_pos hx1] at hsn
    refine S_sliceG Tk ZT_ok J J J J (by decide) (by decide) J J J J (fun _ => J) fun br Gr hxr hcr => ?_;refine Va J J ?_;refine S_index Tk J J J J J J (by omega) (by omega) ?_;refine Va J J ?_;refine S_load Tk J J J J J (by simpa using gcells_at (cs := intC [a, xb, n]) hcr j _ hvj) ?_;refine Va J J ?_;refine S_call Tryz.call34 (c_Itoa x.2 h64 Gr (TabG_le ((hext.trans hxq).trans (hext3.trans hxr)).le hT)) J J J ?_
    rintro v6 G6 ⟨rfl, rfl⟩ _
    refine Va J J ?_;refine S_slice Tk ZT_ok J J J J (by decide) (by decide) J J J J fun b42 => ?_;refine Va J J ?_;refine S_app1 Tk 4 42 J J J J J J J J J J J J J J (by intro u hu; simp at hu; rcases hu with rfl; rfl) rfl (fun _ _ => rfl) (by omega) (Nat.le_refl _) fun A6 c6 => ?_;refine Va J J ?_;refine S_add J J J J (by omega) ?_;refine Va J J ?_;refine S_again ⟨j + 1, A6, c6, _⟩ ⟨by simp only; omega, hext3.trans hxr⟩ (by simp only; omega) rfl ⟨⟨_, rfl, by simp [denO]⟩, ⟨_, rfl, rfl⟩, ⟨_, rfl, rfl⟩, ⟨_, rfl, by simp only [hsn, List.length_append, List.length_singleton, denO]; rfl⟩, ⟨_, rfl, rfl⟩, trivial⟩ ?_
    simp only [hsn, List.length_append, List.length_singleton, List.map_cons, List.map_append, List.map_nil]
    first | exact .drop (.hp (.blk J J .nil)) | exact .hp (.blk J J .nil)
   ·refine RF J (by simpa using hx1) ?_
    refine Va J J ?_
    rw [if_neg hx1, List.append_nil] at hsn
    refine S_add J J J J (by omega) ?_;refine Va J J ?_;refine S_again ⟨j + 1, A, cc, G3⟩ ⟨by simp only; omega, hext3⟩ (by simp only; omega) rfl ⟨⟨_, rfl, by simp [denO]⟩, ⟨_, rfl, rfl⟩, ⟨_, rfl, rfl⟩, ⟨_, rfl, by simp only [hsn]⟩, ⟨_, rfl, rfl⟩, trivial⟩ ?_
    simp only [hsn]
    exact .hp (.blk J J .nil)
  ·obtain rfl : j = 3 := by omega
   have hall : wordN k :: wrI ((flI ⟨(k : Nat), a, xb, n⟩).take 3) = wordN k :: (numsI ⟨(k : Nat), a, xb, n⟩).map itoa := by
    rw [List.take_of_length_le (by omega), wrI_all]
   have hjn : join (wordN k :: wrI ((flI ⟨(k : Nat), a, xb, n⟩).take 3)) [32] = lineI ⟨(k : Nat), a, xb, n⟩ := by
    rw [hall, join_words, List.flatMap_map]
    rfl
   have hlen := line_len (i := ⟨(k : Nat), a, xb, n⟩) ⟨⟨by simp only; omega, by simp only; omega⟩, i1, i2, i3⟩
   refine S_freezeN 4 J J (Nat.le_refl _) fun Gf hextf hncf hcmf hclf => ?_;refine S_call Tryz.call35 (vs := [.slice A (wordN k :: wrI ((flI ⟨(k : Nat), a, xb, n⟩).take 3)).length cc, tx [32]]) (c_Join (wordN k :: wrI ((flI ⟨(k : Nat), a, xb, n⟩).take 3)) [32] A cc Gf (hclf.imp (fun h => by omega) id) (by simp only [List.length_cons]; omega) (by simp only [List.length_cons]; omega) (by rw [hjn]; omega)) rfl rfl (by simp only [List.length_cons, Nat.add_comm 1]; rfl) ?_
   rintro v7 G7 ⟨rfl, rfl⟩ _
   refine Va J J ?_;exact S_retp (Res.t1 Tryz.results14 J J) (((hext.trans hxq).trans hext3).trans hextf) (by rw [hjn])
end
section
attribute [local irreducible] X Pure Mod
theorem c_iCodeText (c : List Ins) (v : Value) (G : PH) (hv : InsG G c v) (hl : c.length ≤ 2000000) (hT : TabG G) : Pure Tryz.prog 5 [v] G fun v' G' => v' = tx (if codeOk c then textI c else []) := by
 obtain ⟨Ac, cc, rfl, _⟩ := id hv
 have h4 := InsG_all hv
 refine Pure.intro Tryz.func5 Tryz.ntmps5 J J fun w => ?_; refine Va J J ?_;refine S_call Tryz.call8 (c_iCodeOk c _ G hv hl) J J J ?_;rintro v1 G1 rfl hext1
 refine Va J J ?_
 by_cases hok : codeOk c = true
 ·refine RF J (by simp [hok]) ?_
  refine Va J J ?_
  rw [if_pos hok]
  obtain ⟨hc1, hc60, hins⟩ := codeOk_ins hok
  have tlen : ∀ k, (textI (c.take k)).length ≤ 81 * 60 := fun k => by
   have := text_len (c := c.take k) fun i hi => h4 i (List.mem_of_mem_take hi)
   rw [List.length_take] at this
   omega
  refine S_loop (α := TX) (fun y => y.k ≤ c.length ∧ PH.ext w.heap.size G y.G) (fun y => c.length - y.k) []
   (fun y => [(11, .val (.int .i64 (y.k : Nat))), (10, .val (.int .i64 (c.length : Nat))), (9, .val (.slice Ac c.length cc)), (3, .val (tx (textI (c.take y.k))))]) (fun _ => []) (fun y => y.G) ⟨0, G1⟩ ⟨Nat.zero_le _, hext1⟩ rfl ⟨⟨_, rfl, rfl⟩, ⟨_, rfl, rfl⟩, ⟨_, rfl, rfl⟩, ⟨_, rfl, rfl⟩, trivial⟩ .nil ?_
  rintro ⟨k, G2⟩ ⟨hk, hext2⟩
  simp only at hk hext2 ⊢
  refine Va J J ?_
  refine S_condp J (fun h5 => ?_) (fun h5 => ?_) <;> refine Va J J ?_
  ·have hkl : k < c.length := by omega
   obtain ⟨ad, rfl, hcell, hi4⟩ := InsG_at (InsG_le hext2.le hv) hkl
   have hio := hins _ (List.getElem_mem hkl)
   have htk : c.take (k + 1) = c.take k ++ [c[k]] := List.take_succ_eq_append_getElem hkl
   have htl := tlen k
   have hq := fun H hT => c_line c[k] H (insOk_op hio) hi4 hT
   generalize c[k] = i at *
   have hline := line_len hi4
   refine S_index Tk J J J J J J (by omega) (by omega) ?_;refine Va J J ?_;refine S_loadA Tk J J J J J (by simpa using hcell) ?_
   rw [insV_eq]
   refine Va J J ?_;refine AZ ZT_ok J J J J fun b5 => ?_;refine Va J J ?_;refine S_call Tryz.call14 (hq G2 (TabG_le hext2.le hT)) J J J ?_;rintro v3 G3 rfl hext3
   refine Va J J ?_;refine S_valV J J J (V_addT (q := [10]) J J J J (by simp only [List.length_singleton]; omega)) ?_;refine Va J J ?_;refine S_valV J J J (V_addT J J J J (by simp only [List.length_append, List.length_singleton]; omega)) ?_;refine Va J J ?_;refine S_add J J J J (by omega) ?_;refine Va J J ?_
   have hstep : textI (c.take (k + 1)) = textI (c.take k) ++ (lineI i ++ [10]) := by rw [htk, textI, textI, List.flatMap_append]; simp
   exact S_again ⟨k + 1, G3⟩ ⟨hkl, hext2.trans hext3⟩ (by simp only; omega) rfl ⟨⟨_, rfl, by simp [denO]⟩, ⟨_, rfl, rfl⟩, ⟨_, rfl, rfl⟩, ⟨_, rfl, by simp only [hstep]; rfl⟩, trivial⟩ (.drop .nil)
  ·obtain rfl : k = c.length := by omega
   rw [List.take_length]
   exact S_retp (Res.t1 Tryz.results5 J J) hext2 J
 ·refine RT J (by simp [hok]) ?_
  refine Va J J ?_
  rw [if_neg hok]
  exact S_retp (Res.t1 Tryz.results5 J J) hext1 J
end
section
attribute [local irreducible] X Pure Mod
theorem valD_lt : ∀ (l : List UInt8), (∀ c ∈ l, digB c = true) → valD 0 l < 10 ^ l.length := by
 have key : ∀ (l : List UInt8) (a : Nat), (∀ c ∈ l, digB c = true) → valD a l < (a + 1) * 10 ^ l.length := by
  intro l
  induction l with
  | nil => intro a _; simp [valD]
  | cons c l ih =>
   intro a h
   have hc : 48 ≤ c.toNat ∧ c.toNat ≤ 57 := by simpa [digB] using h c (List.mem_cons_self ..)
   have := ih (a * 10 + (c.toNat - 48)) fun x hx => h x (List.mem_cons_of_mem _ hx)
   show valD (a * 10 + (c.toNat - 48)) l < _
   refine Nat.lt_of_lt_of_le this ?_
   rw [List.length_cons, Nat.pow_succ, Nat.mul_comm (10 ^ l.length) 10, ← Nat.mul_assoc]
   exact Nat.mul_le_mul_right _ (by omega)
 intro l h
 have := key l 0 h
 simpa using this
theorem valD_snoc (l : List UInt8) (c : UInt8) : valD 0 (l ++ [c]) = valD 0 l * 10 + (c.toNat - 48) := by rw [valD_append]; rfl
def rdT (neg : Bool) (t : List UInt8) : Int × Bool := if t.length = 0 ∨ 17 < t.length ∨ (t.head? = some 48 ∧ (1 < t.length ∨ neg = true)) then (0, false)
 else if t.all digB then (if neg then -(valD 0 t : Int) else (valD 0 t : Int), true) else (0, false)
theorem rdN_cons (c : UInt8) (r : List UInt8) : rdN (c :: r) = if c = 45 then rdT true r else rdT false (c :: r) := by
 unfold rdN
 by_cases h : c = 45
 ·subst h
  simp [rdT]
 ·have : ¬ (c :: r).head? = some 45 := by simpa using h
  simp [rdT, this, h]
theorem head_at {t : List UInt8} (h : 0 < t.length) : t.head? = some t[0] := by
 cases t with
 | nil => simp at h
 | cons x r => rfl
theorem c_l11Num (s : List UInt8) (G : PH) (hs : s.length ≤ 1048576) : Pure Tryz.prog 51 [tx s] G fun v G' => v = .tuple #[.int .i64 (rdN s).1, .bool (rdN s).2] ∧ G' = G := by
 refine Pure.intro Tryz.func51 Tryz.ntmps51 J J fun w => ?_; refine Va J J ?_
 cases s with
 | nil =>
  refine GF J J (by simp [ba_size]) ?_;refine Va J J ?_;refine GT J J (by simp [ba_size]) ?_;refine Va J J ?_;exact S_retp (Res.t2 Tryz.results51 J J J J) XR ⟨J, J⟩
 | cons c r =>
  refine GT J J (by simp [ba_size]) ?_;refine Va J J ?_;refine S_valV J J J (V_idxT (i := 0) u_str J J (by simp)) ?_;refine Va J J ?_;refine S_valV J J J (V_eq8 J J) ?_;refine Va J J ?_
  simp only [List.getElem_cons_zero]
  by_cases hc : c = 45
  ·have hc' : (c.toNat : Int) = 45 := by rw [hc]; rfl
   rw [rdN_cons, if_pos hc]
   refine RT J (by simp [hc']) ?_;refine Va J J ?_;refine S_valV J J J (V_subTl (i := 1) u_str J J (by simp)) ?_;refine Va J J ?_
   rw [List.drop_succ_cons, List.drop_zero]
   simp only [List.length_cons] at hs
   by_cases hb0 : (r).length = 0 ∨ 17 < (r).length
   ·have hbad : rdT true r = (0, false) := by unfold rdT; rw [if_pos (by rcases hb0 with h | h; exact .inl h; exact .inr (.inl h))]
    refine GT J J (by simp only [ba_size, Bool.or_eq_true, decide_eq_true_eq]; omega) ?_;refine Va J J ?_;exact S_retp (Res.t2 Tryz.results51 J J J J) XR ⟨by rw [hbad], J⟩
   refine GF J J (by simp only [ba_size, Bool.or_eq_false_iff, decide_eq_false_iff_not]; omega) ?_;refine Va J J ?_;refine S_valV J J J (V_idxT (i := 0) u_str J J (by omega)) ?_;refine Va J J ?_;refine S_valV J J J (V_eq8 J J) ?_;refine Va J J ?_
   have hh := head_at (show 0 < (r).length by omega)
   have h48 : ((r).head? = some 48) ↔ ((r)[0].toNat : Int) = 48 := by
    rw [hh, Option.some.injEq]
    constructor
    ·intro h; rw [h]; rfl
    ·intro h; exact UInt8.toNat_inj.1 (by rw [show (48 : UInt8).toNat = 48 from J]; omega)
   by_cases h1 : ((r)[0].toNat : Int) = 48
   ·refine GT J J (decide_eq_true h1) ?_
    refine Va J J ?_
    by_cases h9 : 1 < (r).length
    ·refine GT J J (by simp only [ba_size, decide_eq_true_eq]; omega) ?_
     refine Va J J ?_
     have hbad : rdT true r = (0, false) := by unfold rdT; rw [if_pos (.inr (.inr ⟨h48.2 h1, .inl h9⟩))]
     exact S_retp (Res.t2 Tryz.results51 J J J J) XR ⟨by rw [hbad], J⟩
    refine GF J J (by simp only [ba_size, decide_eq_false_iff_not]; omega) ?_;refine Va J J ?_
    have hbad : rdT true r = (0, false) := by unfold rdT; rw [if_pos (.inr (.inr ⟨h48.2 h1, .inr rfl⟩))]
    refine RT J (by simp [hc']) ?_;refine Va J J ?_;exact S_retp (Res.t2 Tryz.results51 J J J J) XR ⟨by rw [hbad], J⟩
   have hb2 : ¬ ((r).head? = some 48 ∧ (1 < (r).length ∨ true = true)) := fun h => h1 (h48.1 h.1)
   refine GF J J (decide_eq_false h1) ?_;refine Va J J ?_
   have hgo : rdT true r = if (r).all digB then (if true then -(valD 0 r : Int) else (valD 0 r : Int), true) else (0, false) := by
    unfold rdT
    rw [if_neg]
    rintro (h | h | h)
    ·exact hb0 (.inl h)
    ·exact hb0 (.inr h)
    ·exact hb2 h
   refine S_loop (α := Nat) (fun i => i ≤ (r).length ∧ ∀ y ∈ (r).take i, digB y = true) (fun i => (r).length - i) []
    (fun i => [(6, .val (.int .i64 (i : Nat))), (5, .val (.int .i64 (valD 0 ((r).take i) : Nat))), (0, .val (tx r)), (4, .val (.bool (decide ((c.toNat : Int) = 45))))]) (fun _ => []) (fun _ => G) 0 ⟨Nat.zero_le _, by simp⟩ rfl ⟨⟨_, rfl, rfl⟩, ⟨_, rfl, rfl⟩, ⟨_, rfl, rfl⟩, ⟨_, rfl, rfl⟩, trivial⟩ .nil ?_
   rintro i ⟨hi, hd⟩
   refine Va J J ?_
   refine S_condp J (fun h5 => ?_) (fun h5 => ?_) <;> refine Va J J ?_
   ·have hil : i < (r).length := by simp only [ba_size] at h5; omega
    have htk := List.take_succ_eq_append_getElem hil
    have hlt := valD_lt ((r).take i) hd
    have hp : valD 0 ((r).take i) < 10 ^ 17 := Nat.lt_of_lt_of_le hlt (Nat.pow_le_pow_right (by omega) (by rw [List.length_take]; omega))
    have hp2 : valD 0 ((r).take i) < 100000000000000000 := by simpa using hp
    refine S_valV J J J (V_idxT u_str J J hil) ?_;refine Va J J ?_;refine S_valV J J J (V_lt8 J J) ?_;refine Va J J ?_
    have hbadD : digB (r)[i] = false → rdT true r = (0, false) := by
     intro h
     rw [hgo, if_neg]
     intro h2
     have := List.all_eq_true.1 h2 (r)[i] (List.getElem_mem hil)
     rw [h] at this; cases this
    generalize hx : (r)[i] = x at htk hbadD
    by_cases hc1 : x.toNat < 48
    ·refine GT J J (by simp; omega) ?_
     refine Va J J ?_
     have hbad := hbadD (by simp [digB]; omega)
     exact S_retp (Res.t2 Tryz.results51 J J J J) XR ⟨by rw [hbad], J⟩
    refine GF J J (by simp; omega) ?_;refine Va J J ?_;refine S_valV J J J (V_idxT u_str J J hil) ?_;refine Va J J ?_;refine S_valV J J J (V_gt8 J J) ?_;refine Va J J ?_
    rw [hx]
    by_cases hc2 : 57 < x.toNat
    ·refine RT J (by simp; omega) ?_
     refine Va J J ?_
     have hbad := hbadD (by simp [digB]; omega)
     exact S_retp (Res.t2 Tryz.results51 J J J J) XR ⟨by rw [hbad], J⟩
    refine RF J (by simp; omega) ?_;refine Va J J ?_;refine S_mul J J J J (by omega) ?_;refine Va J J ?_;refine S_valV J J J (V_idxT u_str J J hil) ?_;refine Va J J ?_
    rw [hx]
    refine S_valV J J J (V_sub8 J J (by omega) (by omega)) ?_;refine Va J J ?_;refine S_valV J J J (V_conv J u_byte u_intT (by rw [IntKind.wrap_i64]; omega)) ?_;refine Va J J ?_;refine S_add J J J J (by omega) ?_;refine Va J J ?_;refine S_add J J J J (by omega) ?_;refine Va J J ?_;refine S_again (i + 1) ⟨hil, ?_⟩ (by omega) J ⟨⟨_, J, by simp [denO]⟩, ⟨_, J, by simp only [denO, htk, valD_snoc]; congr 2; omega⟩, ⟨_, rfl, rfl⟩, ⟨_, rfl, rfl⟩, trivial⟩ .nil
    intro y hy
    rw [htk] at hy
    rcases List.mem_append.1 hy with hy | hy
    ·exact hd y hy
    ·rw [List.mem_singleton.1 hy]; simp [digB]; omega
   have e0 : i = (r).length := by simp only [ba_size] at h5; omega
   subst e0
   rw [List.take_length] at *
   have hok : rdT true r = (if true then -(valD 0 r : Int) else (valD 0 r : Int), true) := by rw [hgo, if_pos (List.all_eq_true.2 hd)]
   have hlt := valD_lt (r) hd
   have hp : valD 0 (r) < 10 ^ 17 := Nat.lt_of_lt_of_le hlt (Nat.pow_le_pow_right (by omega) (by omega))
   have hp2 : valD 0 (r) < 100000000000000000 := by simpa using hp
   refine RT J (by simp [hc']) ?_;refine Va J J ?_;refine S_valV J J J (V_neg J (by omega)) ?_;refine Va J J ?_;exact S_retp (Res.t2 Tryz.results51 J J J J) XR ⟨by rw [hok]; rfl, rfl⟩
  ·have hc' : ¬ (c.toNat : Int) = 45 := fun h => hc (UInt8.toNat_inj.1 (by rw [show (45 : UInt8).toNat = 45 from rfl]; omega))
   rw [rdN_cons, if_neg hc]
   refine RF J (by simp [hc']) ?_;refine Va J J ?_
   by_cases hb0 : ((c :: r)).length = 0 ∨ 17 < ((c :: r)).length
   ·have hbad : rdT false (c :: r) = (0, false) := by unfold rdT; rw [if_pos (by rcases hb0 with h | h; exact .inl h; exact .inr (.inl h))]
    refine GT J J (by simp only [ba_size, Bool.or_eq_true, decide_eq_true_eq]; omega) ?_;refine Va J J ?_;exact S_retp (Res.t2 Tryz.results51 J J J J) XR ⟨by rw [hbad], J⟩
   refine GF J J (by simp only [ba_size, Bool.or_eq_false_iff, decide_eq_false_iff_not]; omega) ?_;refine Va J J ?_;refine S_valV J J J (V_idxT (i := 0) u_str J J (by omega)) ?_;refine Va J J ?_;refine S_valV J J J (V_eq8 J J) ?_;refine Va J J ?_
   have hh := head_at (show 0 < ((c :: r)).length by omega)
   have h48 : (((c :: r)).head? = some 48) ↔ (((c :: r))[0].toNat : Int) = 48 := by
    rw [hh, Option.some.injEq]
    constructor
    ·intro h; rw [h]; rfl
    ·intro h; exact UInt8.toNat_inj.1 (by rw [show (48 : UInt8).toNat = 48 from J]; omega)
   by_cases h1 : (((c :: r))[0].toNat : Int) = 48
   ·refine GT J J (decide_eq_true h1) ?_
    refine Va J J ?_
    by_cases h9 : 1 < ((c :: r)).length
    ·refine GT J J (by simp only [ba_size, decide_eq_true_eq]; omega) ?_
     refine Va J J ?_
     have hbad : rdT false (c :: r) = (0, false) := by unfold rdT; rw [if_pos (.inr (.inr ⟨h48.2 h1, .inl h9⟩))]
     exact S_retp (Res.t2 Tryz.results51 J J J J) XR ⟨by rw [hbad], J⟩
    refine GF J J (by simp only [ba_size, decide_eq_false_iff_not]; omega) ?_;refine Va J J ?_
    have hb2 : ¬ (((c :: r)).head? = some 48 ∧ (1 < ((c :: r)).length ∨ false = true)) := fun h => by rcases h.2 with h | h; exact h9 h; cases h
    refine RF J (by simp [hc']) ?_;refine Va J J ?_
    have hgo : rdT false (c :: r) = if ((c :: r)).all digB then (if false then -(valD 0 (c :: r) : Int) else (valD 0 (c :: r) : Int), true) else (0, false) := by
     unfold rdT
     rw [if_neg]
     rintro (h | h | h)
     ·exact hb0 (.inl h)
     ·exact hb0 (.inr h)
     ·exact hb2 h
    refine S_loop (α := Nat) (fun i => i ≤ ((c :: r)).length ∧ ∀ y ∈ ((c :: r)).take i, digB y = true) (fun i => ((c :: r)).length - i) []
     (fun i => [(6, .val (.int .i64 (i : Nat))), (5, .val (.int .i64 (valD 0 (((c :: r)).take i) : Nat))), (0, .val (tx (c :: r))), (4, .val (.bool (decide ((c.toNat : Int) = 45))))]) (fun _ => []) (fun _ => G) 0 ⟨Nat.zero_le _, by simp⟩ rfl ⟨⟨_, rfl, rfl⟩, ⟨_, rfl, rfl⟩, ⟨_, rfl, rfl⟩, ⟨_, rfl, rfl⟩, trivial⟩ .nil ?_
    rintro i ⟨hi, hd⟩
    refine Va J J ?_
    refine S_condp J (fun h5 => ?_) (fun h5 => ?_) <;> refine Va J J ?_
    ·have hil : i < ((c :: r)).length := by simp only [ba_size] at h5; omega
     have htk := List.take_succ_eq_append_getElem hil
     have hlt := valD_lt (((c :: r)).take i) hd
     have hp : valD 0 (((c :: r)).take i) < 10 ^ 17 := Nat.lt_of_lt_of_le hlt (Nat.pow_le_pow_right (by omega) (by rw [List.length_take]; omega))
     have hp2 : valD 0 (((c :: r)).take i) < 100000000000000000 := by simpa using hp
     refine S_valV J J J (V_idxT u_str J J hil) ?_;refine Va J J ?_;refine S_valV J J J (V_lt8 J J) ?_;refine Va J J ?_
     have hbadD : digB ((c :: r))[i] = false → rdT false (c :: r) = (0, false) := by
      intro h
      rw [hgo, if_neg]
      intro h2
      have := List.all_eq_true.1 h2 ((c :: r))[i] (List.getElem_mem hil)
      rw [h] at this; cases this
     generalize hx : ((c :: r))[i] = x at htk hbadD
     by_cases hc1 : x.toNat < 48
     ·refine GT J J (by simp; omega) ?_
      refine Va J J ?_
      have hbad := hbadD (by simp [digB]; omega)
      exact S_retp (Res.t2 Tryz.results51 J J J J) XR ⟨by rw [hbad], J⟩
     refine GF J J (by simp; omega) ?_;refine Va J J ?_;refine S_valV J J J (V_idxT u_str J J hil) ?_;refine Va J J ?_;refine S_valV J J J (V_gt8 J J) ?_;refine Va J J ?_
     rw [hx]
     by_cases hc2 : 57 < x.toNat
     ·refine RT J (by simp; omega) ?_
      refine Va J J ?_
      have hbad := hbadD (by simp [digB]; omega)
      exact S_retp (Res.t2 Tryz.results51 J J J J) XR ⟨by rw [hbad], J⟩
     refine RF J (by simp; omega) ?_;refine Va J J ?_;refine S_mul J J J J (by omega) ?_;refine Va J J ?_;refine S_valV J J J (V_idxT u_str J J hil) ?_;refine Va J J ?_
     rw [hx]
     refine S_valV J J J (V_sub8 J J (by omega) (by omega)) ?_;refine Va J J ?_;refine S_valV J J J (V_conv J u_byte u_intT (by rw [IntKind.wrap_i64]; omega)) ?_;refine Va J J ?_;refine S_add J J J J (by omega) ?_;refine Va J J ?_;refine S_add J J J J (by omega) ?_;refine Va J J ?_;refine S_again (i + 1) ⟨hil, ?_⟩ (by omega) J ⟨⟨_, J, by simp [denO]⟩, ⟨_, J, by simp only [denO, htk, valD_snoc]; congr 2; omega⟩, ⟨_, rfl, rfl⟩, ⟨_, rfl, rfl⟩, trivial⟩ .nil
     intro y hy
     rw [htk] at hy
     rcases List.mem_append.1 hy with hy | hy
     ·exact hd y hy
     ·rw [List.mem_singleton.1 hy]; simp [digB]; omega
    have e0 : i = ((c :: r)).length := by simp only [ba_size] at h5; omega
    subst e0
    rw [List.take_length] at *
    have hok : rdT false (c :: r) = (if false then -(valD 0 (c :: r) : Int) else (valD 0 (c :: r) : Int), true) := by rw [hgo, if_pos (List.all_eq_true.2 hd)]
    have hlt := valD_lt ((c :: r)) hd
    have hp : valD 0 ((c :: r)) < 10 ^ 17 := Nat.lt_of_lt_of_le hlt (Nat.pow_le_pow_right (by omega) (by omega))
    have hp2 : valD 0 ((c :: r)) < 100000000000000000 := by simpa using hp
    refine RF J (by simp [hc']) ?_;refine Va J J ?_;exact S_retp (Res.t2 Tryz.results51 J J J J) XR ⟨by rw [hok]; rfl, rfl⟩
   have hb2 : ¬ (((c :: r)).head? = some 48 ∧ (1 < ((c :: r)).length ∨ false = true)) := fun h => h1 (h48.1 h.1)
   refine GF J J (decide_eq_false h1) ?_;refine Va J J ?_
   have hgo : rdT false (c :: r) = if ((c :: r)).all digB then (if false then -(valD 0 (c :: r) : Int) else (valD 0 (c :: r) : Int), true) else (0, false) := by
    unfold rdT
    rw [if_neg]
    rintro (h | h | h)
    ·exact hb0 (.inl h)
    ·exact hb0 (.inr h)
    ·exact hb2 h
   refine S_loop (α := Nat) (fun i => i ≤ ((c :: r)).length ∧ ∀ y ∈ ((c :: r)).take i, digB y = true) (fun i => ((c :: r)).length - i) []
    (fun i => [(6, .val (.int .i64 (i : Nat))), (5, .val (.int .i64 (valD 0 (((c :: r)).take i) : Nat))), (0, .val (tx (c :: r))), (4, .val (.bool (decide ((c.toNat : Int) = 45))))]) (fun _ => []) (fun _ => G) 0 ⟨Nat.zero_le _, by simp⟩ rfl ⟨⟨_, rfl, rfl⟩, ⟨_, rfl, rfl⟩, ⟨_, rfl, rfl⟩, ⟨_, rfl, rfl⟩, trivial⟩ .nil ?_
   rintro i ⟨hi, hd⟩
   refine Va J J ?_
   refine S_condp J (fun h5 => ?_) (fun h5 => ?_) <;> refine Va J J ?_
   ·have hil : i < ((c :: r)).length := by simp only [ba_size] at h5; omega
    have htk := List.take_succ_eq_append_getElem hil
    have hlt := valD_lt (((c :: r)).take i) hd
    have hp : valD 0 (((c :: r)).take i) < 10 ^ 17 := Nat.lt_of_lt_of_le hlt (Nat.pow_le_pow_right (by omega) (by rw [List.length_take]; omega))
    have hp2 : valD 0 (((c :: r)).take i) < 100000000000000000 := by simpa using hp
    refine S_valV J J J (V_idxT u_str J J hil) ?_;refine Va J J ?_;refine S_valV J J J (V_lt8 J J) ?_;refine Va J J ?_
    have hbadD : digB ((c :: r))[i] = false → rdT false (c :: r) = (0, false) := by
     intro h
     rw [hgo, if_neg]
     intro h2
     have := List.all_eq_true.1 h2 ((c :: r))[i] (List.getElem_mem hil)
     rw [h] at this; cases this
    generalize hx : ((c :: r))[i] = x at htk hbadD
    by_cases hc1 : x.toNat < 48
    ·refine GT J J (by simp; omega) ?_
     refine Va J J ?_
     have hbad := hbadD (by simp [digB]; omega)
     exact S_retp (Res.t2 Tryz.results51 J J J J) XR ⟨by rw [hbad], J⟩
    refine GF J J (by simp; omega) ?_;refine Va J J ?_;refine S_valV J J J (V_idxT u_str J J hil) ?_;refine Va J J ?_;refine S_valV J J J (V_gt8 J J) ?_;refine Va J J ?_
    rw [hx]
    by_cases hc2 : 57 < x.toNat
    ·refine RT J (by simp; omega) ?_
     refine Va J J ?_
     have hbad := hbadD (by simp [digB]; omega)
     exact S_retp (Res.t2 Tryz.results51 J J J J) XR ⟨by rw [hbad], J⟩
    refine RF J (by simp; omega) ?_;refine Va J J ?_;refine S_mul J J J J (by omega) ?_;refine Va J J ?_;refine S_valV J J J (V_idxT u_str J J hil) ?_;refine Va J J ?_
    rw [hx]
    refine S_valV J J J (V_sub8 J J (by omega) (by omega)) ?_;refine Va J J ?_;refine S_valV J J J (V_conv J u_byte u_intT (by rw [IntKind.wrap_i64]; omega)) ?_;refine Va J J ?_;refine S_add J J J J (by omega) ?_;refine Va J J ?_;refine S_add J J J J (by omega) ?_;refine Va J J ?_;refine S_again (i + 1) ⟨hil, ?_⟩ (by omega) J ⟨⟨_, J, by simp [denO]⟩, ⟨_, J, by simp only [denO, htk, valD_snoc]; congr 2; omega⟩, ⟨_, rfl, rfl⟩, ⟨_, rfl, rfl⟩, trivial⟩ .nil
    intro y hy
    rw [htk] at hy
    rcases List.mem_append.1 hy with hy | hy
    ·exact hd y hy
    ·rw [List.mem_singleton.1 hy]; simp [digB]; omega
   have e0 : i = ((c :: r)).length := by simp only [ba_size] at h5; omega
   subst e0
   rw [List.take_length] at *
   have hok : rdT false (c :: r) = (if false then -(valD 0 (c :: r) : Int) else (valD 0 (c :: r) : Int), true) := by rw [hgo, if_pos (List.all_eq_true.2 hd)]
   have hlt := valD_lt ((c :: r)) hd
   have hp : valD 0 ((c :: r)) < 10 ^ 17 := Nat.lt_of_lt_of_le hlt (Nat.pow_le_pow_right (by omega) (by omega))
   have hp2 : valD 0 ((c :: r)) < 100000000000000000 := by simpa using hp
   refine RF J (by simp [hc']) ?_;refine Va J J ?_;exact S_retp (Res.t2 Tryz.results51 J J J J) XR ⟨by rw [hok]; rfl, rfl⟩
end
end Go.Proofs.YtblildkhbkmmdaaGreatDoor
