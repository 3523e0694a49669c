/- Walks of the program's functions, one after the other (part 3); without conditions of their own. -/
import Derived.Test.YtcbdilccmjpnbaaGreatDoorWM1
import Derived.Test.YtcbdilccmjpnbaaGreatDoorWM2
import Derived.KernelRfl
import Derived.Laws.Concat
import Derived.Laws.IdiomStrings
import Derived.Test.YtcbdilccmjpnbaaGreatDoorProg
set_option linter.unusedVariables false
set_option linter.unusedSimpArgs false
set_option maxRecDepth 100000
set_option maxHeartbeats 4000000
open Go.RowKit
namespace Go.Proofs.YtcbdilccmjpnbaaGreatDoor
section
def pairHP (A B : HP) : HP where
 holds w S := ∃ S1 S2, A.holds w S1 ∧ B.holds w S2 ∧ (∀ b, S1 b → S2 b → False) ∧ ∀ b, S b ↔ S1 b ∨ S2 b
 loc w w' S h hs := by
  obtain ⟨S1, S2, h1, h2, h3, h4⟩ := h
  exact ⟨S1, S2, A.loc w w' S1 h1 (fun b hb => hs b ((h4 b).2 (.inl hb))), B.loc w w' S2 h2 (fun b hb => hs b ((h4 b).2 (.inr hb))), h3, h4⟩
 lt w S h b hb := by
  obtain ⟨S1, S2, h1, h2, h3, h4⟩ := h
  rcases (h4 b).1 hb with hb | hb
  ·exact A.lt w S1 h1 b hb
  ·exact B.lt w S2 h2 b hb
section
variable {C : Ctx} {k : List It} {E : Env} {ι : Ids} {L : List Ent} {G : PH} {all : Array Oper} {l : List Oper}
end
section
variable {P : Program} {fn : Func} {n : Nat} {G0 G : PH} {w0 : World} {S0 : Nat → Prop} {k : List It} {E : Env} {ι : Ids} {L L1 : List Ent} {v : Value}
theorem SatW.pair {C : Ctx} {w : World} (κ κ' κ1 : Nat) (h4 : SatW C ι L G w) {A B : HP} {L2 : List Ent} (hL : getH κ L = some A) (hd : delH κ L = some L1) (hL1 : getH κ' L1 = some B) (hd1 : delH κ' L1 = some L2) : SatW C ι (.hp κ1 (pairHP A B) :: L2) G w := by
 obtain ⟨Ss, ho, hS⟩ := h4.own
 obtain ⟨S1, Ss1, hA, hm, ho1, hT1⟩ := owns_del ho hL hd
 obtain ⟨S2, Ss2, hB, hm2, ho2, hT2⟩ := owns_del ho1 hL1 hd1
 refine ⟨h4.os, h4.tape, h4.output, h4.size, h4.keep, h4.emb, (fun b => S1 b ∨ S2 b) :: Ss2, ⟨⟨S1, S2, hA, hB, fun b h1 h2 => (hT1 S2 hm2).2 b h2 h1, fun b => Iff.rfl⟩, ?_, ho2⟩, ?_⟩
 ·rintro T hT b (hb | hb) hb'
  ·exact (hT1 T (hT2 T hT).1).2 b hb' hb
  ·exact (hT2 T hT).2 b hb' hb
 ·intro T hT b hb
  rcases List.mem_cons.1 hT with rfl | hT
  ·rcases hb with hb | hb
   ·exact hS S1 hm b hb
   ·exact hS S2 (hT1 S2 hm2).1 b hb
  ·exact hS T (hT1 T (hT2 T hT).1).1 b hb
theorem S_pair {C : Ctx} (κ κ' κ1 : Nat) {A B : HP} {L2 : List Ent} (hL : getH κ L = some A) (hd : delH κ L = some L1) (hL1 : getH κ' L1 = some B) (hd1 : delH κ' L1 = some L2) (hk : X C k E ι (.hp κ1 (pairHP A B) :: L2) G) : X C k E ι L G :=
 fun a w h1 h2 h3 h4 => hk a w h1 h2 h3 (h4.pair κ κ' κ1 hL hd hL1 hd1)
end
section
variable {C : Ctx} {k : List It} {E : Env} {ι : Ids} {L : List Ent} {G : PH} {all : Array Oper} {l : List Oper}
theorem S_app1z {T : Tab} (hT : tabOk C.P T) (κ j : Nat) {base d t e sz' sz : Nat} {os os' : List Nat} {tk : TK} {zi : ZI} {s x : Operand} {ty ty' : Nat} {pos : String} {af : Array Edge} {g : Option (Nat × Bool)} {A : Option Addr} {n c b : Nat} {xs ns : List Value} {cs : List Cel} {L' : Option Addr → Nat → List Ent}
  (ht : lookT t T = some ⟨.slc e, sz', os'⟩) (he : lookT e T = some ⟨tk, sz, os⟩) (hz : lookZ e T.zs = some zi) (hzs : zi.zs.length = sz) (hzb : Nat.ble zi.b 1000 = true) (hsz : Nat.ble 1 sz = true)
  (hg : guardOf all E g = .on) (hN : Nat.ble (d + 1) C.n = true) (hs : ev E s = some (.val (.slice A n c))) (hx : ev E x = some (.slc j 0 1 1)) (hj : lookI j ι = some b) (hB : lookB j L = some (ty', cs)) (hcs : denL ι cs = some ns) (hns : ns.length = sz) (hone : ∀ u ∈ ns, u.oneCell' = true)
  (hL : getH κ L = some (rowO base e sz A n c xs)) (hL' : ∀ A' c', setH κ (rowO base e sz A' (n + 1) c' (xs ++ ns)) L = some (L' A' c')) (hlen : n ≤ 1000000000) (hbase : base ≤ C.w0.heap.size)
  (hk : ∀ A' c', (A' = A ∨ ∃ g, A' = some ⟨g, 0, none⟩) → X C (.ops all l :: k) ((d, .val (.slice A' (n + 1) c')) :: E) ι (L' A' c') G) : X C (.ops all (⟨some d, .call ⟨.builtin .append, #[s, x], #[t, t]⟩, ty, pos, af, g⟩ :: l) :: k) E ι L G := by
 have hzb' := Nat.le_of_ble_eq_true hzb
 have hby : (n + 1) * zi.b ≤ 140737488355328 := Nat.le_trans (Nat.mul_le_mul (by omega : n + 1 ≤ 1000000001) hzb') (by decide)
 refine S_appOz hT κ (news := ns) (m := 1) ht he hz hzs hsz hg hN hs hx (by rw [denO, hj]) hL (L' := L') hL' (src_blk j hB hcs hj (by simp [← hns]) (by simp [hns])) hone hby (by simp only [maxLen]; omega) hbase fun A' c' h => ?_;exact hk A' c' h
theorem S_app1 {T : Tab} (hT : tabOk C.P T) (κ j : Nat) {base d t e sz' sz : Nat} {os os' : List Nat} {tk : TK} {zi : ZI} {s x : Operand} {ty ty' : Nat} {pos : String} {af : Array Edge} {g : Option (Nat × Bool)} {A : Option Addr} {n c b : Nat} {xs ns : List Value} {cs : List Cel} {L' : Option Addr → Nat → List Ent}
  (ht : lookT t T = some ⟨.slc e, sz', os'⟩) (he : lookT e T = some ⟨tk, sz, os⟩) (hz : lookZ e T.zs = some zi) (hzs : zi.zs.length = sz) (hzb : Nat.ble zi.b 1000 = true) (hsz : Nat.ble 1 sz = true)
  (hg : guardOf all E g = .on) (hN : Nat.ble (d + 1) C.n = true) (hs : ev E s = some (.val (.slice A n c))) (hx : ev E x = some (.slc j 0 1 1)) (hj : lookI j ι = some b) (hB : lookB j L = some (ty', cs)) (hcs : denL ι cs = some ns) (hns : ns.length = sz) (hone : ∀ u ∈ ns, u.oneCell' = true)
  (hL : getH κ L = some (rowO base e sz A n c xs)) (hL' : ∀ A' c', setH κ (rowO base e sz A' (n + 1) c' (xs ++ ns)) L = some (L' A' c')) (hlen : n ≤ 1000000000) (hbase : base ≤ C.w0.heap.size)
  (hk : ∀ A' c', X C (.ops all l :: k) ((d, .val (.slice A' (n + 1) c')) :: E) ι (L' A' c') G) : X C (.ops all (⟨some d, .call ⟨.builtin .append, #[s, x], #[t, t]⟩, ty, pos, af, g⟩ :: l) :: k) E ι L G :=
 S_app1z hT κ j ht he hz hzs hzb hsz hg hN hs hx hj hB hcs hns hone hL hL' hlen hbase fun A' c' _ => hk A' c'
end
section
variable {C : Ctx} {k : List It} {E : Env} {ι : Ids} {L : List Ent} {G : PH} {all : Array Oper} {l : List Oper}
theorem S_buildSliceB {d t e m : Nat} {parts : Array (Nat × Operand)} {ty : Nat} {pos : String} {af : Array Edge} {g : Option (Nat × Bool)} {cs : List Cel} (hg : guardOf all E g = .on) (hN : Nat.ble (d + 1) C.n = true) (hd : lookI d ι = none)
  (hr : ∀ a w, AgE ι E a → ∃ vs, denL ι cs = some vs ∧ (Instr.buildSlice t m (parts.map fun (i, x) => (i, a.eval x))).run C.P w = .ok (.slice (some ⟨w.heap.size, 0, none⟩) m m) (w.alloc (.cells vs.toArray e)))
  (hk : ∀ b, C.w0.heap.size ≤ b → X C (.ops all l :: k) ((d, .slc d 0 m m) :: E) ((d, b) :: ι) (.blk d e cs :: L) G) : X C (.ops all (⟨some d, .buildSlice t m parts, ty, pos, af, g⟩ :: l) :: k) E ι L G := by
 intro a w h1 h2 h3 h4
 obtain ⟨vs, hvs, hr⟩ := hr a w h3
 have hrun : (execOp a.eval ⟨some d, .buildSlice t m parts, ty, pos, af, g⟩).run C.P w = .ok (.value (.slice (some ⟨w.heap.size, 0, none⟩) m m)) (w.alloc (.cells vs.toArray e)) := by
  simp only [execOp]; simp [hr]
 refine wpE_val (guardOf_on h3 hg) (by intro c h; cases h) hrun ?_
 have hdn : d < a.tmps.size := by rw [h2]; exact Nat.le_of_ble_eq_true hN
 exact hk w.heap.size h4.size _ _ h1 (by simp [Act.put, h2]) ((h3.ids hd).put hdn (by simp [denO, lookI])) (h4.alloc hd cs hvs)
theorem S_sliceB {T : Tab} {Z : ZTab} (hT : tabOk C.P T) (hZ : zOk C.P Z) {d t e m sz sz' : Nat} {os os' : List Nat} {tk : TK} {z : ZI} {parts : Array (Nat × Operand)} {ty : Nat} {pos : String} {af : Array Edge} {g : Option (Nat × Bool)} {cs : List Cel}
  (ht : lookT t T = some ⟨.slc e, sz', os'⟩) (he : lookT e T = some ⟨tk, sz, os⟩) (hz : lookZ e Z = some z) (hl : z.zs.length = sz) (hsm : m * sz ≤ 16777216) (hpos : 0 < m * sz)
  (hg : guardOf all E g = .on) (hN : Nat.ble (d + 1) C.n = true) (hd : lookI d ι = none) (hf : fillS (seqP sz m 0) E (vL (repL m z.zs)) parts.toList = some cs)
  (hk : ∀ b, C.w0.heap.size ≤ b → X C (.ops all l :: k) ((d, .slc d 0 m m) :: E) ((d, b) :: ι) (.blk d e cs :: L) G) : X C (.ops all (⟨some d, .buildSlice t m parts, ty, pos, af, g⟩ :: l) :: k) E ι L G := by
 refine S_buildSliceB hg hN hd ?_ hk
 intro a w hE
 obtain ⟨inf, v, hi, hv, hb, hc, _⟩ := viewZ_eq (hZ _ _ hz)
 obtain ⟨dsc, inf', hu, hi', hk', hsize, _⟩ := tyOk_parts (hT _ _ he)
 rw [hi] at hi'; cases hi'
 have hus := tyOk_slice (hT _ _ ht) rfl
 obtain ⟨vs', hv1, hv2⟩ := fillS_sound (ι := ι) hE (pl := seqP sz m 0) (place := fun i => some (i * sz, sz)) (by intro i x hx; rw [seqP_at hx]; simp) hf (denL_vL ι (repL m z.zs))
 refine ⟨vs', hv1, run_buildSlice w t e m _ vs'.toArray inf v hus hi hv (by rw [hsize]; simp; omega) (by rw [hsize]; simp only; omega) ?_⟩
 rw [hsize, hc]
 simp only
 rw [← hl] at hv2 ⊢
 rw [rep_range, Array.toList_map]
 exact hv2
theorem S_keepB (key : Nat) {b ty : Nat} {cs : List Cel} {vs : List Value} {L' : List Ent} (hj : lookI key ι = some b) (hB : lookB key L = some (ty, cs)) (hd : denL ι cs = some vs) (hL' : delB key L = some L') (hb0 : C.w0.heap.size ≤ b)
  (hk : PH.ext C.w0.heap.size G (G.add b (.cells vs.toArray ty (0, 0))) → X C k E ι L' (G.add b (.cells vs.toArray ty (0, 0)))) : X C k E ι L G := by
 refine S_lendB key hj hB hd hL' fun hG _ => hk ⟨le_add hG, fun x o hx hn => ?_⟩
 unfold PH.add at hx
 split at hx
 ·omega
 ·rw [hn] at hx; cases hx
theorem gcells_add {G : PH} {b ty : Nat} : ∀ {vs : List Value} {pre : List Value}, gcells (G.add b (.cells (pre ++ vs).toArray ty (0, 0))) ⟨b, pre.length, none⟩ vs
 | [], _ => trivial
 | v :: vs, pre => by
  refine ⟨?_, ?_⟩
  ·simp [gcell, PH.add]
  ·have := gcells_add (G := G) (b := b) (ty := ty) (vs := vs) (pre := pre ++ [v])
   rw [add_lit']
   simpa using this
theorem S_sliceG {T : Tab} {Z : ZTab} (hT : tabOk C.P T) (hZ : zOk C.P Z) {d t e m sz sz' : Nat} {os os' : List Nat} {tk : TK} {z : ZI} {parts : Array (Nat × Operand)} {ty : Nat} {pos : String} {af : Array Edge} {g : Option (Nat × Bool)} {cs : List Cel} {vs : List Value}
  (ht : lookT t T = some ⟨.slc e, sz', os'⟩) (he : lookT e T = some ⟨tk, sz, os⟩) (hz : lookZ e Z = some z) (hl : z.zs.length = sz) (hsm : m * sz ≤ 16777216) (hpos : 0 < m * sz)
  (hg : guardOf all E g = .on) (hN : Nat.ble (d + 1) C.n = true) (hd : lookI d ι = none) (hf : fillS (seqP sz m 0) E (vL (repL m z.zs)) parts.toList = some cs) (hcs : ∀ b, denL ((d, b) :: ι) cs = some vs)
  (hk : ∀ b G', PH.ext C.w0.heap.size G G' → gcells G' ⟨b, 0, none⟩ vs → X C (.ops all l :: k) ((d, .val (.slice (some ⟨b, 0, none⟩) m m)) :: E) ((d, b) :: ι) L G') : X C (.ops all (⟨some d, .buildSlice t m parts, ty, pos, af, g⟩ :: l) :: k) E ι L G := by
 refine S_sliceB hT hZ ht he hz hl hsm hpos hg hN hd hf fun b hb => ?_;refine S_keepB (L' := L) (ty := e) d (by simp [lookI]) (by simp [lookB]) (hcs b) (by simp [delB]) hb fun hext => ?_;refine S_reE (s := .slc d 0 m m) d (.val (.slice (some ⟨b, 0, none⟩) m m)) (by simp [look]) (by simp [denO, lookI]) ?_
 have hg0 := gcells_add (G := G) (b := b) (ty := e) (vs := vs) (pre := [])
 intro a w q1 q2 q3 q4
 refine hk b _ hext hg0 a w q1 q2 ?_ q4
 intro i s hi
 refine q3 i s ?_
 simp only [look] at hi ⊢
 split <;> simp_all
end
end
section
def ZT : ZTab := [(3, ⟨8, [.int .i64 0], []⟩),
 (4, ⟨1, [.bool false], []⟩),
 (83, ⟨80, [.int .i64 0, .int .i64 0, .int .i64 0, .int .i64 0, .slice none 0 0, .slice none 0 0], [1, 1, 1, 1, 1, 1]⟩),
 (41, ⟨24, [.slice none 0 0], []⟩),
 (52, ⟨24, [.slice none 0 0], []⟩),
 (62, ⟨72, [.slice none 0 0, .slice none 0 0, .int .i64 0, .int .i64 0, .int .i64 0], [1, 1, 1, 1, 1]⟩),
 (51, ⟨24, [.slice none 0 0], []⟩),
 (56, ⟨120, [.slice none 0 0, .slice none 0 0, .slice none 0 0, .slice none 0 0, .slice none 0 0], [1, 1, 1, 1, 1]⟩),
 (26, ⟨24, [.slice none 0 0], []⟩),
 (1, ⟨8, [.nilFunc], []⟩),
 (2, ⟨8, [.int .i64 0], []⟩),
 (5, ⟨1, [.int .u8 0], []⟩),
 (9, ⟨16, [.string ByteArray.empty], []⟩),
 (12, ⟨8, [.int .u64 0], []⟩),
 (13, ⟨24, [.string ByteArray.empty, .int .u64 0], [1, 1]⟩),
 (20, ⟨16, [.nilIface], []⟩),
 (21, ⟨4, [.int .i32 0], []⟩),
 (22, ⟨24, [.slice none 0 0], []⟩),
 (23, ⟨8, [.nilFunc], []⟩),
 (25, ⟨8, [.nilFunc], []⟩),
 (27, ⟨8, [.nilFunc], []⟩),
 (28, ⟨8, [.nilFunc], []⟩),
 (29, ⟨8, [.nilFunc], []⟩),
 (31, ⟨8, [.nilFunc], []⟩),
 (32, ⟨24, [.slice none 0 0], []⟩),
 (34, ⟨8, [.nilFunc], []⟩),
 (35, ⟨8, [.nilFunc], []⟩),
 (36, ⟨8, [.nilFunc], []⟩),
 (37, ⟨8, [.nilFunc], []⟩),
 (38, ⟨8, [.nilFunc], []⟩),
 (39, ⟨24, [.slice none 0 0], []⟩),
 (40, ⟨8, [.nilFunc], []⟩),
 (42, ⟨8, [.nilFunc], []⟩),
 (43, ⟨8, [.pointer none], []⟩),
 (45, ⟨8, [.nilFunc], []⟩),
 (46, ⟨8, [.map none], []⟩),
 (47, ⟨32, [.map none, .slice none 0 0], [1, 1]⟩),
 (48, ⟨32, [.map none, .slice none 0 0], [1, 1]⟩),
 (49, ⟨8, [.nilFunc], []⟩),
 (50, ⟨8, [.nilFunc], []⟩),
 (53, ⟨24, [.slice none 0 0], []⟩),
 (54, ⟨24, [.slice none 0 0], []⟩),
 (55, ⟨120, [.slice none 0 0, .slice none 0 0, .slice none 0 0, .slice none 0 0, .slice none 0 0], [1, 1, 1, 1, 1]⟩),
 (57, ⟨8, [.nilFunc], []⟩),
 (58, ⟨8, [.nilFunc], []⟩),
 (59, ⟨8, [.nilFunc], []⟩),
 (60, ⟨8, [.nilFunc], []⟩),
 (61, ⟨72, [.slice none 0 0, .slice none 0 0, .int .i64 0, .int .i64 0, .int .i64 0], [1, 1, 1, 1, 1]⟩),
 (63, ⟨8, [.nilFunc], []⟩),
 (64, ⟨8, [.nilFunc], []⟩),
 (65, ⟨8, [.nilFunc], []⟩),
 (66, ⟨8, [.nilFunc], []⟩),
 (67, ⟨8, [.nilFunc], []⟩),
 (68, ⟨8, [.nilFunc], []⟩),
 (69, ⟨8, [.nilFunc], []⟩),
 (70, ⟨8, [.nilFunc], []⟩),
 (71, ⟨8, [.nilFunc], []⟩),
 (72, ⟨8, [.nilFunc], []⟩),
 (73, ⟨8, [.nilFunc], []⟩),
 (74, ⟨80, [.int .i64 0, .int .i64 0, .int .i64 0, .int .i64 0, .slice none 0 0, .slice none 0 0], [1, 1, 1, 1, 1, 1]⟩),
 (75, ⟨80, [.int .i64 0, .int .i64 0, .int .i64 0, .int .i64 0, .slice none 0 0, .slice none 0 0], [1, 1, 1, 1, 1, 1]⟩),
 (76, ⟨8, [.nilFunc], []⟩),
 (77, ⟨8, [.nilFunc], []⟩),
 (78, ⟨8, [.nilFunc], []⟩),
 (79, ⟨24, [.slice none 0 0], []⟩),
 (80, ⟨8, [.nilFunc], []⟩),
 (81, ⟨8, [.nilFunc], []⟩),
 (82, ⟨80, [.int .i64 0, .int .i64 0, .int .i64 0, .int .i64 0, .slice none 0 0, .slice none 0 0], [1, 1, 1, 1, 1, 1]⟩),
 (84, ⟨8, [.nilFunc], []⟩),
 (85, ⟨8, [.nilFunc], []⟩),
 (86, ⟨8, [.nilFunc], []⟩),
 (87, ⟨8, [.nilFunc], []⟩),
 (88, ⟨8, [.nilFunc], []⟩),
 (89, ⟨8, [.nilFunc], []⟩),
 (90, ⟨8, [.nilFunc], []⟩),
 (91, ⟨8, [.nilFunc], []⟩),
 (92, ⟨8, [.nilFunc], []⟩),
 (93, ⟨8, [.nilFunc], []⟩),
 (94, ⟨8, [.nilFunc], []⟩),
 (95, ⟨16, [.int .i64 0, .int .i64 0], [1, 1]⟩),
 (96, ⟨16, [.int .i64 0, .int .i64 0], [1, 1]⟩),
 (97, ⟨8, [.nilFunc], []⟩),
 (98, ⟨8, [.nilFunc], []⟩),
 (99, ⟨8, [.nilFunc], []⟩),
 (100, ⟨8, [.nilFunc], []⟩),
 (101, ⟨8, [.nilFunc], []⟩),
 (102, ⟨8, [.nilFunc], []⟩),
 (103, ⟨8, [.nilFunc], []⟩),
 (104, ⟨8, [.nilFunc], []⟩),
 (105, ⟨8, [.nilFunc], []⟩),
 (106, ⟨8, [.nilFunc], []⟩),
 (107, ⟨8, [.nilFunc], []⟩),
 (108, ⟨8, [.pointer none], []⟩),
 (109, ⟨8, [.pointer none], []⟩),
 (110, ⟨16, [.nilIface], []⟩),
 (111, ⟨16, [.nilIface], []⟩),
 (112, ⟨8, [.nilFunc], []⟩),
 (113, ⟨8, [.nilFunc], []⟩),
 (114, ⟨8, [.nilFunc], []⟩),
 (115, ⟨8, [.nilFunc], []⟩),
 (116, ⟨8, [.nilFunc], []⟩),
 (117, ⟨8, [.nilFunc], []⟩),
 (118, ⟨8, [.nilFunc], []⟩),
 (119, ⟨8, [.nilFunc], []⟩),
 (120, ⟨8, [.nilFunc], []⟩),
 (121, ⟨8, [.nilFunc], []⟩),
 (122, ⟨8, [.nilFunc], []⟩),
 (123, ⟨8, [.nilFunc], []⟩),
 (124, ⟨8, [.nilFunc], []⟩),
 (125, ⟨16, [.int .i64 0, .int .i64 0], [1, 1]⟩),
 (126, ⟨16, [.int .i64 0, .int .i64 0], [1, 1]⟩),
 (127, ⟨24, [.int .i64 0, .int .i64 0, .int .i64 0], [1, 1, 1]⟩),
 (128, ⟨24, [.int .i64 0, .int .i64 0, .int .i64 0], [1, 1, 1]⟩),
 (129, ⟨16, [.int .i64 0, .int .i64 0], [1, 1]⟩),
 (130, ⟨16, [.int .i64 0, .int .i64 0], [1, 1]⟩),
 (131, ⟨16, [.int .i64 0, .int .i64 0], [1, 1]⟩),
 (132, ⟨16, [.int .i64 0, .int .i64 0], [1, 1]⟩),
 (133, ⟨8, [.int .i64 0], [1]⟩),
 (134, ⟨8, [.int .i64 0], [1]⟩),
 (135, ⟨80, [.int .i64 0, .int .i64 0, .int .i64 0, .int .i64 0, .slice none 0 0, .slice none 0 0], [6]⟩),
 (136, ⟨80, [.int .i64 0, .int .i64 0, .int .i64 0, .int .i64 0, .slice none 0 0, .slice none 0 0], [6]⟩),
 (137, ⟨80, [.int .i64 0, .int .i64 0, .int .i64 0, .int .i64 0, .slice none 0 0, .slice none 0 0], [6]⟩),
 (138, ⟨80, [.int .i64 0, .int .i64 0, .int .i64 0, .int .i64 0, .slice none 0 0, .slice none 0 0], [6]⟩),
 (139, ⟨8, [.int .i64 0], [1]⟩),
 (140, ⟨8, [.int .i64 0], [1]⟩),
 (141, ⟨8, [.int .i64 0], [1]⟩),
 (142, ⟨8, [.int .i64 0], [1]⟩),
 (143, ⟨8, [.int .i64 0], [1]⟩),
 (146, ⟨8, [.nilFunc], []⟩),
 (147, ⟨24, [.slice none 0 0], []⟩),
 (148, ⟨8, [.nilFunc], []⟩),
 (149, ⟨8, [.nilFunc], []⟩),
 (150, ⟨8, [.nilFunc], []⟩),
 (151, ⟨8, [.nilFunc], []⟩),
 (152, ⟨8, [.nilFunc], []⟩),
 (153, ⟨8, [.nilFunc], []⟩),
 (154, ⟨88, [.int .i64 0, .int .i64 0, .int .i64 0, .int .i64 0, .slice none 0 0, .slice none 0 0, .int .i64 0], [6, 1]⟩),
 (155, ⟨88, [.int .i64 0, .int .i64 0, .int .i64 0, .int .i64 0, .slice none 0 0, .slice none 0 0, .int .i64 0], [6, 1]⟩),
 (156, ⟨8, [.nilFunc], []⟩),
 (157, ⟨8, [.nilFunc], []⟩),
 (158, ⟨40, [.string ByteArray.empty, .int .i64 0, .int .i64 0, .bool false, .bool false], [1, 1, 1, 1, 1]⟩),
 (159, ⟨40, [.string ByteArray.empty, .int .i64 0, .int .i64 0, .bool false, .bool false], [1, 1, 1, 1, 1]⟩),
 (161, ⟨8, [.map none], []⟩),
 (162, ⟨8, [.nilFunc], []⟩),
 (163, ⟨8, [.nilFunc], []⟩),
 (164, ⟨8, [.nilFunc], []⟩),
 (165, ⟨8, [.pointer none], []⟩),
 (166, ⟨32, [.pointer none, .slice none 0 0], [1, 1]⟩),
 (167, ⟨32, [.pointer none, .slice none 0 0], [1, 1]⟩),
 (168, ⟨16, [.nilIface], []⟩),
 (171, ⟨8, [.nilFunc], []⟩),
 (172, ⟨8, [.nilFunc], []⟩),
 (173, ⟨8, [.nilFunc], []⟩),
 (174, ⟨8, [.pointer none], []⟩),
 (175, ⟨24, [.int .u8 0, .int .u8 0, .int .u8 0, .int .u8 0, .int .u8 0, .int .u8 0, .int .u8 0, .int .u8 0, .int .u8 0, .int .u8 0, .int .u8 0, .int .u8 0, .int .u8 0, .int .u8 0, .int .u8 0, .int .u8 0, .int .u8 0, .int .u8 0, .int .u8 0, .int .u8 0, .int .u8 0, .int .u8 0, .int .u8 0, .int .u8 0], []⟩),
 (176, ⟨8, [.int .u64 0], []⟩),
 (177, ⟨8, [.nilFunc], []⟩),
 (178, ⟨8, [.nilFunc], []⟩),
 (180, ⟨8, [.nilFunc], []⟩),
 (182, ⟨8, [.nilFunc], []⟩),
 (183, ⟨8, [.nilFunc], []⟩),
 (184, ⟨160, [.int .u64 0, .int .u64 0, .int .u64 0, .int .u64 0, .int .u64 0, .int .u64 0, .int .u64 0, .int .u64 0, .int .u64 0, .int .u64 0, .int .u64 0, .int .u64 0, .int .u64 0, .int .u64 0, .int .u64 0, .int .u64 0, .int .u64 0, .int .u64 0, .int .u64 0, .int .u64 0], []⟩),
 (185, ⟨4, [.int .u32 0], []⟩),
 (187, ⟨8, [.int .u64 0], []⟩),
 (188, ⟨8, [.nilFunc], []⟩),
 (189, ⟨8, [.nilFunc], []⟩),
 (190, ⟨32, [.int .u8 0, .int .u8 0, .int .u8 0, .int .u8 0, .int .u8 0, .int .u8 0, .int .u8 0, .int .u8 0, .int .u8 0, .int .u8 0, .int .u8 0, .int .u8 0, .int .u8 0, .int .u8 0, .int .u8 0, .int .u8 0, .int .u8 0, .int .u8 0, .int .u8 0, .int .u8 0, .int .u8 0, .int .u8 0, .int .u8 0, .int .u8 0, .int .u8 0, .int .u8 0, .int .u8 0, .int .u8 0, .int .u8 0, .int .u8 0, .int .u8 0, .int .u8 0], []⟩),
 (197, ⟨8, [.nilFunc], []⟩),
 (200, ⟨8, [.nilFunc], []⟩),
 (205, ⟨8, [.nilFunc], []⟩),
 (206, ⟨8, [.nilFunc], []⟩),
 (207, ⟨8, [.nilFunc], []⟩),
 (208, ⟨8, [.int .i64 0], []⟩),
 (209, ⟨48, [.nilFunc, .nilFunc, .nilFunc, .nilFunc, .nilFunc, .nilFunc], []⟩),
 (210, ⟨8, [.nilFunc], []⟩),
 (211, ⟨8, [.nilFunc], []⟩)]
theorem ZT_ok : zOk Tryz.prog ZT := zOk_of (by kernel_rfl)
def TT : Tab := ⟨[(3, ⟨.sc, 1, []⟩),
 (4, ⟨.sc, 1, []⟩),
 (83, ⟨.agg, 6, [0, 1, 2, 3, 4, 5]⟩),
 (41, ⟨.slc 83, 1, []⟩),
 (52, ⟨.slc 3, 1, []⟩),
 (62, ⟨.agg, 5, [0, 1, 2, 3, 4]⟩),
 (51, ⟨.slc 62, 1, []⟩),
 (56, ⟨.agg, 5, [0, 1, 2, 3, 4]⟩),
 (26, ⟨.slc 41, 1, []⟩),
 (1, ⟨.sc, 1, []⟩),
 (2, ⟨.sc, 1, []⟩),
 (5, ⟨.sc, 1, []⟩),
 (9, ⟨.str, 1, []⟩),
 (12, ⟨.sc, 1, []⟩),
 (13, ⟨.agg, 2, [0, 1]⟩),
 (20, ⟨.sc, 1, []⟩),
 (21, ⟨.sc, 1, []⟩),
 (22, ⟨.slc 39, 1, []⟩),
 (23, ⟨.sc, 1, []⟩),
 (25, ⟨.sc, 1, []⟩),
 (27, ⟨.sc, 1, []⟩),
 (28, ⟨.sc, 1, []⟩),
 (29, ⟨.sc, 1, []⟩),
 (31, ⟨.sc, 1, []⟩),
 (32, ⟨.slc 56, 1, []⟩),
 (34, ⟨.sc, 1, []⟩),
 (35, ⟨.sc, 1, []⟩),
 (36, ⟨.sc, 1, []⟩),
 (37, ⟨.sc, 1, []⟩),
 (38, ⟨.sc, 1, []⟩),
 (39, ⟨.slc 75, 1, []⟩),
 (40, ⟨.sc, 1, []⟩),
 (42, ⟨.sc, 1, []⟩),
 (43, ⟨.sc, 1, []⟩),
 (45, ⟨.sc, 1, []⟩),
 (46, ⟨.sc, 1, []⟩),
 (47, ⟨.agg, 2, [0, 1]⟩),
 (48, ⟨.agg, 2, [0, 1]⟩),
 (49, ⟨.sc, 1, []⟩),
 (50, ⟨.sc, 1, []⟩),
 (53, ⟨.slc 52, 1, []⟩),
 (54, ⟨.slc 96, 1, []⟩),
 (55, ⟨.agg, 5, [0, 1, 2, 3, 4]⟩),
 (57, ⟨.sc, 1, []⟩),
 (58, ⟨.sc, 1, []⟩),
 (59, ⟨.sc, 1, []⟩),
 (60, ⟨.sc, 1, []⟩),
 (61, ⟨.agg, 5, [0, 1, 2, 3, 4]⟩),
 (63, ⟨.sc, 1, []⟩),
 (64, ⟨.sc, 1, []⟩),
 (65, ⟨.sc, 1, []⟩),
 (66, ⟨.sc, 1, []⟩),
 (67, ⟨.sc, 1, []⟩),
 (68, ⟨.sc, 1, []⟩),
 (69, ⟨.sc, 1, []⟩),
 (70, ⟨.sc, 1, []⟩),
 (71, ⟨.sc, 1, []⟩),
 (72, ⟨.sc, 1, []⟩),
 (73, ⟨.sc, 1, []⟩),
 (74, ⟨.agg, 6, [0, 1, 2, 3, 4, 5]⟩),
 (75, ⟨.agg, 6, [0, 1, 2, 3, 4, 5]⟩),
 (76, ⟨.sc, 1, []⟩),
 (77, ⟨.sc, 1, []⟩),
 (78, ⟨.sc, 1, []⟩),
 (79, ⟨.slc 9, 1, []⟩),
 (80, ⟨.sc, 1, []⟩),
 (81, ⟨.sc, 1, []⟩),
 (82, ⟨.agg, 6, [0, 1, 2, 3, 4, 5]⟩),
 (84, ⟨.sc, 1, []⟩),
 (85, ⟨.sc, 1, []⟩),
 (86, ⟨.sc, 1, []⟩),
 (87, ⟨.sc, 1, []⟩),
 (88, ⟨.sc, 1, []⟩),
 (89, ⟨.sc, 1, []⟩),
 (90, ⟨.sc, 1, []⟩),
 (91, ⟨.sc, 1, []⟩),
 (92, ⟨.sc, 1, []⟩),
 (93, ⟨.sc, 1, []⟩),
 (94, ⟨.sc, 1, []⟩),
 (95, ⟨.agg, 2, [0, 1]⟩),
 (96, ⟨.agg, 2, [0, 1]⟩),
 (97, ⟨.sc, 1, []⟩),
 (98, ⟨.sc, 1, []⟩),
 (99, ⟨.sc, 1, []⟩),
 (100, ⟨.sc, 1, []⟩),
 (101, ⟨.sc, 1, []⟩),
 (102, ⟨.sc, 1, []⟩),
 (103, ⟨.sc, 1, []⟩),
 (104, ⟨.sc, 1, []⟩),
 (105, ⟨.sc, 1, []⟩),
 (106, ⟨.sc, 1, []⟩),
 (107, ⟨.sc, 1, []⟩),
 (108, ⟨.sc, 1, []⟩),
 (109, ⟨.sc, 1, []⟩),
 (110, ⟨.sc, 1, []⟩),
 (111, ⟨.sc, 1, []⟩),
 (112, ⟨.sc, 1, []⟩),
 (113, ⟨.sc, 1, []⟩),
 (114, ⟨.sc, 1, []⟩),
 (115, ⟨.sc, 1, []⟩),
 (116, ⟨.sc, 1, []⟩),
 (117, ⟨.sc, 1, []⟩),
 (118, ⟨.sc, 1, []⟩),
 (119, ⟨.sc, 1, []⟩),
 (120, ⟨.sc, 1, []⟩),
 (121, ⟨.sc, 1, []⟩),
 (122, ⟨.sc, 1, []⟩),
 (123, ⟨.sc, 1, []⟩),
 (124, ⟨.sc, 1, []⟩),
 (125, ⟨.agg, 2, [0, 1]⟩),
 (126, ⟨.agg, 2, [0, 1]⟩),
 (127, ⟨.agg, 3, [0, 1, 2]⟩),
 (128, ⟨.agg, 3, [0, 1, 2]⟩),
 (129, ⟨.agg, 2, [0, 1]⟩),
 (130, ⟨.agg, 2, [0, 1]⟩),
 (131, ⟨.agg, 2, [0, 1]⟩),
 (132, ⟨.agg, 2, [0, 1]⟩),
 (133, ⟨.agg, 1, [0]⟩),
 (134, ⟨.agg, 1, [0]⟩),
 (135, ⟨.agg, 6, [0]⟩),
 (136, ⟨.agg, 6, [0]⟩),
 (137, ⟨.agg, 6, [0]⟩),
 (138, ⟨.agg, 6, [0]⟩),
 (139, ⟨.agg, 1, [0]⟩),
 (140, ⟨.agg, 1, [0]⟩),
 (141, ⟨.agg, 1, [0]⟩),
 (142, ⟨.agg, 1, [0]⟩),
 (143, ⟨.agg, 1, [0]⟩),
 (146, ⟨.sc, 1, []⟩),
 (147, ⟨.slc 5, 1, []⟩),
 (148, ⟨.sc, 1, []⟩),
 (149, ⟨.sc, 1, []⟩),
 (150, ⟨.sc, 1, []⟩),
 (151, ⟨.sc, 1, []⟩),
 (152, ⟨.sc, 1, []⟩),
 (153, ⟨.sc, 1, []⟩),
 (154, ⟨.agg, 7, [0, 6]⟩),
 (155, ⟨.agg, 7, [0, 6]⟩),
 (156, ⟨.sc, 1, []⟩),
 (157, ⟨.sc, 1, []⟩),
 (158, ⟨.agg, 5, [0, 1, 2, 3, 4]⟩),
 (159, ⟨.agg, 5, [0, 1, 2, 3, 4]⟩),
 (161, ⟨.sc, 1, []⟩),
 (162, ⟨.sc, 1, []⟩),
 (163, ⟨.sc, 1, []⟩),
 (164, ⟨.sc, 1, []⟩),
 (165, ⟨.sc, 1, []⟩),
 (166, ⟨.agg, 2, [0, 1]⟩),
 (167, ⟨.agg, 2, [0, 1]⟩),
 (168, ⟨.sc, 1, []⟩),
 (171, ⟨.sc, 1, []⟩),
 (172, ⟨.sc, 1, []⟩),
 (173, ⟨.sc, 1, []⟩),
 (174, ⟨.sc, 1, []⟩),
 (175, ⟨.arr 24 5, 24, []⟩),
 (176, ⟨.sc, 1, []⟩),
 (177, ⟨.sc, 1, []⟩),
 (178, ⟨.sc, 1, []⟩),
 (180, ⟨.sc, 1, []⟩),
 (182, ⟨.sc, 1, []⟩),
 (183, ⟨.sc, 1, []⟩),
 (184, ⟨.arr 20 176, 20, []⟩),
 (185, ⟨.sc, 1, []⟩),
 (186, ⟨.arr 65 5, 65, []⟩),
 (187, ⟨.sc, 1, []⟩),
 (188, ⟨.sc, 1, []⟩),
 (189, ⟨.sc, 1, []⟩),
 (190, ⟨.arr 32 5, 32, []⟩),
 (191, ⟨.arr 64 5, 64, []⟩),
 (197, ⟨.sc, 1, []⟩),
 (200, ⟨.sc, 1, []⟩),
 (205, ⟨.sc, 1, []⟩),
 (206, ⟨.sc, 1, []⟩),
 (207, ⟨.sc, 1, []⟩),
 (208, ⟨.sc, 1, []⟩),
 (209, ⟨.arr 6 206, 6, []⟩),
 (210, ⟨.sc, 1, []⟩),
 (211, ⟨.sc, 1, []⟩)], ZT⟩
theorem Tk : tabOk Tryz.prog TT := tabOk_of (by kernel_rfl) ZT_ok
theorem MO : Tryz.prog.follows .mixedOrders = true := by kernel_rfl
inductive Stm where
 | mk (kind a b n : Int) (body els : List Stm)
def Stm.kind : Stm → Int | .mk k _ _ _ _ _ => k
def Stm.a : Stm → Int | .mk _ a _ _ _ _ => a
def Stm.b : Stm → Int | .mk _ _ b _ _ _ => b
def Stm.n : Stm → Int | .mk _ _ _ n _ _ => n
def Stm.body : Stm → List Stm | .mk _ _ _ _ x _ => x
def Stm.els : Stm → List Stm | .mk _ _ _ _ _ y => y
def I64 (n : Int) : Prop := -9223372036854775808 ≤ n ∧ n ≤ 9223372036854775807
def Sl (G : PH) (row : Addr → Prop) (n : Nat) (v : Value) : Prop :=
 ∃ A c, v = .slice A n c ∧ n ≤ 1000000000 ∧ n ≤ c ∧ c ≤ maxLen ∧ (n = 0 ∨ ∃ ad, A = some ad ∧ row ad)
mutual
/-- the six cells of a statement -/
def Stm.rep (G : PH) : Stm → List Value → Prop
 | .mk k a b n x y, cs => ∃ vx vy, cs = [.int .i64 k, .int .i64 a, .int .i64 b, .int .i64 n, vx, vy] ∧ I64 k ∧ I64 a ∧ I64 b ∧ I64 n ∧ Sl G (Stm.row G x) x.length vx ∧ Sl G (Stm.row G y) y.length vy
def Stm.row (G : PH) : List Stm → Addr → Prop
 | [], _ => True
 | s :: r, ad => (∃ cs, gcells G ad cs ∧ Stm.rep G s cs) ∧ Stm.row G r (ad.add 6)
end
section
variable {C : Ctx} {ks : List Nat} {all : Array Oper} {k : List It} {E : Env} {ι : Ids} {L : List Ent} {G : PH} {R : List Nat} {pend : List Pd}
theorem Va {N : Nat} {k' : List It} {E' : Env} {L' : List Ent} (hN : C.n = N) (h : adv TT N ι 1000 k E L = (k', E', L')) (hx : X C k' E' ι L' G) (hT : tabOk C.P TT := by exact Tk) : X C k E ι L G := S_adv hT hN 1000 h hx
theorem Da {R1 R' : List Nat} {pend' : List Pd} (ha : dadv ks TT C.n ι all L E R [] pend = (R1, pend')) (hv : strN (rev2 R1 []) = some R') (hx : D C ks all k R' pend' E ι L G) (hT : tabOk C.P TT := by exact Tk) (hn : R.Nodup := by decide) : D C ks all k R pend E ι L G := D_adv hT hn ha hv hx
theorem Ds {id : Nat} {ops : Array Oper} {dl : List Nat} {E' : Env} {U : List Nat} (hn : strN (upto ops.size) = some U) (hds : strN (strictDsts ops.toList) = some dl) (hE : strE (dropE dl E) = some E') (h : D C [] ops k U [] E' ι L G) (hm : C.P.follows .mixedOrders = true := by exact MO) (hok : regOk [] ops = true := by kernel_rfl) : X C (.code (.region id ops true) :: k) E ι L G := D_start hm hn hds hE hok h
theorem Ns (j : Nat) {o : Oper} {R' : List Nat} {pend' : List Pd} {E' : Env} {L' : List Ent} (h1 : soleB all R j R = true) (h2 : memN j R = true) (ho : nthOp j all.toList = some o) (hd : o.dst = none) (hR : strN (remN j R) = some R') (hp' : strP (dropP (edgeN o.after.toList) pend) = some pend') (hE : strE (penv (takeP (edgeN o.after.toList) pend) ++ E) = some E') (hg : guardOf all E' o.guard = .on) (hst : storeOp TT E' ι L o.op = some L') (h : D C ks all k R' pend' E' ι L' G) (hT : tabOk C.P TT := by exact Tk) (hrc : rechk ks TT C.n ι all L' (penv pend' ++ E') E' pend' = some pend' := by kernel_rfl) : D C ks all k R pend E ι L G := D_sole j h1 h2 (N_store hT j ho hd h2 hR hp' hE hg hst hrc h)
end
section
variable {C : Ctx} {ks : List Nat} {all : Array Oper} {k : List It} {E : Env} {ι : Ids} {L : List Ent} {G : PH} {R : List Nat} {pend : List Pd}
theorem Nt (j : Nat) {o : Oper} {R' : List Nat} {pend' : List Pd} {E' : Env} (h1 : soleB all R j R = true) (h2 : memN j R = true) (ho : nthOp j all.toList = some o) (hR : strN (remN j R) = some R') (hp' : strP (dropP (edgeN o.after.toList) pend) = some pend') (hE : strE (penv (takeP (edgeN o.after.toList) pend) ++ E) = some E')
  (hx : (∀ (E'' : Env) (ι' : Ids) (L' : List Ent) (G' : PH), rechk ks TT C.n ι' all L' (penv pend' ++ E'') E'' pend' = some pend' → D C ks all k R' pend' E'' ι' L' G' → X C (.ops all [] :: .stop (DR C all k R' pend') :: k) E'' ι' L' G') →
      X C (.ops all [o] :: .stop (DR C all k R' pend') :: k) E' ι L G) (hT : tabOk C.P TT := by exact Tk) : D C ks all k R pend E ι L G := D_sole j h1 h2 (N_turn hT j ho hR hp' hE hx)
end
end
section
section
variable {α : Type}
def Rw (G : PH) (sz : Nat) (rep : α → List Value → Prop) : List α → Addr → Prop
 | [], _ => True
 | x :: r, ad => (∃ cs, gcells G ad cs ∧ rep x cs) ∧ Rw G sz rep r (ad.add sz)
def Cs (sz : Nat) (rep : α → List Value → Prop) : List α → List Value → Prop
 | [], xs => xs = []
 | x :: r, xs => ∃ cs ys, xs = cs ++ ys ∧ cs.length = sz ∧ rep x cs ∧ Cs sz rep r ys
def Sr (G : PH) (sz : Nat) (rep : α → List Value → Prop) (L : List α) (v : Value) : Prop := Sl G (Rw G sz rep L) L.length v
variable {G G' : PH} {sz : Nat} {rep rep' : α → List Value → Prop}
theorem Rw_mono (hl : G.le G') {L : List α} (hr : ∀ x ∈ L, ∀ cs, rep x cs → rep' x cs) {ad : Addr} (h : Rw G sz rep L ad) : Rw G' sz rep' L ad := by
 induction L generalizing ad with
 | nil => trivial
 | cons x L ih =>
  obtain ⟨⟨cs, h1, h2⟩, h3⟩ := h
  exact ⟨⟨cs, gcells_le hl h1, hr x (List.mem_cons_self ..) cs h2⟩, ih (fun y hy => hr y (List.mem_cons_of_mem _ hy)) h3⟩
theorem Cs_mono {L : List α} (hr : ∀ x ∈ L, ∀ cs, rep x cs → rep' x cs) {xs : List Value} (h : Cs sz rep L xs) : Cs sz rep' L xs := by
 induction L generalizing xs with
 | nil => exact h
 | cons x L ih =>
  obtain ⟨cs, ys, h1, h2, h3, h4⟩ := h
  exact ⟨cs, ys, h1, h2, hr x (List.mem_cons_self ..) cs h3, ih (fun y hy => hr y (List.mem_cons_of_mem _ hy)) h4⟩
theorem Sr_mono (hl : G.le G') {L : List α} (hr : ∀ x ∈ L, ∀ cs, rep x cs → rep' x cs) {v : Value} (h : Sr G sz rep L v) : Sr G' sz rep' L v := by
 obtain ⟨A, c, h1, h2, h3, h4, h5⟩ := h
 refine ⟨A, c, h1, h2, h3, h4, ?_⟩
 rcases h5 with h5 | ⟨ad, h5, h6⟩
 ·exact .inl h5
 ·exact .inr ⟨ad, h5, Rw_mono hl hr h6⟩
theorem Cs_append {L : List α} {xs : List Value} (h : Cs sz rep L xs) {x : α} {cs : List Value} (hx : rep x cs) (hc : cs.length = sz) : Cs sz rep (L ++ [x]) (xs ++ cs) := by
 induction L generalizing xs with
 | nil => cases h; exact ⟨cs, [], by simp, hc, hx, J⟩
 | cons y L ih =>
  obtain ⟨ds, ys, rfl, h2, h3, h4⟩ := h
  exact ⟨ds, ys ++ cs, by simp, h2, h3, ih h4⟩
theorem Cs_length {L : List α} {xs : List Value} (h : Cs sz rep L xs) : xs.length = L.length * sz := by
 induction L generalizing xs with
 | nil => cases h; simp
 | cons y L ih =>
  obtain ⟨ds, ys, rfl, h2, h3, h4⟩ := h
  simp only [List.length_append, h2, ih h4, List.length_cons, Nat.succ_mul]; omega
theorem gcells_append {ad : Addr} {cs ys : List Value} (h : gcells G ad (cs ++ ys)) : gcells G ad cs ∧ gcells G (ad.add cs.length) ys := by
 induction cs generalizing ad with
 | nil => exact ⟨trivial, by rw [List.length_nil, add_zero']; exact h⟩
 | cons c cs ih =>
  obtain ⟨h1, h2⟩ := h
  obtain ⟨h3, h4⟩ := ih h2
  rw [add_add'] at h4
  exact ⟨⟨h1, h3⟩, by rw [List.length_cons, Nat.add_comm]; exact h4⟩
theorem Rw_of {L : List α} {xs : List Value} (h : Cs sz rep L xs) {ad : Addr} (hg : gcells G ad xs) : Rw G sz rep L ad := by
 induction L generalizing xs ad with
 | nil => trivial
 | cons y L ih =>
  obtain ⟨ds, ys, rfl, h2, h3, h4⟩ := h
  obtain ⟨h5, h6⟩ := gcells_append hg
  rw [h2] at h6
  exact ⟨⟨ds, h5, h3⟩, ih h4 h6⟩
theorem Rw_at {L : List α} {ad : Addr} (h : Rw G sz rep L ad) {k : Nat} (hk : k < L.length) : ∃ cs, gcells G (ad.add (k * sz)) cs ∧ rep L[k] cs := by
 induction L generalizing ad k with
 | nil => simp at hk
 | cons s r ih =>
  obtain ⟨h1, h2⟩ := h
  cases k with
  | zero => simpa [add_zero'] using h1
  | succ k =>
   obtain ⟨cs, h3, h4⟩ := ih h2 (k := k) (by simpa using hk)
   rw [add_add'] at h3
   exact ⟨cs, by rw [show (k + 1) * sz = sz + k * sz by rw [Nat.succ_mul]; omega]; exact h3, by simpa using h4⟩
theorem Sr_nil {L : List α} (h : L = []) : Sr G sz rep L (.slice none 0 0) := by
 subst h
 exact ⟨none, 0, J, by simp, by simp, by decide, .inl J⟩
theorem Sr_of {L : List α} {xs : List Value} (h : Cs sz rep L xs) {v : Value} {n : Nat} (hn : n = L.length) (hb : L.length ≤ 1000000000) (hsz : 0 < sz)
  (hv : v = .slice none 0 0 ∧ n = 0 ∧ xs = [] ∨ ∃ g cap, v = .slice (some ⟨g, 0, none⟩) n cap ∧ n ≤ cap ∧ cap ≤ maxLen ∧ gcells G ⟨g, 0, none⟩ xs) : Sr G sz rep L v := by
 subst hn
 rcases hv with ⟨rfl, h1, rfl⟩ | ⟨g, cap, rfl, h1, h2, h3⟩
 ·exact ⟨none, 0, by rw [h1], by omega, by omega, by decide, .inl h1⟩
 ·exact ⟨some ⟨g, 0, none⟩, cap, J, hb, h1, h2, .inr ⟨_, J, Rw_of h h3⟩⟩
theorem Sr_at {L : List α} {A : Option Addr} {n c : Nat} (h : Sr G sz rep L (.slice A n c)) {k : Nat} (hk : k < L.length) : ∃ ad cs, A = some ad ∧ gcells G (ad.add (k * sz)) cs ∧ rep L[k] cs := by
 obtain ⟨A', c', e, _, _, _, h5⟩ := h
 cases e
 rcases h5 with h5 | ⟨ad, rfl, h6⟩
 ·omega
 ·obtain ⟨cs, h7, h8⟩ := Rw_at h6 hk
  exact ⟨ad, cs, J, h7, h8⟩
end
theorem Stm.row_eq {G : PH} : ∀ (L : List Stm) (ad : Addr), Stm.row G L ad ↔ Rw G 6 (Stm.rep G) L ad
 | [], _ => by simp [Stm.row, Rw]
 | s :: L, ad => by simp only [Stm.row, Rw, Stm.row_eq L]
theorem Stm.rep_iff {G : PH} {k a b n : Int} {x y : List Stm} {cs : List Value} : Stm.rep G (.mk k a b n x y) cs ↔ ∃ vx vy, cs = [.int .i64 k, .int .i64 a, .int .i64 b, .int .i64 n, vx, vy] ∧ I64 k ∧ I64 a ∧ I64 b ∧ I64 n ∧ Sr G 6 (Stm.rep G) x vx ∧ Sr G 6 (Stm.rep G) y vy := by
 have e : ∀ L : List Stm, Stm.row G L = Rw G 6 (Stm.rep G) L := fun L => funext fun ad => propext (Stm.row_eq L ad)
 simp only [Stm.rep, Sr, e]
theorem Stm.rep_len {G : PH} {s : Stm} {cs : List Value} (h : Stm.rep G s cs) : cs.length = 6 := by
 cases s
 obtain ⟨vx, vy, e, _⟩ := Stm.rep_iff.1 h
 simp [e]
mutual
theorem Stm.rep_le {G G' : PH} (hl : G.le G') : ∀ (s : Stm) (cs : List Value), Stm.rep G s cs → Stm.rep G' s cs
 | .mk k a b n x y, cs, h => by
  obtain ⟨vx, vy, e, h1, h2, h3, h4, h5, h6⟩ := Stm.rep_iff.1 h
  exact Stm.rep_iff.2 ⟨vx, vy, e, h1, h2, h3, h4, Sr_mono hl (Stm.reps_le hl x) h5, Sr_mono hl (Stm.reps_le hl y) h6⟩
theorem Stm.reps_le {G G' : PH} (hl : G.le G') : ∀ (L : List Stm), ∀ s ∈ L, ∀ cs, Stm.rep G s cs → Stm.rep G' s cs
 | [], s, hs, _, _ => by cases hs
 | t :: L, s, hs, cs, h => by
  rcases List.mem_cons.1 hs with e | hs'
  ·rw [e] at h ⊢; exact Stm.rep_le hl t cs h
  ·exact Stm.reps_le hl L s hs' cs h
end
abbrev Sts (G : PH) (L : List Stm) (v : Value) : Prop := Sr G 6 (Stm.rep G) L v
theorem Sts_le {G G' : PH} (hl : G.le G') {L : List Stm} {v : Value} (h : Sts G L v) : Sts G' L v := Sr_mono hl (Stm.reps_le hl L) h
theorem Sts_Sl {G : PH} {L : List Stm} {v : Value} : Sts G L v ↔ Sl G (Stm.row G L) L.length v := by
 have e : ∀ L : List Stm, Stm.row G L = Rw G 6 (Stm.rep G) L := fun L => funext fun ad => propext (Stm.row_eq L ad)
 simp only [Sr, e]
def intRep (n : Int) (cs : List Value) : Prop := cs = [.int .i64 n] ∧ I64 n
abbrev Ints (G : PH) (L : List Int) (v : Value) : Prop := Sr G 1 intRep L v
theorem Ints_le {G G' : PH} (hl : G.le G') {L : List Int} {v : Value} (h : Ints G L v) : Ints G' L v := Sr_mono hl (fun _ _ _ h => h) h
def stsRep (G : PH) (L : List Stm) (cs : List Value) : Prop := ∃ v, cs = [v] ∧ Sts G L v
abbrev Prg (G : PH) (p : List (List Stm)) (v : Value) : Prop := Sr G 1 (stsRep G) p v
theorem stsRep_le {G G' : PH} (hl : G.le G') {L : List Stm} {cs : List Value} (h : stsRep G L cs) : stsRep G' L cs := by
 obtain ⟨v, h1, h2⟩ := h
 exact ⟨v, h1, Sts_le hl h2⟩
theorem Prg_le {G G' : PH} (hl : G.le G') {p : List (List Stm)} {v : Value} (h : Prg G p v) : Prg G' p v := Sr_mono hl (fun _ _ _ h => stsRep_le hl h) h
end
section
section
variable {C : Ctx} {k : List It} {E : Env} {ι : Ids} {L : List Ent} {G : PH} {all : Array Oper} {l : List Oper}
theorem set_mid {l : List Value} {o : Nat} {v : Value} (h : o < l.length) : l.take o ++ [v] ++ l.drop (o + 1) = l.set o v := by
 rw [List.set_eq_take_append_cons_drop, if_pos h]; simp
theorem S_storeO {T : Tab} (hT : tabOk C.P T) (κ : Nat) {base e sz t : Nat} {i : TyI} {x y : Operand} {s : Sym} {gb off o n c ty : Nat} {v : Value} {xs : List Value} {L' : List Ent} {pos : String} {af : Array Edge} {g : Option (Nat × Bool)} {ad : Addr}
  (hL : getH κ L = some (rowO base e sz (some ⟨gb, off, none⟩) n c xs)) (hL' : setH κ (rowO base e sz (some ⟨gb, off, none⟩) n c (xs.set o v)) L = some L')
  (hx : ev E x = some (.val (.pointer (some ad)))) (had : ad = ⟨gb, off + o, none⟩) (hy : ev E y = some s) (hys : denO ι s = some v) (hone : v.oneCell' = true) (ht : lookT t T = some i) (hsz : i.size = 1) (ho : o < xs.length) (hg : guardOf all E g = .on)
  (hk : X C (.ops all l :: k) E ι L' G) : X C (.ops all (⟨none, .store t x y, ty, pos, af, g⟩ :: l) :: k) E ι L G := by
 intro a w h1 h2 h3 h4
 obtain ⟨S, hA, hSG, hturn⟩ := h4.turn hL
 obtain ⟨q1, q2, q3, q4⟩ := hA
 rcases q4 with ⟨q, _⟩ | ⟨g', off', cur, q, q0, q5, q6, q7, q8⟩
 ·cases q
 cases q
 have ex := ev_sound h3 hx
 have ey := ev_sound h3 hy
 subst had
 rw [hys] at ey
 simp only [denO, Option.some.injEq] at ex ey
 have hfit : off + o + [v].length ≤ cur.toList.length := by
  have h6 : xs.length ≤ cur.toList.length - off := by
   have := congrArg List.length q7
   simp only [List.length_take, List.length_drop] at this
   omega
  simp only [List.length_singleton]
  omega
 obtain ⟨w', hr, hh', hoth, e1, e2, e3, e4⟩ := run_storeCells_blk (P := C.P) (w := w) (b := gb) (o := off + o) (ty := e) (cs := cur.toList) (vs := [v]) (by simpa using q5) hfit (by intro u hu; rw [List.mem_singleton.1 hu]; exact hone)
 have hrun : (execOp a.eval ⟨none, .store t x y, ty, pos, af, g⟩).run C.P w = .ok .skip w' := by
  have hcells : (a.eval y).cells = [v].toArray := by
   rw [← ey]; exact oneCell_of (P := C.P) hone
  simp only [execOp, ← ex]
  simp [Instr.storeAt, Instr.sureAddr, storeVar, tyOk_size (hT _ _ ht), hsz, hcells]
  rw [hr]
  try simp
 refine wpE_skipv (guardOf_on h3 hg) (by rintro c h; cases h) hrun ?_;refine hk _ _ h1 h2 h3 ?_;refine hturn _ _ G w' S hL' ?_ (fun b o' hb => ?_) XR (fun b hb => ⟨hSG b hb, .inl hb⟩) e1 e2 e3 (by rw [e4]; exact Nat.le_refl _) fun b _ hn => hoth b fun h => hn ((q8 b).2 h)
 ·refine ⟨by simpa using q1, q2, q3, .inr ⟨gb, off, _, J, q0, hh', ?_, ?_, q8⟩⟩
  ·simp at hfit ⊢; omega
  ·rw [List.length_singleton, set_mid (by simp at hfit ⊢; omega)]
   simp only [List.toList_toArray, List.length_set]
   rw [List.drop_set, if_neg (by omega), List.take_set, q7]
   congr 1
   omega
 ·rw [hoth b (by rintro rfl; have := hSG _ ((q8 _).2 rfl); rw [this] at hb; cases hb)]
  exact h4.emb b o' hb
end
theorem V_loadRA {C : Ctx} {ι : Ids} {E : Env} {L : List Ent} {G : PH} {d : Option Nat} {ty : Nat} {pos : String} {af : Array Edge} {g : Option (Nat × Bool)} {T : Tab} (hT : tabOk C.P T) (κ : Nat) {t m : Nat} {os : List Nat} {x : Operand} {gb off o : Nat} {base e sz : Nat} {n c : Nat} {xs cs : List Value} {ad : Addr}
  (hL : getH κ L = some (rowO base e sz (some ⟨gb, off, none⟩) n c xs)) (hx : ev E x = some (.val (.pointer (some ad)))) (had : ad = ⟨gb, off + o, none⟩) (ht : lookT t T = some ⟨.agg, m, os⟩) (hcs : (xs.drop o).take m = cs) (hl : cs.length = m) : Vl C ι E L G ⟨d, .load t x, ty, pos, af, g⟩ (.agg cs.toArray) := by
 intro a w hE hw
 subst had
 obtain ⟨Ss, ho, _⟩ := hw.own
 obtain ⟨S, ⟨q1, q2, q3, q4⟩, _⟩ := owns_split ho hL
 have ex := ev_sound hE hx
 simp only [denO, Option.some.injEq] at ex
 rcases q4 with ⟨q4, _⟩ | ⟨g', off', cur, q, _, q5, q6, q7, q8⟩
 ·cases q4
 ·cases q
  have hcell : ∀ j v, cs[j]? = some v → w.cell? ((⟨gb, off + o, none⟩ : Addr).add j) = some v := by
   intro j v hj
   have hjm : j < m := by rw [← hl]; exact (List.getElem?_eq_some_iff.1 hj).1
   have hj' : xs[o + j]? = some v := by
    rw [← hj, ← hcs, List.getElem?_take_of_lt hjm, List.getElem?_drop]
   have := cells_at q5 q7 (o + j) v hj'
   rw [add_lit'] at this ⊢
   rw [Nat.add_assoc]; exact this
  have hr := run_loadCells_list (P := C.P) (w := w) ⟨gb, off + o, none⟩ cs hcell
  rw [hl] at hr
  have hag : (match (⟨.agg, m, os⟩ : TyI).k with | .agg => true | _ => false) = true := rfl
  simp only [execOp, ← ex]
  simp [Instr.loadAt, loadVar, Instr.sureAddr, tyOk_agg (hT _ _ ht), TK.isAgg, tyOk_size (hT _ _ ht), hr]
theorem Cs_at {α : Type} {sz : Nat} {rep : α → List Value → Prop} : ∀ {L : List α} {xs : List Value} {k : Nat} (h : Cs sz rep L xs) (hk : k < L.length), ∃ cs, (xs.drop (k * sz)).take sz = cs ∧ cs.length = sz ∧ rep L[k] cs ∧ ∀ f v x', f < sz → rep x' (cs.set f v) → Cs sz rep (L.set k x') (xs.set (k * sz + f) v)
 | [], _, _, _, hk => by simp at hk
 | x :: L, xs, 0, h, _ => by
  obtain ⟨cs, ys, rfl, h2, h3, h4⟩ := h
  refine ⟨cs, by simp [← h2], h2, h3, fun f v x' hf hx => ?_⟩
  rw [Nat.zero_mul, Nat.zero_add, List.set_append_left _ _ (by omega)]
  exact ⟨cs.set f v, ys, J, by simpa using h2, hx, h4⟩
 | x :: L, xs, k + 1, h, hk => by
  obtain ⟨cs, ys, rfl, h2, h3, h4⟩ := h
  obtain ⟨ds, e1, e2, e3, e4⟩ := Cs_at h4 (k := k) (by simpa using hk)
  refine ⟨ds, ?_, e2, by simpa using e3, fun f v x' hf hx => ?_⟩
  ·rw [Nat.succ_mul, Nat.add_comm, ← List.drop_drop, List.drop_left' h2]; exact e1
  ·rw [Nat.succ_mul, List.set_append_right _ _ (by rw [h2]; omega)]
   refine ⟨cs, _, J, h2, h3, ?_⟩
   have := e4 f v x' hf hx
   rw [show k * sz + sz + f - cs.length = k * sz + f by omega]
   exact this
end
section
def tx (l : List UInt8) : Value := .string ⟨l.toArray⟩
theorem ba_append (l m : List UInt8) : ((⟨l.toArray⟩ : ByteArray) ++ ⟨m.toArray⟩) = ⟨(l ++ m).toArray⟩ := by
 apply ByteArray.ext
 show ((⟨l.toArray⟩ : ByteArray) ++ ⟨m.toArray⟩).data = _
 rw [ByteArray.data_append]; simp
section
variable {C : Ctx} {all : Array Oper} {l : List Oper} {k : List It} {E : Env} {ι : Ids} {L : List Ent} {G : PH} {d : Option Nat} {ty : Nat} {pos : String} {af : Array Edge} {g : Option (Nat × Bool)}
theorem V_addT {t t' : Nat} {x y : Operand} {p q : List UInt8} {a b : ByteArray} (hx : ev E x = some (.val (.string a))) (hy : ev E y = some (.val (.string b))) (ha : a = ⟨p.toArray⟩) (hb : b = ⟨q.toArray⟩) (hn : p.length + q.length ≤ 9223372036854775807) : Vl C ι E L G ⟨d, .binOp .add t x y t', ty, pos, af, g⟩ (tx (p ++ q)) := by
 intro a' w hE hw
 have ex := ev_sound hE hx
 have ey := ev_sound hE hy
 simp only [denO, Option.some.injEq] at ex ey
 subst ha hb
 have := run_string_add_sum (P := C.P) (w := w) ⟨p.toArray⟩ ⟨q.toArray⟩ (by simpa [ByteArray.size] using hn)
 simp only [execOp, ← ex, ← ey]
 simp [eqGuard, binOp, this, ba_append, tx]
theorem ba_beq (a b : ByteArray) : (a == b) = decide (a = b) := by
 cases a with
 | mk x =>
  cases b with
  | mk y =>
   show (x == y) = _
   by_cases h : x = y
   ·subst h; simp
   ·rw [decide_eq_false (by simpa using h)]; exact beq_eq_false_iff_ne.2 h
theorem tx_inj {l m : List UInt8} : (⟨l.toArray⟩ : ByteArray) = ⟨m.toArray⟩ ↔ l = m := by
 constructor
 ·intro h
  have := congrArg (fun b : ByteArray => b.data.toList) h
  simpa using this
 ·rintro rfl; rfl
theorem V_eqT {t t' : Nat} {x y : Operand} {p q : List UInt8} (hg : C.P.eqGuardType C.P.depth t = false) (hx : ev E x = some (.val (tx p))) (hy : ev E y = some (.val (tx q))) : Vl C ι E L G ⟨d, .binOp .eql t x y t', ty, pos, af, g⟩ (.bool (decide (p = q))) := by
 intro a' w hE hw
 have ex := ev_sound hE hx
 have ey := ev_sound hE hy
 simp only [denO, Option.some.injEq, tx] at ex ey
 simp only [execOp, ← ex, ← ey]
 simp [eqGuard, hg, binOp, Op.stringOp]
 by_cases h : p = q <;> simp [h]
theorem V_convT {t t' e : Nat} {x : Operand} {ad : Addr} {c : Nat} {p : List UInt8} (hs : C.P.underlying t = some (.slice e)) (he : C.P.underlying e = some (.int .u8)) (hd : C.P.underlying t' = some .string) (hx : ev E x = some (.val (.slice (some ad) p.length c))) (hc : ∀ j (hj : j < p.length), gcell G (ad.add j) = some (.int .u8 (p[j].toNat : Int))) : Vl C ι E L G ⟨d, .convert t t' x, ty, pos, af, g⟩ (tx p) := by
 intro a w hE hw
 have ex := ev_sound hE hx
 simp only [denO, Option.some.injEq] at ex
 have := run_convert_bytes_back (P := C.P) w t t' e ad c p hs he hd fun j hj => gcell_emb hw.emb (hc j hj)
 simp only [execOp, ← ex]
 simp [this, tx]
end
def entT (x : List UInt8 × Nat) : MapEntry := { key := tx x.1, val := .bool true, born := x.2 }
def mapT (ts : List (List UInt8)) : Obj := .map (ts.zipIdx.map entT).toArray ts.length
theorem mapT_push (ts : List (List UInt8)) (t : List UInt8) : Obj.map ((ts.zipIdx.map entT).toArray.push { key := tx t, val := .bool true, born := ts.length }) (ts.length + 1) = mapT (ts ++ [t]) := by
 simp [mapT, List.zipIdx_append, entT]
theorem findNow_T {x : List UInt8} : ∀ {ts : List (List UInt8)} {n i : Nat}, ∃ r, Instr.findNow .string (tx x) ((ts.zipIdx n).map entT) i = some r ∧ r.map (·.2) = if x ∈ ts then some (.bool true) else none := by
 intro ts
 induction ts with
 | nil => intro n i; exact ⟨none, J, J⟩
 | cons t ts ih =>
  intro n i
  simp only [List.zipIdx_cons, List.map_cons, entT, Instr.findNow, tx, Instr.sameNow]
  by_cases h : x = t
  ·subst h
   have h1 : ((⟨x.toArray⟩ : ByteArray) == ⟨x.toArray⟩) = true := by rw [ba_beq]; simp
   simp [h1]
  ·have h1 : ((⟨x.toArray⟩ : ByteArray) == ⟨t.toArray⟩) = false := by rw [ba_beq]; exact decide_eq_false fun e => h (tx_inj.1 e)
   obtain ⟨r, hr, hm⟩ := ih (n := n + 1) (i := i + 1)
   refine ⟨r, ?_, ?_⟩
   ·simp only [h1]; exact hr
   ·rw [hm]; simp [h]
section
variable {C : Ctx} {all : Array Oper} {l : List Oper} {k : List It} {E : Env} {ι : Ids} {L : List Ent} {G : PH}
theorem S_lookT (κ : Nat) {d t kt et b : Nat} {m x : Operand} {p : List UInt8} {ts : List (List UInt8)} {ty : Nat} {pos : String} {af : Array Edge} {g : Option (Nat × Bool)}
  (hu : C.P.underlying t = some (.map kt et)) (hk' : C.P.underlying kt = some .string) (hz : ∀ w, (zeroValue et).run C.P w = .ok (.bool false) w) (hg : guardOf all E g = .on) (hN : Nat.ble (d + 1) C.n = true) (hm : ev E m = some (.val (.map (some b)))) (hx : ev E x = some (.val (tx p)))
  (hL : getH κ L = some (objHP b (mapT ts))) (hk : X C (.ops all l :: k) ((d, .val (.bool (decide (p ∈ ts)))) :: E) ι L G) : X C (.ops all (⟨some d, .lookup t m x false, ty, pos, af, g⟩ :: l) :: k) E ι L G := by
 intro a w h1 h2 h3 h4
 have em := ev_sound h3 hm
 have ex := ev_sound h3 hx
 simp only [denO, Option.some.injEq] at em ex
 obtain ⟨S, hA, hSG, hturn⟩ := h4.turn hL
 have hb : w.heap[b]? = some (.map (ts.zipIdx.map entT).toArray ts.length) := hA.1
 obtain ⟨r, hr1, hr2⟩ := findNow_T (x := p) (ts := ts) (n := 0) (i := 0)
 have hf := MapKept.run_findKey (P := C.P) (w := w) hk' hr1
 have hrun : (execOp a.eval ⟨some d, .lookup t m x false, ty, pos, af, g⟩).run C.P w = .ok (.value (.bool (decide (p ∈ ts)))) w := by
  have hc := MapKept.run_checkKey (P := C.P) (w := w) (k := tx p) hk' (by simp [MapKept.IsKey, tx]) ((ts.zipIdx.map entT).toArray).isEmpty 9999
  simp only [execOp, ← em, ← ex]
  cases r with
  | none =>
   have hn : p ∉ ts := by intro h; rw [if_pos h] at hr2; cases hr2
   simp at hc
   simp [Instr.lookup, run_underlying hu, MapKept.run_getObj_map hb, hc, hf, hz, Result.andThen, hn]
  | some q =>
   have hn : p ∈ ts := by
    by_cases h : p ∈ ts
    ·exact h
    ·rw [if_neg h] at hr2; cases hr2
   rw [if_pos hn] at hr2
   simp only [Option.map_some, Option.some.injEq] at hr2
   simp at hc
   simp [Instr.lookup, run_underlying hu, MapKept.run_getObj_map hb, hc, hf, Result.andThen, hn, hr2]
 have hdn : d < a.tmps.size := by rw [h2]; exact Nat.le_of_ble_eq_true hN
 refine wpE_val (guardOf_on h3 hg) (by intro c h; cases h) hrun ?_;exact hk _ _ h1 (by simp [Act.put, h2]) (h3.put hdn J) h4
end
end
section
structure Prc where
 r0 : Int
 r1 : Int
 r2 : Int
 todo : List Stm
 mode : Int
 on : Int
 room : Int
structure Wld where
 procs : List Prc
 c0 : Int
 c1 : Int
 c2 : Int
 m0 : Int
 m1 : Int
 q0 : List Int
 q1 : List Int
 said : List (Int × Int)
def updL {α : Type} (f : α → α) : Nat → List α → List α
 | _, [] => []
 | 0, x :: l => f x :: l
 | n + 1, x :: l => x :: updL f n l
def Prc.get (p : Prc) (k : Int) : Int := if k = 0 then p.r0 else if k = 1 then p.r1 else p.r2
def Prc.set (p : Prc) (k v : Int) : Prc := if k = 0 then { p with r0 := v } else if k = 1 then { p with r1 := v } else { p with r2 := v }
def Wld.cell (W : Wld) (k : Int) : Int := if k = 0 then W.c0 else if k = 1 then W.c1 else W.c2
def Wld.setCell (W : Wld) (k v : Int) : Wld := if k = 0 then { W with c0 := v } else if k = 1 then { W with c1 := v } else { W with c2 := v }
def Wld.rm (W : Wld) (k : Int) : Int := if k = 0 then W.m0 else W.m1
def Wld.setRm (W : Wld) (k v : Int) : Wld := if k = 0 then { W with m0 := v } else { W with m1 := v }
def Wld.que (W : Wld) (k : Int) : List Int := if k = 0 then W.q0 else W.q1
def Wld.setQue (W : Wld) (k : Int) (q : List Int) : Wld := if k = 0 then { W with q0 := q } else { W with q1 := q }
def Wld.upd (W : Wld) (i : Nat) (f : Prc → Prc) : Wld := { W with procs := updL f i W.procs }
structure WM where
 kp : Nat
 sp : List Value
 asd : Option Addr
 ksd : Nat
 aq0 : Option Addr
 kq0 : Nat
 aq1 : Option Addr
 kq1 : Nat
 kc : Nat
 spc : List Value
 kr : Nat
 spr : List Value
 ks : Nat
 sps : List Value
 kg : Nat → Nat
 spg : Nat → List Value
def mOk (kp kc kr ks : Nat) (kg : Nat → Nat) (n : Nat) : Prop := (n ≤ kp ∧ kp ≤ maxLen) ∧ (3 ≤ kc ∧ kc ≤ maxLen) ∧ (2 ≤ kr ∧ kr ≤ maxLen) ∧ (2 ≤ ks ∧ ks ≤ maxLen) ∧ ∀ i, 3 ≤ kg i ∧ kg i ≤ maxLen
def WM.ok (m : WM) (n : Nat) : Prop := mOk m.kp m.kc m.kr m.ks m.kg n
structure WX where
 ns : Nat
 xs : List Value
 n0 : Nat
 y0 : List Value
 n1 : Nat
 y1 : List Value
def vi (n : Int) : Cel := .v (.int .i64 n)
def intC : List Int → List Value
 | [] => []
 | n :: l => .int .i64 n :: intC l
def saidC : List (Int × Int) → List Value
 | [] => []
 | (a, b) :: l => .int .i64 a :: .int .i64 b :: saidC l
def procCs (kg : Nat → Nat) (sp : List Value) : Nat → List Prc → List Value → List Cel
 | i, p :: ps, t :: ts => .s (1010 + i) 0 3 (kg i) :: .v t :: vi p.mode :: vi p.on :: vi p.room :: procCs kg sp (i + 1) ps ts
 | _, _, _ => vL sp
def regEs (spg : Nat → List Value) : Nat → List Prc → List Ent
 | _, [] => []
 | i, p :: ps => .blk (1010 + i) 3 (vi p.r0 :: vi p.r1 :: vi p.r2 :: vL (spg i)) :: regEs spg (i + 1) ps
def WX.of (W : Wld) : WX := ⟨W.said.length, saidC W.said, W.q0.length, intC W.q0, W.q1.length, intC W.q1⟩
def WX.ok (x : WX) (W : Wld) : Prop := (x.ns = W.said.length ∧ x.xs = saidC W.said) ∧ (x.n0 = W.q0.length ∧ x.y0 = intC W.q0) ∧ x.n1 = W.q1.length ∧ x.y1 = intC W.q1
theorem WX.ok_eq {x : WX} {W : Wld} (h : x.ok W) : x = WX.of W := by
 obtain ⟨a, b, c, d, e, f⟩ := x
 obtain ⟨⟨h1, h2⟩, ⟨h3, h4⟩, h5, h6⟩ := h
 simp only at h1 h2 h3 h4 h5 h6
 subst h1 h2 h3 h4 h5 h6
 rfl
def wEnts (W : Wld) (ts : List Value) (m : WM) (x : WX) : List Ent :=
 .blk 1000 62 (procCs m.kg m.sp 0 W.procs ts) :: .blk 1001 3 (vi W.c0 :: vi W.c1 :: vi W.c2 :: vL m.spc) :: .blk 1002 3 (vi W.m0 :: vi W.m1 :: vL m.spr) ::
 .blk 1003 52 (.v (.slice m.aq0 x.n0 m.kq0) :: .v (.slice m.aq1 x.n1 m.kq1) :: vL m.sps) ::
 .hp 1004 (rowO 0 96 2 m.asd x.ns m.ksd x.xs) :: .hp 1005 (rowO 0 3 1 m.aq0 x.n0 m.kq0 x.y0) :: .hp 1006 (rowO 0 3 1 m.aq1 x.n1 m.kq1 x.y1) :: regEs m.spg 0 W.procs
def wCels (W : Wld) (m : WM) (x : WX) : List Cel := [.s 1000 0 W.procs.length m.kp, .s 1001 0 3 m.kc, .s 1002 0 2 m.kr, .s 1003 0 2 m.ks, .v (.slice m.asd x.ns m.ksd)]
def regIds : Nat → List Nat → Ids
 | _, [] => []
 | i, b :: bs => (1010 + i, b) :: regIds (i + 1) bs
def wIds (bp bc br bs : Nat) (bg : List Nat) : Ids := (1000, bp) :: (1001, bc) :: (1002, br) :: (1003, bs) :: regIds 0 bg
def regKeys : Nat → Nat → List Nat
 | _, 0 => []
 | i, n + 1 => (1010 + i) :: regKeys (i + 1) n
theorem regIds_keys : ∀ (i : Nat) (bg : List Nat), (regIds i bg).map (·.1) = regKeys i bg.length
 | _, [] => rfl
 | i, b :: bs => by simp [regIds, regKeys, regIds_keys (i + 1) bs]
def WVp (cs : List Value) (W : Wld) (ts : List Value) : Ids → List Ent → Prop := fun ι L => ∃ bp bc br bs bg m x, bg.length = W.procs.length ∧ m.ok W.procs.length ∧ x.ok W ∧ ι = wIds bp bc br bs bg ∧ L = wEnts W ts m x ∧ denL (wIds bp bc br bs bg) (wCels W m x) = some cs
def worldV (cs : List Value) (W : Wld) (ts : List Value) : HP := packHP (WVp cs W ts)
def WPp (b : Nat) (W : Wld) (ts : List Value) : Ids → List Ent → Prop := fun ι L => ∃ bp bc br bs bg m x, bg.length = W.procs.length ∧ m.ok W.procs.length ∧ x.ok W ∧ ι = (1007, b) :: wIds bp bc br bs bg ∧ L = .blk 1007 56 (wCels W m x) :: wEnts W ts m x
def worldP (b : Nat) (W : Wld) (ts : List Value) : HP := packHP (WPp b W ts)
def wKeys (n : Nat) : List Nat := 1000 :: 1001 :: 1002 :: 1003 :: 1004 :: 1005 :: 1006 :: regKeys 0 n
def iKeys (n : Nat) : List Nat := 1000 :: 1001 :: 1002 :: 1003 :: regKeys 0 n
def takeC : Nat → List Cel → Option (List Cel × List Cel)
 | 0, l => some ([], l)
 | n + 1, c :: l => match takeC n l with
  | some (x, r) => some (c :: x, r)
  | none => none
 | _ + 1, [] => none
theorem takeC_eq : ∀ {n : Nat} {l x r : List Cel}, takeC n l = some (x, r) → l = x ++ r
 | 0, l, x, r, h => by cases h; rfl
 | n + 1, [], x, r, h => by cases h
 | n + 1, c :: l, x, r, h => by
  simp only [takeC] at h
  split at h
  ·rename_i y q hq; cases h; rw [takeC_eq hq]; rfl
  ·cases h
theorem denL_app {ι : Ids} (l l' : List Cel) : denL ι (l ++ l') = match denL ι l with
  | some vs => (match denL ι l' with | some vs' => some (vs ++ vs') | none => none)
  | none => none := by
 induction l with
 | nil => simp only [List.nil_append, denL]; cases denL ι l' <;> rfl
 | cons c l ih =>
  simp only [List.cons_append, denL, ih]
  cases denC ι c with
  | none => rfl
  | some v => cases denL ι l with
   | none => rfl
   | some vs => cases denL ι l' <;> rfl
theorem denL_sp {ι ι' : Ids} (n : Nat) {cs cs' l l' : List Cel} {sp : List Value} (h : takeC n cs = some (l, vL sp)) (h' : takeC n cs' = some (l', vL sp)) (hd : denL ι l = denL ι' l') : denL ι cs = denL ι' cs' := by
 rw [takeC_eq h, takeC_eq h', denL_app, denL_app, hd, denL_vL, denL_vL]
section
variable {C : Ctx} {k : List It} {E : Env} {ι : Ids} {L : List Ent} {G : PH} {W : Wld} {ts : List Value} {L' L1 L2 : List Ent} {cs : List Value}
theorem S_openV (κ d : Nat) (hL : getH κ L = some (worldV cs W ts)) (hL' : delH κ L = some L') (hf : freshB (iKeys W.procs.length) ι = true) (hE : look d E = some (.val (.agg cs.toArray)))
  (hk : ∀ bp bc br bs bg m, bg.length = W.procs.length → m.ok W.procs.length → cs = [.slice (some ⟨bp, 0, none⟩) W.procs.length m.kp, .slice (some ⟨bc, 0, none⟩) 3 m.kc, .slice (some ⟨br, 0, none⟩) 2 m.kr, .slice (some ⟨bs, 0, none⟩) 2 m.ks, .slice m.asd W.said.length m.ksd] → X C k ((d, .agg (wCels W m (WX.of W))) :: E) (wIds bp bc br bs bg ++ ι) (wEnts W ts m (WX.of W) ++ L') G) : X C k E ι L G := by
 refine S_unpack κ (iKeys W.procs.length) hL hL' ?_ hf ?_
 ·rintro ι0 L0 ⟨bp, bc, br, bs, bg, m, x, hl, hmk, hx, rfl, rfl, _⟩
  simp [wIds, iKeys, regIds_keys, hl]
 ·rintro ι0 L0 ⟨bp, bc, br, bs, bg, m, x, hl, hmk, hx, rfl, rfl, hcs⟩
  rw [WX.ok_eq hx] at hcs ⊢
  refine S_reE d (.agg (wCels W m (WX.of W))) hE ?_ (hk bp bc br bs bg m hl hmk ?_)
  ·simp only [denO]
   rw [denL_le (IdsLe.left _ ι) hcs]
  have : denL (wIds bp bc br bs bg) (wCels W m (WX.of W)) = some [.slice (some ⟨bp, 0, none⟩) W.procs.length m.kp, .slice (some ⟨bc, 0, none⟩) 3 m.kc, .slice (some ⟨br, 0, none⟩) 2 m.kr, .slice (some ⟨bs, 0, none⟩) 2 m.ks, .slice m.asd W.said.length m.ksd] := rfl
  rw [hcs] at this
  exact Option.some.inj this
theorem S_csV (κ : Nat) (hL : getH κ L = some (worldV cs W ts)) (hk : ∀ bp bc br bs kp asd ksd kc kr ks, cs = [.slice (some ⟨bp, 0, none⟩) W.procs.length kp, .slice (some ⟨bc, 0, none⟩) 3 kc, .slice (some ⟨br, 0, none⟩) 2 kr, .slice (some ⟨bs, 0, none⟩) 2 ks, .slice asd W.said.length ksd] → X C k E ι L G) : X C k E ι L G := by
 intro a w h1 h2 h3 h4
 obtain ⟨Ss, ho, _⟩ := h4.own
 obtain ⟨S, ⟨ι0, L0, Ss0, ⟨bp, bc, br, bs, bg, m, x, hl, hmk, hx, rfl, rfl, hcs⟩, _⟩, _⟩ := owns_split ho hL
 rw [WX.ok_eq hx] at hcs
 have : denL (wIds bp bc br bs bg) (wCels W m (WX.of W)) = some [.slice (some ⟨bp, 0, none⟩) W.procs.length m.kp, .slice (some ⟨bc, 0, none⟩) 3 m.kc, .slice (some ⟨br, 0, none⟩) 2 m.kr, .slice (some ⟨bs, 0, none⟩) 2 m.ks, .slice m.asd W.said.length m.ksd] := rfl
 rw [hcs] at this
 exact hk bp bc br bs m.kp m.asd m.ksd m.kc m.kr m.ks (Option.some.inj this) a w h1 h2 h3 h4
theorem S_openP (κ d : Nat) {b : Nat} (hL : getH κ L = some (worldP b W ts)) (hL' : delH κ L = some L') (hf : freshB (1007 :: iKeys W.procs.length) ι = true) (hE : look d E = some (.val (.pointer (some ⟨b, 0, none⟩))))
  (hk : ∀ bp bc br bs bg m, bg.length = W.procs.length → m.ok W.procs.length → X C k ((d, .ptr 1007 0) :: E) ((1007, b) :: wIds bp bc br bs bg ++ ι) (.blk 1007 56 (wCels W m (WX.of W)) :: wEnts W ts m (WX.of W) ++ L') G) : X C k E ι L G := by
 refine S_unpack κ (1007 :: iKeys W.procs.length) hL hL' ?_ hf ?_
 ·rintro ι0 L0 ⟨bp, bc, br, bs, bg, m, x, hl, hmk, hx, rfl, rfl⟩
  simp [wIds, iKeys, regIds_keys, hl]
 ·rintro ι0 L0 ⟨bp, bc, br, bs, bg, m, x, hl, hmk, hx, rfl, rfl⟩
  rw [WX.ok_eq hx]
  refine S_reE d (.ptr 1007 0) hE ?_ (hk bp bc br bs bg m hl hmk)
  simp [denO, lookI]
end
def Tds (G : PH) : List Prc → List Value → Prop
 | [], [] => True
 | p :: ps, v :: vs => Sts G p.todo v ∧ Tds G ps vs
 | _, _ => False
theorem Tds_le {G G' : PH} (hl : G.le G') : ∀ {ps : List Prc} {vs : List Value}, Tds G ps vs → Tds G' ps vs
 | [], [], h => h
 | p :: ps, v :: vs, h => ⟨Sts_le hl h.1, Tds_le hl h.2⟩
 | [], _ :: _, h => h
 | _ :: _, [], h => h
theorem intC_length : ∀ l : List Int, (intC l).length = l.length
 | [] => rfl
 | _ :: l => by simp [intC, intC_length l]
theorem intC_append : ∀ l l' : List Int, intC (l ++ l') = intC l ++ intC l'
 | [], _ => rfl
 | n :: l, l' => by simp [intC, intC_append l l']
theorem saidC_append : ∀ l l' : List (Int × Int), saidC (l ++ l') = saidC l ++ saidC l'
 | [], _ => rfl
 | (a, b) :: l, l' => by simp [saidC, saidC_append l l']
theorem Bs {ι ι' : Ids} {k k' t : Nat} {L L' : List Ent} (n : Nat) {cs cs' l l' : List Cel} {sp : List Value} (h0 : lookI k ι = lookI k' ι') (h : takeC n cs = some (l, vL sp)) (h' : takeC n cs' = some (l', vL sp)) (hd : denL ι l = denL ι' l') (r : subL ι ι' L L') : subL ι ι' (.blk k t cs :: L) (.blk k' t cs' :: L') := .blk h0 (denL_sp n h h' hd) r
theorem Wsub {ι ι' : Ids} {L L' : List Ent} (n : Nat) {k1 k2 k3 k4 j1 j2 j3 j4 t1 t2 t3 t4 p1 p2 p3 q1 q2 q3 : Nat} {A1 A2 A3 : HP} {c1 d1 l1 m1 c2 d2 l2 m2 c3 d3 l3 m3 c4 d4 l4 m4 : List Cel} {s1 s2 s3 s4 : List Value} (a1 : lookI k1 ι = lookI j1 ι') (b1 : takeC n c1 = some (l1, vL s1)) (e1 : takeC n d1 = some (m1, vL s1)) (f1 : denL ι l1 = denL ι' m1) (a2 : lookI k2 ι = lookI j2 ι') (b2 : takeC 3 c2 = some (l2, vL s2)) (e2 : takeC 3 d2 = some (m2, vL s2)) (f2 : denL ι l2 = denL ι' m2) (a3 : lookI k3 ι = lookI j3 ι') (b3 : takeC 2 c3 = some (l3, vL s3)) (e3 : takeC 2 d3 = some (m3, vL s3)) (f3 : denL ι l3 = denL ι' m3) (a4 : lookI k4 ι = lookI j4 ι') (b4 : takeC 2 c4 = some (l4, vL s4)) (e4 : takeC 2 d4 = some (m4, vL s4)) (f4 : denL ι l4 = denL ι' m4) (r : subL ι ι' L L') : subL ι ι' (.blk k1 t1 c1 :: .blk k2 t2 c2 :: .blk k3 t3 c3 :: .blk k4 t4 c4 :: .hp p1 A1 :: .hp p2 A2 :: .hp p3 A3 :: L) (.blk j1 t1 d1 :: .blk j2 t2 d2 :: .blk j3 t3 d3 :: .blk j4 t4 d4 :: .hp q1 A1 :: .hp q2 A2 :: .hp q3 A3 :: L') := Bs n a1 b1 e1 f1 (Bs 3 a2 b2 e2 f2 (Bs 2 a3 b3 e3 f3 (Bs 2 a4 b4 e4 f4 (.hp (.hp (.hp r))))))
theorem Wpp {b : Nat} {W : Wld} {ts : List Value} {ι : Ids} {L : List Ent} {bp bc br bs : Nat} (bg : List Nat) {kp : Nat} {sp : List Value} {asd : Option Addr} {ksd : Nat} {aq0 : Option Addr} {kq0 : Nat} {aq1 : Option Addr} {kq1 kc : Nat} {spc : List Value} {kr : Nat} {spr : List Value} {ks : Nat} {sps : List Value} (kg : Nat → Nat) (spg : Nat → List Value) {ns : Nat} {xs : List Value} {n0 : Nat} {y0 : List Value} {n1 : Nat} {y1 : List Value} (h1 : bg.length = W.procs.length) (h2 : mOk kp kc kr ks kg W.procs.length) (h3 : ns = W.said.length) (h4 : xs = saidC W.said) (h5 : n0 = W.q0.length) (h6 : y0 = intC W.q0) (h7 : n1 = W.q1.length) (h8 : y1 = intC W.q1) (h9 : ι = (1007, b) :: wIds bp bc br bs bg) (h10 : L = .blk 1007 56 (wCels W ⟨kp, sp, asd, ksd, aq0, kq0, aq1, kq1, kc, spc, kr, spr, ks, sps, kg, spg⟩ ⟨ns, xs, n0, y0, n1, y1⟩) :: wEnts W ts ⟨kp, sp, asd, ksd, aq0, kq0, aq1, kq1, kc, spc, kr, spr, ks, sps, kg, spg⟩ ⟨ns, xs, n0, y0, n1, y1⟩) : WPp b W ts ι L := ⟨bp, bc, br, bs, bg, ⟨kp, sp, asd, ksd, aq0, kq0, aq1, kq1, kc, spc, kr, spr, ks, sps, kg, spg⟩, ⟨ns, xs, n0, y0, n1, y1⟩, h1, h2, ⟨⟨h3, h4⟩, ⟨h5, h6⟩, h7, h8⟩, h9, h10⟩
theorem Wvp {cs ts : List Value} {W : Wld} {ι : Ids} {L : List Ent} {bp bc br bs : Nat} (bg : List Nat) {kp : Nat} {sp : List Value} {asd : Option Addr} {ksd : Nat} {aq0 : Option Addr} {kq0 : Nat} {aq1 : Option Addr} {kq1 kc : Nat} {spc : List Value} {kr : Nat} {spr : List Value} {ks : Nat} {sps : List Value} (kg : Nat → Nat) (spg : Nat → List Value) {ns : Nat} {xs : List Value} {n0 : Nat} {y0 : List Value} {n1 : Nat} {y1 : List Value} (h1 : bg.length = W.procs.length) (h2 : mOk kp kc kr ks kg W.procs.length) (h3 : ns = W.said.length) (h4 : xs = saidC W.said) (h5 : n0 = W.q0.length) (h6 : y0 = intC W.q0) (h7 : n1 = W.q1.length) (h8 : y1 = intC W.q1) (h9 : ι = wIds bp bc br bs bg) (h10 : L = wEnts W ts ⟨kp, sp, asd, ksd, aq0, kq0, aq1, kq1, kc, spc, kr, spr, ks, sps, kg, spg⟩ ⟨ns, xs, n0, y0, n1, y1⟩) (h11 : denL (wIds bp bc br bs bg) (wCels W ⟨kp, sp, asd, ksd, aq0, kq0, aq1, kq1, kc, spc, kr, spr, ks, sps, kg, spg⟩ ⟨ns, xs, n0, y0, n1, y1⟩) = some cs) : WVp cs W ts ι L := ⟨bp, bc, br, bs, bg, ⟨kp, sp, asd, ksd, aq0, kq0, aq1, kq1, kc, spc, kr, spr, ks, sps, kg, spg⟩, ⟨ns, xs, n0, y0, n1, y1⟩, h1, h2, ⟨⟨h3, h4⟩, ⟨h5, h6⟩, h7, h8⟩, h9, h10, h11⟩
section
variable {C : Ctx} {k : List It} {E : Env} {ι : Ids} {L : List Ent} {G : PH} {W : Wld} {ts : List Value} {L' L1 L2 : List Ent} {cs : List Value}
theorem OvV (κ d : Nat) (hL : getH κ L = some (worldV cs W ts)) (hL' : delH κ L = some L') (hf : freshB (iKeys W.procs.length) ι = true) (hE : look d E = some (.val (.agg cs.toArray))) (hk : ∀ bp bc br bs bg kp sp asd ksd aq0 kq0 aq1 kq1 kc spc kr spr ks sps kg spg, bg.length = W.procs.length → mOk kp kc kr ks kg W.procs.length → cs = [.slice (some ⟨bp, 0, none⟩) W.procs.length kp, .slice (some ⟨bc, 0, none⟩) 3 kc, .slice (some ⟨br, 0, none⟩) 2 kr, .slice (some ⟨bs, 0, none⟩) 2 ks, .slice asd W.said.length ksd] → X C k ((d, .agg (wCels W ⟨kp, sp, asd, ksd, aq0, kq0, aq1, kq1, kc, spc, kr, spr, ks, sps, kg, spg⟩ (WX.of W))) :: E) (wIds bp bc br bs bg ++ ι) (wEnts W ts ⟨kp, sp, asd, ksd, aq0, kq0, aq1, kq1, kc, spc, kr, spr, ks, sps, kg, spg⟩ (WX.of W) ++ L') G) : X C k E ι L G := S_openV κ d hL hL' hf hE fun bp bc br bs bg m h1 h2 h3 => hk bp bc br bs bg m.kp m.sp m.asd m.ksd m.aq0 m.kq0 m.aq1 m.kq1 m.kc m.spc m.kr m.spr m.ks m.sps m.kg m.spg h1 h2 h3
theorem OpP (κ d : Nat) {b : Nat} (hL : getH κ L = some (worldP b W ts)) (hL' : delH κ L = some L') (hf : freshB (1007 :: iKeys W.procs.length) ι = true) (hE : look d E = some (.val (.pointer (some ⟨b, 0, none⟩)))) (hk : ∀ bp bc br bs bg kp sp asd ksd aq0 kq0 aq1 kq1 kc spc kr spr ks sps kg spg, bg.length = W.procs.length → mOk kp kc kr ks kg W.procs.length → X C k ((d, .ptr 1007 0) :: E) ((1007, b) :: wIds bp bc br bs bg ++ ι) (.blk 1007 56 (wCels W ⟨kp, sp, asd, ksd, aq0, kq0, aq1, kq1, kc, spc, kr, spr, ks, sps, kg, spg⟩ (WX.of W)) :: wEnts W ts ⟨kp, sp, asd, ksd, aq0, kq0, aq1, kq1, kc, spc, kr, spr, ks, sps, kg, spg⟩ (WX.of W) ++ L') G) : X C k E ι L G := S_openP κ d hL hL' hf hE fun bp bc br bs bg m h1 h2 => hk bp bc br bs bg m.kp m.sp m.asd m.ksd m.aq0 m.kq0 m.aq1 m.kq1 m.kc m.spc m.kr m.spr m.ks m.sps m.kg m.spg h1 h2
end
end
section
def Sx (G : PH) (sz : Nat) (v : Value) (n : Nat) (xs : List Value) : Prop :=
 ∃ A c, v = .slice A n c ∧ n ≤ 1000000000 ∧ n ≤ c ∧ c ≤ maxLen ∧ xs.length = n * sz ∧ (n = 0 ∨ ∃ a, A = some a ∧ gcells G a xs)
theorem Sx_le {G G' : PH} (hl : G.le G') {sz n : Nat} {v : Value} {xs : List Value} (h : Sx G sz v n xs) : Sx G' sz v n xs := by
 obtain ⟨A, c, h1, h2, h3, h4, h5, h6⟩ := h
 refine ⟨A, c, h1, h2, h3, h4, h5, ?_⟩
 rcases h6 with h6 | ⟨a, h6, h7⟩
 ·exact .inl h6
 ·exact .inr ⟨a, h6, gcells_le hl h7⟩
section
variable {α : Type} {G : PH} {sz : Nat} {rep : α → List Value → Prop}
theorem gcells_app {ad : Addr} : ∀ {cs ys : List Value}, gcells G ad cs → gcells G (ad.add cs.length) ys → gcells G ad (cs ++ ys) := by
 intro cs
 induction cs generalizing ad with
 | nil => intro ys _ h; rw [List.length_nil, add_zero'] at h; exact h
 | cons c cs ih =>
  intro ys h h'
  refine ⟨h.1, ih h.2 ?_⟩
  rw [add_add', Nat.add_comm]; exact h'
theorem Rw_cells (hr : ∀ x cs, rep x cs → cs.length = sz) : ∀ {L : List α} {ad : Addr}, Rw G sz rep L ad → ∃ xs, gcells G ad xs ∧ Cs sz rep L xs := by
 intro L
 induction L with
 | nil => intro ad _; exact ⟨[], trivial, J⟩
 | cons x L ih =>
  rintro ad ⟨⟨cs, h1, h2⟩, h3⟩
  obtain ⟨ys, h4, h5⟩ := ih h3
  have hl := hr x cs h2
  exact ⟨cs ++ ys, gcells_app h1 (by rw [hl]; exact h4), cs, ys, J, hl, h2, h5⟩
theorem Sr_Sx (hr : ∀ x cs, rep x cs → cs.length = sz) {L : List α} {v : Value} (h : Sr G sz rep L v) : ∃ xs, Sx G sz v L.length xs ∧ Cs sz rep L xs := by
 obtain ⟨A, c, h1, h2, h3, h4, h5⟩ := h
 by_cases hn : L.length = 0
 ·have : L = [] := List.eq_nil_of_length_eq_zero hn
  subst this
  exact ⟨[], ⟨A, c, h1, h2, h3, h4, by simp, .inl J⟩, J⟩
 ·rcases h5 with h5 | ⟨ad, h5, h6⟩
  ·exact absurd h5 hn
  ·obtain ⟨xs, h7, h8⟩ := Rw_cells hr h6
   exact ⟨xs, ⟨A, c, h1, h2, h3, h4, Cs_length h8, .inr ⟨ad, h5, h7⟩⟩, h8⟩
theorem Sx_Sr {L : List α} {v : Value} {n : Nat} {xs : List Value} (h : Sx G sz v n xs) (hn : n = L.length) (hc : Cs sz rep L xs) : Sr G sz rep L v := by
 subst hn
 obtain ⟨A, c, h1, h2, h3, h4, h5, h6⟩ := h
 refine ⟨A, c, h1, h2, h3, h4, ?_⟩
 rcases h6 with h6 | ⟨a, h6, h7⟩
 ·exact .inl h6
 ·exact .inr ⟨a, h6, Rw_of hc h7⟩
theorem Cs_one {L : List α} {xs : List Value} (h1 : ∀ x cs, rep x cs → ∀ u ∈ cs, u.oneCell' = true) (h : Cs sz rep L xs) : ∀ u ∈ xs, u.oneCell' = true := by
 induction L generalizing xs with
 | nil => cases h; intro u hu; cases hu
 | cons x L ih =>
  obtain ⟨cs, ys, rfl, _, h3, h4⟩ := h
  intro u hu
  rcases List.mem_append.1 hu with hu | hu
  ·exact h1 x cs h3 u hu
  ·exact ih h4 u hu
theorem Cs_append2 {L L' : List α} {xs ys : List Value} (h : Cs sz rep L xs) (h' : Cs sz rep L' ys) : Cs sz rep (L ++ L') (xs ++ ys) := by
 induction L generalizing xs with
 | nil => cases h; exact h'
 | cons x L ih =>
  obtain ⟨cs, zs, rfl, h2, h3, h4⟩ := h
  exact ⟨cs, zs ++ ys, by simp, h2, h3, ih h4⟩
end
theorem Stm.rep_one {G : PH} (s : Stm) (cs : List Value) (h : Stm.rep G s cs) : ∀ u ∈ cs, u.oneCell' = true := by
 cases s
 obtain ⟨vx, vy, rfl, _, _, _, _, ⟨Ax, cx, rfl, _⟩, ⟨Ay, cy, rfl, _⟩⟩ := Stm.rep_iff.1 h
 intro u hu
 simp at hu
 rcases hu with rfl | rfl | rfl | rfl | rfl | rfl <;> rfl
theorem Sx_Ints {G : PH} {l : List Int} {v : Value} {n : Nat} (h : Sx G 1 v n (intC l)) (hn : n = l.length) (hi : ∀ n ∈ l, I64 n) : Ints G l v := by
 refine Sx_Sr h hn ?_
 clear h hn
 induction l with
 | nil => rfl
 | cons n l ih => exact ⟨[.int .i64 n], intC l, rfl, rfl, ⟨rfl, hi n (List.mem_cons_self ..)⟩, ih fun m hm => hi m (List.mem_cons_of_mem _ hm)⟩
theorem intC_one (l : List Int) : ∀ u ∈ intC l, u.oneCell' = true := by
 induction l with
 | nil => intro u hu; cases hu
 | cons n l ih => intro u hu; rcases List.mem_cons.1 hu with rfl | hu; rfl; exact ih u hu
theorem saidC_one (l : List (Int × Int)) : ∀ u ∈ saidC l, u.oneCell' = true := by
 induction l with
 | nil => intro u hu; cases hu
 | cons n l ih =>
  obtain ⟨a, b⟩ := n
  intro u hu
  simp only [saidC, List.mem_cons] at hu
  rcases hu with rfl | rfl | hu
  ·rfl
  ·rfl
  ·exact ih u hu
theorem saidC_snoc (l : List (Int × Int)) (a b : Int) : saidC l ++ [.int .i64 a, .int .i64 b] = saidC (l ++ [(a, b)]) := by simp [saidC_append, saidC]
theorem intC_snoc (l : List Int) (a : Int) : intC l ++ [.int .i64 a] = intC (l ++ [a]) := by simp [intC_append, intC]
section
variable {C : Ctx} {k : List It} {E : Env} {ι : Ids} {L : List Ent} {G : PH} {all : Array Oper} {l : List Oper}
theorem S_appSaid {T : Tab} (hT : tabOk C.P T) (κ j : Nat) {d t e sz' : Nat} {os os' : List Nat} {tk : TK} {zi : ZI} {s x : Operand} {ty ty' : Nat} {pos : String} {af : Array Edge} {g : Option (Nat × Bool)} {A : Option Addr} {c b : Nat} {sd : List (Int × Int)} {p q : Int} {cs : List Cel} {L' : Option Addr → Nat → List Ent}
  (ht : lookT t T = some ⟨.slc e, sz', os'⟩) (he : lookT e T = some ⟨tk, 2, os⟩) (hz : lookZ e T.zs = some zi) (hzs : zi.zs.length = 2) (hzb : zi.b = 16)
  (hg : guardOf all E g = .on) (hN : Nat.ble (d + 1) C.n = true) (hs : ev E s = some (.val (.slice A sd.length c))) (hx : ev E x = some (.slc j 0 1 1)) (hj : lookI j ι = some b) (hB : lookB j L = some (ty', cs)) (hcs : denL ι cs = some [.int .i64 p, .int .i64 q])
  (hL : getH κ L = some (rowO 0 e 2 A sd.length c (saidC sd))) (hL' : ∀ A' c', setH κ (rowO 0 e 2 A' (sd ++ [(p, q)]).length c' (saidC (sd ++ [(p, q)]))) L = some (L' A' c')) (hlen : sd.length ≤ 1000000)
  (hk : ∀ A' c', X C (.ops all l :: k) ((d, .val (.slice A' (sd ++ [(p, q)]).length c')) :: E) ι (L' A' c') G) : X C (.ops all (⟨some d, .call ⟨.builtin .append, #[s, x], #[t, t]⟩, ty, pos, af, g⟩ :: l) :: k) E ι L G := by
 refine S_appO hT κ (news := [.int .i64 p, .int .i64 q]) (m := 1) ht he hz hzs J hg hN hs hx (by rw [denO, hj]) hL (L' := L') (fun A' c' => ?_) (src_blk j hB hcs hj J J) (by intro u hu; simp at hu; rcases hu with rfl | rfl <;> rfl) (by rw [hzb]; omega) (by simp only [maxLen]; omega) (Nat.zero_le _) fun A' c' => ?_
 ·rw [saidC_snoc, ← hL' A' c']; simp
 ·have := hk A' c'; rwa [List.length_append] at this
theorem S_appInt {T : Tab} (hT : tabOk C.P T) (κ j : Nat) {base d t e sz' : Nat} {os os' : List Nat} {tk : TK} {zi : ZI} {s x : Operand} {ty ty' : Nat} {pos : String} {af : Array Edge} {g : Option (Nat × Bool)} {A : Option Addr} {c b : Nat} {sd : List Int} {p : Int} {cs : List Cel} {L' : Option Addr → Nat → List Ent}
  (ht : lookT t T = some ⟨.slc e, sz', os'⟩) (he : lookT e T = some ⟨tk, 1, os⟩) (hz : lookZ e T.zs = some zi) (hzs : zi.zs.length = 1) (hzb : zi.b = 8)
  (hg : guardOf all E g = .on) (hN : Nat.ble (d + 1) C.n = true) (hs : ev E s = some (.val (.slice A sd.length c))) (hx : ev E x = some (.slc j 0 1 1)) (hj : lookI j ι = some b) (hB : lookB j L = some (ty', cs)) (hcs : denL ι cs = some [.int .i64 p])
  (hL : getH κ L = some (rowO base e 1 A sd.length c (intC sd))) (hL' : ∀ A' c', setH κ (rowO base e 1 A' (sd ++ [p]).length c' (intC (sd ++ [p]))) L = some (L' A' c')) (hlen : sd.length ≤ 1000000) (hbase : base ≤ C.w0.heap.size)
  (hk : ∀ A' c', X C (.ops all l :: k) ((d, .val (.slice A' (sd ++ [p]).length c')) :: E) ι (L' A' c') G) : X C (.ops all (⟨some d, .call ⟨.builtin .append, #[s, x], #[t, t]⟩, ty, pos, af, g⟩ :: l) :: k) E ι L G := by
 refine S_appO hT κ (news := [.int .i64 p]) (m := 1) ht he hz hzs J hg hN hs hx (by rw [denO, hj]) hL (L' := L') (fun A' c' => ?_) (src_blk j hB hcs hj J J) (by intro u hu; simp at hu; rcases hu with rfl; rfl) (by rw [hzb]; omega) (by simp only [maxLen]; omega) hbase fun A' c' => ?_
 ·rw [intC_snoc, ← hL' A' c']; simp
 ·have := hk A' c'; rwa [List.length_append] at this
end
end
section
attribute [local irreducible] X Pure Mod
def numOk (n : Int) : Bool := decide (-999 ≤ n) && decide (n ≤ 999)
theorem c_NumOk (n : Int) (G : PH) : Pure Tryz.prog 94 [.int .i64 n] G fun v G' => v = .bool (numOk n) ∧ G' = G := by
 refine Pure.intro Tryz.func94 Tryz.ntmps94 J J fun w => ?_;refine Va J J ?_;exact S_retP Tryz.results94 J J XR ⟨J, J⟩
def leafOk (k a b n room : Int) : Bool :=
 let reg := decide (0 ≤ a) && decide (a < 3)
 let two := decide (0 ≤ b) && decide (b < 3)
 if k = 1 then reg && decide (b = 0) && numOk n
 else if k = 2 then reg && two && decide (1 ≤ n) && decide (n ≤ 5)
 else if k = 3 then reg && decide (0 ≤ b) && decide (b < 3) && decide (n = 0)
 else if k = 4 then decide (0 ≤ a) && decide (a < 3) && two && decide (n = 0)
 else if k = 5 then reg && decide (b = 0) && decide (n = 0)
 else if k = 9 then decide (0 ≤ room) && decide (0 ≤ a) && decide (a < 2) && decide (b = 0) && decide (n = 0)
 else if k = 10 then decide (0 ≤ a) && decide (a < 2) && decide (b = 0) && decide (n = 0)
 else if k = 11 then decide (a = 0) && decide (b = 0) && decide (n = 0)
 else false
theorem c_l2Leaf (k a b n room : Int) (vx vy : Value) (G : PH) : Pure Tryz.prog 93 [.agg #[.int .i64 k, .int .i64 a, .int .i64 b, .int .i64 n, vx, vy], .int .i64 room] G fun v G' => v = .bool (leafOk k a b n room) ∧ G' = G := by
 refine Pure.intro Tryz.func93 Tryz.ntmps93 J J fun w => ?_;refine Va J J ?_
 repeat' (first
  | (refine S_condp J (fun h => ?_) (fun h => ?_) <;> refine Va J J ?_)
  | (refine S_box J J J J J fun b => ?_; refine Va J J ?_)
  | (refine S_guard J J (fun h => ?_) (fun h => ?_) <;> refine Va J J ?_)
  | (refine S_call Tryz.call94 (c_NumOk _ _) J J J ?_; rintro v G' ⟨rfl, rfl⟩ _; refine Va J J ?_)
  | (refine S_retP Tryz.results93 J J XR ⟨?_, J⟩))
 all_goals simp_all [leafOk]
end
section
attribute [local irreducible] X Pure Mod
theorem c_iNumOk (n : Int) (G : PH) : Pure Tryz.prog 109 [.int .i64 n] G fun v G' => v = .bool (numOk n) ∧ G' = G := by
 refine Pure.intro Tryz.func109 Tryz.ntmps109 J J fun w => ?_; refine Va J J ?_;exact S_retP Tryz.results109 J J XR ⟨J, J⟩
def opOk (n : Int) : Bool := decide (1 ≤ n) && decide (n ≤ 5)
theorem c_isOp (n : Int) (G : PH) : Pure Tryz.prog 110 [.int .i64 n] G fun v G' => v = .bool (opOk n) ∧ G' = G := by
 refine Pure.intro Tryz.func110 Tryz.ntmps110 J J fun w => ?_; refine Va J J ?_;exact S_retP Tryz.results110 J J XR ⟨J, J⟩
def fitsB (n l : Int) : Bool := decide (n = 0) || (decide (0 < n) && decide (n < l))
theorem c_fits (n l : Int) (G : PH) : Pure Tryz.prog 105 [.int .i64 n, .int .i64 l] G fun v G' => v = .bool (fitsB n l) ∧ G' = G := by
 refine Pure.intro Tryz.func105 Tryz.ntmps105 J J fun w => ?_; refine Va J J ?_
 repeat' (first
  | (refine S_condp J (fun h => ?_) (fun h => ?_) <;> refine Va J J ?_) | (refine S_cond J (fun h => ?_) (fun h => ?_) <;> refine Va J J ?_) | (refine S_box J J J J J fun b => ?_; refine Va J J ?_) | (refine AZ ZT_ok J J J J fun b => ?_; refine Va J J ?_) | (refine S_guardp J J (fun h => ?_) (fun h => ?_) <;> refine Va J J ?_) | (refine S_guard J J (fun h => ?_) (fun h => ?_) <;> refine Va J J ?_)
  | (refine S_retP Tryz.results105 J J XR ⟨?_, J⟩))
 all_goals (try simp_all [fitsB])
 all_goals (try omega)
def numberOkB (k n : Int) : Bool := if k = 1 then numOk n else if k = 2 then opOk n else decide (n = 0)
theorem c_numberOk (k a b n : Int) (vx vy : Value) (G : PH) : Pure Tryz.prog 106 [.agg #[.int .i64 k, .int .i64 a, .int .i64 b, .int .i64 n, vx, vy]] G fun v G' => v = .bool (numberOkB k n) ∧ G' = G := by
 refine Pure.intro Tryz.func106 Tryz.ntmps106 J J fun w => ?_; refine Va J J ?_
 repeat' (first
  | (refine S_condp J (fun h => ?_) (fun h => ?_) <;> refine Va J J ?_) | (refine S_cond J (fun h => ?_) (fun h => ?_) <;> refine Va J J ?_) | (refine S_box J J J J J fun b => ?_; refine Va J J ?_) | (refine AZ ZT_ok J J J J fun b => ?_; refine Va J J ?_) | (refine S_guardp J J (fun h => ?_) (fun h => ?_) <;> refine Va J J ?_) | (refine S_guard J J (fun h => ?_) (fun h => ?_) <;> refine Va J J ?_)
  | (refine S_call Tryz.call109 (c_iNumOk _ _) J J J ?_; rintro v G' ⟨rfl, rfl⟩ _; refine Va J J ?_)
  | (refine S_call Tryz.call110 (c_isOp _ _) J J J ?_; rintro v G' ⟨rfl, rfl⟩ _; refine Va J J ?_)
  | (refine S_retP Tryz.results106 J J XR ⟨?_, J⟩))
 all_goals simp_all [numberOkB]
theorem u_forms : Tryz.prog.underlying 161 = some (.map 3 159) := by kernel_rfl
theorem u_int : Tryz.prog.underlying 3 = some (.int .i64) := by kernel_rfl
def formV (s : ByteArray) (a b : Int) (body els : Bool) : Value := .agg #[.string s, .int .i64 a, .int .i64 b, .bool body, .bool els]
def isForm (x a b : Int) (body els : Bool) (o : Option Value) : Prop := ∃ s, o = some (formV s a b body els)
def formsP (f : Int → Option Value) : Prop :=
 isForm 1 3 0 false false (f 1) ∧ isForm 2 3 3 false false (f 2) ∧ isForm 3 3 3 false false (f 3) ∧ isForm 4 3 3 false false (f 4) ∧ isForm 5 3 0 false false (f 5) ∧ isForm 6 3 0 true true (f 6) ∧ isForm 7 3 0 true false (f 7) ∧ isForm 8 2 0 true false (f 8) ∧
 isForm 9 2 0 false false (f 9) ∧ isForm 10 2 0 false false (f 10) ∧ isForm 11 0 0 false false (f 11) ∧ ∀ x, ¬ (1 ≤ x ∧ x ≤ 11) → f x = none
theorem findI_none {x : Int} : ∀ {es : List MapEntry}, (∀ e ∈ es, ∃ y, e.key = .int .i64 y ∧ x ≠ y) → findI x es = none := by
 intro es
 induction es with
 | nil => intro _; rfl
 | cons e es ih =>
  intro h
  obtain ⟨y, hy, hne⟩ := h e (List.mem_cons_self ..)
  obtain ⟨key, val, born⟩ := e
  simp only at hy
  subst hy
  simp only [findI, if_neg hne]
  exact ih fun e he => h e (List.mem_cons_of_mem _ he)
theorem c_forms (G : PH) : Pure Tryz.prog 104 [] G fun v G' => ∃ b es clock, v = .map (some b) ∧ G' b = some (.map es clock) ∧ (∀ e ∈ es.toList, ∃ y, e.key = .int .i64 y) ∧ formsP (fun x => findI x es.toList) := by
 refine Pure.intro Tryz.func104 Tryz.ntmps104 J J fun w => ?_; refine Va J J ?_;refine S_makeMap 1 J J fun b => ?_;refine Va J J ?_
 iterate 11
  refine S_insert 1 u_forms u_int J J J J J J J ?_;refine Va J J ?_
 refine S_freezeO 1 J J (fun _ h => h) fun hext => ?_;refine S_retP Tryz.results104 J J hext ⟨b, _, _, J, PH.add_self _ _ _, ?_, ?_⟩
 ·intro e he
  simp at he
  rcases he with rfl | rfl | rfl | rfl | rfl | rfl | rfl | rfl | rfl | rfl | rfl <;> exact ⟨_, J⟩
 ·refine ⟨⟨_, J⟩, ⟨_, J⟩, ⟨_, J⟩, ⟨_, J⟩, ⟨_, J⟩, ⟨_, J⟩, ⟨_, J⟩, ⟨_, J⟩, ⟨_, J⟩, ⟨_, J⟩, ⟨_, J⟩, ?_⟩
  intro x hx
  refine findI_none fun e he => ?_
  simp at he
  rcases he with rfl | rfl | rfl | rfl | rfl | rfl | rfl | rfl | rfl | rfl | rfl <;> exact ⟨_, J, by omega⟩
end
section
attribute [local irreducible] X Pure Mod
theorem c_CloneIntN (v : Value) (n : Nat) (xs : List Value) (G : PH) (h : Sx G 1 v n xs) (h1 : ∀ u ∈ xs, u.oneCell' = true) : Mod Tryz.prog 61 [v] G emptyHP fun v' G' A' => ∃ A c base, v' = .slice A n c ∧ G' = G ∧ A' = rowO base 3 1 A n c xs := by
 obtain ⟨A, c, rfl, hn, hnc, hcm, hlen, hrow⟩ := h
 refine Mod.intro Tryz.func61 Tryz.ntmps61 J J fun w S => ?_;refine Va J J ?_
 cases A with
 | none =>
  obtain rfl : n = 0 := by rcases hrow with h | ⟨a, h, _⟩; exact h; cases h
  obtain rfl : xs = [] := List.eq_nil_of_length_eq_zero (by simpa using hlen)
  refine S_valV J J J (V_eqNil Tk J J) ?_;refine Va J J ?_;refine RT J J ?_;refine Va J J ?_;refine S_nilO 5 (base := w.heap.size) (e := 3) (size := 1) ?_;exact S_retm 5 (Res.t1 Tryz.results61 J J) J XR ⟨none, 0, _, J, J, J⟩
 | some a =>
  refine S_valV J J J (V_eqNil Tk J J) ?_;refine Va J J ?_;refine RF J J ?_;refine Va J J ?_;refine S_emptyO Tk 5 J J J J fun A => ?_;refine Va J J ?_;refine S_appO Tk 5 J J J J J J J J J J J (fun _ _ => J) (src_G hlen (by
   rcases hrow with h | ⟨a', h, h2⟩
   ·exact .inl h
   ·exact .inr ⟨a', h, h2⟩)) h1 (by simp only; omega) (by simp only [maxLen]; omega) (Nat.le_refl _) fun A' c' => ?_
  refine Va J J ?_;refine S_retm 5 (Res.t1 Tryz.results61 J J) J XR ⟨A', c', w.heap.size, ?_, J, ?_⟩
  ·simp
  ·simp; rfl
theorem c_CloneStmN (v : Value) (n : Nat) (xs : List Value) (G : PH) (h : Sx G 6 v n xs) (h1 : ∀ u ∈ xs, u.oneCell' = true) : Mod Tryz.prog 165 [v] G emptyHP fun v' G' A' => ∃ A c base, v' = .slice A n c ∧ G' = G ∧ A' = rowO base 83 6 A n c xs := by
 obtain ⟨A, c, rfl, hn, hnc, hcm, hlen, hrow⟩ := h
 refine Mod.intro Tryz.func165 Tryz.ntmps165 J J fun w S => ?_;refine Va J J ?_
 cases A with
 | none =>
  obtain rfl : n = 0 := by rcases hrow with h | ⟨a, h, _⟩; exact h; cases h
  obtain rfl : xs = [] := List.eq_nil_of_length_eq_zero (by simpa using hlen)
  refine S_valV J J J (V_eqNil Tk J J) ?_;refine Va J J ?_;refine RT J J ?_;refine Va J J ?_;refine S_nilO 5 (base := w.heap.size) (e := 83) (size := 6) ?_;exact S_retm 5 (Res.t1 Tryz.results165 J J) J XR ⟨none, 0, _, J, J, J⟩
 | some a =>
  refine S_valV J J J (V_eqNil Tk J J) ?_;refine Va J J ?_;refine RF J J ?_;refine Va J J ?_;refine S_emptyO Tk 5 J J J J fun A => ?_;refine Va J J ?_;refine S_appO Tk 5 J J J J J J J J J J J (fun _ _ => J) (src_G hlen (by
   rcases hrow with h | ⟨a', h, h2⟩
   ·exact .inl h
   ·exact .inr ⟨a', h, h2⟩)) h1 (by simp only; omega) (by simp only [maxLen]; omega) (Nat.le_refl _) fun A' c' => ?_
  refine Va J J ?_;refine S_retm 5 (Res.t1 Tryz.results165 J J) J XR ⟨A', c', w.heap.size, ?_, J, ?_⟩
  ·simp
  ·simp; rfl
theorem c_Grow (n : Nat) (G : PH) (hn : n ≤ 3000000000) : Mod Tryz.prog 163 [.slice none 0 0, .int .i64 n] G emptyHP fun v G' A' => ∃ A c base, v = .slice A 0 c ∧ G' = G ∧ n ≤ c ∧ A' = rowO base 83 6 A 0 c [] := by
 refine Mod.intro Tryz.func163 Tryz.ntmps163 J J fun w S => ?_;refine Va J J ?_;refine RF J (by simp) ?_;refine Va J J ?_;refine S_valV J J J (V_cap Tk J J) ?_;refine Va J J ?_;refine S_subI J J J J (by omega) ?_;refine S_subI J J J J (by omega) ?_;refine Va J J ?_
 by_cases h0 : n = 0
 ·subst h0
  refine RF J J ?_;refine Va J J ?_;refine S_nilO 5 (base := w.heap.size) (e := 83) (size := 6) ?_;exact S_retm 5 (Res.t1 Tryz.results163 J J) J XR ⟨none, 0, w.heap.size, J, J, Nat.le_refl _, J⟩
 ·refine RT J (by simp; omega) ?_
  refine Va J J ?_;refine S_valV J J J (V_cap Tk J J) ?_;refine S_valV J J J (V_slice0 Tk J J J J) ?_;refine Va J J ?_
  refine S_growNil Tk 5 (n := n) J J J J J u_int J J J (by show some _ = some _; congr 3 <;> omega) (by omega) (by simp only [maxLen]; omega) (by simp only; omega) fun A c hc => ?_
  refine Va J J ?_;refine S_valV J J J (V_slice0 Tk J J J J) ?_;refine Va J J ?_;exact S_retm 5 (Res.t1 Tryz.results163 J J) J XR ⟨A, c, w.heap.size, J, J, hc, J⟩
theorem c_Concat (v v1 v2 : Value) (n1 n2 : Nat) (xs1 xs2 : List Value) (G : PH) (h : Sx G 1 v 2 [v1, v2]) (h1 : Sx G 6 v1 n1 xs1) (h2 : Sx G 6 v2 n2 xs2) (o1 : ∀ u ∈ xs1, u.oneCell' = true) (o2 : ∀ u ∈ xs2, u.oneCell' = true) (hsum : n1 + n2 ≤ 1000000000) :
  Pure Tryz.prog 162 [v] G fun v' G' => Sx (newp G G') 6 v' (n1 + n2) (xs1 ++ xs2) := by
 obtain ⟨A, c, rfl, hn, hnc, hcm, hlen, hrow⟩ := h
 obtain ⟨A1, c1, rfl, hn1, hnc1, hcm1, hlen1, hrow1⟩ := h1
 obtain ⟨A2, c2, rfl, hn2, hnc2, hcm2, hlen2, hrow2⟩ := h2
 obtain ⟨ad, rfl, hcells⟩ : ∃ ad, A = some ad ∧ gcells G ad [.slice A1 n1 c1, .slice A2 n2 c2] := by
  rcases hrow with h | h
  ·omega
  ·exact h
 refine Pure.intro Tryz.func162 Tryz.ntmps162 J J fun w => ?_; refine Va J J ?_;refine S_unroll 2 ?_;refine Va J J ?_;refine RT J J ?_;refine Va J J ?_;refine S_index Tk J J J J J J (by omega) (by omega) ?_;refine S_load Tk J J J J J (by simpa [add_zero'] using hcells.1) ?_;refine Va J J ?_;refine S_add J J J J (by omega) ?_;refine Va J J ?_;refine RF J (by simp) ?_;refine Va J J ?_;refine S_add J J J J (by omega) ?_
 refine Va J J ?_;refine S_next ?_;refine Va J J ?_;refine RT J J ?_;refine Va J J ?_;refine S_index Tk J J J J J J (by omega) (by omega) ?_;refine S_load Tk J J J J J (by simpa using hcells.2.1) ?_;refine Va J J ?_;refine S_add J J J J (by omega) ?_;refine Va J J ?_;refine RF J (by simp; omega) ?_;refine Va J J ?_;refine S_add J J J J (by omega) ?_;refine Va J J ?_;refine S_next ?_;refine Va J J ?_
 refine RF J J ?_;refine Va J J ?_;refine S_newE 7 ?_;refine S_callM 7 Tryz.call163 (c_Grow (n1 + n2) _ (by omega)) J J (by show some [Value.slice none 0 0, Value.int .i64 (0 + (n1 : Int) + n2)] = _; rw [show ((0 : Int) + n1 + n2) = ((n1 + n2 : Nat) : Int) by omega]) rfl (fun _ => rfl) ?_;rintro v' G' A' ⟨A, cg, base, rfl, rfl, hcg, rfl⟩ hext
 refine S_rebase 7 (fun _ h => h) J J ?_;refine Va J J ?_;refine S_unroll 2 ?_;refine Va J J ?_;refine RT J J ?_;refine Va J J ?_;refine S_index Tk J J J J J J (by omega) (by omega) ?_;refine S_load Tk J J J J J (by simpa [add_zero'] using hcells.1) ?_;refine Va J J ?_;refine S_appO Tk 7 J J J J J J J J J J J (fun _ _ => J) (src_G hlen1 hrow1) o1 (by simp only; omega) (by simp only [maxLen]; omega) (Nat.le_refl _) fun A1' c1' => ?_
 refine Va J J ?_;refine S_add J J J J (by omega) ?_;refine Va J J ?_;refine S_next ?_;refine Va J J ?_;refine RT J J ?_;refine Va J J ?_;refine S_index Tk J J J J J J (by omega) (by omega) ?_;refine S_load Tk J J J J J (by simpa using hcells.2.1) ?_;refine Va J J ?_;refine S_appO Tk 7 J J J J J J J J J J J (fun _ _ => J) (src_G hlen2 hrow2) o2 (by simp only; omega) (by simp only [maxLen]; omega) (Nat.le_refl _) fun A2' c2' => ?_
 refine Va J J ?_;refine S_add J J J J (by omega) ?_;refine Va J J ?_;refine S_next ?_;refine Va J J ?_;refine RF J J ?_;refine Va J J ?_;refine S_freezeR 7 J J (Nat.le_refl _) fun G' hext' hnc' hcm' hcl => ?_;refine S_retp (Res.t1 Tryz.results162 J J) hext' ⟨A2', c2', by simp, hsum, by simpa using hnc', hcm', by rw [List.length_append, hlen1, hlen2, Nat.add_mul], ?_⟩
 simpa using hcl
end
section
attribute [local irreducible] X Pure Mod
def cutN (n : Int) : Int := if 999 < n then 999 else if n < -999 then -999 else n
def b2i (b : Bool) : Int := if b then 1 else 0
def doOp (op a b : Int) : Int :=
 if op = 1 then cutN (a + b) else if op = 2 then cutN (a - b) else if op = 3 then cutN (a * b) else if op = 4 then b2i (decide (a < b)) else if op = 5 then b2i (decide (a = b)) else 0
def numDo (op a b : Int) : Int × Bool := if numOk a && numOk b && opOk op then (doOp op a b, true) else (0, false)
theorem c_NumCut (n : Int) (G : PH) : Pure Tryz.prog 95 [.int .i64 n] G fun v G' => v = .int .i64 (cutN n) ∧ G' = G := by
 refine Pure.intro Tryz.func95 Tryz.ntmps95 J J fun w => ?_; refine Va J J ?_
 repeat' (first
  | (refine S_condp J (fun h => ?_) (fun h => ?_) <;> refine Va J J ?_) | (refine S_cond J (fun h => ?_) (fun h => ?_) <;> refine Va J J ?_) | (refine S_box J J J J J fun b => ?_; refine Va J J ?_) | (refine AZ ZT_ok J J J J fun b => ?_; refine Va J J ?_) | (refine S_guardp J J (fun h => ?_) (fun h => ?_) <;> refine Va J J ?_) | (refine S_guard J J (fun h => ?_) (fun h => ?_) <;> refine Va J J ?_)
  | (refine S_retP Tryz.results95 J J XR ⟨?_, J⟩))
 all_goals (congr 1; simp only [cutN]; repeat' split)
 all_goals omega
theorem c_l1If (b : Bool) (G : PH) : Pure Tryz.prog 96 [.bool b] G fun v G' => v = .int .i64 (b2i b) ∧ G' = G := by
 refine Pure.intro Tryz.func96 Tryz.ntmps96 J J fun w => ?_; refine Va J J ?_
 refine S_cond J (fun h => ?_) (fun h => ?_) <;> refine Va J J ?_ <;> (refine S_retP Tryz.results96 J J XR ⟨?_, J⟩) <;> simp [b2i, h]
theorem numOk_iff {n : Int} : numOk n = true ↔ -999 ≤ n ∧ n ≤ 999 := by simp [numOk]
theorem mul_bnd {a b : Int} (ha : -999 ≤ a ∧ a ≤ 999) (hb : -999 ≤ b ∧ b ≤ 999) : -998001 ≤ a * b ∧ a * b ≤ 998001 := by
 have h1 : a.natAbs ≤ 999 := by omega
 have h2 : b.natAbs ≤ 999 := by omega
 have h3 : (a * b).natAbs ≤ 998001 := by rw [Int.natAbs_mul]; exact Nat.le_trans (Nat.mul_le_mul h1 h2) (by decide)
 omega
theorem c_NumDo (op a b : Int) (G : PH) : Pure Tryz.prog 87 [.int .i64 op, .int .i64 a, .int .i64 b] G fun v G' => v = .tuple #[.int .i64 (numDo op a b).1, .bool (numDo op a b).2] ∧ G' = G := by
 refine Pure.intro Tryz.func87 Tryz.ntmps87 J J fun w => ?_; refine Va J J ?_;refine S_call Tryz.call94 (c_NumOk _ _) J J J ?_;rintro v G' ⟨rfl, rfl⟩ _
 refine Va J J ?_
 by_cases ha : numOk a = true
 rotate_left
 ·refine GT J J (by simp [ha]) ?_
  refine Va J J ?_;exact S_retp (Res.t2 Tryz.results87 J J J J) XR ⟨by simp [numDo, ha], J⟩
 refine GF J J (by simp [ha]) ?_;refine Va J J ?_;refine S_call Tryz.call94 (c_NumOk _ _) J J J ?_;rintro v G' ⟨rfl, rfl⟩ _
 refine Va J J ?_
 by_cases hb : numOk b = true
 rotate_left
 ·refine RT J (by simp [hb]) ?_
  refine Va J J ?_;exact S_retp (Res.t2 Tryz.results87 J J J J) XR ⟨by simp [numDo, hb], J⟩
 refine RF J (by simp [hb]) ?_;refine Va J J ?_
 have qa := numOk_iff.1 ha
 have qb := numOk_iff.1 hb
 have qm := mul_bnd qa qb
 repeat' (first
  | (refine S_condp J (fun h => ?_) (fun h => ?_) <;> refine Va J J ?_)
  | (refine S_add J J J J (by omega) ?_; refine Va J J ?_)
  | (refine S_subI J J J J (by omega) ?_; refine Va J J ?_)
  | (refine S_mul J J J J (by omega) ?_; refine Va J J ?_)
  | (refine S_call Tryz.call95 (c_NumCut _ _) J J J ?_; rintro v G' ⟨rfl, rfl⟩ _; refine Va J J ?_)
  | (refine S_call Tryz.call96 (c_l1If _ _) J J J ?_; rintro v G' ⟨rfl, rfl⟩ _; refine Va J J ?_)
  | exact S_retp (Res.t2 Tryz.results87 J J J J) XR ⟨by first | (simp_all [numDo, doOp, opOk]; done) | (rw [numDo, if_neg (by simp [opOk]; omega)]), rfl⟩)
theorem c_truth (b : Bool) (G : PH) : Pure Tryz.prog 157 [.bool b] G fun v G' => v = .int .i64 (b2i b) ∧ G' = G := by
 refine Pure.intro Tryz.func157 Tryz.ntmps157 J J fun w => ?_; refine Va J J ?_
 refine S_cond J (fun h => ?_) (fun h => ?_) <;> refine Va J J ?_ <;> (refine S_retP Tryz.results157 J J XR ⟨?_, J⟩) <;> simp [b2i, h]
theorem c_iNumCut (n : Int) (G : PH) : Pure Tryz.prog 156 [.int .i64 n] G fun v G' => v = .int .i64 (cutN n) ∧ G' = G := by
 refine Pure.intro Tryz.func156 Tryz.ntmps156 J J fun w => ?_; refine Va J J ?_;refine S_valV J J J (V_min J J) ?_;refine S_valV J J J (V_max J J) ?_;refine Va J J ?_;refine S_retp (Res.t1 Tryz.results156 J J) XR ⟨?_, J⟩
 congr 1
 unfold cutN
 repeat' split
 all_goals omega
theorem c_nadd (a b : Int) (G : PH) (h : -1998 ≤ a + b ∧ a + b ≤ 1998) : Pure Tryz.prog 151 [.int .i64 a, .int .i64 b] G fun v G' => v = .int .i64 (a + b) ∧ G' = G := by
 refine Pure.intro Tryz.func151 Tryz.ntmps151 J J fun w => ?_; refine Va J J ?_;refine S_add J J J J (by omega) ?_;refine Va J J ?_;exact S_retp (Res.t1 Tryz.results151 J J) XR ⟨J, J⟩
theorem c_nsub (a b : Int) (G : PH) (h : -1998 ≤ a - b ∧ a - b ≤ 1998) : Pure Tryz.prog 152 [.int .i64 a, .int .i64 b] G fun v G' => v = .int .i64 (a - b) ∧ G' = G := by
 refine Pure.intro Tryz.func152 Tryz.ntmps152 J J fun w => ?_; refine Va J J ?_;refine S_subI J J J J (by omega) ?_;refine Va J J ?_;exact S_retp (Res.t1 Tryz.results152 J J) XR ⟨J, J⟩
theorem c_nmul (a b : Int) (G : PH) (h : -998001 ≤ a * b ∧ a * b ≤ 998001) : Pure Tryz.prog 153 [.int .i64 a, .int .i64 b] G fun v G' => v = .int .i64 (a * b) ∧ G' = G := by
 refine Pure.intro Tryz.func153 Tryz.ntmps153 J J fun w => ?_; refine Va J J ?_;refine S_mul J J J J (by omega) ?_;refine Va J J ?_;exact S_retp (Res.t1 Tryz.results153 J J) XR ⟨J, J⟩
theorem c_nless (a b : Int) (G : PH) : Pure Tryz.prog 154 [.int .i64 a, .int .i64 b] G fun v G' => v = .int .i64 (b2i (decide (a < b))) ∧ G' = G := by
 refine Pure.intro Tryz.func154 Tryz.ntmps154 J J fun w => ?_; refine Va J J ?_
 (refine S_call Tryz.call157 (c_truth _ _) J J J ?_; rintro v G' ⟨rfl, rfl⟩ _; refine Va J J ?_)
 exact S_retp (Res.t1 Tryz.results154 J J) XR ⟨J, J⟩
theorem c_nsame (a b : Int) (G : PH) : Pure Tryz.prog 155 [.int .i64 a, .int .i64 b] G fun v G' => v = .int .i64 (b2i (decide (a = b))) ∧ G' = G := by
 refine Pure.intro Tryz.func155 Tryz.ntmps155 J J fun w => ?_; refine Va J J ?_
 (refine S_call Tryz.call157 (c_truth _ _) J J J ?_; rintro v G' ⟨rfl, rfl⟩ _; refine Va J J ?_)
 exact S_retp (Res.t1 Tryz.results155 J J) XR ⟨J, J⟩
theorem cutN_b2i (b : Bool) : cutN (b2i b) = b2i b := by cases b <;> rfl
theorem built_table : Tryz.prog.built 209 [(1, .func (.func 151) #[] #[]), (2, .func (.func 152) #[] #[]), (3, .func (.func 153) #[] #[]), (4, .func (.func 154) #[] #[]), (5, .func (.func 155) #[] #[])] =
  some #[.nilFunc, .func (.func 151) #[] #[], .func (.func 152) #[] #[], .func (.func 153) #[] #[], .func (.func 154) #[] #[], .func (.func 155) #[] #[]] := by kernel_rfl
theorem c_iNumDo (op a b : Int) (G : PH) : Pure Tryz.prog 150 [.int .i64 op, .int .i64 a, .int .i64 b] G fun v G' => v = .tuple #[.int .i64 (numDo op a b).1, .bool (numDo op a b).2] ∧ G' = G := by
 refine Pure.intro Tryz.func150 Tryz.ntmps150 J J fun w => ?_; refine Va J J ?_;refine S_valV (v := .agg #[.nilFunc, .func (.func 151) #[] #[], .func (.func 152) #[] #[], .func (.func 153) #[] #[], .func (.func 154) #[] #[], .func (.func 155) #[] #[]]) J J J (V_builtC J built_table) ?_;refine AZ ZT_ok J J J J fun b5 => ?_;refine Va J J ?_
 (refine S_call Tryz.call110 (c_isOp _ _) J J J ?_; rintro v G' ⟨rfl, rfl⟩ _; refine Va J J ?_)
 by_cases ho : opOk op = true
 rotate_left
 ·refine GT J J (by simp [ho]) ?_
  refine Va J J ?_;exact S_retp (Res.t2 Tryz.results150 J J J J) XR ⟨by simp [numDo, ho], J⟩
 refine GF J J (by simp [ho]) ?_;refine Va J J ?_
 (refine S_call Tryz.call109 (c_iNumOk _ _) J J J ?_; rintro v G' ⟨rfl, rfl⟩ _; refine Va J J ?_)
 by_cases ha : numOk a = true
 rotate_left
 ·refine GT J J (by simp [ho, ha]) ?_
  refine Va J J ?_;exact S_retp (Res.t2 Tryz.results150 J J J J) XR ⟨by simp [numDo, ha], J⟩
 refine GF J J (by simp [ho, ha]) ?_;refine Va J J ?_
 (refine S_call Tryz.call109 (c_iNumOk _ _) J J J ?_; rintro v G' ⟨rfl, rfl⟩ _; refine Va J J ?_)
 by_cases hb : numOk b = true
 rotate_left
 ·refine RT J (by simp [ho, ha, hb]) ?_
  refine Va J J ?_;exact S_retp (Res.t2 Tryz.results150 J J J J) XR ⟨by simp [numDo, hb], J⟩
 refine RF J (by simp [ho, ha, hb]) ?_
 have qa := numOk_iff.1 ha
 have qb := numOk_iff.1 hb
 have qm := mul_bnd qa qb
 have qo : op = 1 ∨ op = 2 ∨ op = 3 ∨ op = 4 ∨ op = 5 := by simp [opOk] at ho; omega
 rcases qo with rfl | rfl | rfl | rfl | rfl
 ·refine Va J J ?_
  refine S_callV (vs := [.int .i64 a, .int .i64 b]) (cap := #[]) J Tryz.call151 (c_nadd a b _ (by omega)) J J J ?_;rintro v G' ⟨rfl, rfl⟩ _
  (refine S_call Tryz.call156 (c_iNumCut _ _) J J J ?_; rintro v G' ⟨rfl, rfl⟩ _; refine Va J J ?_)
  exact S_retp (Res.t2 Tryz.results150 J J J J) XR ⟨by simp [numDo, ha, hb, ho, doOp], J⟩
 ·refine Va J J ?_
  refine S_callV (vs := [.int .i64 a, .int .i64 b]) (cap := #[]) J Tryz.call152 (c_nsub a b _ (by omega)) J J J ?_;rintro v G' ⟨rfl, rfl⟩ _
  (refine S_call Tryz.call156 (c_iNumCut _ _) J J J ?_; rintro v G' ⟨rfl, rfl⟩ _; refine Va J J ?_)
  exact S_retp (Res.t2 Tryz.results150 J J J J) XR ⟨by simp [numDo, ha, hb, ho, doOp], J⟩
 ·refine Va J J ?_
  refine S_callV (vs := [.int .i64 a, .int .i64 b]) (cap := #[]) J Tryz.call153 (c_nmul a b _ (by omega)) J J J ?_;rintro v G' ⟨rfl, rfl⟩ _
  (refine S_call Tryz.call156 (c_iNumCut _ _) J J J ?_; rintro v G' ⟨rfl, rfl⟩ _; refine Va J J ?_)
  exact S_retp (Res.t2 Tryz.results150 J J J J) XR ⟨by simp [numDo, ha, hb, ho, doOp], J⟩
 ·refine Va J J ?_
  refine S_callV (vs := [.int .i64 a, .int .i64 b]) (cap := #[]) J Tryz.call154 (c_nless a b _) J J J ?_;rintro v G' ⟨rfl, rfl⟩ _
  (refine S_call Tryz.call156 (c_iNumCut _ _) J J J ?_; rintro v G' ⟨rfl, rfl⟩ _; refine Va J J ?_)
  exact S_retp (Res.t2 Tryz.results150 J J J J) XR ⟨by simp [numDo, ha, hb, ho, doOp, cutN_b2i], J⟩
 ·refine Va J J ?_
  refine S_callV (vs := [.int .i64 a, .int .i64 b]) (cap := #[]) J Tryz.call155 (c_nsame a b _) J J J ?_;rintro v G' ⟨rfl, rfl⟩ _
  (refine S_call Tryz.call156 (c_iNumCut _ _) J J J ?_; rintro v G' ⟨rfl, rfl⟩ _; refine Va J J ?_)
  exact S_retp (Res.t2 Tryz.results150 J J J J) XR ⟨by simp [numDo, ha, hb, ho, doOp, cutN_b2i], J⟩
end
section
attribute [local irreducible] X Pure Mod
theorem shape {G : PH} {ps : List Prc} {ts : List Value} (h1 : 1 ≤ ps.length) (h3 : ps.length ≤ 3) (ht : Tds G ps ts) :
  (∃ p0 A0 c0, ps = [p0] ∧ ts = [.slice A0 p0.todo.length c0] ∧ Sts G p0.todo (.slice A0 p0.todo.length c0)) ∨
  (∃ p0 A0 c0 p1 A1 c1, ps = [p0, p1] ∧ ts = [.slice A0 p0.todo.length c0, .slice A1 p1.todo.length c1] ∧ Sts G p0.todo (.slice A0 p0.todo.length c0) ∧ Sts G p1.todo (.slice A1 p1.todo.length c1)) ∨
  (∃ p0 A0 c0 p1 A1 c1 p2 A2 c2, ps = [p0, p1, p2] ∧ ts = [.slice A0 p0.todo.length c0, .slice A1 p1.todo.length c1, .slice A2 p2.todo.length c2] ∧ Sts G p0.todo (.slice A0 p0.todo.length c0) ∧ Sts G p1.todo (.slice A1 p1.todo.length c1) ∧ Sts G p2.todo (.slice A2 p2.todo.length c2)) := by
 have one : ∀ {p : Prc} {v : Value}, Sts G p.todo v → ∃ A c, v = .slice A p.todo.length c := fun h => ⟨h.choose, h.choose_spec.choose, h.choose_spec.choose_spec.1⟩
 match ps, ts, ht, h1, h3 with
 | [p0], [v0], h, _, _ =>
  obtain ⟨A0, c0, rfl⟩ := one h.1
  exact .inl ⟨p0, A0, c0, J, J, h.1⟩
 | [p0, p1], [v0, v1], h, _, _ =>
  obtain ⟨A0, c0, rfl⟩ := one h.1
  obtain ⟨A1, c1, rfl⟩ := one h.2.1
  exact .inr (.inl ⟨p0, A0, c0, p1, A1, c1, J, J, h.1, h.2.1⟩)
 | [p0, p1, p2], [v0, v1, v2], h, _, _ =>
  obtain ⟨A0, c0, rfl⟩ := one h.1
  obtain ⟨A1, c1, rfl⟩ := one h.2.1
  obtain ⟨A2, c2, rfl⟩ := one h.2.2.1
  exact .inr (.inr ⟨p0, A0, c0, p1, A1, c1, p2, A2, c2, J, J, h.1, h.2.1, h.2.2.1⟩)
 | _ :: _ :: _ :: _ :: _, _, _, _, h3 => simp at h3
 | [], _, _, h1, _ => simp at h1
def codeP (W : Wld) (p : Prc) : Int :=
 if p.mode = 1 then 2
 else if p.mode = 2 then (if W.rm p.room = 0 then 0 else 2)
 else match p.todo with
  | [] => 1
  | s :: _ => if s.kind = 8 then (if W.rm s.a = 0 then 0 else 2) else 0
def codeOf (W : Wld) (who : Int) : Int :=
 if who < 0 ∨ (W.procs.length : Int) ≤ who then 3 else match W.procs[who.toNat]? with
  | some p => codeP W p
  | none => 3
def HeadOk (p : Prc) : Prop := (p.mode = 2 → p.room = 0 ∨ p.room = 1) ∧ ∀ s r, p.todo = s :: r → s.kind = 8 → s.a = 0 ∨ s.a = 1
theorem Sts_head {G : PH} {s : Stm} {r : List Stm} {A : Option Addr} {n c : Nat} (h : Sts G (s :: r) (.slice A n c)) :
  ∃ ad vx vy, A = some ad ∧ gcells G ad [.int .i64 s.kind, .int .i64 s.a, .int .i64 s.b, .int .i64 s.n, vx, vy] ∧ Sts G s.body vx ∧ Sts G s.els vy ∧ I64 s.kind ∧ I64 s.a ∧ I64 s.b ∧ I64 s.n := by
 obtain ⟨ad, cs, rfl, h1, h2⟩ := Sr_at h (k := 0) (by simp)
 rw [show (0 : Nat) * 6 = 0 from rfl, add_zero'] at h1
 obtain ⟨k, a, b, n, x, y⟩ := s
 obtain ⟨vx, vy, rfl, i1, i2, i3, i4, hx, hy⟩ := Stm.rep_iff.1 h2
 exact ⟨ad, vx, vy, J, h1, hx, hy, i1, i2, i3, i4⟩
end
section
attribute [local irreducible] X Pure Mod
def deedV (k a b n : Int) (vx vy : Value) : Value :=
 if k = 1 then .iface 126 (.agg #[.int .i64 a, .int .i64 n])
 else if k = 2 then .iface 128 (.agg #[.int .i64 a, .int .i64 b, .int .i64 n])
 else if k = 3 then .iface 130 (.agg #[.int .i64 a, .int .i64 b])
 else if k = 4 then .iface 132 (.agg #[.int .i64 a, .int .i64 b])
 else if k = 5 then .iface 134 (.agg #[.int .i64 a])
 else if k = 6 then .iface 136 (.agg #[.int .i64 k, .int .i64 a, .int .i64 b, .int .i64 n, vx, vy])
 else if k = 7 then .iface 137 (.agg #[.int .i64 k, .int .i64 a, .int .i64 b, .int .i64 n, vx, vy])
 else if k = 8 then .iface 138 (.agg #[.int .i64 k, .int .i64 a, .int .i64 b, .int .i64 n, vx, vy])
 else if k = 9 then .iface 140 (.agg #[.int .i64 a])
 else if k = 10 then .iface 141 (.agg #[.int .i64 a])
 else if k = 12 then .iface 143 (.agg #[.int .i64 a])
 else .iface 145 (.agg #[])
theorem c_deedOf (k a b n : Int) (A1 : Option Addr) (n1 c1 : Nat) (A2 : Option Addr) (n2 c2 : Nat) (G : PH) : Pure Tryz.prog 80 [.agg #[.int .i64 k, .int .i64 a, .int .i64 b, .int .i64 n, .slice A1 n1 c1, .slice A2 n2 c2]] G fun v G' => v = deedV k a b n (.slice A1 n1 c1) (.slice A2 n2 c2) ∧ G' = G := by
 refine Pure.intro Tryz.func80 Tryz.ntmps80 J J fun w => ?_; refine Va J J ?_
 repeat' (first
  | (refine S_condp J (fun h => ?_) (fun h => ?_) <;> refine Va J J ?_) | (refine S_cond J (fun h => ?_) (fun h => ?_) <;> refine Va J J ?_) | (refine S_box J J J J J fun b => ?_; refine Va J J ?_) | (refine AZ ZT_ok J J J J fun b => ?_; refine Va J J ?_) | (refine S_guardp J J (fun h => ?_) (fun h => ?_) <;> refine Va J J ?_) | (refine S_guard J J (fun h => ?_) (fun h => ?_) <;> refine Va J J ?_)
  | exact S_retp (Res.t1 Tryz.results80 J J) XR ⟨by simp_all [deedV], J⟩
  | (refine S_valV J J J (V_build0 (by kernel_rfl)) ?_; refine S_valV J J J (V_iface (by kernel_rfl) J J) ?_; refine Va J J ?_))
end
end Go.Proofs.YtcbdilccmjpnbaaGreatDoor
