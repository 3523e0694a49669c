/- Walks of the program's functions, one after the other (part 2); without conditions of their own. -/
import Derived.Test.YtblildkhbkmmdaaDoorWAM1
import Derived.KernelRfl
import Derived.Lib.AppendZeros
import Derived.Lib.AtoiAll
import Derived.Lib.ItoaLen
import Derived.Lib.Split
import Derived.RangeFuncFrom
import Derived.RangeFuncLeaves
import Derived.Test.YtblildkhbkmmdaaDoorProg
set_option linter.unusedVariables false
set_option linter.unusedSimpArgs false
set_option maxRecDepth 100000
set_option maxHeartbeats 4000000
open Go.RowKit
namespace Go.Proofs.YtblildkhbkmmdaaDoor
section
def ZT : ZTab := [(3, ⟨8, [.int .i64 0], []⟩),
 (4, ⟨1, [.bool false], []⟩),
 (65, ⟨80, [.int .i64 0, .int .i64 0, .int .i64 0, .int .i64 0, .slice none 0 0, .slice none 0 0], [1, 1, 1, 1, 1, 1]⟩),
 (63, ⟨24, [.slice none 0 0], []⟩),
 (39, ⟨24, [.slice none 0 0], []⟩),
 (1, ⟨8, [.nilFunc], []⟩),
 (2, ⟨8, [.int .i64 0], []⟩),
 (5, ⟨1, [.int .u8 0], []⟩),
 (9, ⟨16, [.string ByteArray.empty], []⟩),
 (12, ⟨8, [.int .u64 0], []⟩),
 (13, ⟨24, [.string ByteArray.empty, .int .u64 0], [1, 1]⟩),
 (20, ⟨16, [.nilIface], []⟩),
 (21, ⟨4, [.int .i32 0], []⟩),
 (22, ⟨24, [.slice none 0 0], []⟩),
 (24, ⟨8, [.nilFunc], []⟩),
 (25, ⟨8, [.nilFunc], []⟩),
 (26, ⟨8, [.nilFunc], []⟩),
 (27, ⟨8, [.nilFunc], []⟩),
 (28, ⟨24, [.slice none 0 0], []⟩),
 (29, ⟨8, [.nilFunc], []⟩),
 (30, ⟨32, [.int .i64 0, .int .i64 0, .int .i64 0, .int .i64 0], [1, 1, 1, 1]⟩),
 (31, ⟨32, [.int .i64 0, .int .i64 0, .int .i64 0, .int .i64 0], [1, 1, 1, 1]⟩),
 (32, ⟨8, [.nilFunc], []⟩),
 (33, ⟨8, [.nilFunc], []⟩),
 (34, ⟨8, [.nilFunc], []⟩),
 (35, ⟨8, [.nilFunc], []⟩),
 (37, ⟨8, [.nilFunc], []⟩),
 (38, ⟨8, [.nilFunc], []⟩),
 (41, ⟨8, [.nilFunc], []⟩),
 (43, ⟨8, [.nilFunc], []⟩),
 (44, ⟨8, [.nilFunc], []⟩),
 (46, ⟨8, [.nilFunc], []⟩),
 (47, ⟨8, [.nilFunc], []⟩),
 (48, ⟨8, [.nilFunc], []⟩),
 (49, ⟨8, [.nilFunc], []⟩),
 (50, ⟨8, [.map none], []⟩),
 (51, ⟨8, [.nilFunc], []⟩),
 (52, ⟨40, [.string ByteArray.empty, .int .i64 0, .int .i64 0, .bool false, .bool false], [1, 1, 1, 1, 1]⟩),
 (53, ⟨40, [.string ByteArray.empty, .int .i64 0, .int .i64 0, .bool false, .bool false], [1, 1, 1, 1, 1]⟩),
 (54, ⟨24, [.slice none 0 0], []⟩),
 (55, ⟨16, [.nilIface], []⟩),
 (58, ⟨8, [.nilFunc], []⟩),
 (59, ⟨8, [.pointer none], []⟩),
 (60, ⟨24, [.slice none 0 0], []⟩),
 (61, ⟨8, [.nilFunc], []⟩),
 (62, ⟨8, [.nilFunc], []⟩),
 (64, ⟨80, [.int .i64 0, .int .i64 0, .int .i64 0, .int .i64 0, .slice none 0 0, .slice none 0 0], [1, 1, 1, 1, 1, 1]⟩),
 (66, ⟨8, [.nilFunc], []⟩),
 (67, ⟨8, [.nilFunc], []⟩),
 (68, ⟨24, [.slice none 0 0], []⟩),
 (69, ⟨8, [.nilFunc], []⟩),
 (70, ⟨8, [.nilFunc], []⟩),
 (71, ⟨8, [.nilFunc], []⟩),
 (73, ⟨8, [.nilFunc], []⟩),
 (74, ⟨8, [.nilFunc], []⟩),
 (75, ⟨8, [.nilFunc], []⟩),
 (76, ⟨8, [.nilFunc], []⟩),
 (77, ⟨8, [.nilFunc], []⟩),
 (78, ⟨8, [.nilFunc], []⟩),
 (79, ⟨8, [.nilFunc], []⟩),
 (81, ⟨8, [.nilFunc], []⟩),
 (82, ⟨8, [.nilFunc], []⟩),
 (85, ⟨8, [.nilFunc], []⟩),
 (86, ⟨8, [.pointer none], []⟩),
 (87, ⟨8, [.nilFunc], []⟩),
 (88, ⟨8, [.nilFunc], []⟩),
 (89, ⟨8, [.int .u64 0], []⟩),
 (91, ⟨8, [.nilFunc], []⟩),
 (92, ⟨8, [.pointer none], []⟩),
 (93, ⟨32, [.pointer none, .slice none 0 0], [1, 1]⟩),
 (94, ⟨32, [.pointer none, .slice none 0 0], [1, 1]⟩),
 (95, ⟨8, [.nilFunc], []⟩),
 (96, ⟨8, [.nilFunc], []⟩),
 (97, ⟨8, [.int .u64 0], []⟩),
 (99, ⟨8, [.nilFunc], []⟩),
 (100, ⟨8, [.nilFunc], []⟩),
 (101, ⟨48, [.string ByteArray.empty, .string ByteArray.empty, .nilIface], [1, 1, 1]⟩),
 (102, ⟨48, [.string ByteArray.empty, .string ByteArray.empty, .nilIface], [1, 1, 1]⟩),
 (103, ⟨8, [.nilFunc], []⟩),
 (104, ⟨4, [.int .u32 0], []⟩),
 (106, ⟨8, [.nilFunc], []⟩),
 (108, ⟨8, [.nilFunc], []⟩),
 (109, ⟨8, [.nilFunc], []⟩),
 (110, ⟨8, [.pointer none], []⟩),
 (112, ⟨2, [.int .u8 0, .int .u8 0], [1, 1]⟩),
 (113, ⟨2, [.int .u8 0, .int .u8 0], [1, 1]⟩),
 (114, ⟨32, [.int .u8 0, .int .u8 0, .int .u8 0, .int .u8 0, .int .u8 0, .int .u8 0, .int .u8 0, .int .u8 0, .int .u8 0, .int .u8 0, .int .u8 0, .int .u8 0, .int .u8 0, .int .u8 0, .int .u8 0, .int .u8 0, .int .u8 0, .int .u8 0, .int .u8 0, .int .u8 0, .int .u8 0, .int .u8 0, .int .u8 0, .int .u8 0, .int .u8 0, .int .u8 0, .int .u8 0, .int .u8 0, .int .u8 0, .int .u8 0, .int .u8 0, .int .u8 0], []⟩),
 (115, ⟨8, [.nilFunc], []⟩),
 (116, ⟨8, [.nilFunc], []⟩),
 (117, ⟨8, [.pointer none], []⟩),
 (118, ⟨16, [.string ByteArray.empty], [1]⟩),
 (119, ⟨16, [.string ByteArray.empty], [1]⟩),
 (120, ⟨24, [.int .u8 0, .int .u8 0, .int .u8 0, .int .u8 0, .int .u8 0, .int .u8 0, .int .u8 0, .int .u8 0, .int .u8 0, .int .u8 0, .int .u8 0, .int .u8 0, .int .u8 0, .int .u8 0, .int .u8 0, .int .u8 0, .int .u8 0, .int .u8 0, .int .u8 0, .int .u8 0, .int .u8 0, .int .u8 0, .int .u8 0, .int .u8 0], []⟩),
 (121, ⟨8, [.nilFunc], []⟩),
 (122, ⟨8, [.nilFunc], []⟩),
 (124, ⟨8, [.nilFunc], []⟩),
 (126, ⟨8, [.nilFunc], []⟩),
 (127, ⟨8, [.nilFunc], []⟩),
 (128, ⟨8, [.nilFunc], []⟩),
 (129, ⟨160, [.int .u64 0, .int .u64 0, .int .u64 0, .int .u64 0, .int .u64 0, .int .u64 0, .int .u64 0, .int .u64 0, .int .u64 0, .int .u64 0, .int .u64 0, .int .u64 0, .int .u64 0, .int .u64 0, .int .u64 0, .int .u64 0, .int .u64 0, .int .u64 0, .int .u64 0, .int .u64 0], []⟩),
 (131, ⟨8, [.nilFunc], []⟩),
 (132, ⟨8, [.nilFunc], []⟩),
 (133, ⟨32, [.int .u8 0, .int .u8 0, .int .u8 0, .int .u8 0, .int .u8 0, .int .u8 0, .int .u8 0, .int .u8 0, .int .u8 0, .int .u8 0, .int .u8 0, .int .u8 0, .int .u8 0, .int .u8 0, .int .u8 0, .int .u8 0, .int .u8 0, .int .u8 0, .int .u8 0, .int .u8 0, .int .u8 0, .int .u8 0, .int .u8 0, .int .u8 0, .int .u8 0, .int .u8 0, .int .u8 0, .int .u8 0, .int .u8 0, .int .u8 0, .int .u8 0, .int .u8 0], []⟩),
 (140, ⟨8, [.nilFunc], []⟩),
 (143, ⟨8, [.nilFunc], []⟩)]
theorem ZT_ok : zOk Tryd.prog ZT := zOk_of (by kernel_rfl)
def TT : Tab := ⟨[(3, ⟨.sc, 1, []⟩),
 (4, ⟨.sc, 1, []⟩),
 (65, ⟨.agg, 6, [0, 1, 2, 3, 4, 5]⟩),
 (63, ⟨.slc 65, 1, []⟩),
 (39, ⟨.slc 3, 1, []⟩),
 (1, ⟨.sc, 1, []⟩),
 (2, ⟨.sc, 1, []⟩),
 (5, ⟨.sc, 1, []⟩),
 (9, ⟨.str, 1, []⟩),
 (12, ⟨.sc, 1, []⟩),
 (13, ⟨.agg, 2, [0, 1]⟩),
 (20, ⟨.sc, 1, []⟩),
 (21, ⟨.sc, 1, []⟩),
 (22, ⟨.slc 31, 1, []⟩),
 (24, ⟨.sc, 1, []⟩),
 (25, ⟨.sc, 1, []⟩),
 (26, ⟨.sc, 1, []⟩),
 (27, ⟨.sc, 1, []⟩),
 (28, ⟨.slc 9, 1, []⟩),
 (29, ⟨.sc, 1, []⟩),
 (30, ⟨.agg, 4, [0, 1, 2, 3]⟩),
 (31, ⟨.agg, 4, [0, 1, 2, 3]⟩),
 (32, ⟨.sc, 1, []⟩),
 (33, ⟨.sc, 1, []⟩),
 (34, ⟨.sc, 1, []⟩),
 (35, ⟨.sc, 1, []⟩),
 (37, ⟨.sc, 1, []⟩),
 (38, ⟨.sc, 1, []⟩),
 (41, ⟨.sc, 1, []⟩),
 (43, ⟨.sc, 1, []⟩),
 (44, ⟨.sc, 1, []⟩),
 (46, ⟨.sc, 1, []⟩),
 (47, ⟨.sc, 1, []⟩),
 (48, ⟨.sc, 1, []⟩),
 (49, ⟨.sc, 1, []⟩),
 (50, ⟨.sc, 1, []⟩),
 (51, ⟨.sc, 1, []⟩),
 (52, ⟨.agg, 5, [0, 1, 2, 3, 4]⟩),
 (53, ⟨.agg, 5, [0, 1, 2, 3, 4]⟩),
 (54, ⟨.slc 4, 1, []⟩),
 (55, ⟨.sc, 1, []⟩),
 (58, ⟨.sc, 1, []⟩),
 (59, ⟨.sc, 1, []⟩),
 (60, ⟨.slc 59, 1, []⟩),
 (61, ⟨.sc, 1, []⟩),
 (62, ⟨.sc, 1, []⟩),
 (64, ⟨.agg, 6, [0, 1, 2, 3, 4, 5]⟩),
 (66, ⟨.sc, 1, []⟩),
 (67, ⟨.sc, 1, []⟩),
 (68, ⟨.slc 5, 1, []⟩),
 (69, ⟨.sc, 1, []⟩),
 (70, ⟨.sc, 1, []⟩),
 (71, ⟨.sc, 1, []⟩),
 (73, ⟨.sc, 1, []⟩),
 (74, ⟨.sc, 1, []⟩),
 (75, ⟨.sc, 1, []⟩),
 (76, ⟨.sc, 1, []⟩),
 (77, ⟨.sc, 1, []⟩),
 (78, ⟨.sc, 1, []⟩),
 (79, ⟨.sc, 1, []⟩),
 (81, ⟨.sc, 1, []⟩),
 (82, ⟨.sc, 1, []⟩),
 (85, ⟨.sc, 1, []⟩),
 (86, ⟨.sc, 1, []⟩),
 (87, ⟨.sc, 1, []⟩),
 (88, ⟨.sc, 1, []⟩),
 (89, ⟨.sc, 1, []⟩),
 (91, ⟨.sc, 1, []⟩),
 (92, ⟨.sc, 1, []⟩),
 (93, ⟨.agg, 2, [0, 1]⟩),
 (94, ⟨.agg, 2, [0, 1]⟩),
 (95, ⟨.sc, 1, []⟩),
 (96, ⟨.sc, 1, []⟩),
 (97, ⟨.sc, 1, []⟩),
 (99, ⟨.sc, 1, []⟩),
 (100, ⟨.sc, 1, []⟩),
 (101, ⟨.agg, 3, [0, 1, 2]⟩),
 (102, ⟨.agg, 3, [0, 1, 2]⟩),
 (103, ⟨.sc, 1, []⟩),
 (104, ⟨.sc, 1, []⟩),
 (106, ⟨.sc, 1, []⟩),
 (108, ⟨.sc, 1, []⟩),
 (109, ⟨.sc, 1, []⟩),
 (110, ⟨.sc, 1, []⟩),
 (111, ⟨.arr 256 5, 256, []⟩),
 (112, ⟨.agg, 2, [0, 1]⟩),
 (113, ⟨.agg, 2, [0, 1]⟩),
 (114, ⟨.arr 16 113, 32, []⟩),
 (115, ⟨.sc, 1, []⟩),
 (116, ⟨.sc, 1, []⟩),
 (117, ⟨.sc, 1, []⟩),
 (118, ⟨.agg, 1, [0]⟩),
 (119, ⟨.agg, 1, [0]⟩),
 (120, ⟨.arr 24 5, 24, []⟩),
 (121, ⟨.sc, 1, []⟩),
 (122, ⟨.sc, 1, []⟩),
 (124, ⟨.sc, 1, []⟩),
 (126, ⟨.sc, 1, []⟩),
 (127, ⟨.sc, 1, []⟩),
 (128, ⟨.sc, 1, []⟩),
 (129, ⟨.arr 20 97, 20, []⟩),
 (130, ⟨.arr 65 5, 65, []⟩),
 (131, ⟨.sc, 1, []⟩),
 (132, ⟨.sc, 1, []⟩),
 (133, ⟨.arr 32 5, 32, []⟩),
 (134, ⟨.arr 64 5, 64, []⟩),
 (140, ⟨.sc, 1, []⟩),
 (143, ⟨.sc, 1, []⟩)], ZT⟩
theorem Tk : tabOk Tryd.prog TT := tabOk_of (by kernel_rfl) ZT_ok
theorem MO : Tryd.prog.follows .mixedOrders = true := by kernel_rfl
inductive Stm where
 | mk (kind a b n : Int) (body els : List Stm)
def Stm.kind : Stm → Int | .mk k _ _ _ _ _ => k
def Stm.a : Stm → Int | .mk _ a _ _ _ _ => a
def Stm.b : Stm → Int | .mk _ _ b _ _ _ => b
def Stm.n : Stm → Int | .mk _ _ _ n _ _ => n
def Stm.body : Stm → List Stm | .mk _ _ _ _ x _ => x
def Stm.els : Stm → List Stm | .mk _ _ _ _ _ y => y
def I64 (n : Int) : Prop := -9223372036854775808 ≤ n ∧ n ≤ 9223372036854775807
def Sl (G : PH) (row : Addr → Prop) (n : Nat) (v : Value) : Prop :=
 ∃ A c, v = .slice A n c ∧ n ≤ 1000000000 ∧ n ≤ c ∧ c ≤ maxLen ∧ (n = 0 ∨ ∃ ad, A = some ad ∧ row ad)
mutual
/-- the six cells of a statement -/
def Stm.rep (G : PH) : Stm → List Value → Prop
 | .mk k a b n x y, cs => ∃ vx vy, cs = [.int .i64 k, .int .i64 a, .int .i64 b, .int .i64 n, vx, vy] ∧ I64 k ∧ I64 a ∧ I64 b ∧ I64 n ∧ Sl G (Stm.row G x) x.length vx ∧ Sl G (Stm.row G y) y.length vy
def Stm.row (G : PH) : List Stm → Addr → Prop
 | [], _ => True
 | s :: r, ad => (∃ cs, gcells G ad cs ∧ Stm.rep G s cs) ∧ Stm.row G r (ad.add 6)
end
section
variable {C : Ctx} {ks : List Nat} {all : Array Oper} {k : List It} {E : Env} {ι : Ids} {L : List Ent} {G : PH} {R : List Nat} {pend : List Pd}
theorem Va {N : Nat} {k' : List It} {E' : Env} {L' : List Ent} (hN : C.n = N) (h : adv TT N ι 1000 k E L = (k', E', L')) (hx : X C k' E' ι L' G) (hT : tabOk C.P TT := by exact Tk) : X C k E ι L G := S_adv hT hN 1000 h hx
theorem Da {R1 R' : List Nat} {pend' : List Pd} (ha : dadv ks TT C.n ι all L E R [] pend = (R1, pend')) (hv : strN (rev2 R1 []) = some R') (hx : D C ks all k R' pend' E ι L G) (hT : tabOk C.P TT := by exact Tk) (hn : R.Nodup := by decide) : D C ks all k R pend E ι L G := D_adv hT hn ha hv hx
theorem Ds {id : Nat} {ops : Array Oper} {dl : List Nat} {E' : Env} {U : List Nat} (hn : strN (upto ops.size) = some U) (hds : strN (strictDsts ops.toList) = some dl) (hE : strE (dropE dl E) = some E') (h : D C [] ops k U [] E' ι L G) (hm : C.P.follows .mixedOrders = true := by exact MO) (hok : regOk [] ops = true := by kernel_rfl) : X C (.code (.region id ops true) :: k) E ι L G := D_start hm hn hds hE hok h
theorem Ns (j : Nat) {o : Oper} {R' : List Nat} {pend' : List Pd} {E' : Env} {L' : List Ent} (h1 : soleB all R j R = true) (h2 : memN j R = true) (ho : nthOp j all.toList = some o) (hd : o.dst = none) (hR : strN (remN j R) = some R') (hp' : strP (dropP (edgeN o.after.toList) pend) = some pend') (hE : strE (penv (takeP (edgeN o.after.toList) pend) ++ E) = some E') (hg : guardOf all E' o.guard = .on) (hst : storeOp TT E' ι L o.op = some L') (h : D C ks all k R' pend' E' ι L' G) (hT : tabOk C.P TT := by exact Tk) (hrc : rechk ks TT C.n ι all L' (penv pend' ++ E') E' pend' = some pend' := by kernel_rfl) : D C ks all k R pend E ι L G := D_sole j h1 h2 (N_store hT j ho hd h2 hR hp' hE hg hst hrc h)
end
end
section
attribute [local irreducible] X Pure Mod
def numOk (n : Int) : Bool := decide (-999 ≤ n) && decide (n ≤ 999)
theorem c_NumOk (n : Int) (G : PH) : Pure Tryd.prog 46 [.int .i64 n] G fun v G' => v = .bool (numOk n) ∧ G' = G := by
 refine Pure.intro Tryd.func46 Tryd.ntmps46 J J fun w => ?_;refine Va J J ?_;exact S_retP Tryd.results46 J J XR ⟨J, J⟩
def leafOk (k a b n room : Int) : Bool :=
 let reg := decide (0 ≤ a) && decide (a < 3)
 let two := decide (0 ≤ b) && decide (b < 3)
 if k = 1 then reg && decide (b = 0) && numOk n
 else if k = 2 then reg && two && decide (1 ≤ n) && decide (n ≤ 5)
 else if k = 3 then reg && decide (0 ≤ b) && decide (b < 3) && decide (n = 0)
 else if k = 4 then decide (0 ≤ a) && decide (a < 3) && two && decide (n = 0)
 else if k = 5 then reg && decide (b = 0) && decide (n = 0)
 else if k = 9 then decide (0 ≤ room) && decide (0 ≤ a) && decide (a < 2) && decide (b = 0) && decide (n = 0)
 else if k = 10 then decide (0 ≤ a) && decide (a < 2) && decide (b = 0) && decide (n = 0)
 else if k = 11 then decide (a = 0) && decide (b = 0) && decide (n = 0)
 else false
theorem c_l2Leaf (k a b n room : Int) (vx vy : Value) (G : PH) : Pure Tryd.prog 30 [.agg #[.int .i64 k, .int .i64 a, .int .i64 b, .int .i64 n, vx, vy], .int .i64 room] G fun v G' => v = .bool (leafOk k a b n room) ∧ G' = G := by
 refine Pure.intro Tryd.func30 Tryd.ntmps30 J J fun w => ?_;refine Va J J ?_
 repeat' (first
  | (refine S_condp J (fun h => ?_) (fun h => ?_) <;> refine Va J J ?_)
  | (refine S_box J J J J J fun b => ?_; refine Va J J ?_)
  | (refine S_guard J J (fun h => ?_) (fun h => ?_) <;> refine Va J J ?_)
  | (refine S_call Tryd.call46 (c_NumOk _ _) J J J ?_; rintro v G' ⟨rfl, rfl⟩ _; refine Va J J ?_)
  | (refine S_retP Tryd.results30 J J XR ⟨?_, J⟩))
 all_goals simp_all [leafOk]
end
section
open Go.Lib (itoa decDigits)
attribute [local irreducible] X Pure Mod
theorem dig_range : ∀ (u : Nat), ∀ c ∈ decDigits u, 48 ≤ c.toNat ∧ c.toNat ≤ 57 := by
 intro u
 induction u using Nat.strongRecOn with
 | _ u ih =>
  intro c hc
  rw [decDigits] at hc
  split at hc
  ·rw [List.mem_singleton] at hc
   subst hc
   rw [UInt8.toNat_ofNat']
   omega
  ·rcases List.mem_append.1 hc with hc | hc
   ·exact ih (u / 10) (by omega) c hc
   ·rw [List.mem_singleton] at hc
    subst hc
    rw [UInt8.toNat_ofNat']
    omega
def valD (acc : Nat) (l : List UInt8) : Nat := l.foldl (fun a c => a * 10 + (c.toNat - 48)) acc
theorem valD_append (acc : Nat) (l m : List UInt8) : valD acc (l ++ m) = valD (valD acc l) m := by simp [valD]
theorem valD_dec : ∀ (u : Nat), valD 0 (decDigits u) = u := by
 intro u
 induction u using Nat.strongRecOn with
 | _ u ih =>
  rw [decDigits]
  split
  ·simp only [valD, List.foldl_cons, List.foldl_nil, UInt8.toNat_ofNat']
   omega
  ·rw [valD_append, ih (u / 10) (by omega)]
   simp only [valD, List.foldl_cons, List.foldl_nil, UInt8.toNat_ofNat']
   omega
theorem dec_ne (u : Nat) : decDigits u ≠ [] := by
 rw [decDigits]
 split <;> simp
theorem dec_head : ∀ (u : Nat), 1 ≤ u → (decDigits u).head? ≠ some 48 := by
 intro u
 induction u using Nat.strongRecOn with
 | _ u ih =>
  intro h
  rw [decDigits]
  split
  ·rename_i h10
   simp only [List.head?_cons, ne_eq, Option.some.injEq]
   intro e
   have := congrArg UInt8.toNat e
   rw [UInt8.toNat_ofNat'] at this
   simp at this
   omega
  ·have := ih (u / 10) (by omega) (by omega)
   cases hd : decDigits (u / 10) with
   | nil => exact absurd hd (dec_ne _)
   | cons a r => rw [hd] at this; simpa using this
theorem dec_zero : decDigits 0 = [48] := by rw [decDigits]; rfl
theorem valD_ge : ∀ (l : List UInt8) (a : Nat), a ≤ valD a l
 | [], a => Nat.le_refl _
 | c :: l, a => by
  simp only [valD, List.foldl_cons]
  have := valD_ge l (a * 10 + (c.toNat - 48))
  simp only [valD] at this
  omega
theorem parse10 : ∀ (l : List UInt8) (acc : Nat), (∀ c ∈ l, 48 ≤ c.toNat ∧ c.toNat ≤ 57) → valD acc l < 18446744073709551616 → Lib.parseUint10 acc l = .ok (valD acc l)
 | [], acc, _, _ => rfl
 | c :: l, acc, hd, hv => by
  have h1 := hd c (List.mem_cons_self ..)
  have h2 : valD acc (c :: l) = valD (acc * 10 + (c.toNat - 48)) l := rfl
  rw [h2] at hv ⊢
  have h3 := valD_ge l (acc * 10 + (c.toNat - 48))
  rw [Lib.parseUint10, if_pos h1, if_neg (by omega), if_neg (by omega)]
  exact parse10 l _ (fun x hx => hd x (List.mem_cons_of_mem _ hx)) hv
theorem itoa_pos {n : Int} (h : 0 ≤ n) : itoa n = decDigits n.toNat := by unfold Lib.itoa; rw [if_neg (by omega)]
theorem itoa_neg' {n : Int} (h : n < 0) : itoa n = 45 :: decDigits n.natAbs := by unfold Lib.itoa; rw [if_pos h]
theorem itoa_bytes (n : Int) : ∀ c ∈ itoa n, c.toNat = 45 ∨ (48 ≤ c.toNat ∧ c.toNat ≤ 57) := by
 intro c hc
 by_cases h : n < 0
 ·rw [itoa_neg' h] at hc
  rcases List.mem_cons.1 hc with rfl | hc
  ·left; rfl
  ·right; exact dig_range _ c hc
 ·rw [itoa_pos (by omega)] at hc
  right; exact dig_range _ c hc
theorem atoi_itoa {n : Int} (h0 : -9223372036854775808 ≤ n) (h1 : n ≤ 9223372036854775807) : Lib.atoiAll (itoa n) = .ok n := by
 by_cases h : n < 0
 ·rw [itoa_neg' h]
  have hp : Lib.parseMag (decDigits n.natAbs) = .ok n.natAbs := by
   unfold Lib.parseMag
   rw [if_neg (dec_ne _), parse10 _ 0 (dig_range _) (by rw [valD_dec]; omega), valD_dec]
  have e45 : (45 : UInt8).toNat = 45 := rfl
  simp only [Lib.atoiAll, e45, or_true, if_true, hp, not_true_eq_false, false_and, if_false]
  rw [if_neg (by omega)]
  congr 1
  omega
 ·rw [itoa_pos (by omega)]
  cases hd : decDigits n.toNat with
  | nil => exact absurd hd (dec_ne _)
  | cons c r =>
   have hc := dig_range n.toNat c (by rw [hd]; exact List.mem_cons_self ..)
   have hp : Lib.parseMag (c :: r) = .ok n.toNat := by
    rw [← hd]
    unfold Lib.parseMag
    rw [if_neg (dec_ne _), parse10 _ 0 (dig_range _) (by rw [valD_dec]; omega), valD_dec]
   have n1 : ¬ (c.toNat = 43 ∨ c.toNat = 45) := by omega
   have n2 : ¬ c.toNat = 45 := by omega
   simp only [Lib.atoiAll, if_neg n1, hp]
   rw [if_neg (fun e => by have := e.2; omega), if_neg (fun e => n2 e.1), if_neg n2]
   congr 1
   omega
def digB (c : UInt8) : Bool := decide (48 ≤ c.toNat ∧ c.toNat ≤ 57)
def rdN (s : List UInt8) : Int × Bool :=
 let neg : Bool := decide (s.head? = some 45)
 let t := if neg then s.tail else s
 if t.length = 0 ∨ 17 < t.length ∨ (t.head? = some 48 ∧ (1 < t.length ∨ neg = true)) then (0, false)
 else if t.all digB then (if neg then -(valD 0 t : Int) else (valD 0 t : Int), true) else (0, false)
theorem rdN_itoa {n : Int} (h0 : -9999 ≤ n) (h1 : n ≤ 9999) : rdN (itoa n) = (n, true) := by
 have hall : ∀ u, (decDigits u).all digB = true := fun u => List.all_eq_true.2 fun c hc => by simpa [digB] using dig_range u c hc
 have hlen : ∀ u, u ≤ 9999 → (decDigits u).length ≤ 17 := by
  intro u hu
  have d4 : ∀ v, v < 10 → (decDigits v).length = 1 := fun v hv => by rw [decDigits]; simp [hv]
  have step : ∀ v, ¬ v < 10 → (decDigits v).length = (decDigits (v / 10)).length + 1 := fun v hv => by rw [decDigits]; simp [hv]
  by_cases a : u < 10
  ·rw [d4 u a]; omega
  rw [step u a]
  by_cases b : u / 10 < 10
  ·rw [d4 _ b]; omega
  rw [step _ b]
  by_cases c : u / 10 / 10 < 10
  ·rw [d4 _ c]; omega
  rw [step _ c, d4 _ (by omega)]
  omega
 have hpos : ∀ u, (decDigits u).length ≠ 0 := fun u h => dec_ne u (List.eq_nil_of_length_eq_zero h)
 by_cases h : n < 0
 ·rw [itoa_neg' h]
  have hh := dec_head n.natAbs (by omega)
  unfold rdN
  simp only [List.head?_cons, decide_true, if_true, List.tail_cons]
  rw [if_neg (by
   rintro (e | e | ⟨e, _⟩)
   ·exact hpos _ e
   ·have := hlen n.natAbs (by omega); omega
   ·exact hh e), if_pos (hall _), valD_dec]
  congr 1
  omega
 ·rw [itoa_pos (by omega)]
  have hd45 : (decDigits n.toNat).head? ≠ some 45 := by
   cases hd : decDigits n.toNat with
   | nil => simp
   | cons c r =>
    have hc := dig_range n.toNat c (by rw [hd]; exact List.mem_cons_self ..)
    simp only [List.head?_cons, ne_eq, Option.some.injEq]
    rintro rfl
    simp at hc
  unfold rdN
  simp only [hd45, decide_false, Bool.false_eq_true, if_false, or_false]
  rw [if_neg (by
   rintro (e | e | ⟨e, e2⟩)
   ·exact hpos _ e
   ·have := hlen n.toNat (by omega); omega
   ·by_cases h3 : n.toNat = 0
    ·rw [h3, dec_zero] at e2; simp at e2
    ·exact dec_head n.toNat (by omega) e), if_pos (hall _), valD_dec]
  congr 1
  omega
def cutB (c : UInt8) : List UInt8 → List (List UInt8)
 | [] => [[]]
 | x :: r => if x = c then [] :: cutB c r else match cutB c r with
  | [] => [[x]]
  | p :: ps => (x :: p) :: ps
theorem cutB_ne (c : UInt8) : ∀ l, cutB c l ≠ []
 | [] => by simp [cutB]
 | x :: r => by
  simp only [cutB]
  split
  ·simp
  ·split <;> simp
theorem cutB_none {c : UInt8} : ∀ {l : List UInt8}, c ∉ l → cutB c l = [l]
 | [], _ => rfl
 | x :: r, h => by
  simp only [List.mem_cons, not_or] at h
  rw [cutB, if_neg (fun e => h.1 e.symm), cutB_none h.2]
theorem cutB_app {c : UInt8} : ∀ {l : List UInt8} (m : List UInt8), c ∉ l → cutB c (l ++ c :: m) = l :: cutB c m
 | [], m, _ => by simp [cutB]
 | x :: r, m, h => by
  simp only [List.mem_cons, not_or] at h
  rw [List.cons_append, cutB, if_neg (fun e => h.1 e.symm), cutB_app m h.2]
theorem cutB_lines {c : UInt8} : ∀ {L : List (List UInt8)}, (∀ l ∈ L, c ∉ l) → cutB c (L.flatMap fun l => l ++ [c]) = L ++ [[]]
 | [], _ => by simp [cutB]
 | l :: L, h => by
  rw [List.flatMap_cons, List.append_assoc, List.singleton_append, cutB_app _ (h l (List.mem_cons_self ..)), cutB_lines fun x hx => h x (List.mem_cons_of_mem _ hx)]
  rfl
theorem cutB_words {c : UInt8} : ∀ {L : List (List UInt8)} {w : List UInt8}, c ∉ w → (∀ l ∈ L, c ∉ l) → cutB c (w ++ L.flatMap fun l => c :: l) = w :: L
 | [], w, hw, _ => by simpa using cutB_none hw
 | l :: L, w, hw, h => by
  rw [List.flatMap_cons, List.cons_append, cutB_app _ hw, cutB_words (h l (List.mem_cons_self ..)) fun x hx => h x (List.mem_cons_of_mem _ hx)]
theorem cutB_len (c : UInt8) : ∀ l : List UInt8, (cutB c l).length ≤ l.length + 1
 | [] => by simp [cutB]
 | x :: r => by
  have := cutB_len c r
  simp only [cutB]
  split
  ·simp only [List.length_cons]; omega
  ·split
   ·simp
   ·rename_i p ps e
    rw [e] at this
    simp only [List.length_cons] at this ⊢
    omega
end
section
open Go.Lib (itoa decDigits)
attribute [local irreducible] X Pure Mod
structure Ins where
 op : Int
 a : Int
 b : Int
 n : Int
deriving DecidableEq
def wordN : Nat → List UInt8
 | 1 => [110, 117, 109]
 | 2 => [100, 111]
 | 3 => [108, 111, 97, 100]
 | 4 => [115, 116, 111, 114, 101]
 | 5 => [115, 97, 121]
 | 6 => [115, 107, 105, 112]
 | 7 => [106, 117, 109, 112]
 | 8 => [101, 110, 116, 101, 114]
 | 9 => [108, 101, 97, 118, 101]
 | 10 => [119, 97, 105, 116]
 | 11 => [115, 105, 103, 110, 97, 108]
 | 12 => [121, 105, 101, 108, 100]
 | 13 => [101, 110, 100]
 | _ => []
def hasA (op : Int) : Bool := !(decide (op = 7) || decide (op = 12) || decide (op = 13))
def hasB (op : Int) : Bool := decide (op = 2) || decide (op = 3) || decide (op = 4)
def hasN (op : Int) : Bool := decide (op = 1) || decide (op = 2) || decide (op = 6) || decide (op = 7)
def numsI (i : Ins) : List Int := (if hasA i.op then [i.a] else []) ++ (if hasB i.op then [i.b] else []) ++ (if hasN i.op then [i.n] else [])
def lineI (i : Ins) : List UInt8 := wordN i.op.toNat ++ (numsI i).flatMap fun n => 32 :: itoa n
def textI (c : List Ins) : List UInt8 := c.flatMap fun i => lineI i ++ [10]
def insOk (i : Ins) (many : Int) : Bool :=
 if 1 ≤ i.op ∧ i.op ≤ 5 then leafOk i.op i.a i.b i.n (-1)
 else if i.op = 6 then decide (0 ≤ i.a) && decide (i.a < 3) && decide (i.b = 0) && decide (0 ≤ i.n) && decide (i.n < many)
 else if i.op = 7 then decide (i.a = 0) && decide (i.b = 0) && decide (0 ≤ i.n) && decide (i.n < many)
 else if 8 ≤ i.op ∧ i.op ≤ 11 then decide (0 ≤ i.a) && decide (i.a < 2) && decide (i.b = 0) && decide (i.n = 0)
 else if i.op = 12 ∨ i.op = 13 then decide (i.a = 0) && decide (i.b = 0) && decide (i.n = 0)
 else false
theorem insOk_op {i : Ins} {many : Int} (h : insOk i many = true) : 1 ≤ i.op ∧ i.op ≤ 13 := by
 unfold insOk at h
 split at h
 ·omega
 split at h
 ·omega
 split at h
 ·omega
 split at h
 ·omega
 split at h
 ·omega
 ·cases h
theorem insOk_nums {i : Ins} {many : Int} (h : insOk i many = true) (hm : many ≤ 60) : (-999 ≤ i.a ∧ i.a ≤ 999) ∧ (-999 ≤ i.b ∧ i.b ≤ 999) ∧ -999 ≤ i.n ∧ i.n ≤ 999 := by
 unfold insOk at h
 split at h
 ·unfold leafOk at h
  simp only [numOk] at h
  split at h
  ·simp at h; omega
  split at h
  ·simp at h; omega
  split at h
  ·simp at h; omega
  split at h
  ·simp at h; omega
  split at h
  ·simp at h; omega
  ·omega
 split at h
 ·simp at h; omega
 split at h
 ·simp at h; omega
 split at h
 ·simp at h; omega
 split at h
 ·simp at h; omega
 ·cases h
theorem insOk_zero {i : Ins} {many : Int} (h : insOk i many = true) : (hasA i.op = false → i.a = 0) ∧ (hasB i.op = false → i.b = 0) ∧ (hasN i.op = false → i.n = 0) := by
 have hop := insOk_op h
 unfold insOk at h
 unfold hasA hasB hasN
 split at h
 ·unfold leafOk at h
  split at h
  ·simp at h ⊢; omega
  split at h
  ·simp at h ⊢; omega
  split at h
  ·simp at h ⊢; omega
  split at h
  ·simp at h ⊢; omega
  split at h
  ·simp at h ⊢; omega
  ·omega
 split at h
 ·simp at h ⊢; omega
 split at h
 ·simp at h ⊢; omega
 split at h
 ·simp at h ⊢; omega
 split at h
 ·simp at h ⊢; omega
 ·cases h
def succI (i : Ins) (at_ : Int) : List Int := if i.op = 13 then [] else if i.op = 7 then [i.n] else if i.op = 6 then [at_ + 1, i.n] else [at_ + 1]
def heldI (i : Ins) (room : Int) : Int × Bool :=
 if i.op = 8 then (i.a + 1, decide (room = 0)) else if i.op = 9 then (0, decide (room = i.a + 1)) else if i.op = 10 then (room, decide (0 < room)) else if i.op = 13 then (0, decide (room = 0)) else (room, true)
def visitI (room : Int) : List Int → List Int × List Int → Option (List Int × List Int)
 | [], s => some s
 | x :: r, (rooms, todo) =>
  if rooms.getD x.toNat 0 < 0 then visitI room r (rooms.set x.toNat room, todo ++ [x])
  else if rooms.getD x.toNat 0 = room then visitI room r (rooms, todo) else none
def roomsF (c : List Ins) : Nat → Nat → List Int → List Int → Bool
 | 0, _, _, _ => true
 | f + 1, k, rooms, todo => match todo[k]? with
  | none => true
  | some x => match c[x.toNat]? with
   | none => true
   | some i =>
    if (heldI i (rooms.getD x.toNat 0)).2 then match visitI (heldI i (rooms.getD x.toNat 0)).1 (succI i x) (rooms, todo) with
     | none => false
     | some (rooms', todo') => roomsF c f (k + 1) rooms' todo'
    else false
def roomsP (c : List Ins) : Bool := roomsF c (c.length + 1) 0 ((List.replicate c.length (-1)).set 0 0) [0]
def allOk (c : List Ins) : Bool := (List.range c.length).all fun k => match c[k]? with
 | some i => insOk i c.length && (decide (i.op = 13) == decide (k = c.length - 1))
 | none => true
def codeOk (c : List Ins) : Bool := decide (1 ≤ c.length) && decide (c.length ≤ 60) && allOk c && roomsP c
theorem codeOk_ins {c : List Ins} (h : codeOk c = true) : 1 ≤ c.length ∧ c.length ≤ 60 ∧ ∀ i ∈ c, insOk i c.length = true := by
 unfold codeOk at h
 simp only [Bool.and_eq_true, decide_eq_true_eq] at h
 obtain ⟨⟨⟨h1, h2⟩, h3⟩, h4⟩ := h
 unfold allOk at h3
 rw [List.all_eq_true] at h3
 refine ⟨h1, h2, fun i hi => ?_⟩
 obtain ⟨k, hk, rfl⟩ := List.getElem_of_mem hi
 have := h3 k (List.mem_range.2 hk)
 rw [List.getElem?_eq_getElem hk] at this
 simp only [Bool.and_eq_true] at this
 exact this.1
theorem word_bytes : ∀ k : Nat, ∀ c ∈ wordN k, 97 ≤ c.toNat ∧ c.toNat ≤ 122 := by
 intro k c hc
 have h14 : k < 14 ∨ wordN k = [] := by
  by_cases h : k < 14
  ·exact .inl h
  ·right
   match k, h with
   | n + 14, _ => rfl
 rcases h14 with h | h
 ·have key : ∀ k < 14, (wordN k).all (fun c => decide (97 ≤ c.toNat ∧ c.toNat ≤ 122)) = true := by decide
  simpa using List.all_eq_true.1 (key k h) c hc
 ·rw [h] at hc; cases hc
theorem line_bytes (i : Ins) : ∀ c ∈ lineI i, c.toNat = 32 ∨ c.toNat = 45 ∨ (48 ≤ c.toNat ∧ c.toNat ≤ 57) ∨ (97 ≤ c.toNat ∧ c.toNat ≤ 122) := by
 intro c hc
 unfold lineI at hc
 rcases List.mem_append.1 hc with hc | hc
 ·right; right; right; exact word_bytes _ c hc
 ·obtain ⟨n, _, hn⟩ := List.mem_flatMap.1 hc
  rcases List.mem_cons.1 hn with rfl | hn
  ·left; rfl
  ·rcases itoa_bytes n c hn with h | h
   ·right; left; exact h
   ·right; right; left; exact h
theorem cut_text (c : List Ins) : cutB 10 (textI c) = c.map lineI ++ [[]] := by
 have : textI c = (c.map lineI).flatMap fun l => l ++ [10] := by unfold textI; rw [List.flatMap_map]
 rw [this]
 refine cutB_lines fun l hl hm => ?_;obtain ⟨i, _, rfl⟩ := List.mem_map.1 hl
 have := line_bytes i 10 hm
 simp at this
theorem cut_line (i : Ins) : cutB 32 (lineI i) = wordN i.op.toNat :: (numsI i).map itoa := by
 have : lineI i = wordN i.op.toNat ++ ((numsI i).map itoa).flatMap fun l => 32 :: l := by unfold lineI; rw [List.flatMap_map]
 rw [this]
 refine cutB_words (fun hm => ?_) fun l hl hm => ?_
 ·have := word_bytes _ 32 hm
  simp at this
 ·obtain ⟨n, _, rfl⟩ := List.mem_map.1 hl
  have := itoa_bytes n 32 hm
  simp at this
def opOf (w : List UInt8) : Nat := (List.range 14).foldl (fun o k => if 1 ≤ k ∧ wordN k = w then k else o) 0
theorem opOf_word : ∀ k : Nat, 1 ≤ k → k ≤ 13 → opOf (wordN k) = k := by
 have key : ∀ k < 14, 1 ≤ k → opOf (wordN k) = k := by decide
 exact fun k h1 h2 => key k (by omega) h1
def mkIns (op : Int) (x y z : Int) : Ins :=
 if op = 7 then ⟨op, 0, 0, x⟩ else if op = 1 ∨ op = 6 then ⟨op, x, 0, y⟩ else if op = 2 then ⟨op, x, y, z⟩ else if op = 3 ∨ op = 4 then ⟨op, x, y, 0⟩ else ⟨op, x, 0, 0⟩
def numAt (w : List (List UInt8)) (k : Nat) : Int := match w[k]? with
 | some s => (rdN s).1
 | none => 0
def readS (line : List UInt8) : Ins := mkIns (opOf ((cutB 32 line).headD [])) (numAt (cutB 32 line) 1) (numAt (cutB 32 line) 2) (numAt (cutB 32 line) 3)
theorem rdN_of {n : Int} (h : -999 ≤ n ∧ n ≤ 999) : (rdN (itoa n)).1 = n := by rw [rdN_itoa (by omega) (by omega)]
theorem readS_line {i : Ins} {many : Int} (h : insOk i many = true) (hm : many ≤ 60) : readS (lineI i) = i := by
 obtain ⟨h1, h2⟩ := insOk_op h
 obtain ⟨ha, hb, hn⟩ := insOk_nums h hm
 obtain ⟨za, zb, zn⟩ := insOk_zero h
 unfold readS
 rw [cut_line]
 have hop : ((opOf ((wordN i.op.toNat :: (numsI i).map itoa).headD []) : Nat) : Int) = i.op := by
  simp only [List.headD_cons]
  rw [opOf_word _ (by omega) (by omega)]
  omega
 rw [hop]
 obtain ⟨op, a, b, n⟩ := i
 simp only at *
 have na := rdN_of ha
 have nb := rdN_of hb
 have nn := rdN_of hn
 have hcase : op = 1 ∨ op = 2 ∨ op = 3 ∨ op = 4 ∨ op = 5 ∨ op = 6 ∨ op = 7 ∨ op = 8 ∨ op = 9 ∨ op = 10 ∨ op = 11 ∨ op = 12 ∨ op = 13 := by omega
 rcases hcase with rfl | rfl | rfl | rfl | rfl | rfl | rfl | rfl | rfl | rfl | rfl | rfl | rfl <;>
  simp [numsI, hasA, hasB, hasN, mkIns, numAt, na, nb, nn] at za zb zn ⊢ <;> (try simp [za, zb, zn]) <;> (try exact ⟨zb, zn⟩)
def readC (text : List UInt8) : List Ins := (((cutB 10 text).dropLast).take 61).map readS
def codeRead (text : List UInt8) : Option (List Ins) := if codeOk (readC text) = true ∧ textI (readC text) = text then some (readC text) else none
theorem readC_text {c : List Ins} (h : codeOk c = true) : readC (textI c) = c := by
 obtain ⟨h1, h2, h3⟩ := codeOk_ins h
 unfold readC
 rw [cut_text, List.dropLast_concat, List.take_of_length_le (by simp; omega), List.map_map]
 conv => rhs; rw [← List.map_id c]
 exact List.map_congr_left fun i hi => readS_line (h3 i hi) (by omega)
theorem codeRead_of {text : List UInt8} {c : List Ins} (h1 : codeOk c = true) (h2 : textI c = text) : codeRead text = some c := by
 subst h2
 unfold codeRead
 rw [readC_text h1, if_pos ⟨h1, rfl⟩]
theorem codeRead_some {text : List UInt8} {c : List Ins} (h : codeRead text = some c) : codeOk c = true ∧ textI c = text := by
 unfold codeRead at h
 split at h
 ·rename_i h1; cases h; exact h1
 ·cases h
end
section
attribute [local irreducible] X Pure Mod
theorem drop_piece {s : List UInt8} {f i : Nat} {c : UInt8} (hf : f ≤ i) (hi : s[i]? = some c) : s.drop f = (s.drop f).take (i - f) ++ c :: s.drop (i + 1) := by
 have hl := (List.getElem?_eq_some_iff.1 hi).1
 conv => lhs; rw [← List.take_append_drop (i - f) (s.drop f)]
 congr 1
 rw [List.drop_drop, show f + (i - f) = i by omega, List.drop_eq_getElem_cons hl]
 congr 1
 exact (List.getElem?_eq_some_iff.1 hi).2
theorem mem_piece {s : List UInt8} {f i : Nat} {c : UInt8} (h : ∀ j, f ≤ j → j < i → s[j]? ≠ some c) : c ∉ (s.drop f).take (i - f) := by
 intro hm
 obtain ⟨k, hk, e⟩ := List.getElem_of_mem hm
 simp only [List.length_take, List.length_drop] at hk
 rw [List.getElem_take, List.getElem_drop] at e
 exact h (f + k) (by omega) (by omega) (by rw [List.getElem?_eq_getElem (by omega), e])
theorem cut_step {s : List UInt8} {f i : Nat} {c : UInt8} (hf : f ≤ i) (h : ∀ j, f ≤ j → j < i → s[j]? ≠ some c) (hi : s[i]? = some c) : cutB c (s.drop f) = (s.drop f).take (i - f) :: cutB c (s.drop (i + 1)) := by
 rw [drop_piece hf hi, cutB_app _ (mem_piece h)]
 congr 1
 rw [← drop_piece hf hi]
theorem cut_end {s : List UInt8} {f : Nat} {c : UInt8} (hf : f ≤ s.length) (h : ∀ j, f ≤ j → j < s.length → s[j]? ≠ some c) : cutB c (s.drop f) = [(s.drop f).take (s.length - f)] := by
 have e : (s.drop f).take (s.length - f) = s.drop f := List.take_of_length_le (by simp)
 have := mem_piece h
 rw [e] at this ⊢
 exact cutB_none this
theorem idx_hit {c : UInt8} : ∀ {l : List UInt8} (m : List UInt8), c ∉ l → Lib.index (l ++ c :: m) [c] = l.length
 | [], m, _ => by simp [Lib.index]
 | x :: l, m, h => by
  simp only [List.mem_cons, not_or] at h
  have ih := idx_hit (l := l) m h.2
  have hx : (c == x) = false := by simpa using h.1
  rw [List.cons_append, Lib.index, if_neg (by simp [h.1]), ih]
  have : ((l.length : Int) == -1) = false := by rw [beq_eq_false_iff_ne]; omega
  simp [this]
theorem idx_miss {c : UInt8} : ∀ {l : List UInt8}, c ∉ l → Lib.index l [c] = -1
 | [], _ => by simp [Lib.index]
 | x :: l, h => by
  simp only [List.mem_cons, not_or] at h
  have ih := idx_miss (l := l) h.2
  have hx : (c == x) = false := by simpa using h.1
  rw [Lib.index, if_neg (by simp [h.1]), ih]
  simp
theorem first_of {c : UInt8} : ∀ {s : List UInt8}, c ∈ s → ∃ l m, s = l ++ c :: m ∧ c ∉ l
 | [], h => by cases h
 | x :: s, h => by
  by_cases e : c = x
  ·exact ⟨[], s, by rw [e]; rfl, by simp⟩
  ·obtain ⟨l, m, rfl, hl⟩ := first_of (s := s) (by simpa [e] using h)
   exact ⟨x :: l, m, J, by simp [e, hl]⟩
theorem split_cut (c : UInt8) : ∀ (n : Nat) (s : List UInt8), s.length ≤ n → Lib.split s [c] = cutB c s := by
 intro n
 induction n with
 | zero =>
  intro s hs
  obtain rfl : s = [] := List.eq_nil_of_length_eq_zero (by omega)
  have h0 := Lib.count_miss (s := []) (sub := [c]) (idx_miss (by simp))
  simp [Lib.split, h0, Lib.splitK, cutB]
 | succ n ih =>
  intro s hs
  by_cases h : c ∈ s
  ·obtain ⟨l, m, rfl, hl⟩ := first_of h
   have hi := idx_hit m hl
   have hc := Lib.count_hit (s := l ++ c :: m) (sub := [c]) (i := l.length) (by simp) hi
   have hd : (l ++ c :: m).drop (l.length + [c].length) = m := by
    rw [List.length_singleton, ← List.drop_drop, List.drop_left]; rfl
   rw [hd] at hc
   have hm := ih m (by simp at hs; omega)
   have hne : ((l.length : Int) == -1) = false := by rw [beq_eq_false_iff_ne]; omega
   unfold Lib.split at hm ⊢
   rw [hc, Nat.add_comm, Lib.splitK, hi, cutB_app m hl, ← hm]
   simp only [hne, Bool.false_eq_true, if_false, Int.toNat_natCast, Nat.add_zero]
   rw [hd, List.take_left]
  ·have h0 := Lib.count_miss (s := s) (sub := [c]) (idx_miss h)
   unfold Lib.split
   rw [h0, Lib.splitK, cutB_none h]
end
section
open Go.Lib (itoa decDigits)
attribute [local irreducible] X Pure Mod
def atoiO (s : List UInt8) : Option Int := match Lib.atoiAll s with
 | .ok v => some v
 | _ => none
def takeI (has : Bool) (rest : List (List UInt8)) : Option (Int × List (List UInt8)) :=
 if has then match rest with
  | [] => none
  | s :: r => match atoiO s with
   | some v => some (v, r)
   | none => none
 else some (0, rest)
def fillI (op : Int) (rest : List (List UInt8)) : Option Ins :=
 match takeI (hasA op) rest with
 | none => none
 | some (a, r1) => match takeI (hasB op) r1 with
  | none => none
  | some (b, r2) => match takeI (hasN op) r2 with
   | none => none
   | some (n, r3) => if r3.length = 0 then some ⟨op, a, b, n⟩ else none
def readI (ws : List (List UInt8)) : Option Ins := if opOf (ws.headD []) = 0 then none else fillI (opOf (ws.headD []) : Nat) ws.tail
theorem opOf_range (w : List UInt8) : opOf w ≤ 13 := by
 unfold opOf
 have key : ∀ (l : List Nat) (o : Nat), (∀ k ∈ l, k ≤ 13) → o ≤ 13 → l.foldl (fun o k => if 1 ≤ k ∧ wordN k = w then k else o) o ≤ 13 := by
  intro l
  induction l with
  | nil => intro o _ h; exact h
  | cons k l ih =>
   intro o hl ho
   simp only [List.foldl_cons]
   refine ih _ (fun x hx => hl x (List.mem_cons_of_mem _ hx)) ?_
   split
   ·exact hl k (List.mem_cons_self ..)
   ·exact ho
 exact key _ 0 (fun k hk => by have := List.mem_range.1 hk; omega) (by omega)
theorem opOf_iff (w : List UInt8) (k : Nat) (h1 : 1 ≤ k) (h2 : k ≤ 13) : opOf w = k ↔ wordN k = w := by
 constructor
 ·intro h
  have key : ∀ (l : List Nat) (o : Nat), (o = 0 ∨ wordN o = w) → (l.foldl (fun o k => if 1 ≤ k ∧ wordN k = w then k else o) o = 0 ∨ wordN (l.foldl (fun o k => if 1 ≤ k ∧ wordN k = w then k else o) o) = w) := by
   intro l
   induction l with
   | nil => intro o h; exact h
   | cons k l ih =>
    intro o ho
    simp only [List.foldl_cons]
    refine ih _ ?_
    split
    ·rename_i hk; exact .inr hk.2
    ·exact ho
  rcases key (List.range 14) 0 (.inl rfl) with h3 | h3
  ·unfold opOf at h; omega
  ·unfold opOf at h; rw [h] at h3; exact h3
 ·rintro rfl
  exact opOf_word k h1 h2
theorem atoiO_itoa {n : Int} (h : -999 ≤ n ∧ n ≤ 999) : atoiO (itoa n) = some n := by
 unfold atoiO
 rw [atoi_itoa (by omega) (by omega)]
theorem readI_line {i : Ins} {many : Int} (h : insOk i many = true) (hm : many ≤ 60) : readI (cutB 32 (lineI i)) = some i := by
 obtain ⟨h1, h2⟩ := insOk_op h
 obtain ⟨ha, hb, hn⟩ := insOk_nums h hm
 obtain ⟨za, zb, zn⟩ := insOk_zero h
 rw [cut_line]
 unfold readI
 have e : opOf ((wordN i.op.toNat :: (numsI i).map itoa).headD []) = i.op.toNat := opOf_word _ (by omega) (by omega)
 rw [if_neg (by rw [e]; omega), e, List.tail_cons, show ((i.op.toNat : Nat) : Int) = i.op by omega]
 clear e
 obtain ⟨op, a, b, n⟩ := i
 simp only at *
 have na := atoiO_itoa ha
 have nb := atoiO_itoa hb
 have nn := atoiO_itoa hn
 have hcase : op = 1 ∨ op = 2 ∨ op = 3 ∨ op = 4 ∨ op = 5 ∨ op = 6 ∨ op = 7 ∨ op = 8 ∨ op = 9 ∨ op = 10 ∨ op = 11 ∨ op = 12 ∨ op = 13 := by omega
 rcases hcase with rfl | rfl | rfl | rfl | rfl | rfl | rfl | rfl | rfl | rfl | rfl | rfl | rfl <;>
  simp [numsI, hasA, hasB, hasN, fillI, takeI, na, nb, nn] at za zb zn ⊢ <;> (try simp [za, zb, zn]) <;> (try exact ⟨zb, zn⟩)
def readLs : List (List UInt8) → Option (List Ins)
 | [] => some []
 | l :: r => match readI (cutB 32 l) with
  | none => none
  | some i => match readLs r with
   | none => none
   | some c => some (i :: c)
theorem readLs_lines {many : Int} (hm : many ≤ 60) : ∀ {c : List Ins}, (∀ i ∈ c, insOk i many = true) → readLs (c.map lineI) = some c
 | [], _ => rfl
 | i :: c, h => by
  simp only [List.map_cons, readLs, readI_line (h i (List.mem_cons_self ..)) hm, readLs_lines hm fun x hx => h x (List.mem_cons_of_mem _ hx)]
def codeReadI (text : List UInt8) : Option (List Ins) := match readLs (cutB 10 text).dropLast with
 | none => none
 | some c => if codeOk c = true ∧ textI c = text then some c else none
theorem codeReadI_eq (text : List UInt8) : codeReadI text = codeRead text := by
 unfold codeReadI
 cases h : readLs (cutB 10 text).dropLast with
 | none =>
  cases hc : codeRead text with
  | none => rfl
  | some c =>
   obtain ⟨h1, h2⟩ := codeRead_some hc
   obtain ⟨h3, h4, h5⟩ := codeOk_ins h1
   rw [← h2, cut_text, List.dropLast_concat, readLs_lines (many := c.length) (by omega) h5] at h
   cases h
 | some c =>
  simp only
  by_cases hc : codeOk c = true ∧ textI c = text
  ·rw [if_pos hc, codeRead_of hc.1 hc.2]
  ·rw [if_neg hc]
   cases hr : codeRead text with
   | none => rfl
   | some d =>
    obtain ⟨h1, h2⟩ := codeRead_some hr
    obtain ⟨h3, h4, h5⟩ := codeOk_ins h1
    rw [← h2, cut_text, List.dropLast_concat, readLs_lines (many := d.length) (by omega) h5] at h
    cases h
    exact absurd ⟨h1, h2⟩ hc
theorem atoiO_i64 {s : List UInt8} {v : Int} (h : atoiO s = some v) : -9223372036854775808 ≤ v ∧ v ≤ 9223372036854775807 := by
 unfold atoiO at h
 split at h
 ·rename_i u hu
  cases h
  unfold Lib.atoiAll at hu
  split at hu
  ·cases hu
  ·simp only at hu
   split at hu
   ·cases hu
   ·cases hu
   ·split at hu
    ·cases hu
    ·split at hu
     ·cases hu
     ·rename_i h1 h2
      cases hu
      split <;> omega
 ·cases h
theorem takeI_i64 {b : Bool} {r r' : List (List UInt8)} {v : Int} (h : takeI b r = some (v, r')) : -9223372036854775808 ≤ v ∧ v ≤ 9223372036854775807 := by
 unfold takeI at h
 split at h
 ·split at h
  ·cases h
  ·split at h
   ·rename_i hv; cases h; exact atoiO_i64 hv
   ·cases h
 ·cases h; omega
def I4 (i : Ins) : Prop := I64 i.op ∧ I64 i.a ∧ I64 i.b ∧ I64 i.n
theorem readI_i64 {ws : List (List UInt8)} {i : Ins} (h : readI ws = some i) : I4 i := by
 unfold readI at h
 split at h
 ·cases h
 ·have hr := opOf_range (ws.headD [])
  unfold fillI at h
  split at h
  ·cases h
  ·rename_i a r1 ha
   split at h
   ·cases h
   ·rename_i b r2 hb
    split at h
    ·cases h
    ·rename_i n r3 hn
     split at h
     ·cases h
      have h1 := takeI_i64 ha
      have h2 := takeI_i64 hb
      have h3 := takeI_i64 hn
      exact ⟨⟨by simp only; omega, by simp only; omega⟩, h1, h2, h3⟩
     ·cases h
end
section
attribute [local irreducible] X Pure Mod
theorem cnt_set : ∀ (l : List Int) (j : Nat) (v : Int), l[j]? = some (-1) → 0 ≤ v → (l.set j v).countP (fun x => decide (0 ≤ x)) = l.countP (fun x => decide (0 ≤ x)) + 1
 | [], j, v, h, _ => by simp at h
 | x :: l, 0, v, h, hv => by
  simp only [List.getElem?_cons_zero, Option.some.injEq] at h
  subst h
  simp [List.set_cons_zero, List.countP_cons, hv]
 | x :: l, j + 1, v, h, hv => by
  rw [List.set_cons_succ, List.countP_cons, List.countP_cons, cnt_set l j v (by simpa using h) hv]
  omega
structure RI (n : Nat) (rooms todo : List Int) : Prop where
 rl : rooms.length = n
 td : ∀ x ∈ todo, 0 ≤ x ∧ x < n
 ct : todo.length = rooms.countP (fun x => decide (0 ≤ x))
 rg : ∀ v ∈ rooms, -1 ≤ v ∧ v ≤ 2
theorem RI.len {n : Nat} {rooms todo : List Int} (h : RI n rooms todo) : todo.length ≤ n := by
 rw [h.ct, ← h.rl]
 exact List.countP_le_length
theorem RI.start {n : Nat} (h : 1 ≤ n) : RI n ((List.replicate n (-1)).set 0 0) [0] := by
 refine ⟨by simp, by simp; omega, ?_, fun v hv => ?_⟩
 ·rw [cnt_set _ 0 0 (by rw [List.getElem?_replicate]; simp; omega) (by omega)]
  have : ∀ n : Nat, (List.replicate n (-1 : Int)).countP (fun x => decide (0 ≤ x)) = 0 := by
   intro n
   rw [List.countP_eq_zero]
   intro x hx
   rw [(List.mem_replicate.1 hx).2]
   decide
  rw [this]
  rfl
 ·rcases List.mem_or_eq_of_mem_set hv with hv | rfl
  ·rw [(List.mem_replicate.1 hv).2]; omega
  ·omega
theorem getD_at {l : List Int} {x : Int} (h0 : 0 ≤ x) (h1 : x < l.length) : ∃ v, l[x.toNat]? = some v ∧ l.getD x.toNat 0 = v := by
 have : x.toNat < l.length := by omega
 refine ⟨l[x.toNat], List.getElem?_eq_getElem this, ?_⟩
 simp [List.getD_eq_getElem?_getD, List.getElem?_eq_getElem this]
theorem RI.new {n : Nat} {rooms todo : List Int} (h : RI n rooms todo) {x room : Int} (hx : 0 ≤ x ∧ x < n) (hr : 0 ≤ room ∧ room ≤ 2) (hv : rooms.getD x.toNat 0 < 0) : RI n (rooms.set x.toNat room) (todo ++ [x]) := by
 obtain ⟨v, h1, h2⟩ := getD_at (l := rooms) hx.1 (by rw [h.rl]; exact hx.2)
 have hm := h.rg v (List.mem_of_getElem? h1)
 obtain rfl : v = -1 := by omega
 refine ⟨by simpa using h.rl, fun y hy => ?_, ?_, fun u hu => ?_⟩
 ·rcases List.mem_append.1 hy with hy | hy
  ·exact h.td y hy
  ·rw [List.mem_singleton.1 hy]; exact hx
 ·rw [List.length_append, List.length_singleton, h.ct, cnt_set _ _ _ h1 hr.1]
 ·rcases List.mem_or_eq_of_mem_set hu with hu | rfl
  ·exact h.rg u hu
  ·omega
def walkOk (c : List Ins) : Prop := ∀ k i, c[k]? = some i → insOk i c.length = true ∧ (i.op = 13 ↔ k = c.length - 1)
theorem held_range {i : Ins} {many : Int} (h : insOk i many = true) {room : Int} (hr : -1 ≤ room ∧ room ≤ 2) (h2 : (heldI i room).2 = true) : i.op = 13 ∨ (heldI i room).1 ≤ 2 ∧ (0 ≤ room → 0 ≤ (heldI i room).1) := by
 unfold heldI at h2 ⊢
 split
 ·rename_i h8
  right
  unfold insOk at h
  rw [if_neg (by omega), if_neg (by omega), if_neg (by omega), if_pos (by omega)] at h
  simp at h
  simp only
  omega
 ·split
  ·right; simp only; omega
  ·split
   ·right; simp only; omega
   ·split
    ·left; assumption
    ·right; simp only; omega
theorem succ_range {c : List Ins} (hw : walkOk c) {k : Nat} {i : Ins} (hk : c[k]? = some i) : ∀ x ∈ succI i (k : Nat), 0 ≤ x ∧ x < c.length := by
 obtain ⟨h1, h2⟩ := hw k i hk
 have hlt := (List.getElem?_eq_some_iff.1 hk).1
 have hN : (i.op = 6 ∨ i.op = 7) → 0 ≤ i.n ∧ i.n < c.length := by
  rintro h
  unfold insOk at h1
  rw [if_neg (by omega)] at h1
  split at h1
  ·simp at h1; omega
  ·rw [if_pos (by omega)] at h1
   simp at h1; omega
 intro x hx
 unfold succI at hx
 split at hx
 ·cases hx
 ·rename_i h13
  have hkn : k ≠ c.length - 1 := fun e => h13 (h2.2 e)
  split at hx
  ·rename_i h7
   rw [List.mem_singleton.1 hx]
   exact hN (.inr h7)
  ·split at hx
   ·rename_i h6
    simp only [List.mem_cons, List.not_mem_nil, or_false] at hx
    rcases hx with rfl | rfl
    ·omega
    ·exact hN (.inl h6)
   ·rw [List.mem_singleton.1 hx]
    omega
theorem succ_len (i : Ins) (k : Int) : (succI i k).length ≤ 2 := by
 unfold succI
 split
 ·simp
 ·split
  ·simp
  ·split <;> simp
theorem codeOk_walk {c : List Ins} (h : allOk c = true) : walkOk c := by
 unfold allOk at h
 intro k i hk
 have hlt := (List.getElem?_eq_some_iff.1 hk).1
 have := List.all_eq_true.1 h k (List.mem_range.2 hlt)
 rw [hk] at this
 simp only [Bool.and_eq_true] at this
 refine ⟨this.1, ?_⟩
 have h2 := beq_iff_eq.1 this.2
 constructor
 ·intro e; rw [decide_eq_true e] at h2; exact of_decide_eq_true h2.symm
 ·intro e; rw [decide_eq_true e] at h2; exact of_decide_eq_true h2
theorem codeOk_of {c : List Ins} (h1 : 1 ≤ c.length) (h2 : c.length ≤ 60) (hw : walkOk c) : codeOk c = roomsP c := by
 have : allOk c = true := by
  unfold allOk
  rw [List.all_eq_true]
  intro k hk
  have hkl := List.mem_range.1 hk
  rw [List.getElem?_eq_getElem hkl]
  obtain ⟨a, b⟩ := hw k c[k] (List.getElem?_eq_getElem hkl)
  simp only [a, Bool.true_and, beq_iff_eq]
  by_cases e : k = c.length - 1
  ·rw [decide_eq_true e, decide_eq_true (b.2 e)]
  ·rw [decide_eq_false e, decide_eq_false (fun h => e (b.1 h))]
 unfold codeOk
 rw [this, decide_eq_true h1, decide_eq_true h2]
 rfl
theorem codeOk_not {c : List Ins} (h : codeOk c = true) : 1 ≤ c.length ∧ c.length ≤ 60 ∧ walkOk c := by
 obtain ⟨h1, h2, _⟩ := codeOk_ins h
 unfold codeOk at h
 simp only [Bool.and_eq_true] at h
 exact ⟨h1, h2, codeOk_walk h.1.2⟩
theorem line_len {i : Ins} (h : I4 i) : (lineI i).length ≤ 80 := by
 obtain ⟨h0, ha, hb, hn⟩ := h
 have la : ∀ {n : Int}, I64 n → (Lib.itoa n).length ≤ 21 := fun h => Lib.itoa_length_le _ h.1 h.2
 have l1 := la ha
 have l2 := la hb
 have l3 := la hn
 have hw : ∀ k : Nat, (wordN k).length ≤ 6 := by
  intro k
  by_cases h : k < 14
  ·have key : ∀ k < 14, (wordN k).length ≤ 6 := by decide
   exact key k h
  ·match k, h with
   | n + 14, _ => simp [wordN]
 have hw' := hw i.op.toNat
 unfold lineI numsI
 simp only [List.length_append, List.flatMap_append]
 split <;> split <;> split <;> simp <;> omega
theorem text_len : ∀ {c : List Ins}, (∀ i ∈ c, I4 i) → (textI c).length ≤ 81 * c.length
 | [], _ => by simp [textI]
 | i :: c, h => by
  have h1 := line_len (h i (List.mem_cons_self ..))
  have h2 := text_len (c := c) fun x hx => h x (List.mem_cons_of_mem _ hx)
  unfold textI at h2 ⊢
  simp only [List.flatMap_cons, List.length_append, List.length_cons, List.length_nil]
  omega
end
section
structure Frm (S : Nat → Prop) (W W' : World) : Prop where
 os : W'.os = W.os
 tape : W'.tape = W.tape
 output : W'.output = W.output
 size : W.heap.size ≤ W'.heap.size
 keep : ∀ b, b < W.heap.size → ¬ S b → W'.heap[b]? = W.heap[b]?
theorem Frm.refl (S : Nat → Prop) (W : World) : Frm S W W := ⟨rfl, rfl, rfl, Nat.le_refl _, fun _ _ _ => rfl⟩
def YieldR (W : World) (S : Nat → Prop) (A Ax : HP) (e : Ending) (W' : World) : Prop :=
 ∃ S', (∀ b, S' b → S b ∨ W.heap.size ≤ b) ∧ Frm S W W' ∧ ((e = .returned (.bool true) ∧ A.holds W' S') ∨ (e = .returned (.bool false) ∧ Ax.holds W' S'))
def RCx (C : Ctx) (l : Nat) (Q : Exit → Act → World → Prop) (W : World) (S : Nat → Prop) : Ctx := ⟨C.P, some l, C.n, Q, W, S, false⟩
section
variable {C : Ctx} {E : Env} {ι ι' : Ids} {L Ln Lr : List Ent} {G : PH} {l : Nat} {W : World} {S : Nat → Prop} {k : List It}
end
theorem SatW.round {C : Ctx} {ι : Ids} {L : List Ent} {G : PH} {W : World} {Ss : List (Nat → Prop)} {l : Nat} {Q : Exit → Act → World → Prop} (ho : owns ι W L Ss) (hG : ∀ T ∈ Ss, ∀ b, T b → G b = none) (hE : Emb G W) : SatW (RCx C l Q W (fun x => ∃ T ∈ Ss, T x)) ι L G W :=
 ⟨rfl, rfl, rfl, Nat.le_refl _, fun _ _ _ => rfl, hE, Ss, ho, fun T hT b hb => ⟨hG T hT b hb, .inl ⟨T, hT, hb⟩⟩⟩
section
variable {C : Ctx} {k : List It} {E : Env} {ι : Ids} {L : List Ent} {G : PH}
end
end
section
def MC (P : Program) (n : Nat) (fn : Func) (G : PH) (Post : Value → PH → HP → Prop) (w : World) (S : Nat → Prop) : Ctx := ⟨P, none, n, bodyPost P fn (ModR G w S Post), w, S, false⟩
theorem Mod.intro {P : Program} {f : FuncId} {fn : Func} {c : Code} {vs : List Value} {G : PH} {A : HP} {Post : Value → PH → HP → Prop} {n : Nat} (hf : P.funcs[f]? = some fn) (hn : fn.ntmps = n) (hb : fn.body = some c) (hle : Nat.ble vs.length n = true)
  (hx : ∀ w S, X (MC P n fn G Post w S) [.code c] (envOf 0 vs) [] [.hp 1 A] G) : Mod P f vs G A Post := by
 intro w S hw hA hS
 refine Enter (ι := []) (L := [.hp 1 A]) (G := G) (S0 := S) hf hb hn hle ?_ (hx w S)
 refine ⟨rfl, rfl, rfl, Nat.le_refl _, fun _ _ _ => rfl, hw, [S], ⟨hA, ⟨fun T hT => (by cases hT), trivial⟩⟩, ?_⟩
 intro T hT b hb
 rw [List.mem_singleton.1 hT] at hb
 exact ⟨hS b hb, .inl hb⟩
section
variable {P : Program} {fn : Func} {n : Nat} {G0 G : PH} {Post : Value → PH → HP → Prop} {w0 : World} {S0 : Nat → Prop} {k : List It} {E : Env} {ι : Ids} {L : List Ent}
theorem SatW.modR {w : World} (h : SatW (MC P n fn G0 Post w0 S0) ι L G w) {κ : Nat} {A' : HP} (hL : getH κ L = some A') (hx : PH.ext w0.heap.size G0 G) {v : Value} (hp : Post v G A') : ModR G0 w0 S0 Post (.returned v) w := by
 obtain ⟨Ss, ho, hS⟩ := h.own
 obtain ⟨S, hA, hm, _⟩ := owns_split ho hL
 exact ⟨v, G, A', S, rfl, hp, hA, hx, h.emb, fun b hb => hS S hm b hb, h.os, h.tape, h.output, h.size, h.keep⟩
end
def packHP (p : Ids → List Ent → Prop) : HP where
 holds w S := ∃ ι L Ss, p ι L ∧ owns ι w L Ss ∧ ∀ x, S x ↔ ∃ T ∈ Ss, T x
 loc w w' S h hs := by
  obtain ⟨ι, L, Ss, hp, ho, hS⟩ := h
  exact ⟨ι, L, Ss, hp, owns_far ho (fun x => ¬ S x) (fun x hx => hs x (Classical.not_not.1 hx)) (fun T hT x hx hn => hn ((hS x).2 ⟨T, hT, hx⟩)), hS⟩
 lt w S h x hx := by
  obtain ⟨ι, L, Ss, hp, ho, hS⟩ := h
  obtain ⟨T, hT, hTx⟩ := (hS x).1 hx
  exact owns_lt ho T hT x hTx
theorem lookI_append {k : Nat} {ι0 ι : Ids} : lookI k (ι0 ++ ι) = (match lookI k ι0 with | some b => some b | none => lookI k ι) := by
 induction ι0 with
 | nil => rfl
 | cons x l ih =>
  obtain ⟨j, b⟩ := x
  simp only [List.cons_append, lookI]
  split
  ·rfl
  ·exact ih
def IdsLe (ι ι' : Ids) : Prop := ∀ k b, lookI k ι = some b → lookI k ι' = some b
theorem IdsLe.left (ι0 ι : Ids) : IdsLe ι0 (ι0 ++ ι) := by
 intro k b h
 rw [lookI_append, h]
theorem IdsLe.right {ι0 ι : Ids} (hf : ∀ k ∈ ι0.map (·.1), lookI k ι = none) : IdsLe ι (ι0 ++ ι) := by
 intro k b h
 rw [lookI_append]
 split
 ·rename_i c hc
  have : k ∈ ι0.map (·.1) := by
   clear h hf
   induction ι0 with
   | nil => cases hc
   | cons x l ih =>
    obtain ⟨j, b'⟩ := x
    simp only [lookI] at hc
    split at hc
    ·rename_i e; subst e; exact List.mem_cons_self ..
    ·exact List.mem_cons_of_mem _ (ih hc)
  rw [hf k this] at h; cases h
 ·exact h
section
variable {C : Ctx} {k : List It} {E : Env} {ι : Ids} {L : List Ent} {G : PH}
theorem S_reE (d : Nat) (s' : Sym) {s : Sym} (hl : look d E = some s) (hd : denO ι s = denO ι s') (hk : X C k ((d, s') :: E) ι L G) : X C k E ι L G := by
 intro a w h1 h2 h3 h4
 refine hk a w h1 h2 ?_ h4
 intro i t hi
 simp only [look] at hi
 split at hi
 ·rename_i e; subst e; cases hi
  obtain ⟨v, hv, ht⟩ := h3 _ _ hl
  exact ⟨v, hd ▸ hv, ht⟩
 ·exact h3 i t hi
end
section
variable {C : Ctx} {k : List It} {E : Env} {ι : Ids} {L : List Ent} {G : PH}
end
section
variable {C : Ctx} {k : List It} {E : Env} {ι : Ids} {L : List Ent} {G : PH} {all : Array Oper} {l : List Oper}
end
section
variable {C : Ctx} {ks : List Nat} {all : Array Oper} {k : List It} {E : Env} {ι : Ids} {L : List Ent} {G : PH} {R : List Nat} {pend : List Pd}
theorem N_turn {T : Tab} (hT : tabOk C.P T) (j : Nat) {o : Oper} {R' : List Nat} {pend' : List Pd} {E' : Env} (ho : nthOp j all.toList = some o) (hR : strN (remN j R) = some R') (hp' : strP (dropP (edgeN o.after.toList) pend) = some pend') (hE : strE (penv (takeP (edgeN o.after.toList) pend) ++ E) = some E')
  (hx : (∀ (E'' : Env) (ι' : Ids) (L' : List Ent) (G' : PH), rechk ks T C.n ι' all L' (penv pend' ++ E'') E'' pend' = some pend' → D C ks all k R' pend' E'' ι' L' G' → X C (.ops all [] :: .stop (DR C all k R' pend') :: k) E'' ι' L' G') →
   X C (.ops all [o] :: .stop (DR C all k R' pend') :: k) E' ι L G) : Nx C ks all k R pend E ι L G j := by
 refine N_eff j ho hR hp' hE fun hok hp hdis => hx fun E'' ι' L' G' hrc h => ?_
 intro a w h1 h2 h3 h4
 refine wpE_nil (h hok (rechk_sound hT J _ _ hrc) ?_ _ _ h1 h2 h3 h4)
 intro p hpm hR'
 have hp' := strP_eq hp'
 have hR := strN_eq hR
 rw [dropP_eq] at hp'
 rw [remN_eq] at hR
 subst hp' hR
 exact hdis p (List.mem_filter.1 hpm).1 (List.mem_filter.1 hR').1
end
section
variable {C : Ctx} {ks : List Nat} {all : Array Oper} {k : List It} {E : Env} {ι : Ids} {L : List Ent} {G : PH} {R : List Nat} {pend : List Pd}
theorem Nt (j : Nat) {o : Oper} {R' : List Nat} {pend' : List Pd} {E' : Env} (h1 : soleB all R j R = true) (h2 : memN j R = true) (ho : nthOp j all.toList = some o) (hR : strN (remN j R) = some R') (hp' : strP (dropP (edgeN o.after.toList) pend) = some pend') (hE : strE (penv (takeP (edgeN o.after.toList) pend) ++ E) = some E')
  (hx : (∀ (E'' : Env) (ι' : Ids) (L' : List Ent) (G' : PH), rechk ks TT C.n ι' all L' (penv pend' ++ E'') E'' pend' = some pend' → D C ks all k R' pend' E'' ι' L' G' → X C (.ops all [] :: .stop (DR C all k R' pend') :: k) E'' ι' L' G') →
      X C (.ops all [o] :: .stop (DR C all k R' pend') :: k) E' ι L G) (hT : tabOk C.P TT := by exact Tk) : D C ks all k R pend E ι L G := D_sole j h1 h2 (N_turn hT j ho hR hp' hE hx)
end
end
section
def rowO (base e size : Nat) (A : Option Addr) (n c : Nat) (xs : List Value) : HP where
 holds w S := xs.length = n * size ∧ c ≤ maxLen ∧ n ≤ c ∧ ((A = none ∧ c = 0 ∧ ∀ b, ¬ S b) ∨ ∃ g off cur, A = some ⟨g, off, none⟩ ∧ base ≤ g ∧ w.heap[g]? = some (.cells cur e (0, 0)) ∧ off + c * size ≤ cur.size ∧ (cur.toList.drop off).take xs.length = xs ∧ ∀ b, S b ↔ b = g)
 loc w w' S h hs := by
  obtain ⟨h1, h2, h3, h4⟩ := h
  refine ⟨h1, h2, h3, ?_⟩
  rcases h4 with h4 | ⟨g, off, cur, q1, q0, q2, q3, q4, q5⟩
  ·exact .inl h4
  ·exact .inr ⟨g, off, cur, q1, q0, by rw [hs g ((q5 g).2 J)]; exact q2, q3, q4, q5⟩
 lt w S h b hb := by
  obtain ⟨h1, h2, h3, h4⟩ := h
  rcases h4 with h4 | ⟨g, off, cur, q1, q0, q2, q3, q4, q5⟩
  ·exact absurd hb (h4.2.2 b)
  ·rw [(q5 b).1 hb]; exact (Array.getElem?_eq_some_iff.1 q2).1
theorem add_lit' (g off n : Nat) : (⟨g, off, none⟩ : Addr).add n = ⟨g, off + n, none⟩ := by unfold Addr.add; split <;> simp_all
theorem cells_at {w : World} {g off e : Nat} {cur : Array Value} {xs : List Value} (hg : w.heap[g]? = some (.cells cur e (0, 0))) (ht : (cur.toList.drop off).take xs.length = xs) : ∀ j u, xs[j]? = some u → w.cell? ((⟨g, off, none⟩ : Addr).add j) = some u := by
 intro j u hj
 rw [add_lit']
 simp only [World.cell?, hg]
 rw [← ht] at hj
 rw [List.getElem?_take] at hj
 split at hj
 ·simpa using hj
 ·cases hj
def SrcOk (w : World) (sz : Nat) (v : Value) (m : Nat) (news : List Value) : Prop :=
 news.length = m * sz ∧ ∃ A c, v = .slice A m c ∧ (m = 0 ∨ ∃ a, A = some a ∧ ∀ j u, news[j]? = some u → w.cell? (a.add j) = some u)
theorem run_appendO {P : Program} (w : World) (base t ty e : Nat) (i : TypeInfo) (z : Value) (sz : Nat) (ht : P.underlying t = some (.slice e)) (hi : P.info? e = some i) (hz : i.zero = some z) (hsz : i.size = sz) (hzs : z.cells.size = sz) (hpos : 0 < sz)
  {A : Option Addr} {n c : Nat} {xs : List Value} {S : Nat → Prop} (hA : (rowO base e sz A n c xs).holds w S) {v : Value} {m : Nat} {news : List Value} (hs : SrcOk w sz v m news) (h1 : ∀ u ∈ news, u.oneCell' = true)
  (h63 : n + m ≤ maxLen) (hby : (n + m) * i.bytes ≤ 140737488355328) (hbase : base ≤ w.heap.size) :
  ∃ A' c' w' S', (Builtin.append_ #[t, t] ty #[.slice A n c, v]).run P w = .ok (.slice A' (n + m) c') w' ∧ (rowO base e sz A' (n + m) c' (xs ++ news)).holds w' S' ∧ (∀ b, S' b → S b ∨ b = w.heap.size) ∧
   w'.os = w.os ∧ w'.tape = w.tape ∧ w'.output = w.output ∧ w.heap.size ≤ w'.heap.size ∧ (∀ b, b < w.heap.size → ¬ S b → w'.heap[b]? = w.heap[b]?) ∧ (A' = A ∨ ∃ g, A' = some ⟨g, 0, none⟩) := by
 obtain ⟨hl, A2, c2, rfl, hsrc⟩ := hs
 obtain ⟨hxl, hcm, hnc, hcase⟩ := hA
 have hsmall : n + m ≤ 9223372036854775807 := by simp only [maxLen] at h63; omega
 rcases hsrc with rfl | ⟨a, rfl, hnews⟩
 ·-- nothing is appended
  have hn : news = [] := List.eq_nil_of_length_eq_zero (by simpa using hl)
  subst hn
  refine ⟨A, c, w, S, ?_, by simp only [Nat.add_zero, List.append_nil]; exact ⟨hxl, hcm, hnc, hcase⟩, fun b hb => .inl hb, rfl, rfl, rfl, Nat.le_refl _, fun _ _ _ => rfl, .inl rfl⟩
  have hf : ∀ w, (Builtin.firstCells i.size 0 (.slice A2 0 c2)).run P w = .ok #[] w := by
   intro w
   cases A2 with
   | none => exact run_firstCells_none (P := P) w i.size 0 0 c2
   | some a => exact run_firstCells_some (P := P) w i.size 0 a 0 c2 [] (by simp) (by simp)
  rcases hcase with ⟨rfl, rfl, _⟩ | ⟨g, off, cur, rfl, _, hg, hfit, _, _⟩
  ·obtain rfl : n = 0 := by omega
   simp [Builtin.append_, run_underlying ht, sizeOf, typeInfo, hi, Builtin.lenOf, hf]
  ·have hst : ∀ a, (storeCells a []).run P w = .ok () w := fun a => by simp [storeCells]
   simp [Builtin.append_, run_underlying ht, sizeOf, typeInfo, hi, Builtin.lenOf, hnc, hf, hst]
 ·subst hsz
  by_cases hm : m = 0
  ·subst hm
   have hn : news = [] := List.eq_nil_of_length_eq_zero (by simpa using hl)
   subst hn
   refine ⟨A, c, w, S, ?_, by simp only [Nat.add_zero, List.append_nil]; exact ⟨hxl, hcm, hnc, hcase⟩, fun b hb => .inl hb, rfl, rfl, rfl, Nat.le_refl _, fun _ _ _ => rfl, .inl rfl⟩
   have hf : ∀ w, (Builtin.firstCells i.size 0 (.slice (some a) 0 c2)).run P w = .ok #[] w := fun w => run_firstCells_some (P := P) w i.size 0 a 0 c2 [] (by simp) (by simp)
   rcases hcase with ⟨rfl, rfl, _⟩ | ⟨g, off, cur, rfl, _, hg, hfit, _, _⟩
   ·obtain rfl : n = 0 := by omega
    simp [Builtin.append_, run_underlying ht, sizeOf, typeInfo, hi, Builtin.lenOf, hf]
   ·have hst : ∀ a, (storeCells a []).run P w = .ok () w := fun a => by simp [storeCells]
    simp [Builtin.append_, run_underlying ht, sizeOf, typeInfo, hi, Builtin.lenOf, hnc, hf, hst]
  ·have grown : ∀ (old : Nat), (rowO base e i.size (some ⟨w.heap.size, 0, none⟩) (n + m) (grownCap w (n + m) old e) (xs ++ news)).holds (w.drew.alloc (.cells (xs.toArray ++ news.toArray ++ Builtin.zeroCells z.cells (grownCap w (n + m) old e - (n + m))) e)) (fun b => b = w.heap.size) := by
    intro old
    have hge := grownCap_ge w (n + m) old e
    have hcm' : grownCap w (n + m) old e ≤ maxLen := grownCap_le_maxLen w (n + m) old e h63
    refine ⟨by rw [List.length_append, hxl, hl, Nat.add_mul], hcm', hge, .inr ⟨_, 0, _, rfl, hbase, heap_alloc_new w.drew _, ?_, ?_, fun b => Iff.rfl⟩⟩
    ·simp only [Array.size_append, List.size_toArray, size_zeroCells, hzs, hxl, hl, ← Nat.add_mul]
     rw [Nat.zero_add]
     exact Nat.mul_le_mul_right _ (by omega)
    ·simp only [Array.toList_append, List.drop_zero]
     exact List.take_left
   have hold : ∀ old b, b < w.heap.size → (w.drew.alloc (.cells (xs.toArray ++ news.toArray ++ Builtin.zeroCells z.cells (grownCap w (n + m) old e - (n + m))) e)).heap[b]? = w.heap[b]? := fun old b hb => heap_alloc_old w.drew _ hb
   rcases hcase with ⟨rfl, rfl, hS⟩ | ⟨g, off, cur, rfl, hbg, hg, hfit, htake, hS⟩
   ·obtain rfl : n = 0 := by omega
    have hx : xs = [] := List.eq_nil_of_length_eq_zero (by simpa using hxl)
    subst hx
    have hr := run_append_nil (P := P) w t ty e i z ht hi hz a m c2 news hl hnews (by omega) (by omega) (by have hb := hby; simp only [Nat.zero_add] at hb; omega)
    have hgr := grown 0
    simp only [Nat.zero_add, List.nil_append, Array.empty_append] at hgr ⊢
    have hold0 := hold 0
    simp only [Nat.zero_add, List.nil_append, Array.empty_append] at hold0
    exact ⟨_, _, _, _, hr, hgr, fun b hb => .inr hb, rfl, rfl, rfl, by simp, fun b hb _ => hold0 b hb, .inr ⟨_, rfl⟩⟩
   ·by_cases hroom : n + m ≤ c
    ·have hf := run_firstCells_some (P := P) w i.size m a m c2 news hl hnews
     have hlen : off + n * i.size + news.length ≤ cur.size := by
      rw [hl, Nat.add_assoc, ← Nat.add_mul]
      exact Nat.le_trans (Nat.add_le_add_left (Nat.mul_le_mul_right _ hroom) _) hfit
     have hst := run_storeCells_at P g (off + n * i.size) e news 0 cur w hg (by simpa using hlen) h1
     simp only [Nat.add_zero] at hst
     refine ⟨some ⟨g, off, none⟩, c, w.setRow g (cur.toList.take (off + n * i.size) ++ news ++ cur.toList.drop (off + n * i.size + news.length)).toArray, S, ?_, ⟨by rw [List.length_append, hxl, hl, Nat.add_mul], hcm, hroom, .inr ⟨g, off, _, rfl, hbg, setRow_heap w g cur _ e _ hg, ?_, ?_, hS⟩⟩, fun b hb => .inl hb, rfl, rfl, rfl, by simp, fun b _ hb => setRow_other w g b _ (fun e => hb ((hS b).2 e)), .inl rfl⟩
     ·simp [Builtin.append_, run_underlying ht, sizeOf, typeInfo, hi, Builtin.lenOf, hroom, hf, add_lit', hst]
     ·simp only [List.size_toArray, List.length_append, List.length_take, List.length_drop, Array.length_toList]
      omega
     ·have hlc : off + n * i.size ≤ cur.toList.length := by rw [Array.length_toList]; omega
      have e1 : List.take (off + n * i.size) cur.toList = List.take off cur.toList ++ xs := by
       rw [List.take_add, ← hxl, htake]
      show (List.drop off (List.take (off + n * i.size) cur.toList ++ news ++ List.drop (off + n * i.size + news.length) cur.toList)).take (xs ++ news).length = xs ++ news
      rw [e1]
      have hoff : (List.take off cur.toList).length = off := by rw [List.length_take]; omega
      rw [List.append_assoc, List.append_assoc]
      have hd : List.drop off (List.take off cur.toList ++ (xs ++ (news ++ List.drop (off + n * i.size + news.length) cur.toList))) = xs ++ (news ++ List.drop (off + n * i.size + news.length) cur.toList) := by
       have := List.drop_left (l₁ := List.take off cur.toList) (l₂ := xs ++ (news ++ List.drop (off + n * i.size + news.length) cur.toList))
       rw [hoff] at this
       exact this
      rw [hd, ← List.append_assoc]
      exact List.take_left
    ·have holds : ∀ j u, xs[j]? = some u → w.cell? ((⟨g, off, none⟩ : Addr).add j) = some u := cells_at hg htake
     have hr := run_append_grow (P := P) w t ty e i z ht hi hz ⟨g, off, none⟩ n c xs hxl holds a m c2 news hl hnews (by omega) (by omega) (growslice_fits (by omega) hby)
     exact ⟨_, _, _, _, hr, grown c, fun b hb => .inr hb, rfl, rfl, rfl, by simp, fun b hb _ => hold c b hb, .inr ⟨_, rfl⟩⟩
section
variable {C : Ctx} {k : List It} {E : Env} {ι : Ids} {L : List Ent} {G : PH} {all : Array Oper} {l : List Oper}
theorem S_appOz {T : Tab} (hT : tabOk C.P T) (κ : Nat) {d t e sz' sz : Nat} {os os' : List Nat} {tk : TK} {zi : ZI} {s x : Operand} {sx : Sym} {ty : Nat} {pos : String} {af : Array Edge} {g : Option (Nat × Bool)} {base : Nat} {A : Option Addr} {vx : Value} {n m c : Nat} {xs news : List Value} {L' : Option Addr → Nat → List Ent}
  (ht : lookT t T = some ⟨.slc e, sz', os'⟩) (he : lookT e T = some ⟨tk, sz, os⟩) (hz : lookZ e T.zs = some zi) (hzs : zi.zs.length = sz) (hsz : Nat.ble 1 sz = true)
  (hg : guardOf all E g = .on) (hN : Nat.ble (d + 1) C.n = true) (hs : ev E s = some (.val (.slice A n c))) (hx : ev E x = some sx) (hdx : denO ι sx = some vx)
  (hL : getH κ L = some (rowO base e sz A n c xs)) (hL' : ∀ A' c', setH κ (rowO base e sz A' (n + m) c' (xs ++ news)) L = some (L' A' c'))
  (hsrc : ∀ w, SatW C ι L G w → SrcOk w sz vx m news) (h1 : ∀ u ∈ news, u.oneCell' = true) (hby : (n + m) * zi.b ≤ 140737488355328) (h63 : n + m ≤ maxLen) (hbase : base ≤ C.w0.heap.size)
  (hk : ∀ A' c', (A' = A ∨ ∃ g, A' = some ⟨g, 0, none⟩) → X C (.ops all l :: k) ((d, .val (.slice A' (n + m) c')) :: E) ι (L' A' c') G) : X C (.ops all (⟨some d, .call ⟨.builtin .append, #[s, x], #[t, t]⟩, ty, pos, af, g⟩ :: l) :: k) E ι L G := by
 intro a w g1 g2 g3 g4
 have hdn : d < a.tmps.size := by rw [g2]; exact Nat.le_of_ble_eq_true hN
 have es := ev_sound g3 hs
 have ex := ev_sound g3 hx
 rw [hdx] at ex
 simp only [denO, Option.some.injEq] at es ex
 have hu := tyOk_slice (hT _ _ ht) rfl
 obtain ⟨dsc, inf, _, hi, _, hsize, _⟩ := tyOk_parts (hT _ _ he)
 obtain ⟨inf', vz, hi', hv, hb, hc, _⟩ := viewZ_eq (hT.z _ _ hz)
 rw [hi] at hi'; cases hi'
 obtain ⟨S2, hA, hS2G, hturn⟩ := g4.turn hL
 obtain ⟨A', c', w', S', hr, hA', hS', q1, q2, q3, q4, q5, q6⟩ := run_appendO (P := C.P) w base t ty e inf vz sz hu hi hv hsize (by rw [hc]; simpa using hzs) (Nat.le_of_ble_eq_true hsz) hA (hsrc w g4) h1 h63 (by rw [hb]; exact hby) (Nat.le_trans hbase g4.size)
 have hrun : (execOp a.eval ⟨some d, .call ⟨.builtin .append, #[s, x], #[t, t]⟩, ty, pos, af, g⟩).run C.P w = .ok (.value (.slice A' (n + m) c')) w' := by
  simp only [execOp, resolve, invoke, List.map_toArray, List.map_cons, List.map_nil, ← es, ← ex]
  simp [builtin, hr]
 refine wpE_val (guardOf_on g3 hg) (by intro c h; cases h) hrun ?_;refine hk A' c' q6 _ _ g1 (by simp [Act.put, g2]) (g3.put hdn J) ?_
 have hGlt : ∀ b o, G b = some o → b < w.heap.size := fun b o hb => (Array.getElem?_eq_some_iff.1 (g4.emb b o hb)).1
 refine hturn _ _ G w' S' (hL' A' c') hA' ?_ XR ?_ q1 q2 q3 q4 q5
 ·intro b o hb
  rw [q5 b (hGlt b o hb) (fun h => by rw [hS2G b h] at hb; cases hb)]
  exact g4.emb b o hb
 ·intro b hb
  rcases hS' b hb with h | h
  ·exact ⟨hS2G b h, .inl h⟩
  ·subst h
   refine ⟨?_, .inr (Nat.le_refl _)⟩
   cases hq : G w.heap.size with
   | none => rfl
   | some o => have := hGlt _ _ hq; omega
theorem src_blk (j : Nat) {o ty b m c sz : Nat} {ns : List Cel} {cs : List Value} (hB : lookB j L = some (ty, ns)) (hd : denL ι ns = some cs) (hb : lookI j ι = some b) {news : List Value} (hn : (cs.drop o).take (m * sz) = news) (hl : news.length = m * sz) :
  ∀ w, SatW C ι L G w → SrcOk w sz (.slice (some ⟨b, o, none⟩) m c) m news := by
 intro w hw
 refine ⟨hl, some ⟨b, o, none⟩, c, J, .inr ⟨_, J, ?_⟩⟩
 obtain ⟨Ss, ho, _⟩ := hw.own
 obtain ⟨b', vs, hb', hdv, hh⟩ := owns_blk ho hB
 rw [hb] at hb'; cases hb'
 rw [hd] at hdv; cases hdv
 refine cells_at hh ?_
 rw [hl]; simpa using hn
theorem S_nilO (κ : Nat) {base e size : Nat} (hx : X C k E ι (.hp κ (rowO base e size none 0 0 []) :: L) G) : X C k E ι L G := by
 intro a w h1 h2 h3 h4
 refine hx a w h1 h2 h3 ?_;obtain ⟨Ss, ho, hS⟩ := h4.own
 refine ⟨h4.os, h4.tape, h4.output, h4.size, h4.keep, h4.emb, (fun _ => False) :: Ss, ⟨⟨by simp, by simp [maxLen], Nat.le_refl _, .inl ⟨rfl, rfl, fun _ h => h⟩⟩, fun T _ b hb => hb.elim, ho⟩, ?_⟩
 intro T hT b hb
 rcases List.mem_cons.1 hT with rfl | hT
 ·exact hb.elim
 ·exact hS T hT b hb
theorem S_emptyOz {T : Tab} (hT : tabOk C.P T) (κ : Nat) {d t e sz sz' : Nat} {os os' : List Nat} {tk : TK} {ty : Nat} {pos : String} {af : Array Edge} {g : Option (Nat × Bool)} (ht : lookT t T = some ⟨.slc e, sz', os'⟩) (he : lookT e T = some ⟨tk, sz, os⟩)
  (hg : guardOf all E g = .on) (hN : Nat.ble (d + 1) C.n = true)
  (hk : ∀ A, (∃ g, A = some ⟨g, 0, none⟩) → X C (.ops all l :: k) ((d, .val (.slice A 0 0)) :: E) ι (.hp κ (rowO C.w0.heap.size e sz A 0 0 []) :: L) G) : X C (.ops all (⟨some d, .buildSlice t 0 #[], ty, pos, af, g⟩ :: l) :: k) E ι L G := by
 intro a w h1 h2 h3 h4
 have hus := tyOk_slice (hT _ _ ht) rfl
 have hrun : (execOp a.eval ⟨some d, .buildSlice t 0 #[], ty, pos, af, g⟩).run C.P w = .ok (.value (.slice (some ⟨w.heap.size, 0, none⟩) 0 0)) (w.alloc (.cells #[] e)) := by
  simp only [execOp]
  have hr0 : Array.range 0 = #[] := by apply Array.toList_inj.1; simp
  simp [Instr.buildSlice, run_underlying hus, tyOk_size (hT _ _ he), Instr.fill, newRow, hr0]
 refine wpE_val (guardOf_on h3 hg) (by intro c h; cases h) hrun ?_
 have hdn : d < a.tmps.size := by rw [h2]; exact Nat.le_of_ble_eq_true hN
 refine hk _ ⟨_, J⟩ _ _ h1 (by simp [Act.put, h2]) (h3.put hdn J) ?_;obtain ⟨Ss, ho, hS⟩ := (h4.allocH κ (.cells #[] e)).own
 have hal := h4.allocH κ (.cells #[] e)
 cases Ss with
 | nil => simp [owns] at ho
 | cons S Ss =>
  obtain ⟨hA, hd, hr⟩ := ho
  exact ⟨hal.os, hal.tape, hal.output, hal.size, hal.keep, hal.emb, S :: Ss, ⟨⟨by simp, by simp [maxLen], Nat.le_refl _, .inr ⟨_, 0, #[], J, h4.size, hA.1, by simp, by simp, hA.2⟩⟩, hd, hr⟩, hS⟩
theorem S_emptyO {T : Tab} (hT : tabOk C.P T) (κ : Nat) {d t e sz sz' : Nat} {os os' : List Nat} {tk : TK} {ty : Nat} {pos : String} {af : Array Edge} {g : Option (Nat × Bool)} (ht : lookT t T = some ⟨.slc e, sz', os'⟩) (he : lookT e T = some ⟨tk, sz, os⟩)
  (hg : guardOf all E g = .on) (hN : Nat.ble (d + 1) C.n = true)
  (hk : ∀ A, X C (.ops all l :: k) ((d, .val (.slice A 0 0)) :: E) ι (.hp κ (rowO C.w0.heap.size e sz A 0 0 []) :: L) G) : X C (.ops all (⟨some d, .buildSlice t 0 #[], ty, pos, af, g⟩ :: l) :: k) E ι L G :=
 S_emptyOz hT κ ht he hg hN fun A _ => hk A
theorem S_someO (κ : Nat) {base e sz : Nat} {A : Option Addr} {n c : Nat} {xs : List Value} (hL : getH κ L = some (rowO base e sz A n c xs)) (hn : 0 < c) (hk : ∀ g off, A = some ⟨g, off, none⟩ → X C k E ι L G) : X C k E ι L G := by
 intro a w h1 h2 h3 h4
 obtain ⟨Ss, ho, _⟩ := h4.own
 obtain ⟨S, ⟨q1, q2, q3, q4⟩, _⟩ := owns_split ho hL
 rcases q4 with ⟨_, q4, _⟩ | ⟨g, off, cur, rfl, _⟩
 ·omega
 ·exact hk g off J a w h1 h2 h3 h4
theorem S_capO (κ : Nat) {base e sz : Nat} {A : Option Addr} {n c : Nat} {xs : List Value} (hL : getH κ L = some (rowO base e sz A n c xs)) (hk : n ≤ c → c ≤ maxLen → xs.length = n * sz → X C k E ι L G) : X C k E ι L G := by
 intro a w h1 h2 h3 h4
 obtain ⟨Ss, ho, _⟩ := h4.own
 obtain ⟨S, ⟨q1, q2, q3, q4⟩, _⟩ := owns_split ho hL
 exact hk q3 q2 q1 a w h1 h2 h3 h4
end
theorem V_loadR {C : Ctx} {ι : Ids} {E : Env} {L : List Ent} {G : PH} {d : Option Nat} {ty : Nat} {pos : String} {af : Array Edge} {g : Option (Nat × Bool)} {T : Tab} (hT : tabOk C.P T) (κ : Nat) {t : Nat} {i : TyI} {x : Operand} {gb off o : Nat} {v : Value} {base e sz : Nat} {n c : Nat} {xs : List Value}
  (hL : getH κ L = some (rowO base e sz (some ⟨gb, off, none⟩) n c xs)) (hx : ev E x = some (.val (.pointer (some ⟨gb, off + o, none⟩)))) (ht : lookT t T = some i) (hk0 : i.k.isAgg = false) (hc : xs[o]? = some v) : Vl C ι E L G ⟨d, .load t x, ty, pos, af, g⟩ v := by
 intro a w hE hw
 obtain ⟨Ss, ho, _⟩ := hw.own
 obtain ⟨S, ⟨q1, q2, q3, q4⟩, _⟩ := owns_split ho hL
 have ex := ev_sound hE hx
 simp only [denO, Option.some.injEq] at ex
 rcases q4 with ⟨q4, _⟩ | ⟨g', off', cur, q, _, q5, q6, q7, q8⟩
 ·cases q4
 ·cases q
  have := cells_at q5 q7 o v hc
  rw [add_lit'] at this
  simp only [execOp, ← ex]
  simp [Instr.loadAt, loadVar, Instr.sureAddr, tyOk_agg (hT _ _ ht), hk0, this]
def PH.del (G : PH) (g : Nat) : PH := fun b => if b = g then none else G b
def newp (G G' : PH) : PH := fun b => match G b with
 | some _ => none
 | none => G' b
theorem newp_le (G G' : PH) : (newp G G').le G' := by
 intro b o h
 unfold newp at h
 split at h
 ·cases h
 ·exact h
theorem newp_mono {G G1 G2 : PH} (h : G.le G1) (h12 : G1.le G2) : (newp G1 G2).le (newp G G2) := by
 intro b o hb
 unfold newp at hb ⊢
 split at hb
 ·cases hb
 ·rename_i hn
  split
  ·rename_i x hx; rw [h b x hx] at hn; cases hn
  ·exact hb
theorem PH.ext.del {B : Nat} {G G2 : PH} {g : Nat} {o : Obj} (hg : G g = none) (h : PH.ext B (G.add g o) G2) : PH.ext B G (G2.del g) := by
 refine ⟨fun b o' hb => ?_, fun b o' hb hn => ?_⟩
 ·unfold PH.del
  rw [if_neg (by rintro rfl; rw [hg] at hb; cases hb)]
  refine h.le b o' ?_
  unfold PH.add
  rw [if_neg (by rintro rfl; rw [hg] at hb; cases hb)]
  exact hb
 ·unfold PH.del at hb
  split at hb
  ·cases hb
  ·rename_i hne
   refine h.new b o' hb ?_
   unfold PH.add
   rw [if_neg hne]; exact hn
section
variable {C : Ctx} {k : List It} {E : Env} {ι : Ids} {L : List Ent} {G : PH}
theorem SatW.lend {a : Act} {w : World} {L' : List Ent} {b : Nat} {o : Obj} {S : Nat → Prop} {Ss Ss' : List (Nat → Prop)} (h : SatW C ι L G w) (ho : owns ι w L Ss) (hS : ∀ S ∈ Ss, ∀ b, S b → G b = none ∧ (C.S0 b ∨ C.w0.heap.size ≤ b)) (hh : w.heap[b]? = some o) (hSb : ∀ x, S x ↔ x = b) (hm : S ∈ Ss) (ho' : owns ι w L' Ss') (hT : ∀ T ∈ Ss', T ∈ Ss ∧ ∀ x, T x → ¬ S x) :
  G b = none ∧ (C.S0 b ∨ C.w0.heap.size ≤ b) ∧ SatW C ι L' (G.add b o) w := by
 have hGb := hS S hm b ((hSb b).2 rfl)
 refine ⟨hGb.1, hGb.2, h.os, h.tape, h.output, h.size, h.keep, ?_, Ss', ho', ?_⟩
 ·intro x o' hx
  unfold PH.add at hx
  split at hx
  ·rename_i e; subst e; cases hx; exact hh
  ·exact h.emb x o' hx
 ·intro T hT' x hx
  obtain ⟨h1, h2⟩ := hT T hT'
  obtain ⟨h3, h4⟩ := hS T h1 x hx
  refine ⟨?_, h4⟩
  unfold PH.add
  rw [if_neg (fun e => h2 x hx ((hSb x).2 e))]
  exact h3
theorem le_add {G : PH} {b : Nat} {o : Obj} (h : G b = none) : G.le (G.add b o) := by
 intro x o' hx
 unfold PH.add
 rw [if_neg (by rintro rfl; rw [h] at hx; cases hx)]
 exact hx
theorem S_lendB (key : Nat) {b ty : Nat} {cs : List Cel} {vs : List Value} {L' : List Ent} (hj : lookI key ι = some b) (hB : lookB key L = some (ty, cs)) (hd : denL ι cs = some vs) (hL' : delB key L = some L')
  (hk : G b = none → (C.S0 b ∨ C.w0.heap.size ≤ b) → X C k E ι L' (G.add b (.cells vs.toArray ty (0, 0)))) : X C k E ι L G := by
 intro a w g1 g2 g3 g4
 obtain ⟨Ss, ho, hS⟩ := g4.own
 obtain ⟨S, Ss', b', hb', hh, hSb, hm, ho', hT⟩ := owns_delB hd ho hB hL'
 rw [hj] at hb'; cases hb'
 obtain ⟨h0, h1, h2⟩ := SatW.lend (a := a) g4 ho hS hh hSb hm ho' hT
 exact hk h0 h1 a w (g1.mono (le_add h0)) g2 g3 h2
theorem SatW.back {w : World} {b : Nat} {o : Obj} (h : SatW C ι L G w) (hG : G b = some o) (hb : C.S0 b ∨ C.w0.heap.size ≤ b) {e : Ent} (he : ∀ S : Nat → Prop, (∀ x, S x ↔ x = b) → e.holds ι w S) : SatW C ι (e :: L) (G.del b) w := by
 obtain ⟨Ss, ho, hS⟩ := h.own
 refine ⟨h.os, h.tape, h.output, h.size, h.keep, fun x o' hx => ?_, (fun x => x = b) :: Ss, ⟨he _ fun x => Iff.rfl, ?_, ho⟩, ?_⟩
 ·unfold PH.del at hx
  split at hx
  ·cases hx
  ·exact h.emb x o' hx
 ·rintro T hT x rfl hx
  have := (hS T hT _ hx).1; rw [hG] at this; cases this
 ·intro T hT x hx
  rcases List.mem_cons.1 hT with rfl | hT
  ·subst hx
   exact ⟨by simp [PH.del], hb⟩
  ·obtain ⟨h1, h2⟩ := hS T hT x hx
   refine ⟨?_, h2⟩
   unfold PH.del
   split
   ·rfl
   ·exact h1
theorem DfsOk.del {ds : List Deferred} (h : DfsOk C G ds) {b : Nat} {vs : Array Value} {ty : Nat} {fr : Nat × Nat} (hG : G b = some (.cells vs ty fr)) : DfsOk C (G.del b) ds := by
 unfold DfsOk at h ⊢
 split at h
 ·exact h
 ·obtain ⟨Ds, h1, h2, h3⟩ := h
  refine ⟨Ds, h1, h2, fun D hD => ⟨(h3 D hD).1, ?_⟩⟩
  unfold PH.del
  rw [if_neg (by rintro rfl; rw [(h3 _ hD).2] at hG; cases hG)]
  exact (h3 D hD).2
theorem S_lendO (κ : Nat) {base e sz : Nat} {A : Option Addr} {n c : Nat} {xs : List Value} {L' : List Ent} (hL : getH κ L = some (rowO base e sz A n c xs)) (hL' : delH κ L = some L')
  (h0 : A = none → n = 0 → c = 0 → xs = [] → X C k E ι L' G)
  (hk : ∀ g off cur, A = some ⟨g, off, none⟩ → base ≤ g → n ≤ c → c ≤ maxLen → xs.length = n * sz → off + c * sz ≤ cur.size → (cur.toList.drop off).take xs.length = xs → G g = none → (C.S0 g ∨ C.w0.heap.size ≤ g) → gcells (G.add g (.cells cur e (0, 0))) ⟨g, off, none⟩ xs → X C k E ι L' (G.add g (.cells cur e (0, 0)))) : X C k E ι L G := by
 intro a w g1 g2 g3 g4
 obtain ⟨Ss, ho, hS⟩ := g4.own
 obtain ⟨S, Ss', hA, hm, ho', hT⟩ := owns_del ho hL hL'
 obtain ⟨q1, q2, q3, q4⟩ := hA
 rcases q4 with ⟨rfl, rfl, q4⟩ | ⟨g, off, cur, rfl, q0, q5, q6, q7, q8⟩
 ·obtain rfl : n = 0 := by omega
  exact h0 J J J (List.eq_nil_of_length_eq_zero (by simpa using q1)) a w g1 g2 g3 ⟨g4.os, g4.tape, g4.output, g4.size, g4.keep, g4.emb, Ss', ho', fun T hT' => hS T (hT T hT').1⟩
 ·obtain ⟨h0, h1, h2⟩ := SatW.lend (a := a) g4 ho hS q5 q8 hm ho' hT
  exact hk g off cur J q0 q3 q2 q1 q6 q7 h0 h1 (gcells_row (cur := cur) (e := e) (fr := (0, 0)) (by simp [PH.add]) xs off q7) a w (g1.mono (le_add h0)) g2 g3 h2
theorem S_freezeR (κ : Nat) {base e sz : Nat} {A : Option Addr} {n c : Nat} {xs : List Value} {L' : List Ent} (hL : getH κ L = some (rowO base e sz A n c xs)) (hL' : delH κ L = some L') (hb0 : C.w0.heap.size ≤ base)
  (hk : ∀ G', PH.ext C.w0.heap.size G G' → n ≤ c → c ≤ maxLen → (n = 0 ∨ ∃ a, A = some a ∧ gcells (newp G G') a xs) → X C k E ι L' G') : X C k E ι L G := by
 refine S_lendO κ hL hL' (fun hA hn hc hx => ?_) (fun g off cur hA hbg hnc hcm hl hfit ht hG hb hcells => ?_)
 ·exact hk G XR (by omega) (by rw [hc]; simp [maxLen]) (.inl hn)
 ·refine hk _ ⟨le_add hG, fun b o hbo hn => ?_⟩ hnc hcm (.inr ⟨_, hA, ?_⟩)
  ·unfold PH.add at hbo
   split at hbo
   ·rename_i e'; subst e'; omega
   ·rw [hn] at hbo; cases hbo
  ·refine gcells_row (cur := cur) (e := e) (fr := (0, 0)) ?_ xs off ht
   simp [newp, hG, PH.add]
theorem S_blkO (key κ : Nat) {base b e sz n c o : Nat} {cs : List Cel} {vs xs : List Value} {L' : List Ent} (hj : lookI key ι = some b) (hB : lookB key L = some (e, cs)) (hd : denL ι cs = some vs) (hL' : delB key L = some L') (hbase : base ≤ b ∨ base = 0 ∨ (base = C.w0.heap.size ∧ ∀ x, ¬ C.S0 x))
  (hx : (vs.drop o).take (n * sz) = xs) (hl : xs.length = n * sz) (hnc : n ≤ c) (hcm : c ≤ maxLen) (hfit : o + c * sz ≤ vs.length)
  (hk : X C k E ι (.hp κ (rowO base e sz (some ⟨b, o, none⟩) n c xs) :: L') G) : X C k E ι L G := by
 intro a w g1 g2 g3 g4
 obtain ⟨Ss, ho, hS⟩ := g4.own
 obtain ⟨S, Ss', b', hb', hh, hSb, hm, ho', hT⟩ := owns_delB hd ho hB hL'
 rw [hj] at hb'; cases hb'
 have hbb : base ≤ b := by
  rcases hbase with h | h | ⟨h, h'⟩
  ·exact h
  ·omega
  ·rcases (hS S hm b ((hSb b).2 rfl)).2 with h2 | h2
   ·exact absurd h2 (h' b)
   ·omega
 refine hk a w g1 g2 g3 ⟨g4.os, g4.tape, g4.output, g4.size, g4.keep, g4.emb, S :: Ss', ⟨⟨hl, hcm, hnc, .inr ⟨b, o, vs.toArray, J, hbb, hh, by simpa using hfit, by rw [hl]; simpa using hx, hSb⟩⟩, fun T hT' x hx hx' => (hT T hT').2 x hx' hx, ho'⟩, ?_⟩
 intro T hT' x hx
 rcases List.mem_cons.1 hT' with rfl | hT'
 ·exact hS T hm x hx
 ·exact hS T (hT T hT').1 x hx
theorem S_tailO {all : Array Oper} {l : List Oper} {T : Tab} (hT : tabOk C.P T) (κ : Nat) {d t e sz' sz : Nat} {os os' : List Nat} {tk : TK} {s : Operand} {ty : Nat} {pos : String} {af : Array Edge} {g : Option (Nat × Bool)} {base : Nat} {A : Option Addr} {n c : Nat} {xs : List Value} {L' : Option Addr → List Ent}
  (ht : lookT t T = some ⟨.slc e, sz', os'⟩) (he : lookT e T = some ⟨tk, sz, os⟩) (hg : guardOf all E g = .on) (hN : Nat.ble (d + 1) C.n = true) (hs : ev E s = some (.val (.slice A (n + 1) c)))
  (hL : getH κ L = some (rowO base e sz A (n + 1) c xs)) (hL' : ∀ A', setH κ (rowO base e sz A' n (c - 1) (xs.drop sz)) L = some (L' A'))
  (hk : ∀ A', X C (.ops all l :: k) ((d, .val (.slice A' n (c - 1))) :: E) ι (L' A') G) : X C (.ops all (⟨some d, .slice t s (some (.const (.int .i64 1))) none none, ty, pos, af, g⟩ :: l) :: k) E ι L G := by
 intro a w g1 g2 g3 g4
 have hdn : d < a.tmps.size := by rw [g2]; exact Nat.le_of_ble_eq_true hN
 have es := ev_sound g3 hs
 simp only [denO, Option.some.injEq] at es
 have hu := tyOk_slice (hT _ _ ht) rfl
 obtain ⟨S2, hA, hS2G, hturn⟩ := g4.turn hL
 obtain ⟨q1, q2, q3, q4⟩ := hA
 rcases q4 with ⟨_, q4, _⟩ | ⟨gb, off, cur, rfl, q0, q5, q6, q7, q8⟩
 ·omega
 obtain ⟨A', hA'⟩ : ∃ A' : Option Addr, A' = (if c = 1 then some ⟨gb, off, none⟩ else some ⟨gb, off + 1 * sz, none⟩) := ⟨_, rfl⟩
 have hrun : (execOp a.eval ⟨some d, .slice t s (some (.const (.int .i64 1))) none none, ty, pos, af, g⟩).run C.P w = .ok (.value (.slice A' n (c - 1))) w := by
  simp only [execOp, Option.map_some, Option.map_none, ← es]
  have : a.eval (.const (.int .i64 1)) = .int .i64 1 := rfl
  rw [this]
  have h1 : (1 : Int) ≤ (n : Int) + 1 := by omega
  simp only [Instr.sliceAt, Sem.run_bind, run_underlying hu, Result.andThen_ok]
  simp [Instr.slice, run_underlying hu, Instr.sliceBounds, Instr.sliceBound, asIntOf, tyOk_size (hT _ _ he), h1, hA', add_lit', eq_comm]
 refine wpE_val (guardOf_on g3 hg) (by intro c h; cases h) hrun ?_;refine hk A' _ _ g1 (by simp [Act.put, g2]) (g3.put hdn J) ?_
 have hlen : xs.length = n * sz + sz := by rw [q1, Nat.succ_mul]
 refine hturn _ _ G w S2 (hL' A') ⟨by rw [List.length_drop, hlen]; omega, by omega, by omega, .inr ?_⟩ g4.emb XR (fun b hb => ⟨hS2G b hb, .inl hb⟩) rfl rfl rfl (Nat.le_refl _) fun _ _ _ => rfl
 have hc1 : 1 ≤ c := by omega
 by_cases hc : c = 1
 ·subst hc
  obtain rfl : n = 0 := by omega
  have hd0 : xs.drop sz = [] := by rw [List.drop_eq_nil_iff]; omega
  refine ⟨gb, off, cur, by rw [hA', if_pos J], q0, q5, by omega, by rw [hd0]; simp, q8⟩
 ·refine ⟨gb, off + 1 * sz, cur, by rw [hA', if_neg hc], q0, q5, ?_, ?_, q8⟩
  ·have : c * sz = (c - 1) * sz + sz := by rw [← Nat.succ_mul]; congr 1; omega
   omega
  ·have h2 : (List.drop (off + 1 * sz) cur.toList) = (cur.toList.drop off).drop sz := by rw [List.drop_drop]; congr 1; omega
   rw [h2, List.length_drop]
   conv => rhs; rw [← q7]
   rw [List.drop_take]
end
end
section
def Res (C : Ctx) (fn : Func) (E : Env) (ι : Ids) (L : List Ent) (G : PH) (v : Value) : Prop := ∀ a w, AgE ι E a → SatW C ι L G w → (results fn a.tmps).run C.P w = .ok v w
section
variable {C : Ctx} {fn : Func} {E : Env} {ι : Ids} {L : List Ent} {G : PH} {T : Tab}
theorem res_load (hT : tabOk C.P T) {t ty : Nat} {s : Sym} {v : Value} (h : pureOp T E L (.load ty (.tmp t)) = some s) (hv : denO ι s = some v) {a : Act} {w : World} (hE : AgE ι E a) (hw : SatW C ι L G w) : ∃ ad, a.tmps[t]?.getD undef = .pointer (some ad) ∧ (loadVar ty ad).run C.P w = .ok v w := by
 obtain ⟨Ss, ho, _⟩ := hw.own
 obtain ⟨v', hv', hr⟩ := pureOp_sound hT hE ho h none 0 "" #[] none
 rw [hv] at hv'; cases hv'
 have hp : ∃ ad, a.eval (.tmp t) = .pointer (some ad) := by
  simp only [pureOp] at h
  split at h
  ·rename_i k o hx
   have ex := ev_sound hE hx
   simp only [denO] at ex
   split at ex
   ·simp only [Option.some.injEq] at ex; exact ⟨_, ex.symm⟩
   ·cases ex
  ·cases h
 obtain ⟨ad, had⟩ := hp
 refine ⟨ad, by rw [← Array.getD_eq_getD_getElem?]; exact had, ?_⟩
 simp only [execOp, had] at hr
 simp [Instr.loadAt, Instr.sureAddr] at hr
 cases hq : (loadVar ty ad).run C.P w with
 | ok u w' => rw [hq] at hr; simpa using hr
 | halt x w' => rw [hq] at hr; simp at hr
theorem res_tmp {t : Nat} {s : Sym} {v : Value} (hl : look t E = some s) (hv : denO ι s = some v) {a : Act} (hE : AgE ι E a) : a.tmps[t]?.getD undef = v := by
 obtain ⟨u, hu, ht⟩ := hE t s hl
 rw [hv] at hu; cases hu
 simp [ht]
theorem Res.t0 (hr : fn.results = #[]) : Res C fn E ι L G (.tuple #[]) := fun a w _ _ => by simp [results, hr]
theorem Res.t1 {t : Nat} {s : Sym} {v : Value} (hr : fn.results = #[.tmp t]) (hl : look t E = some s) (hv : denO ι s = some v) : Res C fn E ι L G v := fun a w hE _ => by
 simp [results, hr, res_tmp hl hv hE]
theorem Res.t2 {t t' : Nat} {s s' : Sym} {v v' : Value} (hr : fn.results = #[.tmp t, .tmp t']) (hl : look t E = some s) (hv : denO ι s = some v) (hl' : look t' E = some s') (hv' : denO ι s' = some v') : Res C fn E ι L G (.tuple #[v, v']) := fun a w hE _ => by
 simp [results, hr, res_tmp hl hv hE, res_tmp hl' hv' hE]
theorem Res.c1 (hT : tabOk C.P T) {t ty : Nat} {s : Sym} {v : Value} (hr : fn.results = #[.cell t ty]) (h : pureOp T E L (.load ty (.tmp t)) = some s) (hv : denO ι s = some v) : Res C fn E ι L G v := fun a w hE hw => by
 obtain ⟨ad, h0, h1⟩ := res_load hT h hv hE hw
 simp [results, hr, asAddr, h0, h1]
theorem Res.c2 (hT : tabOk C.P T) {t ty t' : Nat} {s s' : Sym} {v v' : Value} (hr : fn.results = #[.cell t ty, .tmp t']) (h : pureOp T E L (.load ty (.tmp t)) = some s) (hv : denO ι s = some v) (hl' : look t' E = some s') (hv' : denO ι s' = some v') : Res C fn E ι L G (.tuple #[v, v']) := fun a w hE hw => by
 obtain ⟨ad, h0, h1⟩ := res_load hT h hv hE hw
 simp [results, hr, asAddr, h0, h1, res_tmp hl' hv' hE]
theorem Res.c3 (hT : tabOk C.P T) {t ty t' t'' : Nat} {s s' s'' : Sym} {v v' v'' : Value} (hr : fn.results = #[.cell t ty, .tmp t', .tmp t'']) (h : pureOp T E L (.load ty (.tmp t)) = some s) (hv : denO ι s = some v) (hl' : look t' E = some s') (hv' : denO ι s' = some v')
  (hl'' : look t'' E = some s'') (hv'' : denO ι s'' = some v'') : Res C fn E ι L G (.tuple #[v, v', v'']) := fun a w hE hw => by
 obtain ⟨ad, h0, h1⟩ := res_load hT h hv hE hw
 simp [results, hr, asAddr, h0, h1, res_tmp hl' hv' hE, res_tmp hl'' hv'' hE]
end
section
variable {P : Program} {fn : Func} {R : Ending → World → Prop} {n : Nat} {G0 G : PH} {w0 : World} {S0 : Nat → Prop} {k : List It} {E : Env} {ι : Ids} {L : List Ent} {v : Value}
theorem S_retR {C : Ctx} (hQ : C.Q = bodyPost C.P fn R ∧ C.ms = false) (hr : Res C fn E ι L G v) (h : ∀ w, SatW C ι L G w → R (.returned v) w) : X C (.code .ret :: k) E ι L G := by
 intro a w h1 h2 h3 h4
 refine wpE_ret (wpE_out k ?_)
 rw [hQ.1]
 exact ⟨h1.eq hQ.2, v, hr a w h3 h4, h w h4⟩
theorem S_retp {Post : Value → PH → Prop} (hr : Res (PC P n fn G0 Post w0) fn E ι L G v) (hx : PH.ext w0.heap.size G0 G) (hp : Post v G) : X (PC P n fn G0 Post w0) (.code .ret :: k) E ι L G :=
 S_retR ⟨rfl, rfl⟩ hr fun w hw => hw.pureR hx hp
theorem S_retm (κ : Nat) {Post : Value → PH → HP → Prop} {A' : HP} (hr : Res (MC P n fn G0 Post w0 S0) fn E ι L G v) (hL : getH κ L = some A') (hx : PH.ext w0.heap.size G0 G) (hp : Post v G A') : X (MC P n fn G0 Post w0 S0) (.code .ret :: k) E ι L G :=
 S_retR ⟨rfl, rfl⟩ hr fun w hw => hw.modR hL hx hp
end
section
variable {P : Program} {fn : Func} {n : Nat} {G0 G : PH} {Post : Value → PH → HP → Prop} {w0 : World} {S0 : Nat → Prop} {k : List It} {E : Env} {ι ι1 : Ids} {L L1 L2 Ls : List Ent} {v : Value} {p : Ids → List Ent → Prop}
end
section
variable {C : Ctx} {k : List It} {E : Env} {ι ι1 : Ids} {L L1 L2 Ls : List Ent} {G : PH} {all : Array Oper} {l : List Oper} {p : Ids → List Ent → Prop}
end
end
section
section
variable {C : Ctx} {E : Env} {ι : Ids} {L : List Ent} {G : PH} {d : Option Nat} {ty : Nat} {pos : String} {af : Array Edge} {g : Option (Nat × Bool)}
theorem V_slice1 {T : Tab} (hT : tabOk C.P T) {t e sz sz' : Nat} {os os' : List Nat} {tk : TK} {x : Operand} {A : Option Addr} {n c : Nat} (ht : lookT t T = some ⟨.slc e, sz', os'⟩) (he : lookT e T = some ⟨tk, sz, os⟩) (hx : ev E x = some (.val (.slice A (n + 1) c))) :
  Vl C ι E L G ⟨d, .slice t x (some (.const (.int .i64 1))) none none, ty, pos, af, g⟩ (.slice (if c = 1 then A else A.map (·.add (1 * sz))) n (c - 1)) := by
 intro a w hE hw
 have ex := ev_sound hE hx
 simp only [denO, Option.some.injEq] at ex
 have hu := tyOk_slice (hT _ _ ht) rfl
 simp only [execOp, Option.map_some, Option.map_none, ← ex]
 have : a.eval (.const (.int .i64 1)) = .int .i64 1 := rfl
 rw [this]
 have h1 : (1 : Int) ≤ (n : Int) + 1 := by omega
 simp only [Instr.sliceAt, Sem.run_bind, run_underlying hu, Result.andThen_ok]
 simp [Instr.slice, run_underlying hu, Instr.sliceBounds, Instr.sliceBound, asIntOf, tyOk_size (hT _ _ he), h1]
end
def emptyHP : HP := packHP fun ι L => ι = [] ∧ L = []
def newHP (B : Nat) (A : HP) : HP where
 holds w S := A.holds w S ∧ ∀ b, S b → B ≤ b
 loc w w' S h hs := ⟨A.loc w w' S h.1 hs, h.2⟩
 lt w S h := A.lt w S h.1
theorem emptyHP_none {w : World} {S : Nat → Prop} (h : emptyHP.holds w S) : ∀ b, ¬ S b := by
 obtain ⟨ι, L, Ss, ⟨rfl, rfl⟩, ho, hS⟩ := h
 intro b hb
 obtain ⟨T, hT, _⟩ := (hS b).1 hb
 cases Ss with
 | nil => cases hT
 | cons => simp [owns] at ho
theorem emptyHP_holds (w : World) : emptyHP.holds w (fun _ => False) := ⟨[], [], [], ⟨rfl, rfl⟩, trivial, fun x => ⟨fun h => h.elim, fun ⟨T, hT, _⟩ => by cases hT⟩⟩
theorem S_callN {C : Ctx} {k : List It} {E : Env} {ι : Ids} {L : List Ent} {G : PH} {all : Array Oper} {l : List Oper} (κ : Nat) {d f : Nat} {xs : Array Operand} {ats : Array TypeId} {ty : Nat} {pos : String} {af : Array Edge} {g : Option (Nat × Bool)} {vs : List Value} {Post : Value → PH → HP → Prop} (hcf : ∀ args w, (callFunc f args).run C.P w = .ok (.enter f args) w)
  (hc : Mod C.P f vs G emptyHP Post) (hg : guardOf all E g = .on) (hN : Nat.ble (d + 1) C.n = true) (hxs : evs ι E xs.toList = some vs)
  (hk : ∀ v G' A', Post v G' A' → PH.ext C.w0.heap.size G G' → X C (.ops all l :: k) ((d, .val v) :: E) ι (.hp κ (newHP C.w0.heap.size A') :: L) G') : X C (.ops all (⟨some d, .call ⟨.value (.func f), xs, ats⟩, ty, pos, af, g⟩ :: l) :: k) E ι L G := by
 intro a w h1 h2 h3 h4
 have hdn : d < a.tmps.size := by rw [h2]; exact Nat.le_of_ble_eq_true hN
 have hcc := hc w (fun _ => False) h4.emb (emptyHP_holds w) (fun _ h => h.elim)
 refine wpE_call (f := f) (cap := #[]) (vs := vs) (guardOf_on h3 hg) J (evs_sound h3 hxs) hcf (R := fun v w' => ∃ G' A', Post v G' A' ∧ PH.ext C.w0.heap.size G G' ∧ SatW C ι (.hp κ (newHP C.w0.heap.size A') :: L) G' w') ?_ ?_
 ·simp only [List.append_nil, List.toList_toArray]
  refine hcc.mono ?_;rintro e w' ⟨v, G', A', S', rfl, hp, hA', hext, hemb, hS', e1, e2, e3, e4, hkeep⟩
  refine ⟨v, J, G', A', hp, hext.mono h4.size, ?_⟩
  obtain ⟨Ss, ho, hS⟩ := h4.own
  have hlt := owns_lt ho
  have hge : ∀ b, S' b → w.heap.size ≤ b := fun b hb => (hS' b hb).2.resolve_left id
  have hk' : ∀ b, b < w.heap.size → w'.heap[b]? = w.heap[b]? := fun b hb => hkeep b hb id
  refine ⟨e1.trans h4.os, e2.trans h4.tape, e3.trans h4.output, Nat.le_trans h4.size e4, fun b hb hn => ?_, hemb, S' :: Ss, ⟨⟨hA', fun b hb => Nat.le_trans h4.size (hge b hb)⟩, fun T hT b hb hb' => ?_, owns_far ho (fun b => w.heap.size ≤ b) (fun x hx => hk' x (by omega)) (fun T hT x hx => by have := hlt T hT x hx; omega)⟩, ?_⟩
  ·have := h4.size
   rw [hk' b (by omega)]; exact h4.keep b hb hn
  ·have := hlt T hT b hb'; have := hge b hb; omega
  ·intro T hT b hb
   rcases List.mem_cons.1 hT with rfl | hT
   ·exact ⟨(hS' b hb).1, .inr (Nat.le_trans h4.size (hge b hb))⟩
   ·refine ⟨?_, (hS T hT b hb).2⟩
    cases hq : G' b with
    | none => rfl
    | some o => have := hext.new b o hq (hS T hT b hb).1; have := hlt T hT b hb; omega
 ·rintro v w' ⟨G', A', hp, hext, hsat⟩
  exact hk v G' A' hp hext _ _ (h1.mono hext.le) (by simp [Act.put, h2]) (h3.put hdn J) hsat
theorem S_newRow {C : Ctx} {k : List It} {E : Env} {ι : Ids} {L : List Ent} {G : PH} (κ : Nat) {B base e sz : Nat} {A : Option Addr} {n c : Nat} {xs : List Value} {L' : List Ent} (hL : getH κ L = some (newHP B (rowO base e sz A n c xs))) (hL' : setH κ (rowO B e sz A n c xs) L = some L') (hx : X C k E ι L' G) : X C k E ι L G := by
 intro a w h1 h2 h3 h4
 refine hx a w h1 h2 h3 ?_;obtain ⟨S, ⟨hA, hB⟩, hSG, hturn⟩ := h4.turn hL
 refine hturn _ _ G w S hL' ?_ h4.emb XR (fun b hb => ⟨hSG b hb, .inl hb⟩) J J J (Nat.le_refl _) fun _ _ _ => J
 obtain ⟨q1, q2, q3, q4⟩ := hA
 refine ⟨q1, q2, q3, ?_⟩
 rcases q4 with q4 | ⟨g, off, cur, rfl, q0, q5, q6, q7, q8⟩
 ·exact .inl q4
 ·exact .inr ⟨g, off, cur, J, hB g ((q8 g).2 J), q5, q6, q7, q8⟩
end
section
section
variable {C : Ctx} {k : List It} {E : Env} {ι : Ids} {L : List Ent} {G : PH} {all : Array Oper} {l : List Oper}
end
section
variable {P : Program} {fn : Func} {n : Nat} {G0 G : PH} {w0 : World} {S0 : Nat → Prop} {k : List It} {E : Env} {ι : Ids} {L L1 : List Ent} {v : Value}
end
section
variable {C : Ctx} {k : List It} {E : Env} {ι : Ids} {L : List Ent} {G : PH} {all : Array Oper} {l : List Oper}
theorem S_app1z {T : Tab} (hT : tabOk C.P T) (κ j : Nat) {base d t e sz' sz : Nat} {os os' : List Nat} {tk : TK} {zi : ZI} {s x : Operand} {ty ty' : Nat} {pos : String} {af : Array Edge} {g : Option (Nat × Bool)} {A : Option Addr} {n c b : Nat} {xs ns : List Value} {cs : List Cel} {L' : Option Addr → Nat → List Ent}
  (ht : lookT t T = some ⟨.slc e, sz', os'⟩) (he : lookT e T = some ⟨tk, sz, os⟩) (hz : lookZ e T.zs = some zi) (hzs : zi.zs.length = sz) (hzb : Nat.ble zi.b 1000 = true) (hsz : Nat.ble 1 sz = true)
  (hg : guardOf all E g = .on) (hN : Nat.ble (d + 1) C.n = true) (hs : ev E s = some (.val (.slice A n c))) (hx : ev E x = some (.slc j 0 1 1)) (hj : lookI j ι = some b) (hB : lookB j L = some (ty', cs)) (hcs : denL ι cs = some ns) (hns : ns.length = sz) (hone : ∀ u ∈ ns, u.oneCell' = true)
  (hL : getH κ L = some (rowO base e sz A n c xs)) (hL' : ∀ A' c', setH κ (rowO base e sz A' (n + 1) c' (xs ++ ns)) L = some (L' A' c')) (hlen : n ≤ 1000000000) (hbase : base ≤ C.w0.heap.size)
  (hk : ∀ A' c', (A' = A ∨ ∃ g, A' = some ⟨g, 0, none⟩) → X C (.ops all l :: k) ((d, .val (.slice A' (n + 1) c')) :: E) ι (L' A' c') G) : X C (.ops all (⟨some d, .call ⟨.builtin .append, #[s, x], #[t, t]⟩, ty, pos, af, g⟩ :: l) :: k) E ι L G := by
 have hzb' := Nat.le_of_ble_eq_true hzb
 have hby : (n + 1) * zi.b ≤ 140737488355328 := Nat.le_trans (Nat.mul_le_mul (by omega : n + 1 ≤ 1000000001) hzb') (by decide)
 refine S_appOz hT κ (news := ns) (m := 1) ht he hz hzs hsz hg hN hs hx (by rw [denO, hj]) hL (L' := L') hL' (src_blk j hB hcs hj (by simp [← hns]) (by simp [hns])) hone hby (by simp only [maxLen]; omega) hbase fun A' c' h => ?_;exact hk A' c' h
theorem S_app1 {T : Tab} (hT : tabOk C.P T) (κ j : Nat) {base d t e sz' sz : Nat} {os os' : List Nat} {tk : TK} {zi : ZI} {s x : Operand} {ty ty' : Nat} {pos : String} {af : Array Edge} {g : Option (Nat × Bool)} {A : Option Addr} {n c b : Nat} {xs ns : List Value} {cs : List Cel} {L' : Option Addr → Nat → List Ent}
  (ht : lookT t T = some ⟨.slc e, sz', os'⟩) (he : lookT e T = some ⟨tk, sz, os⟩) (hz : lookZ e T.zs = some zi) (hzs : zi.zs.length = sz) (hzb : Nat.ble zi.b 1000 = true) (hsz : Nat.ble 1 sz = true)
  (hg : guardOf all E g = .on) (hN : Nat.ble (d + 1) C.n = true) (hs : ev E s = some (.val (.slice A n c))) (hx : ev E x = some (.slc j 0 1 1)) (hj : lookI j ι = some b) (hB : lookB j L = some (ty', cs)) (hcs : denL ι cs = some ns) (hns : ns.length = sz) (hone : ∀ u ∈ ns, u.oneCell' = true)
  (hL : getH κ L = some (rowO base e sz A n c xs)) (hL' : ∀ A' c', setH κ (rowO base e sz A' (n + 1) c' (xs ++ ns)) L = some (L' A' c')) (hlen : n ≤ 1000000000) (hbase : base ≤ C.w0.heap.size)
  (hk : ∀ A' c', X C (.ops all l :: k) ((d, .val (.slice A' (n + 1) c')) :: E) ι (L' A' c') G) : X C (.ops all (⟨some d, .call ⟨.builtin .append, #[s, x], #[t, t]⟩, ty, pos, af, g⟩ :: l) :: k) E ι L G :=
 S_app1z hT κ j ht he hz hzs hzb hsz hg hN hs hx hj hB hcs hns hone hL hL' hlen hbase fun A' c' _ => hk A' c'
end
section
variable {C : Ctx} {k : List It} {E : Env} {ι : Ids} {L : List Ent} {G : PH} {all : Array Oper} {l : List Oper}
theorem S_buildSliceB {d t e m : Nat} {parts : Array (Nat × Operand)} {ty : Nat} {pos : String} {af : Array Edge} {g : Option (Nat × Bool)} {cs : List Cel} (hg : guardOf all E g = .on) (hN : Nat.ble (d + 1) C.n = true) (hd : lookI d ι = none)
  (hr : ∀ a w, AgE ι E a → ∃ vs, denL ι cs = some vs ∧ (Instr.buildSlice t m (parts.map fun (i, x) => (i, a.eval x))).run C.P w = .ok (.slice (some ⟨w.heap.size, 0, none⟩) m m) (w.alloc (.cells vs.toArray e)))
  (hk : ∀ b, C.w0.heap.size ≤ b → X C (.ops all l :: k) ((d, .slc d 0 m m) :: E) ((d, b) :: ι) (.blk d e cs :: L) G) : X C (.ops all (⟨some d, .buildSlice t m parts, ty, pos, af, g⟩ :: l) :: k) E ι L G := by
 intro a w h1 h2 h3 h4
 obtain ⟨vs, hvs, hr⟩ := hr a w h3
 have hrun : (execOp a.eval ⟨some d, .buildSlice t m parts, ty, pos, af, g⟩).run C.P w = .ok (.value (.slice (some ⟨w.heap.size, 0, none⟩) m m)) (w.alloc (.cells vs.toArray e)) := by
  simp only [execOp]; simp [hr]
 refine wpE_val (guardOf_on h3 hg) (by intro c h; cases h) hrun ?_
 have hdn : d < a.tmps.size := by rw [h2]; exact Nat.le_of_ble_eq_true hN
 exact hk w.heap.size h4.size _ _ h1 (by simp [Act.put, h2]) ((h3.ids hd).put hdn (by simp [denO, lookI])) (h4.alloc hd cs hvs)
theorem S_sliceB {T : Tab} {Z : ZTab} (hT : tabOk C.P T) (hZ : zOk C.P Z) {d t e m sz sz' : Nat} {os os' : List Nat} {tk : TK} {z : ZI} {parts : Array (Nat × Operand)} {ty : Nat} {pos : String} {af : Array Edge} {g : Option (Nat × Bool)} {cs : List Cel}
  (ht : lookT t T = some ⟨.slc e, sz', os'⟩) (he : lookT e T = some ⟨tk, sz, os⟩) (hz : lookZ e Z = some z) (hl : z.zs.length = sz) (hsm : m * sz ≤ 16777216) (hpos : 0 < m * sz)
  (hg : guardOf all E g = .on) (hN : Nat.ble (d + 1) C.n = true) (hd : lookI d ι = none) (hf : fillS (seqP sz m 0) E (vL (repL m z.zs)) parts.toList = some cs)
  (hk : ∀ b, C.w0.heap.size ≤ b → X C (.ops all l :: k) ((d, .slc d 0 m m) :: E) ((d, b) :: ι) (.blk d e cs :: L) G) : X C (.ops all (⟨some d, .buildSlice t m parts, ty, pos, af, g⟩ :: l) :: k) E ι L G := by
 refine S_buildSliceB hg hN hd ?_ hk
 intro a w hE
 obtain ⟨inf, v, hi, hv, hb, hc, _⟩ := viewZ_eq (hZ _ _ hz)
 obtain ⟨dsc, inf', hu, hi', hk', hsize, _⟩ := tyOk_parts (hT _ _ he)
 rw [hi] at hi'; cases hi'
 have hus := tyOk_slice (hT _ _ ht) rfl
 obtain ⟨vs', hv1, hv2⟩ := fillS_sound (ι := ι) hE (pl := seqP sz m 0) (place := fun i => some (i * sz, sz)) (by intro i x hx; rw [seqP_at hx]; simp) hf (denL_vL ι (repL m z.zs))
 refine ⟨vs', hv1, run_buildSlice w t e m _ vs'.toArray inf v hus hi hv (by rw [hsize]; simp; omega) (by rw [hsize]; simp only; omega) ?_⟩
 rw [hsize, hc]
 simp only
 rw [← hl] at hv2 ⊢
 rw [rep_range, Array.toList_map]
 exact hv2
theorem S_keepB (key : Nat) {b ty : Nat} {cs : List Cel} {vs : List Value} {L' : List Ent} (hj : lookI key ι = some b) (hB : lookB key L = some (ty, cs)) (hd : denL ι cs = some vs) (hL' : delB key L = some L') (hb0 : C.w0.heap.size ≤ b)
  (hk : PH.ext C.w0.heap.size G (G.add b (.cells vs.toArray ty (0, 0))) → X C k E ι L' (G.add b (.cells vs.toArray ty (0, 0)))) : X C k E ι L G := by
 refine S_lendB key hj hB hd hL' fun hG _ => hk ⟨le_add hG, fun x o hx hn => ?_⟩
 unfold PH.add at hx
 split at hx
 ·omega
 ·rw [hn] at hx; cases hx
theorem gcells_add {G : PH} {b ty : Nat} : ∀ {vs : List Value} {pre : List Value}, gcells (G.add b (.cells (pre ++ vs).toArray ty (0, 0))) ⟨b, pre.length, none⟩ vs
 | [], _ => trivial
 | v :: vs, pre => by
  refine ⟨?_, ?_⟩
  ·simp [gcell, PH.add]
  ·have := gcells_add (G := G) (b := b) (ty := ty) (vs := vs) (pre := pre ++ [v])
   rw [add_lit']
   simpa using this
theorem S_sliceG {T : Tab} {Z : ZTab} (hT : tabOk C.P T) (hZ : zOk C.P Z) {d t e m sz sz' : Nat} {os os' : List Nat} {tk : TK} {z : ZI} {parts : Array (Nat × Operand)} {ty : Nat} {pos : String} {af : Array Edge} {g : Option (Nat × Bool)} {cs : List Cel} {vs : List Value}
  (ht : lookT t T = some ⟨.slc e, sz', os'⟩) (he : lookT e T = some ⟨tk, sz, os⟩) (hz : lookZ e Z = some z) (hl : z.zs.length = sz) (hsm : m * sz ≤ 16777216) (hpos : 0 < m * sz)
  (hg : guardOf all E g = .on) (hN : Nat.ble (d + 1) C.n = true) (hd : lookI d ι = none) (hf : fillS (seqP sz m 0) E (vL (repL m z.zs)) parts.toList = some cs) (hcs : ∀ b, denL ((d, b) :: ι) cs = some vs)
  (hk : ∀ b G', PH.ext C.w0.heap.size G G' → gcells G' ⟨b, 0, none⟩ vs → X C (.ops all l :: k) ((d, .val (.slice (some ⟨b, 0, none⟩) m m)) :: E) ((d, b) :: ι) L G') : X C (.ops all (⟨some d, .buildSlice t m parts, ty, pos, af, g⟩ :: l) :: k) E ι L G := by
 refine S_sliceB hT hZ ht he hz hl hsm hpos hg hN hd hf fun b hb => ?_;refine S_keepB (L' := L) (ty := e) d (by simp [lookI]) (by simp [lookB]) (hcs b) (by simp [delB]) hb fun hext => ?_;refine S_reE (s := .slc d 0 m m) d (.val (.slice (some ⟨b, 0, none⟩) m m)) (by simp [look]) (by simp [denO, lookI]) ?_
 have hg0 := gcells_add (G := G) (b := b) (ty := e) (vs := vs) (pre := [])
 intro a w q1 q2 q3 q4
 refine hk b _ hext hg0 a w q1 q2 ?_ q4
 intro i s hi
 refine q3 i s ?_
 simp only [look] at hi ⊢
 split <;> simp_all
end
end
section
def YieldM (P : Program) (l : Nat) (vs : List Value) (G : PH) (A At Af : HP) : Prop :=
 ∀ W S, Emb G W → A.holds W S → (∀ b, S b → G b = none) → YieldAt (FW none) 0 P l vs.toArray W (YieldR W S At Af)
theorem YieldM.le {P : Program} {l : Nat} {vs : List Value} {G G' : PH} {A At Af : HP} (h : YieldM P l vs G A At Af) (hG : G.le G') : YieldM P l vs G' A At Af := fun W S hE hA hS =>
 h W S (fun b o hb => hE b o (hG b o hb)) hA fun b hb => by
  cases hq : G b with
  | none => rfl
  | some o => have := hG b o hq; rw [hS b hb] at this; cases this
section
variable {C : Ctx} {k : List It} {E : Env} {ι : Ids} {L : List Ent} {G : PH} {all : Array Oper} {l : List Oper}
end
end
section
section
variable {P : Program} {fn : Func} {n : Nat} {G0 G : PH} {Post : Value → Prop} {w0 : World} {k : List It} {E : Env} {ι : Ids} {L : List Ent}
end
end
section
section
variable {C : Ctx} {k : List It} {E : Env} {ι : Ids} {L : List Ent} {G : PH}
end
def cellsOf (B : Nat) (G : PH) : PH := fun b => if b < B then G b else match G b with
 | some (.cells c t f) => some (.cells c t f)
 | _ => none
section
variable {P : Program} {fn : Func} {n : Nat} {G0 G : PH} {Post : Value → PH → Prop} {w0 : World} {k : List It} {E : Env} {ι : Ids} {L : List Ent}
end
end
section
section
variable {P : Program} {fn : Func} {n : Nat} {G0 G : PH} {Post : Value → Prop} {w0 : World} {k : List It} {E : Env} {ι : Ids} {L : List Ent}
end
end
section
def PH.un (G H : PH) : PH := fun b => match G b with
 | some o => some o
 | none => H b
theorem PH.le_un (G H : PH) : G.le (G.un H) := fun b o h => by simp [PH.un, h]
def frzHP (H : PH) : HP where
 holds w S := (∀ b o, H b = some o → w.heap[b]? = some o) ∧ ∀ b, S b ↔ (H b).isSome = true
 loc w w' S h hs := ⟨fun b o hb => by rw [hs b ((h.2 b).2 (by simp [hb]))]; exact h.1 b o hb, h.2⟩
 lt w S h b hb := by
  have := (h.2 b).1 hb
  obtain ⟨o, ho⟩ := Option.isSome_iff_exists.1 this
  exact (Array.getElem?_eq_some_iff.1 (h.1 b o ho)).1
section
variable {C : Ctx} {k : List It} {E : Env} {ι : Ids} {L : List Ent} {G : PH}
theorem S_frH (κ : Nat) {H : PH} {L' : List Ent} (hL : getH κ L = some (frzHP H)) (hL' : delH κ L = some L') (hk : (∀ b o, H b = some o → C.S0 b ∨ C.w0.heap.size ≤ b) → (∀ b o, H b = some o → G b = none) → X C k E ι L' (G.un H)) : X C k E ι L G := by
 intro a w g1 g2 g3 g4
 obtain ⟨Ss, ho, hS⟩ := g4.own
 obtain ⟨S, Ss', hA, hm, ho', hT⟩ := owns_del ho hL hL'
 have hin : ∀ b o, H b = some o → S b := fun b o hb => (hA.2 b).2 (by simp [hb])
 refine hk (fun b o hb => (hS S hm b (hin b o hb)).2) (fun b o hb => (hS S hm b (hin b o hb)).1) a w (g1.mono (PH.le_un G H)) g2 g3 ⟨g4.os, g4.tape, g4.output, g4.size, g4.keep, fun b o hb => ?_, Ss', ho', fun T hT' b hb => ⟨?_, (hS T (hT T hT').1 b hb).2⟩⟩
 ·unfold PH.un at hb
  cases hg : G b with
  | some o' => rw [hg] at hb; cases hb; exact g4.emb b o hg
  | none => rw [hg] at hb; exact hA.1 b o hb
 ·have h0 := (hS T (hT T hT').1 b hb).1
  have h1 : ¬ S b := (hT T hT').2 b hb
  unfold PH.un
  rw [h0]
  cases hh : H b with
  | none => rfl
  | some o => exact absurd (hin b o hh) h1
theorem S_thaw (κ : Nat) {G0 : PH} (hms : C.ms = false) (hle : G0.le G) (hnew : ∀ b o, G b = some o → G0 b = none → C.S0 b ∨ C.w0.heap.size ≤ b) (hk : X C k E ι (.hp κ (frzHP (newp G0 G)) :: L) G0) : X C k E ι L G := by
 intro a w g1 g2 g3 g4
 obtain ⟨Ss, ho, hS⟩ := g4.own
 have hnp : ∀ b o, newp G0 G b = some o → G b = some o ∧ G0 b = none := by
  intro b o hb
  unfold newp at hb
  cases hq : G0 b with
  | none => rw [hq] at hb; exact ⟨hb, J⟩
  | some o' => rw [hq] at hb; cases hb
 refine hk a w (by rw [g1.eq hms]; exact DfsOk.nil) g2 g3 ⟨g4.os, g4.tape, g4.output, g4.size, g4.keep, fun b o hb => g4.emb b o (hle b o hb), (fun b => (newp G0 G b).isSome = true) :: Ss, ⟨⟨fun b o hb => g4.emb b o (hnp b o hb).1, fun b => Iff.rfl⟩, fun T hT b hb hb' => ?_, ho⟩, ?_⟩
 ·obtain ⟨o, ho'⟩ := Option.isSome_iff_exists.1 hb
  have := (hS T hT b hb').1
  rw [(hnp b o ho').1] at this
  cases this
 ·intro T hT b hb
  rcases List.mem_cons.1 hT with rfl | hT
  ·obtain ⟨o, ho'⟩ := Option.isSome_iff_exists.1 hb
   obtain ⟨h1, h2⟩ := hnp b o ho'
   exact ⟨h2, hnew b o h1 h2⟩
  ·obtain ⟨h1, h2⟩ := hS T hT b hb
   refine ⟨?_, h2⟩
   cases hq : G0 b with
   | none => rfl
   | some o => rw [hle b o hq] at h1; cases h1
end
section
variable {P : Program} {fn : Func} {n : Nat} {G0 G : PH} {Post : Value → Prop} {w0 : World} {k : List It} {E : Env} {ι : Ids} {L : List Ent}
end
theorem ext_un {B : Nat} {G H : PH} (hB : ∀ b o, H b = some o → B ≤ b) : PH.ext B G (G.un H) := ⟨PH.le_un G H, fun b o h1 h2 => by
 unfold PH.un at h1
 rw [h2] at h1
 exact hB b o h1⟩
section
variable {P : Program} {fn : Func} {n : Nat} {G0 G : PH} {Post : Value → PH → Prop} {w0 : World} {k : List It} {E : Env} {ι : Ids} {L : List Ent}
end
end
section
section
variable {α : Type}
def Rw (G : PH) (sz : Nat) (rep : α → List Value → Prop) : List α → Addr → Prop
 | [], _ => True
 | x :: r, ad => (∃ cs, gcells G ad cs ∧ rep x cs) ∧ Rw G sz rep r (ad.add sz)
def Cs (sz : Nat) (rep : α → List Value → Prop) : List α → List Value → Prop
 | [], xs => xs = []
 | x :: r, xs => ∃ cs ys, xs = cs ++ ys ∧ cs.length = sz ∧ rep x cs ∧ Cs sz rep r ys
def Sr (G : PH) (sz : Nat) (rep : α → List Value → Prop) (L : List α) (v : Value) : Prop := Sl G (Rw G sz rep L) L.length v
variable {G G' : PH} {sz : Nat} {rep rep' : α → List Value → Prop}
theorem Rw_mono (hl : G.le G') {L : List α} (hr : ∀ x ∈ L, ∀ cs, rep x cs → rep' x cs) {ad : Addr} (h : Rw G sz rep L ad) : Rw G' sz rep' L ad := by
 induction L generalizing ad with
 | nil => trivial
 | cons x L ih =>
  obtain ⟨⟨cs, h1, h2⟩, h3⟩ := h
  exact ⟨⟨cs, gcells_le hl h1, hr x (List.mem_cons_self ..) cs h2⟩, ih (fun y hy => hr y (List.mem_cons_of_mem _ hy)) h3⟩
theorem Sr_mono (hl : G.le G') {L : List α} (hr : ∀ x ∈ L, ∀ cs, rep x cs → rep' x cs) {v : Value} (h : Sr G sz rep L v) : Sr G' sz rep' L v := by
 obtain ⟨A, c, h1, h2, h3, h4, h5⟩ := h
 refine ⟨A, c, h1, h2, h3, h4, ?_⟩
 rcases h5 with h5 | ⟨ad, h5, h6⟩
 ·exact .inl h5
 ·exact .inr ⟨ad, h5, Rw_mono hl hr h6⟩
theorem Cs_length {L : List α} {xs : List Value} (h : Cs sz rep L xs) : xs.length = L.length * sz := by
 induction L generalizing xs with
 | nil => cases h; simp
 | cons y L ih =>
  obtain ⟨ds, ys, rfl, h2, h3, h4⟩ := h
  simp only [List.length_append, h2, ih h4, List.length_cons, Nat.succ_mul]; omega
theorem gcells_append {ad : Addr} {cs ys : List Value} (h : gcells G ad (cs ++ ys)) : gcells G ad cs ∧ gcells G (ad.add cs.length) ys := by
 induction cs generalizing ad with
 | nil => exact ⟨trivial, by rw [List.length_nil, add_zero']; exact h⟩
 | cons c cs ih =>
  obtain ⟨h1, h2⟩ := h
  obtain ⟨h3, h4⟩ := ih h2
  rw [add_add'] at h4
  exact ⟨⟨h1, h3⟩, by rw [List.length_cons, Nat.add_comm]; exact h4⟩
theorem Rw_of {L : List α} {xs : List Value} (h : Cs sz rep L xs) {ad : Addr} (hg : gcells G ad xs) : Rw G sz rep L ad := by
 induction L generalizing xs ad with
 | nil => trivial
 | cons y L ih =>
  obtain ⟨ds, ys, rfl, h2, h3, h4⟩ := h
  obtain ⟨h5, h6⟩ := gcells_append hg
  rw [h2] at h6
  exact ⟨⟨ds, h5, h3⟩, ih h4 h6⟩
theorem Rw_at {L : List α} {ad : Addr} (h : Rw G sz rep L ad) {k : Nat} (hk : k < L.length) : ∃ cs, gcells G (ad.add (k * sz)) cs ∧ rep L[k] cs := by
 induction L generalizing ad k with
 | nil => simp at hk
 | cons s r ih =>
  obtain ⟨h1, h2⟩ := h
  cases k with
  | zero => simpa [add_zero'] using h1
  | succ k =>
   obtain ⟨cs, h3, h4⟩ := ih h2 (k := k) (by simpa using hk)
   rw [add_add'] at h3
   exact ⟨cs, by rw [show (k + 1) * sz = sz + k * sz by rw [Nat.succ_mul]; omega]; exact h3, by simpa using h4⟩
theorem Sr_nil {L : List α} (h : L = []) : Sr G sz rep L (.slice none 0 0) := by
 subst h
 exact ⟨none, 0, J, by simp, by simp, by decide, .inl J⟩
theorem Sr_at {L : List α} {A : Option Addr} {n c : Nat} (h : Sr G sz rep L (.slice A n c)) {k : Nat} (hk : k < L.length) : ∃ ad cs, A = some ad ∧ gcells G (ad.add (k * sz)) cs ∧ rep L[k] cs := by
 obtain ⟨A', c', e, _, _, _, h5⟩ := h
 cases e
 rcases h5 with h5 | ⟨ad, rfl, h6⟩
 ·omega
 ·obtain ⟨cs, h7, h8⟩ := Rw_at h6 hk
  exact ⟨ad, cs, J, h7, h8⟩
end
def intRep (n : Int) (cs : List Value) : Prop := cs = [.int .i64 n] ∧ I64 n
abbrev Ints (G : PH) (L : List Int) (v : Value) : Prop := Sr G 1 intRep L v
theorem Ints_le {G G' : PH} (hl : G.le G') {L : List Int} {v : Value} (h : Ints G L v) : Ints G' L v := Sr_mono hl (fun _ _ _ h => h) h
end
end Go.Proofs.YtblildkhbkmmdaaDoor
