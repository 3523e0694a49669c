/- Walks of the program's functions, one after the other (part 10); without conditions of their own. -/
import Derived.Test.YtcbdilccmjpnbaaGreatDoorWDM2
import Derived.Test.YtcbdilccmjpnbaaGreatDoorWDM3
import Derived.Test.YtcbdilccmjpnbaaGreatDoorWDM4
import Derived.Test.YtcbdilccmjpnbaaGreatDoorWDM9
import Derived.Ground.NamesProg
import Derived.Lib.ItoaLen
import Derived.Shelf.LaysM
import Derived.Shelf.Strconv.Itoa3
import Derived.Shelf.Strings.OnBuilder
import Derived.Test.YtcbdilccmjpnbaaGreatDoorProg
set_option linter.unusedVariables false
set_option linter.unusedSimpArgs false
set_option maxRecDepth 100000
set_option maxHeartbeats 4000000
open Go.RowKit
namespace Go.Proofs.YtcbdilccmjpnbaaGreatDoor
section
open Go.Lib (itoa decDigits)
attribute [local irreducible] X Pure Mod
theorem V_neg {C : Ctx} {E : Env} {ι : Ids} {L : List Ent} {G : PH} {d : Option Nat} {ty : Nat} {pos : String} {af : Array Edge} {g : Option (Nat × Bool)} {t : Nat} {x : Operand} {p : Int} (hx : ev E x = some (.val (.int .i64 p))) (hb : -9223372036854775808 ≤ -p ∧ -p ≤ 9223372036854775807) : Vl C ι E L G ⟨d, .unOp .neg t x, ty, pos, af, g⟩ (.int .i64 (-p)) := by
 intro a w hE _
 have ex := ev_sound hE hx
 simp only [denO, Option.some.injEq] at ex
 have hwr : IntKind.i64.wrap (-p) = -p := by rw [IntKind.wrap_i64]; omega
 simp only [execOp, ← ex]
 simp [Op.unary, Op.intArith, hwr]
theorem u_intT : Tryz.prog.underlying 3 = some (.int .i64) := by kernel_rfl
theorem u_byte : Tryz.prog.underlying 5 = some (.int .u8) := by kernel_rfl
theorem u_bytes : Tryz.prog.underlying 147 = some (.slice 5) := by kernel_rfl
theorem u_str : Tryz.prog.underlying 9 = some .string := by kernel_rfl
theorem digit_u8 {m : Int} (h0 : 0 ≤ m) (h1 : m < 10) : IntKind.u8.wrap (48 + m) = 48 + m := by
 simp [IntKind.wrap, IntKind.bits, IntKind.signed]
 omega
theorem dig_cell {G : PH} {b : Nat} {m : Int} (h0 : 0 ≤ m) (h1 : m < 10) (h : gcells G ⟨b, 0, none⟩ [.int .u8 (48 + m)]) : ∀ j (hj : j < [UInt8.ofNat (48 + m.toNat)].length), gcell G ((⟨b, 0, none⟩ : Addr).add j) = some (.int .u8 ([UInt8.ofNat (48 + m.toNat)][j].toNat : Int)) := by
 intro j hj
 obtain rfl : j = 0 := by simpa using hj
 rw [List.getElem_cons_zero, UInt8.toNat_ofNat', show ((48 + m.toNat) % 2 ^ 8 : Nat) = 48 + m.toNat by omega, show ((48 + m.toNat : Nat) : Int) = 48 + m by omega]
 exact h.1
theorem c_l11DecN (u : Nat) (hu : u ≤ 9223372036854775807) (G : PH) : Pure Tryz.prog 84 [.int .i64 (u : Nat)] G fun v G' => v = tx (decDigits u) := by
 refine Pure.intro Tryz.func84 Tryz.ntmps84 J J fun w => ?_; refine Va J J ?_;refine RF J (by simp) ?_;refine Va J J ?_;refine RF J (by simp) ?_;refine Va J J ?_;refine S_loop (α := Nat × List UInt8 × PH) (fun y => y.1 ≤ u ∧ decDigits u = decDigits y.1 ++ y.2.1 ∧ PH.ext w.heap.size G y.2.2) (fun y => y.1) []
  (fun y => [(0, .val (.int .i64 (y.1 : Nat))), (3, .val (tx y.2.1))]) (fun _ => []) (fun y => y.2.2) (u, [], G) ⟨Nat.le_refl _, by simp, PH.ext.refl _ _⟩ rfl ⟨⟨_, rfl, rfl⟩, ⟨_, rfl, rfl⟩, trivial⟩ .nil ?_
 rintro ⟨n, out, G1⟩ ⟨hn, hd, hext⟩
 simp only at hn hd hext ⊢
 have hl : out.length ≤ 20 := by
  have h1 := congrArg List.length hd
  have h2 := Lib.nDigits_le20 u (by omega)
  rw [Lib.decDigits_length, List.length_append] at h1
  omega
 refine Va J J ?_
 refine S_condp J (fun h => ?_) (fun h => ?_) <;> refine Va J J ?_
 ·have hm : 0 ≤ (n : Int) % 10 ∧ (n : Int) % 10 < 10 := by omega
  refine S_valV J J J (V_rem J J (by omega) (by decide)) ?_;refine Va J J ?_;refine S_add J J J J (by omega) ?_;refine Va J J ?_
  generalize hme : (n : Int) % 10 = m at hm ⊢
  refine S_valV J J J (V_conv J u_intT u_byte (digit_u8 (by omega) (by omega))) ?_;refine Va J J ?_;refine S_sliceG Tk ZT_ok J J J J (by decide) (by decide) J J J J (fun _ => J) fun bq Gq hxq hcq => ?_;refine Va J J ?_;refine S_valV J J J (V_convT u_bytes u_byte u_str J (dig_cell (by omega) (by omega) hcq)) ?_;refine Va J J ?_;refine S_valV J J J (V_addT (p := [_]) J J J J ?_) ?_
  ·simp only [List.length_singleton]; omega
  refine Va J J ?_;refine S_valV J J J (V_quo J J (by omega) (by omega) (by decide)) ?_;refine Va J J ?_
  have hdd : decDigits n = decDigits (n / 10) ++ [UInt8.ofNat (48 + m.toNat)] := by
   rw [decDigits, dif_neg (by omega), show m.toNat = n % 10 by omega]
  exact S_again (n / 10, [UInt8.ofNat (48 + m.toNat)] ++ out, _) ⟨by simp only; omega, by rw [hd, hdd, List.append_assoc], hext.trans hxq⟩ (by simp only; omega) rfl ⟨⟨_, rfl, by simp [denO]⟩, ⟨_, rfl, rfl⟩, trivial⟩ .nil
 ·obtain ⟨m, rfl⟩ : ∃ m : Nat, m = n := ⟨n, rfl⟩
  refine S_add J J J J (by omega) ?_;refine Va J J ?_
  have hm : 0 ≤ (m : Int) ∧ (m : Int) < 10 := by omega
  refine S_valV J J J (V_conv J u_intT u_byte (digit_u8 (by omega) (by omega))) ?_;refine Va J J ?_;refine S_sliceG Tk ZT_ok J J J J (by decide) (by decide) J J J J (fun _ => J) fun bq Gq hxq hcq => ?_;refine Va J J ?_;refine S_valV J J J (V_convT u_bytes u_byte u_str J (dig_cell (by omega) (by omega) hcq)) ?_;refine Va J J ?_;refine S_valV J J J (V_addT (p := [_]) J J J J ?_) ?_
  ·simp only [List.length_singleton]; omega
  refine Va J J ?_;refine S_retp (Res.t1 Tryz.results84 J J) (hext.trans hxq) ?_
  rw [hd, Lib.decDigits_one (i := m) (by omega)]
  simp
theorem c_l11Dec (n : Int) (hn : I64 n) (G : PH) : Pure Tryz.prog 84 [.int .i64 n] G fun v G' => v = tx (itoa n) := by
 obtain ⟨hn1, hn2⟩ := hn
 by_cases h0 : 0 ≤ n
 ·obtain ⟨u, rfl⟩ := Int.eq_ofNat_of_zero_le h0
  rw [Lib.itoa_nonneg]
  exact c_l11DecN u (by omega) G
 obtain ⟨u, rfl⟩ : ∃ u : Nat, n = -(u : Int) := ⟨n.natAbs, by omega⟩
 rw [Lib.itoa_neg u (by omega)]
 refine Pure.intro Tryz.func84 Tryz.ntmps84 J J fun w => ?_; refine Va J J ?_
 by_cases hmin : u = 9223372036854775808
 ·subst hmin
  refine RT J (by simp) ?_;refine Va J J ?_;refine S_retp (Res.t1 Tryz.results84 J J) XR ?_
  have e : decDigits 9223372036854775808 = [57, 50, 50, 51, 51, 55, 50, 48, 51, 54, 56, 53, 52, 55, 55, 53, 56, 48, 56] := by
   simp [Lib.decDigits]
  rw [e]; rfl
 refine RF J (by simp; omega) ?_;refine Va J J ?_;refine RT J (by simp; omega) ?_;refine Va J J ?_;refine S_valV J J J (V_neg J (by omega)) ?_;refine Va J J ?_
 rw [Int.neg_neg]
 refine S_call Tryz.call84 (c_l11DecN u (by omega) _) J J J ?_;rintro v G1 rfl hext
 refine Va J J ?_;refine S_valV J J J (V_addT (p := [45]) J J J J ?_) ?_
 ·have := Lib.itoa_length_le (u : Int) (by omega) (by omega)
  rw [Lib.itoa_nonneg] at this
  simp only [List.length_singleton]; omega
 refine Va J J ?_;exact S_retp (Res.t1 Tryz.results84 J J) hext J
end
section
open Go.Lib (itoa)
attribute [local irreducible] X Pure Mod
theorem intsU_at {G : PH} {o : List Int} {A : Option Addr} {n c t : Nat} (h : IntsU G o (.slice A n c)) (ht : t < o.length) : ∃ ad, A = some ad ∧ gcell G (ad.add (t * 1)) = some (.int .i64 o[t]) := by
 obtain ⟨ad, cs, rfl, hcs, rfl⟩ := Sr_at h ht
 exact ⟨ad, J, hcs.1⟩
def numT (n : Int) : List UInt8 := 32 :: itoa n
theorem numT_len {l : List Int} (hi : ∀ n ∈ l, I64 n) : (l.flatMap numT).length ≤ 22 * l.length := flatMap_len (c := 22) (f := numT) l fun n hn => by have := itoa_len (hi n hn); simp only [numT, List.length_cons]; omega
theorem c_l8Nums (w : List UInt8) (l : List Int) (v : Value) (G : PH) (hv : IntsU G l v) (hi : ∀ n ∈ l, I64 n) (hw : w.length ≤ 1000) : Pure Tryz.prog 71 [tx w, v] G fun v' G' => v' = tx (lineT w l) := by
 obtain ⟨A, c, rfl, hl1, _⟩ := id hv
 refine Pure.intro Tryz.func71 Tryz.ntmps71 J J fun w0 => ?_;refine Va J J ?_;refine S_loop (α := Nat × PH) (fun y => y.1 ≤ l.length ∧ PH.ext w0.heap.size G y.2) (fun y => l.length - y.1) []
  (fun y => [(6, .val (.int .i64 (y.1 : Nat))), (5, .val (tx (w ++ (l.take y.1).flatMap numT))), (1, .val (.slice A l.length c))]) (fun _ => []) (fun y => y.2) (0, G) ⟨Nat.zero_le _, PH.ext.refl _ _⟩ rfl ⟨⟨_, rfl, rfl⟩, ⟨_, rfl, by simp [denO]⟩, ⟨_, rfl, rfl⟩, trivial⟩ .nil ?_
 rintro ⟨i, G1⟩ ⟨hil, hext⟩
 simp only at hil hext ⊢
 have htk := numT_len (l := l.take i) fun n hn => hi n (List.mem_of_mem_take hn)
 have htl := List.length_take_le i l
 refine Va J J ?_
 refine S_condp J (fun h => ?_) (fun h => ?_) <;> refine Va J J ?_
 ·have hkl : i < l.length := by omega
  obtain ⟨ad, e1, hc⟩ := intsU_at (IntsU_le hext.le hv) hkl
  subst e1
  have hin := hi _ (List.getElem_mem hkl)
  have hnx : (l.take (i + 1)).flatMap numT = (l.take i).flatMap numT ++ numT l[i] := by rw [List.take_succ_eq_append_getElem hkl, List.flatMap_append]; simp
  have hlen := itoa_len hin
  generalize l[i] = n at hc hin hnx hlen
  refine S_valV J J J (V_addT (q := [32]) J J J J (by simp only [List.length_append, List.length_singleton]; omega)) ?_;refine Va J J ?_;refine S_index Tk J J J J J J (by omega) (by omega) ?_;refine Va J J ?_;refine S_load Tk J J J J J (by simpa using hc) ?_;refine Va J J ?_;refine S_call Tryz.call84 (c_l11Dec n hin _) J J J ?_;rintro v1 G2 rfl hext2
  refine Va J J ?_;refine S_valV J J J (V_addT J J J J (by simp only [List.length_append, List.length_singleton]; omega)) ?_;refine Va J J ?_;refine S_add J J J J (by omega) ?_;refine Va J J ?_;exact S_again (i + 1, G2) ⟨hkl, hext.trans hext2⟩ (by simp only; omega) rfl ⟨⟨_, rfl, by simp [denO]⟩, ⟨_, rfl, by rw [hnx]; simp [denO, numT]⟩, ⟨_, rfl, rfl⟩, trivial⟩ .nil
 ·have e : i = l.length := by omega
  subst e
  rw [List.take_length] at htk ⊢
  refine S_valV J J J (V_addT (q := [10]) J J J J (by simp only [List.length_append, List.length_singleton]; omega)) ?_;refine Va J J ?_;exact S_retp (Res.t1 Tryz.results71 J J) hext J
end
section
open Go.Lib (itoa)
attribute [local irreducible] X Pure Mod
theorem tB_le {e : Nat} (h : e ≤ 3) : tB e ≤ 400000000000 := by
 rcases e with _ | _ | _ | _ | e <;> first | omega | decide
theorem stm_parts {L : List Stm} {k a b n : Int} {x y : List Stm} {e : Nat} (hs : (Stm.mk k a b n x y) ∈ L) (hd : dpL L ≤ e) (hi : iL L) (hm : mx L ≤ 1000) : ∃ e', e = e' + 1 ∧ dpL x ≤ e' ∧ dpL y ≤ e' ∧ mx x ≤ 1000 ∧ mx y ≤ 1000 ∧ iL x ∧ iL y ∧ I64 k ∧ I64 a ∧ I64 b ∧ I64 n := by
 have h0 := dp_memS hs
 have h1 := iL_mem hi hs
 have h2 := mx_mem hs
 rw [mxS_eq] at h2
 rw [dpS_eq] at h0
 obtain ⟨hk, ha, hb, hn, hx, hy⟩ := h1
 simp only [Stm.body, Stm.els] at h2 h0
 exact ⟨e - 1, by omega, by omega, by omega, by omega, by omega, hx, hy, hk, ha, hb, hn⟩
theorem stmT_len {L : List Stm} {s : Stm} {e d : Nat} (hs : s ∈ L) (hd : dpL L ≤ e + 1) (hi : iL L) (hm : mx L ≤ 1000) : (stmT d s).length ≤ 87 + 2 * tB e := by
 obtain ⟨k, a, b, n, x, y⟩ := s
 obtain ⟨e', he, h1, h2, h3, h4, hx, hy, hk, ha, hb, hn⟩ := stm_parts hs hd hi hm
 obtain rfl : e = e' := by omega
 have h5 := fourT_len hk ha hb hn
 have h6 := todoT_len e d x h1 hx h3
 have h7 := todoT_len e d y h2 hy h4
 simp only [stmT, Stm.kind, Stm.a, Stm.b, Stm.n, Stm.body, Stm.els, List.length_append]
 omega
def TdS (L : List Stm) : Prop := ∀ (d : Nat) (dv : Int) (e : Nat) (v : Value) (G : PH), Sts G L v → dv = (d : Nat) → d ≤ 100 → dpL L ≤ e → e ≤ 3 → mx L ≤ 1000 → Pure Tryz.prog 72 [v, .int .i64 dv] G fun v' G' => v' = tx (todoT d L)
theorem c_l8Todo (L : List Stm) (hb : ∀ k (hk : k < L.length), TdS L[k].body ∧ TdS L[k].els) : TdS L := by
 intro d dv e v G hst hdv hd100 hdp he hmx
 subst hdv
 obtain ⟨A, c, rfl, hl1, _⟩ := id hst
 have hiL := iL_rep hst
 refine Pure.intro Tryz.func72 Tryz.ntmps72 J J fun w0 => ?_;refine Va J J ?_
 rcases d with _ | d
 ·refine S_loop (α := Unit) (fun _ => True) (fun _ => 0) [] (fun _ => [(6, .val (.int .i64 0)), (5, .val (tx [40])), (0, .val (.slice A L.length c)), (1, .val (.int .i64 0))]) (fun _ => []) (fun _ => G) () trivial J ⟨⟨_, J, J⟩, ⟨_, J, J⟩, ⟨_, J, J⟩, ⟨_, J, J⟩, trivial⟩ .nil ?_
  rintro ⟨⟩ _
  refine Va J J ?_;refine RF J (by simp) ?_;refine Va J J ?_;refine S_valV J J J (V_addT (q := [41]) J J J J (by simp)) ?_;refine Va J J ?_;exact S_retp (Res.t1 Tryz.results72 J J) XR J
 refine S_loop (α := Nat × PH) (fun y => y.1 ≤ L.length ∧ PH.ext w0.heap.size G y.2) (fun y => L.length - y.1) []
  (fun y => [(6, .val (.int .i64 (y.1 : Nat))), (5, .val (tx ([40] ++ (L.take y.1).flatMap (stmT d)))), (0, .val (.slice A L.length c)), (1, .val (.int .i64 (d + 1 : Nat)))]) (fun _ => []) (fun y => y.2) (0, G) ⟨Nat.zero_le _, PH.ext.refl _ _⟩ rfl ⟨⟨_, rfl, rfl⟩, ⟨_, rfl, by simp [denO]; rfl⟩, ⟨_, rfl, rfl⟩, ⟨_, rfl, rfl⟩, trivial⟩ .nil ?_
 rintro ⟨i, G1⟩ ⟨hil, hext⟩
 simp only at hil hext ⊢
 have hlm := len_mx L
 refine Va J J ?_
 by_cases hkl : i < L.length
 ·have hso := List.getElem_mem hkl
  obtain ⟨ad, cs, e1, hcs, hrep⟩ := Sr_at (Sts_le hext.le hst) hkl
  subst e1
  obtain ⟨hbx, hby⟩ := hb i hkl
  have hnx : (L.take (i + 1)).flatMap (stmT d) = (L.take i).flatMap (stmT d) ++ stmT d L[i] := by rw [List.take_succ_eq_append_getElem hkl, List.flatMap_append]; simp
  generalize L[i] = s at hso hcs hrep hbx hby hnx
  obtain ⟨q1, q2, q3, q4, q5, q6⟩ := s
  obtain ⟨vx, vy, rfl, i1, i2, i3, i4, hx, hy⟩ := Stm.rep_iff.1 hrep
  obtain ⟨e', rfl, p1, p2, p3, p4, p5, p6, _⟩ := stm_parts hso hdp hiL hmx
  have htB := tB_le (show e' ≤ 3 by omega)
  have htk : ((L.take i).flatMap (stmT d)).length ≤ (87 + 2 * tB e') * (L.take i).length := flatMap_len _ fun s hs => stmT_len (List.mem_of_mem_take hs) hdp hiL hmx
  have htl : (87 + 2 * tB e') * (L.take i).length ≤ (87 + 2 * tB e') * 1000 := Nat.mul_le_mul_left _ (by have := List.length_take_le i L; omega)
  have t5 := todoT_len e' d q5 p1 p5 p3
  have t6 := todoT_len e' d q6 p2 p6 p4
  have l1 := itoa_len i1
  have l2 := itoa_len i2
  have l3 := itoa_len i3
  have l4 := itoa_len i4
  simp only [Stm.body, Stm.els] at hbx hby
  obtain ⟨Ax, cx, rfl, hx1, _⟩ := id hx
  obtain ⟨Ay, cy, rfl, hy1, _⟩ := id hy
  refine RT J (by simp; omega) ?_;refine Va J J ?_;refine S_index Tk J J J J J J (by omega) (by omega) ?_;refine Va J J ?_;refine S_loadA Tk J J J J J (by simpa using hcs) ?_;refine Va J J ?_;refine AZ ZT_ok J J J J fun b7 => ?_;refine Va J J ?_;refine D_startK [5] (by exact MO) J J J (by kernel_rfl) ?_;refine Da J J ?_;refine D_val 23 J J J J J J J J J (V_sub J J (by omega)) ?_;refine Da J J ?_;refine D_val 29 J J J J J J J J J (V_sub J J (by omega)) ?_
  refine Da J J ?_;refine D_sole 3 J J (N_turnV 3 J J J J fun back => ?_)
  refine S_call Tryz.call84 (c_l11Dec q1 i1 _) J J J ?_;rintro v1 H1 rfl hx1
  refine back _ _ _ _ (pk_val J J J J J J J J (V_sub J J (by omega)) (pk_val J J J J J J J J (V_sub J J (by omega)) (pk_all Tk (by kernel_rfl)))) ?_; clear back
  refine Da J J ?_;refine D_val 4 J J J J J J J J J (V_addS J J (by simp only [ByteArray.size_append, sz_tx, List.length_append, List.length_cons, List.length_nil]; omega)) ?_;refine Da J J ?_;refine D_val 5 J J J J J J J J J (V_addS J J (by simp only [ByteArray.size_append, sz_tx, List.length_append, List.length_cons, List.length_nil]; omega)) ?_;refine Da J J ?_;refine D_sole 8 J J (N_turnV 8 J J J J fun back => ?_)
  refine S_call Tryz.call84 (c_l11Dec q2 i2 _) J J J ?_;rintro v2 H2 rfl hx2
  refine back _ _ _ _ (pk_val J J J J J J J J (V_addS J J (by simp only [ByteArray.size_append, sz_tx, List.length_append, List.length_cons, List.length_nil]; omega)) (pk_val rfl rfl rfl rfl rfl rfl rfl rfl (V_addS rfl rfl (by simp only [ByteArray.size_append, sz_tx, List.length_append, List.length_cons, List.length_nil]; omega)) (pk_val rfl rfl rfl rfl rfl rfl rfl rfl (V_sub rfl rfl (by omega)) (pk_val rfl rfl rfl rfl rfl rfl rfl rfl (V_sub rfl rfl (by omega)) (pk_all Tk (by kernel_rfl)))))) ?_; clear back
  refine Da J J ?_;refine D_val 9 J J J J J J J J J (V_addS J J (by simp only [ByteArray.size_append, sz_tx, List.length_append, List.length_cons, List.length_nil]; omega)) ?_;refine Da J J ?_;refine D_val 10 J J J J J J J J J (V_addS J J (by simp only [ByteArray.size_append, sz_tx, List.length_append, List.length_cons, List.length_nil]; omega)) ?_;refine Da J J ?_;refine D_sole 13 J J (N_turnV 13 J J J J fun back => ?_)
  refine S_call Tryz.call84 (c_l11Dec q3 i3 _) J J J ?_;rintro v3 H3 rfl hx3
  refine back _ _ _ _ (pk_val J J J J J J J J (V_addS J J (by simp only [ByteArray.size_append, sz_tx, List.length_append, List.length_cons, List.length_nil]; omega)) (pk_val rfl rfl rfl rfl rfl rfl rfl rfl (V_addS rfl rfl (by simp only [ByteArray.size_append, sz_tx, List.length_append, List.length_cons, List.length_nil]; omega)) (pk_val rfl rfl rfl rfl rfl rfl rfl rfl (V_addS rfl rfl (by simp only [ByteArray.size_append, sz_tx, List.length_append, List.length_cons, List.length_nil]; omega)) (pk_val rfl rfl rfl rfl rfl rfl rfl rfl (V_addS rfl rfl (by simp only [ByteArray.size_append, sz_tx, List.length_append, List.length_cons, List.length_nil]; omega)) (pk_val rfl rfl rfl rfl rfl rfl rfl rfl (V_sub rfl rfl (by omega)) (pk_val rfl rfl rfl rfl rfl rfl rfl rfl (V_sub rfl rfl (by omega)) (pk_all Tk (by kernel_rfl)))))))) ?_; clear back
  refine Da J J ?_;refine D_val 14 J J J J J J J J J (V_addS J J (by simp only [ByteArray.size_append, sz_tx, List.length_append, List.length_cons, List.length_nil]; omega)) ?_;refine Da J J ?_;refine D_val 15 J J J J J J J J J (V_addS J J (by simp only [ByteArray.size_append, sz_tx, List.length_append, List.length_cons, List.length_nil]; omega)) ?_;refine Da J J ?_;refine D_sole 18 J J (N_turnV 18 J J J J fun back => ?_)
  refine S_call Tryz.call84 (c_l11Dec q4 i4 _) J J J ?_;rintro v4 H4 rfl hx4
  refine back _ _ _ _ (pk_val J J J J J J J J (V_addS J J (by simp only [ByteArray.size_append, sz_tx, List.length_append, List.length_cons, List.length_nil]; omega)) (pk_val rfl rfl rfl rfl rfl rfl rfl rfl (V_addS rfl rfl (by simp only [ByteArray.size_append, sz_tx, List.length_append, List.length_cons, List.length_nil]; omega)) (pk_val rfl rfl rfl rfl rfl rfl rfl rfl (V_addS rfl rfl (by simp only [ByteArray.size_append, sz_tx, List.length_append, List.length_cons, List.length_nil]; omega)) (pk_val rfl rfl rfl rfl rfl rfl rfl rfl (V_addS rfl rfl (by simp only [ByteArray.size_append, sz_tx, List.length_append, List.length_cons, List.length_nil]; omega)) (pk_val rfl rfl rfl rfl rfl rfl rfl rfl (V_addS rfl rfl (by simp only [ByteArray.size_append, sz_tx, List.length_append, List.length_cons, List.length_nil]; omega)) (pk_val rfl rfl rfl rfl rfl rfl rfl rfl (V_addS rfl rfl (by simp only [ByteArray.size_append, sz_tx, List.length_append, List.length_cons, List.length_nil]; omega)) (pk_val rfl rfl rfl rfl rfl rfl rfl rfl (V_sub rfl rfl (by omega)) (pk_val rfl rfl rfl rfl rfl rfl rfl rfl (V_sub rfl rfl (by omega)) (pk_all Tk (by kernel_rfl)))))))))) ?_; clear back
  refine Da J J ?_;refine D_val 19 J J J J J J J J J (V_addS J J (by simp only [ByteArray.size_append, sz_tx, List.length_append, List.length_cons, List.length_nil]; omega)) ?_;refine Da J J ?_
  have hxx := ((hx1.trans hx2).trans hx3).trans hx4
  refine D_sole 24 J J (N_turnV 24 J J J J fun back => ?_)
  refine S_call Tryz.call72 (hbx d _ e' _ _ (Sts_le hxx.le hx) (by omega) (by omega) p1 (by omega) p3) J J J ?_;rintro v5 H5 rfl hx5
  refine back _ _ _ _ (pk_val J J J J J J J J (V_addS J J (by simp only [ByteArray.size_append, sz_tx, List.length_append, List.length_cons, List.length_nil]; omega)) (pk_val rfl rfl rfl rfl rfl rfl rfl rfl (V_addS rfl rfl (by simp only [ByteArray.size_append, sz_tx, List.length_append, List.length_cons, List.length_nil]; omega)) (pk_val rfl rfl rfl rfl rfl rfl rfl rfl (V_addS rfl rfl (by simp only [ByteArray.size_append, sz_tx, List.length_append, List.length_cons, List.length_nil]; omega)) (pk_val rfl rfl rfl rfl rfl rfl rfl rfl (V_addS rfl rfl (by simp only [ByteArray.size_append, sz_tx, List.length_append, List.length_cons, List.length_nil]; omega)) (pk_val rfl rfl rfl rfl rfl rfl rfl rfl (V_addS rfl rfl (by simp only [ByteArray.size_append, sz_tx, List.length_append, List.length_cons, List.length_nil]; omega)) (pk_val rfl rfl rfl rfl rfl rfl rfl rfl (V_addS rfl rfl (by simp only [ByteArray.size_append, sz_tx, List.length_append, List.length_cons, List.length_nil]; omega)) (pk_val rfl rfl rfl rfl rfl rfl rfl rfl (V_addS rfl rfl (by simp only [ByteArray.size_append, sz_tx, List.length_append, List.length_cons, List.length_nil]; omega)) (pk_val rfl rfl rfl rfl rfl rfl rfl rfl (V_sub rfl rfl (by omega)) (pk_all Tk (by kernel_rfl)))))))))) ?_; clear back
  refine Da J J ?_;refine D_val 25 J J J J J J J J J (V_addS J J (by simp only [ByteArray.size_append, sz_tx, List.length_append, List.length_cons, List.length_nil]; omega)) ?_;refine Da J J ?_;refine D_sole 30 J J (N_turnV 30 J J J J fun back => ?_)
  refine S_call Tryz.call72 (hby d _ e' _ _ (Sts_le (hxx.trans hx5).le hy) (by omega) (by omega) p2 (by omega) p4) J J J ?_;rintro v6 H6 rfl hx6
  refine back _ _ _ _ (pk_val J J J J J J J J (V_addS J J (by simp only [ByteArray.size_append, sz_tx, List.length_append, List.length_cons, List.length_nil]; omega)) (pk_val rfl rfl rfl rfl rfl rfl rfl rfl (V_addS rfl rfl (by simp only [ByteArray.size_append, sz_tx, List.length_append, List.length_cons, List.length_nil]; omega)) (pk_val rfl rfl rfl rfl rfl rfl rfl rfl (V_addS rfl rfl (by simp only [ByteArray.size_append, sz_tx, List.length_append, List.length_cons, List.length_nil]; omega)) (pk_val rfl rfl rfl rfl rfl rfl rfl rfl (V_addS rfl rfl (by simp only [ByteArray.size_append, sz_tx, List.length_append, List.length_cons, List.length_nil]; omega)) (pk_val rfl rfl rfl rfl rfl rfl rfl rfl (V_addS rfl rfl (by simp only [ByteArray.size_append, sz_tx, List.length_append, List.length_cons, List.length_nil]; omega)) (pk_val rfl rfl rfl rfl rfl rfl rfl rfl (V_addS rfl rfl (by simp only [ByteArray.size_append, sz_tx, List.length_append, List.length_cons, List.length_nil]; omega)) (pk_val rfl rfl rfl rfl rfl rfl rfl rfl (V_addS rfl rfl (by simp only [ByteArray.size_append, sz_tx, List.length_append, List.length_cons, List.length_nil]; omega)) (pk_val rfl rfl rfl rfl rfl rfl rfl rfl (V_addS rfl rfl (by simp only [ByteArray.size_append, sz_tx, List.length_append, List.length_cons, List.length_nil]; omega)) (pk_all Tk (by kernel_rfl)))))))))) ?_; clear back
  refine Da J J ?_;refine D_val 31 J J J J J J J J J (V_addS J J (by simp only [ByteArray.size_append, sz_tx, List.length_append, List.length_cons, List.length_nil]; omega)) ?_;refine Da J J ?_;refine D_sole 32 J J (N_assign Tk 32 J J J J J J J J J (by kernel_rfl) ?_)
  refine DD ?_;refine Va J J ?_;refine S_add J J J J (by omega) ?_;refine Va J J ?_;exact S_again (i + 1, _) ⟨hkl, ((hext.trans hxx).trans hx5).trans hx6⟩ (by simp only; omega) rfl ⟨⟨_, rfl, by simp [denO]⟩, ⟨_, rfl, by rw [hnx]; simp [denO, tx, ba_append, stmT, fourT, Stm.kind, Stm.a, Stm.b, Stm.n, Stm.body, Stm.els]⟩, ⟨_, rfl, rfl⟩, ⟨_, rfl, rfl⟩, trivial⟩ (by first | exact .nil | exact .drop .nil)
 ·refine RF J (by simp; omega) ?_
  refine Va J J ?_
  have e0 : i = L.length := by omega
  subst e0
  rw [List.take_length]
  have ht := todoT_len e (d + 1) L hdp hiL hmx
  have htB := tB_le he
  rw [todoT_succ] at ht
  simp only [List.length_append, List.length_cons, List.length_nil] at ht
  refine S_valV J J J (V_addT (q := [41]) J J J J (by simp only [List.length_append, List.length_cons, List.length_nil]; omega)) ?_;refine Va J J ?_;exact S_retp (Res.t1 Tryz.results72 J J) hext J
mutual
theorem TdS_stm : ∀ s : Stm, TdS s.body ∧ TdS s.els
 | .mk k a b n x y => ⟨c_l8Todo x (TdS_at x), c_l8Todo y (TdS_at y)⟩
theorem TdS_at : ∀ (L : List Stm) (k : Nat) (hk : k < L.length), TdS L[k].body ∧ TdS L[k].els
 | [], _, hk => absurd hk (Nat.not_lt_zero _)
 | s :: r, 0, _ => TdS_stm s
 | s :: r, k + 1, hk => TdS_at r k (Nat.lt_of_succ_lt_succ hk)
end
theorem TdS_all (L : List Stm) : TdS L := c_l8Todo L (TdS_at L)
end
section
open Go.Lib (itoa)
attribute [local irreducible] X Pure Mod
theorem Ints_U {G : PH} {l : List Int} {v : Value} (h : Ints G l v) : IntsU G l v := Sr_mono (fun _ _ h => h) (fun _ _ _ h => h.1) h
structure Tok (W : Wld) : Prop where
 n3 : W.procs.length ≤ 3
 nm : Nm W
 shl : Shl W
 mx : ∀ p ∈ W.procs, mx p.todo ≤ 1000
 md : ∀ p ∈ W.procs, I64 p.mode ∧ I64 p.room
 rm : I64 W.m0 ∧ I64 W.m1
 q0 : W.q0.length ≤ 1000 ∧ ∀ n ∈ W.q0, I64 n
 q1 : W.q1.length ≤ 1000 ∧ ∀ n ∈ W.q1, I64 n
 sd : W.said.length ≤ 1000
theorem procT_len {W : Wld} (h : Tok W) {p : Prc} (hp : p ∈ W.procs) : (procT p).length ≤ 400000000200 := by
 have hn := h.nm.pr p hp
 have h1 := lineT_len (w := wProc) (l := [p.mode, p.on, p.room]) (by simp only [List.mem_cons, List.not_mem_nil, or_false]; rintro n (rfl | rfl | rfl); exact (h.md p hp).1; exact hn.on; exact (h.md p hp).2)
 have h2 := lineT_len (w := wRegs) (l := [p.r0, p.r1, p.r2]) (by simp only [List.mem_cons, List.not_mem_nil, or_false]; rintro n (rfl | rfl | rfl); exact hn.r0; exact hn.r1; exact hn.r2)
 have h3 := todoT_len 3 6 p.todo (h.shl p hp) hn.td (h.mx p hp)
 have h4 := tB_le (e := 3) (by omega)
 simp only [procT, List.length_append, List.length_cons, List.length_nil, wProc, wRegs] at h1 h2 ⊢
 omega
theorem c_sWorldText (W : Wld) (v : Value) (G : PH) (hW : WG G W v) (hT : Tok W) : Pure Tryz.prog 45 [v] G fun v' G' => v' = tx (wText W) := by
 obtain ⟨vp, vc, vr, vs, vd, rfl, hpr, hce, hro, hsg, hsd⟩ := hW
 obtain ⟨Ap, cp, rfl, _⟩ := id hpr
 obtain ⟨Ac, cc, rfl, _⟩ := id hce
 obtain ⟨Ar, cr, rfl, _⟩ := id hro
 obtain ⟨As, cs_, rfl, _⟩ := id hsg
 obtain ⟨Ad, cd, rfl, _⟩ := id hsd
 have hn3 := hT.n3
 refine Pure.intro Tryz.func45 Tryz.ntmps45 J J fun w0 => ?_;refine Va J J ?_;refine S_box J J J J J fun b1 => ?_;refine Va J J ?_;refine S_loop (α := Nat × PH) (fun y => y.1 ≤ W.procs.length ∧ PH.ext w0.heap.size G y.2) (fun y => W.procs.length - y.1) [(1, b1)]
  (fun y => [(4, .val (.int .i64 (y.1 : Nat))), (3, .val (tx ((W.procs.take y.1).flatMap procT))), (1, .ptr 1 0)]) (fun _ => [.blk 1 56 (vL [.slice Ap W.procs.length cp, .slice Ac 3 cc, .slice Ar 2 cr, .slice As 2 cs_, .slice Ad W.said.length cd])]) (fun y => y.2) (0, G) ⟨Nat.zero_le _, PH.ext.refl _ _⟩ rfl ⟨⟨_, rfl, rfl⟩, ⟨_, rfl, rfl⟩, ⟨_, rfl, rfl⟩, trivial⟩ (.blk rfl rfl .nil) ?_
 rintro ⟨i, G1⟩ ⟨hil, hext⟩
 simp only at hil hext ⊢
 have htk : ((W.procs.take i).flatMap procT).length ≤ 400000000200 * (W.procs.take i).length := flatMap_len _ fun p hp => procT_len hT (List.mem_of_mem_take hp)
 have htl := List.length_take_le i W.procs
 refine Va J J ?_
 refine S_condp J (fun h => ?_) (fun h => ?_) <;> refine Va J J ?_
 ·have hkl : i < W.procs.length := by omega
  have hso := List.getElem_mem hkl
  obtain ⟨ad, cs, e1, hcs, vr', vt, rfl, hrg, htd⟩ := Sr_at hpr hkl
  subst e1
  have hnx : (W.procs.take (i + 1)).flatMap procT = (W.procs.take i).flatMap procT ++ procT W.procs[i] := by rw [List.take_succ_eq_append_getElem hkl, List.flatMap_append]; simp
  have hpm := hT.nm.pr _ hso
  have hmd := hT.md _ hso
  have hmx := hT.mx _ hso
  have hsh := hT.shl _ hso
  have hpl := procT_len hT hso
  generalize W.procs[i] = p at hso hcs hrg htd hnx hpm hmd hmx hsh hpl
  obtain ⟨A1, c1, rfl, _⟩ := id hrg
  obtain ⟨A2, c2, rfl, _⟩ := id htd
  refine S_index Tk J J J J J J (by omega) (by omega) ?_;refine Va J J ?_;refine S_loadA Tk J J J J J (by simpa using gcells_le hext.le hcs) ?_;refine Va J J ?_;refine AZ ZT_ok J J J J fun b5 => ?_;refine Va J J ?_
  have hi1 : ∀ n ∈ [p.mode, p.on, p.room], I64 n := by simp only [List.mem_cons, List.not_mem_nil, or_false]; rintro n (rfl | rfl | rfl); exact hmd.1; exact hpm.on; exact hmd.2
  have hi2 : ∀ n ∈ [p.r0, p.r1, p.r2], I64 n := by simp only [List.mem_cons, List.not_mem_nil, or_false]; rintro n (rfl | rfl | rfl); exact hpm.r0; exact hpm.r1; exact hpm.r2
  have l1 : (lineT wProc [p.mode, p.on, p.room]).length ≤ 71 := Nat.le_trans (lineT_len hi1) (show 4 + 22 * 3 + 1 ≤ 71 by decide)
  have l2 : (lineT wRegs [p.r0, p.r1, p.r2]).length ≤ 71 := Nat.le_trans (lineT_len hi2) (show 4 + 22 * 3 + 1 ≤ 71 by decide)
  have l3 := todoT_len 3 6 p.todo hsh hpm.td hmx
  have l4 := tB_le (e := 3) (by omega)
  refine D_startK [3] (by exact MO) J J J (by kernel_rfl) ?_;refine Da J J ?_;refine D_sole 7 J J (N_turnV 7 J J J J fun back => ?_)
  refine S_sliceG Tk ZT_ok J J J J (by decide) (by decide) J J J J (fun _ => J) fun bq Gq hxq hcq => ?_;refine back _ _ _ _ (pk_all Tk (by kernel_rfl)) ?_; clear back
  refine Da J J ?_
  have hq : IntsU Gq [p.mode, p.on, p.room] (.slice (some ⟨bq, 0, none⟩) 3 3) := Ints_U (ints_of hcq rfl (Nat.le_refl _) (by decide) (by decide) hi1)
  refine D_sole 8 J J (N_turnV 8 J J J J fun back => ?_)
  refine S_call Tryz.call71 (c_l8Nums wProc _ _ _ hq hi1 (by decide)) J J J ?_;rintro v1 H1 rfl hx1
  refine back _ _ _ _ (pk_all Tk (by kernel_rfl)) ?_; clear back
  refine Da J J ?_;refine D_val 9 J J J J J J J J J (V_addS J J (by simp only [ByteArray.size_append, sz_tx, List.length_append, List.length_cons, List.length_nil]; omega)) ?_;refine Da J J ?_;refine D_sole 12 J J (N_turnV 12 J J J J fun back => ?_)
  refine S_call Tryz.call71 (c_l8Nums wRegs _ _ _ (IntsU_le ((hext.trans hxq).trans hx1).le hrg) hi2 (by decide)) J J J ?_;rintro v2 H2 rfl hx2
  refine back _ _ _ _ (pk_val J J J J J J J J (V_addS J J (by simp only [ByteArray.size_append, sz_tx, List.length_append, List.length_cons, List.length_nil]; omega)) (pk_all Tk (by kernel_rfl))) ?_; clear back
  refine Da J J ?_;refine D_val 13 J J J J J J J J J (V_addS J J (by simp only [ByteArray.size_append, sz_tx, List.length_append, List.length_cons, List.length_nil]; omega)) ?_;refine Da J J ?_
  have hxx := ((hext.trans hxq).trans hx1).trans hx2
  refine D_sole 16 J J (N_turnV 16 J J J J fun back => ?_)
  refine S_call Tryz.call72 (TdS_all _ 6 6 3 _ _ (Sts_le hxx.le htd) (by omega) (by omega) hsh (by omega) hmx) J J J ?_;rintro v3 H3 rfl hx3
  refine back _ _ _ _ (pk_val J J J J J J J J (V_addS J J (by simp only [ByteArray.size_append, sz_tx, List.length_append, List.length_cons, List.length_nil]; omega)) (pk_val rfl rfl rfl rfl rfl rfl rfl rfl (V_addS rfl rfl (by simp only [ByteArray.size_append, sz_tx, List.length_append, List.length_cons, List.length_nil]; omega)) (pk_all Tk (by kernel_rfl)))) ?_; clear back
  refine Da J J ?_;refine D_val 17 J J J J J J J J J (V_addS J J (by simp only [ByteArray.size_append, sz_tx, List.length_append, List.length_cons, List.length_nil]; omega)) ?_;refine Da J J ?_;refine D_val 18 J J J J J J J J J (V_addS J J (by simp only [ByteArray.size_append, sz_tx, List.length_append, List.length_cons, List.length_nil]; omega)) ?_;refine Da J J ?_;refine D_sole 19 J J (N_assign Tk 19 J J J J J J J J J (by kernel_rfl) ?_)
  refine DD ?_;refine Va J J ?_;refine S_add J J J J (by omega) ?_;refine Va J J ?_;exact S_again (i + 1, _) ⟨hkl, hxx.trans hx3⟩ (by simp only; omega) rfl ⟨⟨_, rfl, by simp [denO]⟩, ⟨_, rfl, by rw [hnx]; simp [denO, tx, ba_append, procT]⟩, ⟨_, rfl, rfl⟩, trivial⟩ (.drop (.blk rfl rfl .nil))
 ·have e0 : i = W.procs.length := by omega
  subst e0
  rw [List.take_length] at htk ⊢
  have hb1 : (W.procs.flatMap procT).length ≤ 1200000000600 := by
   have : 400000000200 * W.procs.length ≤ 400000000200 * 3 := Nat.mul_le_mul_left _ hn3
   omega
  have hi1 : ∀ n ∈ [W.c0, W.c1, W.c2], I64 n := by simp only [List.mem_cons, List.not_mem_nil, or_false]; rintro n (rfl | rfl | rfl); exact hT.nm.c0; exact hT.nm.c1; exact hT.nm.c2
  have hi2 : ∀ n ∈ [W.m0, W.m1], I64 n := by simp only [List.mem_cons, List.not_mem_nil, or_false]; rintro n (rfl | rfl); exact hT.rm.1; exact hT.rm.2
  have l1 : (lineT wCells [W.c0, W.c1, W.c2]).length ≤ 72 := Nat.le_trans (lineT_len hi1) (show 5 + 22 * 3 + 1 ≤ 72 by decide)
  have l2 : (lineT wRooms [W.m0, W.m1]).length ≤ 50 := Nat.le_trans (lineT_len hi2) (show 5 + 22 * 2 + 1 ≤ 50 by decide)
  refine D_startK [3] (by exact MO) J J J (by kernel_rfl) ?_;refine Da J J ?_;refine D_sole 3 J J (N_turnV 3 J J J J fun back => ?_)
  refine S_call Tryz.call71 (c_l8Nums wCells _ _ _ (IntsU_le hext.le hce) hi1 (by decide)) J J J ?_;rintro v1 H1 rfl hx1
  refine back _ _ _ _ (pk_all Tk (by kernel_rfl)) ?_; clear back
  refine Da J J ?_;refine D_val 4 J J J J J J J J J (V_addS J J (by simp only [ByteArray.size_append, sz_tx, List.length_append, List.length_cons, List.length_nil]; omega)) ?_;refine Da J J ?_;refine D_sole 7 J J (N_turnV 7 J J J J fun back => ?_)
  refine S_call Tryz.call71 (c_l8Nums wRooms _ _ _ (IntsU_le (hext.trans hx1).le hro) hi2 (by decide)) J J J ?_;rintro v2 H2 rfl hx2
  refine back _ _ _ _ (pk_val J J J J J J J J (V_addS J J (by simp only [ByteArray.size_append, sz_tx, List.length_append, List.length_cons, List.length_nil]; omega)) (pk_all Tk (by kernel_rfl))) ?_; clear back
  refine Da J J ?_;refine D_val 8 J J J J J J J J J (V_addS J J (by simp only [ByteArray.size_append, sz_tx, List.length_append, List.length_cons, List.length_nil]; omega)) ?_;refine Da J J ?_;refine D_sole 9 J J (N_assign Tk 9 J J J J J J J J J (by kernel_rfl) ?_)
  refine DD ?_;refine Va J J ?_
  have hext2 := (hext.trans hx1).trans hx2
  have htw : wText W = (W.procs.flatMap procT ++ lineT wCells [W.c0, W.c1, W.c2] ++ lineT wRooms [W.m0, W.m1] ++ [W.q0, W.q1].flatMap (lineT wSign)) ++ W.said.flatMap saidT := by simp [wText]
  have hbase : Value.string (({ data := (W.procs.flatMap procT).toArray } ++ { data := (lineT wCells [W.c0, W.c1, W.c2]).toArray }) ++ { data := (lineT wRooms [W.m0, W.m1]).toArray }) = tx (W.procs.flatMap procT ++ lineT wCells [W.c0, W.c1, W.c2] ++ lineT wRooms [W.m0, W.m1]) := by rw [ba_append, ba_append]; rfl
  rw [hbase]
  have hb2 : (W.procs.flatMap procT ++ lineT wCells [W.c0, W.c1, W.c2] ++ lineT wRooms [W.m0, W.m1]).length ≤ 1200000001000 := by simp only [List.length_append]; omega
  generalize W.procs.flatMap procT ++ lineT wCells [W.c0, W.c1, W.c2] ++ lineT wRooms [W.m0, W.m1] = base at htw hb2 ⊢
  have hqs : ∀ q ∈ [W.q0, W.q1], q.length ≤ 1000 ∧ ∀ n ∈ q, I64 n := by simp only [List.mem_cons, List.not_mem_nil, or_false]; rintro q (rfl | rfl); exact hT.q0; exact hT.q1
  have hsl : ∀ q ∈ [W.q0, W.q1], (lineT wSign q).length ≤ 22005 := fun q hq => Nat.le_trans (lineT_len (hqs q hq).2) (by have := (hqs q hq).1; show 4 + 22 * q.length + 1 ≤ 22005; omega)
  generalize hQ : [W.q0, W.q1] = Q at hsg htw hqs hsl
  have hQl : Q.length = 2 := by rw [← hQ]; rfl
  refine S_loop (α := Nat × PH) (fun y => y.1 ≤ 2 ∧ PH.ext w0.heap.size G y.2) (fun y => 2 - y.1) [(1, b1)]
   (fun y => [(6, .val (.int .i64 (y.1 : Nat))), (3, .val (tx (base ++ (Q.take y.1).flatMap (lineT wSign)))), (1, .ptr 1 0)]) (fun _ => [.blk 1 56 (vL [.slice Ap W.procs.length cp, .slice Ac 3 cc, .slice Ar 2 cr, .slice As 2 cs_, .slice Ad W.said.length cd])]) (fun y => y.2) (0, H2) ⟨Nat.zero_le _, hext2⟩ rfl ⟨⟨_, rfl, rfl⟩, ⟨_, rfl, by simp [denO]⟩, ⟨_, rfl, rfl⟩, trivial⟩ (.blk rfl rfl .nil) ?_
  rintro ⟨i, G2⟩ ⟨hil, hext⟩
  simp only at hil hext ⊢
  have htk : ((Q.take i).flatMap (lineT wSign)).length ≤ 22005 * (Q.take i).length := flatMap_len _ fun q hq => hsl q (List.mem_of_mem_take hq)
  have htl := List.length_take_le i Q
  refine Va J J ?_
  refine S_condp J (fun h => ?_) (fun h => ?_) <;> refine Va J J ?_
  ·have hkl : i < Q.length := by omega
   obtain ⟨ad, cs, e1, hcs, vq, rfl, hvq⟩ := Sr_at hsg hkl
   subst e1
   have hnx : (Q.take (i + 1)).flatMap (lineT wSign) = (Q.take i).flatMap (lineT wSign) ++ lineT wSign Q[i] := by rw [List.take_succ_eq_append_getElem hkl, List.flatMap_append]; simp
   have hqi := hqs _ (List.getElem_mem hkl)
   have hqs2 := hsl _ (List.getElem_mem hkl)
   generalize Q[i] = q at hcs hvq hnx hqi hqs2
   obtain ⟨Aq, cq, rfl, _⟩ := id hvq
   refine S_index Tk J J J J J J (by omega) (by omega) ?_;refine Va J J ?_;refine S_load Tk J J J J J (by simpa using gcell_le hext.le hcs.1) ?_;refine Va J J ?_;refine S_call Tryz.call71 (c_l8Nums wSign _ _ _ (IntsU_le hext.le hvq) hqi.2 (by decide)) J J J ?_;rintro v1 H1 rfl hx1
   refine Va J J ?_;refine S_valV J J J (V_addT J J J J (by simp only [List.length_append]; omega)) ?_;refine Va J J ?_;refine S_add J J J J (by omega) ?_;refine Va J J ?_;exact S_again (i + 1, _) ⟨by simp only; omega, hext.trans hx1⟩ (by simp only; omega) rfl ⟨⟨_, rfl, by simp [denO]⟩, ⟨_, rfl, by rw [hnx]; simp [denO]⟩, ⟨_, rfl, rfl⟩, trivial⟩ (.blk rfl rfl .nil)
  ·have e0 : i = Q.length := by omega
   subst e0
   rw [List.take_length] at htk ⊢
   have hb3 : (base ++ Q.flatMap (lineT wSign)).length ≤ 1200000046000 := by simp only [List.length_append]; omega
   generalize base ++ Q.flatMap (lineT wSign) = base at htw hb3 ⊢
   have hsl : ∀ s ∈ W.said, (saidT s).length ≤ 49 := fun s hs => Nat.le_trans (lineT_len (by
    have := hT.nm.sd s hs
    simp only [List.mem_cons, List.not_mem_nil, or_false]
    rintro n (rfl | rfl)
    ·exact this.1
    ·exact this.2)) (show 4 + 22 * 2 + 1 ≤ 49 by decide)
   have hs1 := hT.sd
   refine S_loop (α := Nat × PH) (fun y => y.1 ≤ W.said.length ∧ PH.ext w0.heap.size G y.2) (fun y => W.said.length - y.1) [(1, b1)]
    (fun y => [(7, .val (.int .i64 (y.1 : Nat))), (3, .val (tx (base ++ (W.said.take y.1).flatMap saidT))), (1, .ptr 1 0)]) (fun _ => [.blk 1 56 (vL [.slice Ap W.procs.length cp, .slice Ac 3 cc, .slice Ar 2 cr, .slice As 2 cs_, .slice Ad W.said.length cd])]) (fun y => y.2) (0, G2) ⟨Nat.zero_le _, hext⟩ rfl ⟨⟨_, rfl, rfl⟩, ⟨_, rfl, by simp [denO]⟩, ⟨_, rfl, rfl⟩, trivial⟩ (.blk rfl rfl .nil) ?_
   rintro ⟨i, G3⟩ ⟨hil, hext⟩
   simp only at hil hext ⊢
   have htk : ((W.said.take i).flatMap saidT).length ≤ 49 * (W.said.take i).length := flatMap_len _ fun s hs => hsl s (List.mem_of_mem_take hs)
   have htl := List.length_take_le i W.said
   refine Va J J ?_
   refine S_condp J (fun h => ?_) (fun h => ?_) <;> refine Va J J ?_
   ·have hkl : i < W.said.length := by omega
    obtain ⟨ad, cs, e1, hcs, rfl⟩ := Sr_at hsd hkl
    subst e1
    have hnx : (W.said.take (i + 1)).flatMap saidT = (W.said.take i).flatMap saidT ++ saidT W.said[i] := by rw [List.take_succ_eq_append_getElem hkl, List.flatMap_append]; simp
    have hi3 := hT.nm.sd _ (List.getElem_mem hkl)
    have hs2 := hsl _ (List.getElem_mem hkl)
    generalize W.said[i] = sx at hcs hnx hi3 hs2
    obtain ⟨x1, x2⟩ := sx
    have hcs' := gcells_le hext.le hcs
    simp only at hcs' hi3
    refine D_startK [3] (by exact MO) J J J (by kernel_rfl) ?_;refine Da J J ?_;refine D_val 4 J J J J J J J J J (V_index Tk J J J J (by omega) (by omega)) ?_;refine Da J J ?_;refine D_val 6 J J J J J J J J J (V_load Tk J J J (by simpa [add_zero'] using gcells_at hcs' 0 _ J)) ?_;refine Da J J ?_;refine D_val 10 J J J J J J J J J (V_index Tk J J J J (by omega) (by omega)) ?_;refine Da J J ?_;refine D_val 12 J J J J J J J J J (V_load Tk J J J (by simpa [add_add'] using gcells_at hcs' 1 _ J)) ?_
    refine Da J J ?_;refine D_sole 13 J J (N_turnV 13 J J J J fun back => ?_)
    refine S_sliceG Tk ZT_ok J J J J (by decide) (by decide) J J J J (fun _ => J) fun bq Gq hxq hcq => ?_;refine back _ _ _ _ (pk_re Tk (by kernel_rfl) (pk_val J J J J J J J J (V_index Tk J J J J (by omega) (by omega)) (pk_re Tk (by kernel_rfl) (pk_val J J J J J J J J (V_index Tk J J J J (by omega) (by omega)) (pk_all Tk (by kernel_rfl)))))) ?_; clear back
    refine Da J J ?_
    have hi4 : ∀ n ∈ [x1, x2], I64 n := by simp only [List.mem_cons, List.not_mem_nil, or_false]; rintro n (rfl | rfl); exact hi3.1; exact hi3.2
    have hq : IntsU Gq [x1, x2] (.slice (some ⟨bq, 0, none⟩) 2 2) := Ints_U (ints_of hcq rfl (Nat.le_refl _) (by decide) (by decide) hi4)
    refine D_sole 14 J J (N_turnV 14 J J J J fun back => ?_)
    refine S_call Tryz.call71 (c_l8Nums wSaid _ _ _ hq hi4 (by decide)) J J J ?_;rintro v1 H1 rfl hx1
    refine back _ _ _ _ (pk_re Tk (by kernel_rfl) (pk_val J J J J J J J J (V_index Tk J J J J (by omega) (by omega)) (pk_re Tk (by kernel_rfl) (pk_val J J J J J J J J (V_index Tk J J J J (by omega) (by omega)) (pk_all Tk (by kernel_rfl)))))) ?_; clear back
    refine Da J J ?_
    have hs3 : (lineT wSaid [x1, x2]).length ≤ 49 := hs2
    refine D_val 15 J J J J J J J J J (V_addS J J (by simp only [ByteArray.size_append, sz_tx, List.length_append, List.length_cons, List.length_nil]; omega)) ?_;refine Da J J ?_;refine D_sole 16 J J (N_assign Tk 16 J J J J J J J J J (by kernel_rfl) ?_)
    refine DD ?_;refine Va J J ?_;refine S_add J J J J (by omega) ?_;refine Va J J ?_;exact S_again (i + 1, _) ⟨hkl, (hext.trans hxq).trans hx1⟩ (by simp only; omega) rfl ⟨⟨_, rfl, by simp [denO]⟩, ⟨_, rfl, by rw [hnx]; simp [denO, tx, ba_append, saidT]⟩, ⟨_, rfl, rfl⟩, trivial⟩ (.blk rfl rfl .nil)
   ·have e0 : i = W.said.length := by omega
    subst e0
    rw [List.take_length]
    exact S_retp (Res.t1 Tryz.results45 J J) hext (by rw [htw])
end
section
attribute [local irreducible] X Pure Mod
theorem c_l8Has (ts : List (List UInt8)) (A : Option Addr) (c : Nat) (t : List UInt8) (G : PH) (hv : ts.length = 0 ∨ ∃ ad, A = some ad ∧ gcells G ad (ts.map tx)) (hl : ts.length ≤ 1000000) : Pure Tryz.prog 48 [.slice A ts.length c, tx t] G fun v G' => v = .bool (decide (t ∈ ts)) ∧ G' = G := by
 refine Pure.intro Tryz.func48 Tryz.ntmps48 J J fun w => ?_; refine Va J J ?_;refine S_loop (α := Nat) (fun i => i ≤ ts.length ∧ t ∉ ts.take i) (fun i => ts.length - i) [] (fun i => [(5, .val (.int .i64 (i : Nat))), (0, .val (.slice A ts.length c)), (1, .val (tx t))]) (fun _ => []) (fun _ => G) 0 ⟨Nat.zero_le _, by simp⟩ J ⟨⟨_, J, J⟩, ⟨_, J, J⟩, ⟨_, J, J⟩, trivial⟩ .nil ?_;rintro i ⟨hi, hn⟩
 refine Va J J ?_
 refine S_condp J (fun h5 => ?_) (fun h5 => ?_) <;> refine Va J J ?_
 ·have hil : i < ts.length := by omega
  rcases hv with hv | ⟨ad, rfl, hcs⟩
  ·omega
  have hc := gcells_at hcs i (tx ts[i]) (by simp [hil])
  refine S_index Tk J J J J J J (by omega) (by omega) ?_;refine Va J J ?_;refine S_load Tk J J J J J (by simpa using hc) ?_;refine Va J J ?_;refine S_valV J J J (V_eqT J J J) ?_;refine Va J J ?_
  by_cases he : ts[i] = t
  ·refine RT J (by simpa using he) ?_
   refine Va J J ?_;exact S_retp (Res.t1 Tryz.results48 J J) XR ⟨by rw [decide_eq_true (he ▸ List.getElem_mem hil)], J⟩
  ·refine RF J (by simpa using he) ?_
   refine Va J J ?_;refine S_add J J J J (by omega) ?_;refine Va J J ?_;refine S_again (i + 1) ⟨hil, ?_⟩ (by omega) J ⟨⟨_, J, by simp [denO]⟩, ⟨_, J, J⟩, ⟨_, J, J⟩, trivial⟩ .nil
   rw [List.take_succ_eq_append_getElem hil, List.mem_append, List.mem_singleton]
   rintro (h | h)
   ·exact hn h
   ·exact he h.symm
 ·have e0 : i = ts.length := by omega
  subst e0
  rw [List.take_length] at hn
  exact S_retp (Res.t1 Tryz.results48 J J) XR ⟨by rw [decide_eq_false hn], J⟩
theorem codeOf_at {W : Wld} {who : Nat} {p : Prc} (h : W.procs[who]? = some p) : codeOf W (who : Nat) = codeP W p := by
 have hlt : who < W.procs.length := (List.getElem?_eq_some_iff.1 h).1
 rw [codeOf, if_neg (by omega)]
 simp [h]
theorem c_l3CodeF (W : Wld) (who : Nat) (v : Value) (G : PH) (hW : WG G W v) (h3 : W.procs.length ≤ 3) (hw : who < W.procs.length) (hh : ∀ p ∈ W.procs, HeadOk p) (hm : 0 ≤ W.m0 ∧ 0 ≤ W.m1) : Pure Tryz.prog 59 [v, .int .i64 (who : Nat)] G fun v' G' => v' = .int .i64 (codeOf W (who : Nat)) ∧ G' = G := by
 obtain ⟨vp, vc, vr, vs, vd, rfl, hpr, hce, hro, hsg, hsd⟩ := hW
 obtain ⟨Ap, cp, rfl, _⟩ := id hpr
 obtain ⟨Ac, cc, rfl, _⟩ := id hce
 obtain ⟨Ar, cr, rfl, _⟩ := id hro
 obtain ⟨As, cs_, rfl, _⟩ := id hsg
 obtain ⟨Ad, cd, rfl, _⟩ := id hsd
 obtain ⟨ad, cs, e1, hcs, vr', vt, rfl, hrg, htd⟩ := Sr_at hpr hw
 subst e1
 have hP := hh _ (List.getElem_mem hw)
 rw [codeOf_at (List.getElem?_eq_getElem hw)]
 generalize W.procs[who] = p at hcs hrg htd hP
 obtain ⟨a0, a1, a2, td, mo, on, ro⟩ := p
 obtain ⟨A1, c1, rfl, _⟩ := id hrg
 obtain ⟨A2, c2, rfl, _⟩ := id htd
 obtain ⟨ar, e2, hr0⟩ := intsU_at hro (t := 0) (by simp)
 subst e2
 obtain ⟨ar', e2, hr1⟩ := intsU_at hro (t := 1) (by simp)
 cases e2
 obtain ⟨ps, x0, x1, x2, m0, m1, q0, q1, sd⟩ := W
 simp only [List.getElem_cons_zero, List.getElem_cons_succ] at h3 hw hm hP hr0 hr1 hcs htd ⊢
 refine Pure.intro Tryz.func59 Tryz.ntmps59 J J fun w => ?_; refine Va J J ?_;refine S_box J J J J J fun b2 => ?_;refine Va J J ?_;refine RF J (by simp; omega) ?_;refine Va J J ?_;refine S_index Tk J J J J J J (by omega) (by omega) ?_;refine Va J J ?_;refine S_loadA Tk J J J J J (by simpa using hcs) ?_;refine Va J J ?_;refine AZ ZT_ok J J J J fun b5 => ?_;refine Va J J ?_
 by_cases hm1 : mo = 1
 ·refine GT J J (by simp [hm1]) ?_
  refine Va J J ?_;exact S_retp (Res.t1 Tryz.results59 J J) XR ⟨by first | (simp [codeP, Wld.rm, *]; done) | (simp_all [codeP, Wld.rm]; done) | (simp [codeP, Wld.rm, Stm.kind, Stm.a, *]; done) | (simp [codeP, Wld.rm, Stm.kind, Stm.a, *]; omega), rfl⟩
 refine GF J J (by simp [hm1]) ?_
 by_cases hm2 : mo = 2
 ·subst hm2
  have hro' := hP.1 rfl
  simp only at hro'
  rcases hro' with rfl | rfl <;>
  ·refine Va J J ?_
   refine GT J J J ?_;refine Va J J ?_;refine S_index Tk J J J J J J (by simp) (by simp) ?_;refine Va J J ?_;refine S_load Tk J J J J J (by first | simpa using hr0 | simpa using hr1) ?_;refine Va J J ?_
   refine S_condp J (fun h => ?_) (fun h => ?_) <;> refine Va J J ?_
   ·have hne : ¬ m0 = 0 ∨ ¬ m1 = 0 := by omega
    exact S_retp (Res.t1 Tryz.results59 J J) XR ⟨by first | (simp [codeP, Wld.rm, *]; done) | (simp_all [codeP, Wld.rm]; done) | (simp [codeP, Wld.rm, Stm.kind, Stm.a, *]; done) | (simp [codeP, Wld.rm, Stm.kind, Stm.a, *]; omega), rfl⟩
   ·refine RT J J ?_
    refine Va J J ?_;exact S_retp (Res.t1 Tryz.results59 J J) XR ⟨by first | (simp [codeP, Wld.rm, *]; done) | (simp_all [codeP, Wld.rm]; done) | (simp [codeP, Wld.rm, Stm.kind, Stm.a, *]; done) | (simp [codeP, Wld.rm, Stm.kind, Stm.a, *]; omega), rfl⟩
 refine Va J J ?_;refine GF J J (by simp [hm2]) ?_;refine Va J J ?_;refine RF J (by simp [hm2]) ?_;refine Va J J ?_
 rcases td with _ | ⟨s, r⟩
 ·refine RT J J ?_
  refine Va J J ?_;exact S_retp (Res.t1 Tryz.results59 J J) XR ⟨by first | (simp [codeP, Wld.rm, *]; done) | (simp_all [codeP, Wld.rm]; done) | (simp [codeP, Wld.rm, Stm.kind, Stm.a, *]; done) | (simp [codeP, Wld.rm, Stm.kind, Stm.a, *]; omega), rfl⟩
 obtain ⟨adt, vx, vy, rfl, hct, _⟩ := Sts_head htd
 refine RF J (by simp <;> omega) ?_
 refine Va J J ?_
 by_cases hk8 : s.kind = 8
 ·have hsa := hP.2 s r rfl hk8
  obtain ⟨sk, sa, sb, sn, sx, sy⟩ := s
  simp only [Stm.kind, Stm.a] at hk8 hsa hct
  subst hk8
  rcases hsa with rfl | rfl <;>
  ·refine Ds J J J ?_
   refine Da J J ?_
   refine D_val 2 J J J J J J J J J (V_index Tk J J J J (by omega) (by simp <;> omega)) ?_
   refine Da J J ?_;refine D_val 4 J J J J J J J J J (V_load Tk J J J (by simpa [add_add', add_zero'] using gcells_at hct 0 _ J)) ?_;refine Da J J ?_;refine D_setP 54 (b := true) J J ?_;refine Da J J ?_
   refine D_val 11 J J J J J J J J J (V_index Tk J J J J (by omega) (by simp <;> omega)) ?_
   refine Da J J ?_;refine D_val 13 J J J J J J J J J (V_load Tk J J J (by simpa [add_add', add_zero'] using gcells_at hct 1 _ J)) ?_;refine Da J J ?_;refine D_val 14 J J J J J J J J J (V_index Tk J J J J (by simp) (by simp)) ?_;refine Da J J ?_;refine D_val 15 J J J J J J J J J (V_load Tk J J J (by first | simpa using hr0 | simpa using hr1)) ?_;refine Da J J ?_;refine DD ?_;refine Va J J ?_
   refine S_condp J (fun h => ?_) (fun h => ?_) <;> refine Va J J ?_
   ·have hne : ¬ m0 = 0 ∨ ¬ m1 = 0 := by omega
    exact S_retp (Res.t1 Tryz.results59 J J) XR ⟨by first | (simp [codeP, Wld.rm, *]; done) | (simp_all [codeP, Wld.rm]; done) | (simp [codeP, Wld.rm, Stm.kind, Stm.a, *]; done) | (simp [codeP, Wld.rm, Stm.kind, Stm.a, *]; omega), rfl⟩
   ·exact S_retp (Res.t1 Tryz.results59 J J) XR ⟨by first | (simp [codeP, Wld.rm, *]; done) | (simp_all [codeP, Wld.rm]; done) | (simp [codeP, Wld.rm, Stm.kind, Stm.a, *]; done) | (simp [codeP, Wld.rm, Stm.kind, Stm.a, *]; omega), rfl⟩
 refine Ds J J J ?_;refine Da J J ?_
 refine D_val 2 J J J J J J J J J (V_index Tk J J J J (by omega) (by simp <;> omega)) ?_
 refine Da J J ?_;refine D_val 4 J J J J J J J J J (V_load Tk J J J (by simpa [add_add', add_zero'] using gcells_at hct 0 _ J)) ?_;refine Da J J ?_;refine D_split 54 J (fun _ => J) (fun h => absurd h (by simp [hk8])) (fun h => ?_)
 refine Da J J ?_;refine DD ?_;refine Va J J ?_;exact S_retp (Res.t1 Tryz.results59 J J) XR ⟨by first | (simp [codeP, Wld.rm, *]; done) | (simp_all [codeP, Wld.rm]; done) | (simp [codeP, Wld.rm, Stm.kind, Stm.a, *]; done) | (simp [codeP, Wld.rm, Stm.kind, Stm.a, *]; omega), rfl⟩
end
section
attribute [local irreducible] X Pure Mod
def canL (W : Wld) (n : Nat) : List Int := ((List.range n).filter fun who => decide (codeOf W (who : Nat) = 0)).map fun (k : Nat) => (k : Int)
theorem canL_succ (W : Wld) (n : Nat) : canL W (n + 1) = canL W n ++ (if codeOf W (n : Nat) = 0 then [(n : Int)] else []) := by
 unfold canL
 rw [List.range_succ, List.filter_append, List.map_append]
 by_cases h : codeOf W (n : Nat) = 0 <;> simp [h]
theorem canL_len (W : Wld) (n : Nat) : (canL W n).length ≤ n := by
 unfold canL
 rw [List.length_map]
 exact Nat.le_trans (List.length_filter_le _ _) (by simp)
theorem canL_mem {W : Wld} {n : Nat} {x : Int} (h : x ∈ canL W n) : ∃ k : Nat, x = k ∧ k < n ∧ codeOf W (k : Nat) = 0 := by
 unfold canL at h
 obtain ⟨k, hk, rfl⟩ := List.mem_map.1 h
 obtain ⟨h1, h2⟩ := List.mem_filter.1 hk
 exact ⟨k, J, List.mem_range.1 h1, of_decide_eq_true h2⟩
structure Cod (W : Wld) : Prop where
 n3 : W.procs.length ≤ 3
 hd : ∀ p ∈ W.procs, HeadOk p
 m : 0 ≤ W.m0 ∧ 0 ≤ W.m1
theorem c_l3CanF (W : Wld) (v : Value) (G : PH) (hW : WG G W v) (hC : Cod W) : Pure Tryz.prog 29 [v] G fun v' G' => Ints G' (canL W W.procs.length) v' := by
 have hn3 := hC.n3
 have hW0 := hW
 obtain ⟨vp, vc, vr, vs, vd, rfl, hpr, hce, hro, hsg, hsd⟩ := hW
 obtain ⟨Ap, cp, rfl, _⟩ := id hpr
 obtain ⟨Ac, cc, rfl, _⟩ := id hce
 obtain ⟨Ar, cr, rfl, _⟩ := id hro
 obtain ⟨As, cs_, rfl, _⟩ := id hsg
 obtain ⟨Ad, cd, rfl, _⟩ := id hsd
 refine Pure.intro Tryz.func29 Tryz.ntmps29 J J fun w => ?_; refine Va J J ?_;refine S_box J J J J J fun b1 => ?_;refine Va J J ?_;refine S_emptyO Tk 5 J J J J fun A0 => ?_;refine Va J J ?_;refine S_loop (α := Nat × Option Addr × Nat) (fun y => y.1 ≤ W.procs.length) (fun y => W.procs.length - y.1) [(1, b1)]
  (fun y => [(4, .val (.int .i64 (y.1 : Nat))), (3, .val (.slice y.2.1 (canL W y.1).length y.2.2)), (1, .ptr 1 0)])
  (fun y => [.hp 5 (rowO w.heap.size 3 1 y.2.1 (canL W y.1).length y.2.2 (intC (canL W y.1))), .blk 1 56 (vL [.slice Ap W.procs.length cp, .slice Ac 3 cc, .slice Ar 2 cr, .slice As 2 cs_, .slice Ad W.said.length cd])]) (fun y => G) (0, A0, 0) (Nat.zero_le _) rfl ?_ ?_ ?_
 ·exact ⟨⟨_, J, J⟩, ⟨_, J, J⟩, ⟨_, J, J⟩, trivial⟩
 ·exact .hp (.blk J J .nil)
 rintro ⟨i, A5, c5⟩ hi
 simp only at hi ⊢
 have hcl := canL_len W i
 refine Va J J ?_
 refine S_condp J (fun h5 => ?_) (fun h5 => ?_) <;> refine Va J J ?_
 ·refine S_call Tryz.call59 (c_l3CodeF W i _ _ hW0 hn3 (by omega) hC.hd hC.m) J J J ?_
  rintro v G2 ⟨rfl, rfl⟩ _
  refine Va J J ?_
  refine S_condp J (fun h6 => ?_) (fun h6 => ?_) <;> refine Va J J ?_
  ·refine S_slice Tk ZT_ok J J J J (by decide) (by decide) J J J J fun b2 => ?_
   refine Va J J ?_;refine S_app1 Tk 5 19 J J J J J J J J J J J J J J (by intro u hu; simp at hu; rcases hu with rfl; rfl) rfl (fun _ _ => rfl) (by omega) (Nat.le_refl _) fun A6 c6 => ?_;refine Va J J ?_;refine S_add J J J J (by omega) ?_;refine Va J J ?_;refine S_again (i + 1, A6, c6) (by simp only; omega) (by simp only; omega) rfl ⟨⟨_, rfl, by simp [denO]⟩, ⟨_, rfl, by simp [denO, canL_succ, h6]⟩, ⟨_, rfl, rfl⟩, trivial⟩ ?_
   simp only [canL_succ, h6, if_true, List.length_append, List.length_singleton, intC_append]
   exact .drop (.hp (.blk J J .nil))
  ·refine S_add J J J J (by omega) ?_
   refine Va J J ?_;refine S_again (i + 1, A5, c5) (by simp only; omega) (by simp only; omega) rfl ⟨⟨_, rfl, by simp [denO]⟩, ⟨_, rfl, by simp [denO, canL_succ, h6]⟩, ⟨_, rfl, rfl⟩, trivial⟩ ?_
   simp only [canL_succ, h6, if_false, List.append_nil]
   exact .hp (.blk J J .nil)
 ·have e0 : i = W.procs.length := by omega
  subst e0
  refine S_freezeR 5 J J (Nat.le_refl _) fun Gf hextf hncf hcmf hclf => ?_
  have hvf : Ints Gf (canL W W.procs.length) _ := frz (Cs_intC fun x hx => by obtain ⟨k, rfl, hk, _⟩ := canL_mem hx; exact ⟨by omega, by omega⟩) J (by omega) hncf hcmf hclf
  exact S_retp (Res.t1 Tryz.results29 J J) hextf hvf
end
section
attribute [local irreducible] X Pure Mod
theorem Wok.tok {W : Wld} {B : Nat} (h : Wok W B) (hB : B ≤ 1000) : Tok W := by
 have hI := h.inv
 have hn3 := hI.n3
 have hq : ∀ n ∈ W.q0 ++ W.q1, I64 n := fun n hn => by
  obtain ⟨h0, p, hp, _⟩ := hI.qf n hn
  have := (List.getElem?_eq_some_iff.1 hp).1
  exact ⟨by omega, by omega⟩
 have hql := hI.ql
 have hm0 := hI.m0
 have hm1 := hI.m1
 have hr0 := h.rb.1
 have hr1 := h.rb.2
 refine ⟨hn3, h.nm, h.shl, fun p hp => (hI.pr p hp).mx, fun p hp => ⟨?_, ?_⟩, ⟨⟨by omega, by omega⟩, ⟨by omega, by omega⟩⟩, ⟨by omega, fun n hn => hq n (List.mem_append_left _ hn)⟩, ⟨by omega, fun n hn => hq n (List.mem_append_right _ hn)⟩, Nat.le_trans hI.sd hB⟩
 ·rcases (hI.pr p hp).md with e | e | e <;> rw [e] <;> simp [I64]
 ·rcases (hI.pr p hp).ro with e | e | e <;> rw [e] <;> simp [I64]
theorem Wok.cod {W : Wld} {B : Nat} (h : Wok W B) : Cod W := ⟨h.inv.n3, h.inv.head, h.inv.m0, h.inv.m1⟩
theorem canL_nil {W : Wld} : (canL W W.procs.length).length = 0 ↔ finalW W = true := by
 unfold canL finalW
 rw [List.length_map, List.length_eq_zero_iff, List.filter_eq_nil_iff, List.all_eq_true]
 constructor
 ·intro h x hx
  have := h x hx
  simpa using this
 ·intro h x hx
  have := h x hx
  simpa using this
theorem hasW_mem (Ws : List Wld) (W : Wld) : hasW Ws W = decide (wText W ∈ Ws.map wText) := by
 unfold hasW
 by_cases h : wText W ∈ Ws.map wText
 ·rw [decide_eq_true h, List.any_eq_true]
  obtain ⟨V, hV, e⟩ := List.mem_map.1 h
  exact ⟨V, hV, decide_eq_true e⟩
 ·rw [decide_eq_false h, List.any_eq_false]
  intro V hV e
  exact h (List.mem_map.2 ⟨V, hV, of_decide_eq_true e⟩)
def roundC (W : Wld) : List Int → List Wld → Option (List Wld)
 | [], Ws => some Ws
 | x :: r, Ws => if hasW Ws (W.step x.toNat) then roundC W r Ws else if 120 ≤ Ws.length then none else roundC W r (Ws ++ [W.step x.toNat])
theorem roundW_C (W : Wld) : ∀ (l : List Nat) (Ws : List Wld), Ws.length ≤ 120 → roundW W l Ws = roundC W ((l.filter fun who => decide (codeOf W (who : Nat) = 0)).map fun (k : Nat) => (k : Int)) Ws
 | [], Ws, _ => rfl
 | who :: r, Ws, hl => by
  by_cases hc : codeOf W (who : Nat) = 0
  ·rw [roundW, if_pos hc, List.filter_cons_of_pos (by simpa using hc), List.map_cons, roundC]
   simp only [Int.toNat_natCast]
   unfold addW
   by_cases hh : hasW Ws (W.step who) = true
   ·rw [if_pos hh, if_pos hh, if_neg (by omega)]
    exact roundW_C W r Ws hl
   ·rw [if_neg hh, if_neg hh, List.length_append, List.length_singleton]
    by_cases h120 : 120 ≤ Ws.length
    ·rw [if_pos (by omega), if_pos h120]
    ·rw [if_neg (by omega), if_neg h120]
     exact roundW_C W r _ (by simp; omega)
  ·rw [roundW, if_neg hc, List.filter_cons_of_neg (by simpa using hc)]
   exact roundW_C W r Ws hl
theorem roundW_can (W : Wld) {Ws : List Wld} (hl : Ws.length ≤ 120) : roundW W (List.range W.procs.length) Ws = roundC W (canL W W.procs.length) Ws := roundW_C W _ Ws hl
end
section
attribute [local irreducible] X Pure Mod
theorem num_wld {W : Wld} {B : Nat} (h : Wok W B) (hB : B ≤ 1000) : numR (tcW (wsh W)) ≤ 100000000000 := by
 have hs := h.shl
 have hI := h.inv
 have hn := hI.n3
 have hq := hI.ql
 have hd := hI.sd
 have hp : numR ((W.procs.map psh).flatMap tcP) ≤ W.procs.length * (6 + NB 3) := by
  rw [List.flatMap_map]
  refine numR_fm W.procs fun p hp => ?_
  have := num_mx 3 p.todo (hs p hp) (hI.pr p hp).mx
  simp only [tcP, psh, numR, numC, shI, shT, numR_I]
  omega
 have e3 : NB 3 = 16008004000 := by decide
 rw [e3] at hp
 have := Nat.mul_le_mul_right (6 + 16008004000) hn
 simp only [tcW, wsh, numR, numC, shP, shI, shII, shY, numR_I, List.map_cons, List.map_nil]
 omega
theorem num_ends {n : Nat} {Ws : List Wld} (h : Wsok n Ws) : numV (shW ((endsW Ws).map wsh)) ≤ 100000000000000 := by
 have hl := h.le
 have he := List.length_filter_le finalW Ws
 simp only [shW, numV, List.flatMap_map]
 have := numR_fm (f := fun W => tcW (wsh W)) (b := 100000000000) (endsW Ws) fun W hW => by
  have hm := (List.mem_filter.1 hW).1
  obtain ⟨i, hi, rfl⟩ := List.getElem_of_mem hm
  exact num_wld (h.ok i _ (List.getElem?_eq_getElem hi)).1 (by omega)
 have h2 := Nat.mul_le_mul_right 100000000000 (show (endsW Ws).length ≤ 120 by unfold endsW; omega)
 omega
end
section
attribute [local irreducible] X Pure Mod
structure LS where
  k : Nat
  Ws : List Wld
  A : Option Addr
  c : Nat
  xs : List Value
  At : Option Addr
  ct : Nat
  G : PH
theorem prefix_at {α : Type} {l m : List α} {k : Nat} {x : α} (h : l <+: m) (hx : l[k]? = some x) : m[k]? = some x := by
  obtain ⟨r, rfl⟩ := h
  rw [List.getElem?_append_left (List.getElem?_eq_some_iff.1 hx).1]
  exact hx
theorem allF_step {f k : Nat} {Ws : List Wld} {W : Wld} (h : Ws[k]? = some W) : allF (f + 1) k Ws = (match roundW W (List.range W.procs.length) Ws with
      | none => none
      | some Ws' => allF f (k + 1) Ws') := by rw [allF, h]; rfl
theorem allF_end {f k : Nat} {Ws : List Wld} (h : Ws[k]? = none) : allF (f + 1) k Ws = some Ws := by rw [allF, h]
theorem roundC_skip {W : Wld} {l : List Int} {i : Nat} {Ws : List Wld} (hi : i < l.length) (h : hasW Ws (W.step l[i].toNat) = true) : roundC W (l.drop i) Ws = roundC W (l.drop (i + 1)) Ws := by
  rw [List.drop_eq_getElem_cons hi, roundC, if_pos h]
theorem roundC_add {W : Wld} {l : List Int} {i : Nat} {Ws : List Wld} (hi : i < l.length) (h : hasW Ws (W.step l[i].toNat) = false) (hl : Ws.length < 120) : roundC W (l.drop i) Ws = roundC W (l.drop (i + 1)) (Ws ++ [W.step l[i].toNat]) := by
  rw [List.drop_eq_getElem_cons hi, roundC, if_neg (by simp [h]), if_neg (by omega)]
theorem roundC_none {W : Wld} {l : List Int} {i : Nat} {Ws : List Wld} (hi : i < l.length) (h : hasW Ws (W.step l[i].toNat) = false) (hl : 120 ≤ Ws.length) : roundC W (l.drop i) Ws = none := by
  rw [List.drop_eq_getElem_cons hi, roundC, if_neg (by simp [h]), if_pos (by omega)]
theorem Wsok.snoc {n : Nat} {Ws : List Wld} {W : Wld} {B : Nat} (h : Wsok n Ws) (hW : Wok W B) (hB : B ≤ Ws.length) (hn : W.procs.length = n) (hh : hasW Ws W = false) (hl : Ws.length < 120) : Wsok n (Ws ++ [W]) := by
  have := h.add hW hB hn (by unfold addW; rw [if_neg (by simp [hh])]; simp; omega)
  rw [addW, if_neg (by simp [hh])] at this
  exact this
def LOK (p : List (List Stm)) (w0 : World) (G : PH) (y : LS) : Prop :=
  y.Ws.length ≤ 120 ∧ PH.ext w0.heap.size G y.G ∧ Cs 5 (wRep y.G) y.Ws y.xs ∧ Wsok p.length y.Ws
theorem c_l8All (p : List (List Stm)) (pv : Value) (G : PH) (hp : PrgS G p pv) (hpo : progOk p = true) : Pure Tryz.prog 21 [pv] G fun v' G' => ∃ lv, v' = .tuple #[lv, .bool (allW p).isSome] ∧ ∀ Ws, allW p = some Ws → WsG G' Ws lv := by
  obtain ⟨Ap, cp, rfl, _⟩ := id hp.1
  have hok0 := open_ok hpo hp.2.1 (prg_iL hp.1)
  have hWo := (hok0.ok 0 (open0 p) rfl).1
  have hI0 := hWo.inv
  refine Pure.intro Tryz.func21 Tryz.ntmps21 J J fun w0 => ?_;refine Va J J ?_;refine S_callN 20 Tryz.call44 (c_l3Open p _ G hp) J J J ?_;rintro v1 G1 A1 (⟨_, cs, ts, rfl, rfl, htd⟩ | ⟨hpo', _⟩) hext1
  rotate_left
  · rw [hpo] at hpo'; cases hpo'
  refine S_newHP 20 J J ?_;refine S_csV 20 J ?_;rintro bp bc br bs kp asd ksd kc kr ks rfl
  refine S_frzV 20 J J (fun _ h => h) htd hI0.n3 ⟨by simp [open0], by simp [open0], by simp [open0]⟩ fun G2 hext2 hW => ?_;refine S_slice Tk ZT_ok J J J J (by decide) (by decide) J J J J fun b13 => ?_;refine Va J J ?_;refine S_call Tryz.call45 (c_sWorldText _ _ _ hW (hWo.tok (by omega))) J J J ?_;rintro v17 G3 rfl hext3
  refine S_slice Tk ZT_ok J J J J (by decide) (by decide) J J J J fun b18 => ?_;refine Va J J ?_;refine S_blkO 13 4 (base := w0.heap.size) (n := 1) (c := 1) (o := 0) (sz := 5) rfl rfl rfl rfl (.inr (.inr ⟨rfl, fun _ h => h⟩)) rfl rfl (Nat.le_refl _) (by simp [maxLen]) (Nat.le_refl _) ?_;refine S_blkO 18 5 (base := w0.heap.size) (n := 1) (c := 1) (o := 0) (sz := 1) rfl rfl rfl rfl (.inr (.inr ⟨rfl, fun _ h => h⟩)) rfl rfl (Nat.le_refl _) (by simp [maxLen]) (Nat.le_refl _) ?_
  refine S_pick [4, 5] J ?_;refine S_reE 4 (.val (.slice (some ⟨b13, 0, none⟩) 1 1)) J J ?_;refine S_reE 5 (.val (.slice (some ⟨b18, 0, none⟩) 1 1)) J J ?_;refine S_loop (α := LS) (fun y => LOK p w0 G y ∧ y.k ≤ y.Ws.length ∧ allW p = allF (122 - y.k) y.k y.Ws) (fun y => 121 - y.k) []
    (fun y => [(6, .val (.int .i64 (y.k : Nat))), (4, .val (.slice y.A y.Ws.length y.c)), (5, .val (.slice y.At (y.Ws.map wText).length y.ct))])
    (fun y => [.hp 4 (rowO w0.heap.size 56 5 y.A y.Ws.length y.c y.xs), .hp 5 (rowO w0.heap.size 9 1 y.At (y.Ws.map wText).length y.ct ((y.Ws.map wText).map tx))]) (fun y => y.G)
    ⟨0, [open0 p], some ⟨b13, 0, none⟩, 1, _, some ⟨b18, 0, none⟩, 1, G3⟩ ⟨⟨by simp, (hext1.trans hext2).trans hext3, ⟨_, [], rfl, rfl, wRep_le hext3.le hW, rfl⟩, hok0⟩, Nat.zero_le _, rfl⟩ rfl ?_ ?_ ?_
  · exact ⟨⟨_, J, J⟩, ⟨_, J, J⟩, ⟨_, J, J⟩, trivial⟩
  · exact .hp (.hp .nil)
  rintro ⟨k, Ws, A4, c4, xs, A5, c5, G4⟩ ⟨⟨hl120, hext, hcs, hok⟩, hk, hall⟩
  simp only at hl120 hext hcs hok hk hall ⊢
  refine Va J J ?_
  refine S_condp J (fun h5 => ?_) (fun h5 => ?_) <;> refine Va J J ?_
  · have hkl : k < Ws.length := by omega
    have hWk : Ws[k]? = some Ws[k] := List.getElem?_eq_getElem hkl
    obtain ⟨hWok, hWn⟩ := hok.ok k _ hWk
    generalize Ws[k] = W at hWk hWok hWn
    have hround : allW p = (match roundC W (canL W W.procs.length) Ws with
      | none => none
      | some Ws' => allF (121 - k) (k + 1) Ws') := by
      rw [hall, show 122 - k = (121 - k) + 1 by omega, allF_step hWk, roundW_can W hl120]
    obtain ⟨cs5, hcs5, hcl5, hrep5, _⟩ := Cs_at hcs hkl
    have hW5 : wRep G4 W cs5 := by
      have e := List.getElem?_eq_getElem hkl
      rw [hWk] at e
      rw [Option.some.inj e]; exact hrep5
    obtain ⟨f1, f2, f3, f4, f5, rfl⟩ := wRep_five hW5
    refine S_capO 4 J fun hnc4 _ _ => ?_;refine S_someO 4 J (by omega) fun g4 o4 eA => ?_
    subst eA
    refine S_index Tk J J J J J J (by omega) (by omega) ?_;refine Va J J ?_;refine S_valV J J J (V_loadRA Tk 4 J J (add_lit' ..) J hcs5 hcl5) ?_;refine Va J J ?_;refine S_call Tryz.call29 (c_l3CanF W _ _ hW5 hWok.cod) J J J ?_;rintro v7 G5 hcan hext5
    have hcl := canL_len W W.procs.length
    have hn3 := hWok.inv.n3
    have hcm := @canL_mem W W.procs.length
    generalize canL W W.procs.length = can at hround hcan hcl hcm
    obtain ⟨Ac, cc, rfl, _⟩ := id hcan
    refine Va J J ?_;refine S_loop (α := LS) (fun y => LOK p w0 G y ∧ PH.ext w0.heap.size G5 y.G ∧ y.k ≤ can.length ∧ Ws <+: y.Ws ∧ roundC W can Ws = roundC W (can.drop y.k) y.Ws) (fun y => can.length - y.k) []
      (fun y => [(8, .val (.int .i64 (y.k : Nat))), (7, .val (.slice Ac can.length cc)), (6, .val (.int .i64 (k : Nat))), (4, .val (.slice y.A y.Ws.length y.c)), (5, .val (.slice y.At (y.Ws.map wText).length y.ct))])
      (fun y => [.hp 4 (rowO w0.heap.size 56 5 y.A y.Ws.length y.c y.xs), .hp 5 (rowO w0.heap.size 9 1 y.At (y.Ws.map wText).length y.ct ((y.Ws.map wText).map tx))]) (fun y => y.G)
      ⟨0, Ws, some ⟨g4, o4, none⟩, c4, xs, A5, c5, G5⟩ ⟨⟨hl120, hext.trans hext5, Cs_mono (fun s _ cs h => wRep_le hext5.le h) hcs, hok⟩, PH.ext.refl _ _, Nat.zero_le _, List.prefix_refl _, rfl⟩ rfl ?_ ?_ ?_
    · exact ⟨⟨_, J, J⟩, ⟨_, J, J⟩, ⟨_, J, J⟩, ⟨_, J, J⟩, ⟨_, J, J⟩, trivial⟩
    · exact .hp (.hp .nil)
    clear hcs hcs5 hcl5 hrep5 hnc4
    rintro ⟨i, Ws2, A4, c4, xs, A5, c5, G6⟩ ⟨⟨hl2, hext6, hcs, hok2⟩, hext65, hi, hpre, hrC⟩
    simp only at hl2 hext6 hcs hok2 hext65 hi hpre hrC ⊢
    have hWk2 := prefix_at hpre hWk
    have hkl2 : k < Ws2.length := (List.getElem?_eq_some_iff.1 hWk2).1
    obtain ⟨cs5, hcs5, hcl5, hrep5, _⟩ := Cs_at hcs hkl2
    have hW5 : wRep G6 W cs5 := by
      have e := List.getElem?_eq_getElem hkl2
      rw [hWk2] at e
      rw [Option.some.inj e]; exact hrep5
    obtain ⟨f1, f2, f3, f4, f5, rfl⟩ := wRep_five hW5
    refine Va J J ?_
    refine S_condp J (fun h7 => ?_) (fun h7 => ?_) <;> refine Va J J ?_
    · have hil : i < can.length := by omega
      obtain ⟨j, hj, hjn, hjc⟩ := hcm (List.getElem_mem hil)
      obtain ⟨ad8, cs8, e8, hcc8, e9, hi8⟩ := Sr_at (Ints_le hext65.le hcan) hil
      subst e8
      rw [hj] at e9
      subst e9
      have hl8 := hcc8.1
      have hst := hWok.step (by omega) hjc
      have hrd := hWok.inv.rdy (by omega)
      have hstI := hst.inv
      refine S_capO 4 J fun hnc4 _ _ => ?_;refine S_someO 4 J (by omega) fun g4 o4 eA => ?_
      subst eA
      refine S_cut (α := Nat × List Value × List Value × PH) (fun y => PH.ext w0.heap.size G6 y.2.2.2 ∧ Tds y.2.2.2 (W.step j).procs y.2.2.1) (fun y => [(9, y.1)])
        (fun y => [(9, .ptr 9 0), (8, .val (.int .i64 (i : Nat))), (7, .val (.slice (some ad8) can.length cc)), (6, .val (.int .i64 (k : Nat))), (4, .val (.slice (some ⟨g4, o4, none⟩) Ws2.length c4)), (5, .val (.slice A5 (Ws2.map wText).length c5))])
        (fun y => [.blk 9 56 (vL y.2.1), .hp 20 (worldV y.2.1 (W.step j) y.2.2.1), .hp 4 (rowO w0.heap.size 56 5 (some ⟨g4, o4, none⟩) Ws2.length c4 xs), .hp 5 (rowO w0.heap.size 9 1 A5 (Ws2.map wText).length c5 ((Ws2.map wText).map tx))]) (fun y => y.2.2.2) ?_ ?_
      · refine Ds J J J ?_
        refine Da J J ?_;refine D_val 2 J J J J J J J J J (V_index Tk J J J J (by omega) (by omega)) ?_;refine Da J J ?_;refine D_val 3 J J J J J J J J J (V_loadRA Tk 4 J J (add_lit' ..) J hcs5 hcl5) ?_;refine Da J J ?_;refine D_val 7 J J J J J J J J J (V_index Tk J J J J (by omega) (by omega)) ?_;refine Da J J ?_;refine D_val 8 J J J J J J J J J (V_load Tk J J J (by simpa using hl8)) ?_;refine Da J J ?_
        repeat' (first
          | exact trivial
          | (refine D_list J ?_)
          | refine And.intro ?_ ?_
          | (refine N_turnV 10 J J J J fun back => ?_
             refine AZ ZT_ok J J J J fun b9 => ?_
             first | (refine back _ _ _ _ (pk_val J J J J J J J J (V_load Tk J J J (by simpa using hl8)) (pk_val J J J J J J J J (V_index Tk J J J J (by omega) (by omega)) (pk_val J J J J J J J J (V_loadRA Tk 4 J J (add_lit' ..) J hcs5 hcl5) (pk_val J J J J J J J J (V_index Tk J J J J (by omega) (by omega)) (pk_all Tk (by kernel_rfl)))))) ?_; clear back) | (refine back _ _ _ _ (pk_val rfl rfl rfl rfl rfl rfl rfl rfl (V_load Tk rfl rfl rfl (by simpa using hl8)) (pk_val rfl rfl rfl rfl rfl rfl rfl rfl (V_index Tk rfl rfl rfl rfl (by omega) (by omega)) (pk_val rfl rfl rfl rfl rfl rfl rfl rfl (V_index Tk rfl rfl rfl rfl (by omega) (by omega)) (pk_all Tk (by kernel_rfl))))) ?_; clear back) | (refine back _ _ _ _ (pk_val rfl rfl rfl rfl rfl rfl rfl rfl (V_index Tk rfl rfl rfl rfl (by omega) (by omega)) (pk_val rfl rfl rfl rfl rfl rfl rfl rfl (V_index Tk rfl rfl rfl rfl (by omega) (by omega)) (pk_all Tk (by kernel_rfl)))) ?_; clear back)
             refine Da J J ?_)
          | (refine N_turnV 4 J J J J fun back => ?_
             refine S_callN 20 Tryz.call47 (c_l3Copy W _ _ hW5 ⟨hWok.inv.n1, hn3⟩ ⟨hrd.sd, hrd.q0, hrd.q1⟩ hrd.tl) J J J ?_;rintro v4 G7 A7 ⟨cs4, ts4, rfl, rfl, htd4⟩ hext7
             refine S_newHP 20 J J ?_;refine S_csV 20 J ?_;rintro bp4 bc4 br4 bs4 kp4 asd4 ksd4 kc4 kr4 ks4 rfl
             replace hl8 := gcell_le hext7.le hl8
             refine back _ _ _ _ (pk_val J J J J J J J J (V_load Tk J J J (by simpa using hl8)) (pk_val J J J J J J J J (V_index Tk J J J J (by omega) (by omega)) (pk_val J J J J J J J J (V_index Tk J J J J (by omega) (by omega)) (pk_all Tk (by kernel_rfl))))) ?_; clear back
             refine Da J J ?_)
          | (refine N_turnV 9 J J J J fun back => ?_
             refine S_callM 20 Tryz.call46 (c_l3Step W j _ ts4 _ hrd htd4 (by omega) (hWok.inv.go hjc)) J J J J (fun _ => J) ?_;rintro v8 G8 A8 ⟨cs8, ts8, rfl, rfl, htd8⟩ hext8
             refine S_csV 20 J ?_;rintro bp8 bc8 br8 bs8 kp8 asd8 ksd8 kc8 kr8 ks8 rfl
             refine back _ _ _ _ (pk_val J J J J J J J J (V_index Tk J J J J (by omega) (by omega)) (pk_val J J J J J J J J (V_index Tk J J J J (by omega) (by omega)) (pk_all Tk (by kernel_rfl)))) ?_; clear back
             refine Da J J ?_)
          | fail)
        all_goals (refine N_store Tk 11 rfl rfl rfl rfl rfl rfl rfl rfl (by kernel_rfl) ?_)
        all_goals refine D_adv Tk (by decide) rfl rfl ?_
        all_goals (refine DD ?_)
        all_goals refine S_adv Tk rfl 1000 rfl ?_
        all_goals (refine S_pick [9, 20, 4, 5] rfl ?_)
        all_goals exact S_meet (_, _, _, _) ⟨hext7.trans hext8, htd8⟩ rfl ⟨⟨_, rfl, rfl⟩, ⟨_, rfl, rfl⟩, ⟨_, rfl, rfl⟩, ⟨_, rfl, rfl⟩, ⟨_, rfl, rfl⟩, ⟨_, rfl, rfl⟩, trivial⟩ (.blk rfl rfl (.hp (.hp (.hp .nil))))
      rintro ⟨b9, csw, ts, G7⟩ ⟨hext7, htd⟩
      simp only at hext7 htd ⊢
      refine S_csV 20 J ?_;rintro bp bc br bs kp asd ksd kc kr ks rfl
      have hrd2 := hst.inv.rdy (by omega)
      refine S_frzV 20 J J (fun _ h => h) htd hstI.n3 ⟨by have := hrd2.sd; omega, by have := hrd2.q0; omega, by have := hrd2.q1; omega⟩ fun G8 hext8 hWs => ?_;refine Va J J ?_;refine S_call Tryz.call45 (c_sWorldText _ _ _ hWs (hst.tok (by omega))) J J J ?_;rintro v10 G9 rfl hext9
      refine Va J J ?_
      have hlen0 : (Ws2.map wText).length = Ws2.length := List.length_map ..
      have hext10 := (hext7.trans hext8).trans hext9
      refine S_lendO 5 J J (fun _ hn0 _ _ => ?_) (fun g5 o5 cur hA5 _ hnc5 hcm5 hlx hfit ht5 hg5 hb5 hcells => ?_)
      · omega
      subst hA5
      refine S_call Tryz.call48 (c_l8Has (Ws2.map wText) _ c5 (wText (W.step j)) _ (.inr ⟨_, J, hcells⟩) (by omega)) J J J ?_;rintro v12 G10 ⟨rfl, rfl⟩ _
      refine S_backO 5 (base := w0.heap.size) (by simp [PH.add]; rfl) hb5 (by assumption) hnc5 hcm5 hlx hfit ht5 ?_
      rw [PH.del_add hg5]
      refine Va J J ?_
      have hjn2 : can[i].toNat = j := by rw [hj]; simp
      have hhas : hasW Ws2 (W.step can[i].toNat) = decide (wText (W.step j) ∈ Ws2.map wText) := by rw [hjn2, hasW_mem]
      have hsxs : ∀ G', PH.le G6 G' → Cs 5 (wRep G') Ws2 xs := fun G' hl => Cs_mono (fun s _ cs h => wRep_le hl h) hcs
      by_cases hm : wText (W.step j) ∈ Ws2.map wText
      · refine RT J (by simpa using hm) ?_
        refine Va J J ?_;refine S_add J J J J (by omega) ?_;refine Va J J ?_;refine S_pick [4, 5] J ?_;refine S_again ⟨i + 1, Ws2, some ⟨g4, o4, none⟩, c4, xs, some ⟨g5, o5, none⟩, c5, G9⟩ ⟨⟨hl2, hext6.trans hext10, hsxs _ hext10.le, hok2⟩, hext65.trans hext10, by simp only; omega, hpre, ?_⟩ (by simp only; omega) rfl ⟨⟨_, rfl, by simp [denO]⟩, ⟨_, rfl, rfl⟩, ⟨_, rfl, rfl⟩, ⟨_, rfl, rfl⟩, ⟨_, rfl, rfl⟩, trivial⟩ (.hp (.hp .nil))
        simp only
        rw [hrC, roundC_skip hil (by rw [hhas, decide_eq_true hm])]
      refine RF J (by simpa using hm) ?_;refine Va J J ?_
      have hhF : hasW Ws2 (W.step can[i].toNat) = false := by rw [hhas, decide_eq_false hm]
      refine S_condp J (fun h12 => ?_) (fun h12 => ?_) <;> refine Va J J ?_
      · have hnone : allW p = none := by rw [hround, hrC, roundC_none hil hhF (by omega)]
        exact S_retp (Res.t2 Tryz.results21 J J J J) (hext6.trans hext10) ⟨_, by rw [hnone]; rfl, fun Ws h => by rw [hnone] at h; cases h⟩
      · refine S_slice Tk ZT_ok J J J J (by decide) (by decide) J J J J fun b57 => ?_
        refine Va J J ?_
        refine S_app1 Tk 4 57 J J J J J J J J J J J J J J (by intro u hu; simp at hu; rcases hu with rfl | rfl | rfl | rfl | rfl <;> rfl) rfl (fun _ _ => rfl) (by omega) (Nat.le_refl _) fun A6 c6 => ?_
        refine Va J J ?_;refine S_slice Tk ZT_ok J J J J (by decide) (by decide) J J J J fun b61 => ?_;refine Va J J ?_;refine S_app1 Tk 5 61 J J J J J J J J J J J J J J (by intro u hu; simp at hu; rcases hu with rfl; rfl) rfl (fun _ _ => rfl) (by omega) (Nat.le_refl _) fun A7 c7 => ?_;refine Va J J ?_;refine S_add J J J J (by omega) ?_;refine Va J J ?_;refine S_pick [4, 5] J ?_;refine S_again ⟨i + 1, Ws2 ++ [W.step j], A6, c6, _, A7, c7, G9⟩ ⟨⟨by simp; omega, hext6.trans hext10, Cs_append (hsxs _ hext10.le) (WG_le hext9.le hWs) rfl, hok2.snoc hst (by omega) (by rw [Wld.step_len]; exact hWn) (by rw [hjn2] at hhF; exact hhF) (by omega)⟩, hext65.trans hext10, by simp only; omega, hpre.trans (List.prefix_append _ _), ?_⟩ (by simp only; omega) rfl ⟨⟨_, rfl, by simp [denO]⟩, ⟨_, rfl, rfl⟩, ⟨_, rfl, rfl⟩, ⟨_, rfl, by simp [denO]⟩, ⟨_, rfl, by simp [denO]⟩, trivial⟩ ?_
        · simp only
          rw [hrC, roundC_add hil hhF (by omega), hjn2]
        · simp only [List.map_append, List.map_cons, List.map_nil, List.length_append, List.length_singleton]
          exact .hp (.hp .nil)
    · have e0 : i = can.length := by omega
      subst e0
      rw [List.drop_length] at hrC
      refine S_add J J J J (by omega) ?_;refine Va J J ?_;exact S_again ⟨k + 1, Ws2, A4, c4, xs, A5, c5, G6⟩ ⟨⟨hl2, hext6, hcs, hok2⟩, hkl2, by simp only; rw [hround, hrC, show 122 - (k + 1) = 121 - k by omega]; rfl⟩ (by simp only; omega) rfl ⟨⟨_, rfl, by simp [denO]⟩, ⟨_, rfl, rfl⟩, ⟨_, rfl, rfl⟩, trivial⟩ (.hp (.hp .nil))
  · have e0 : k = Ws.length := by omega
    have hsome : allW p = some Ws := by rw [hall, show 122 - k = (121 - k) + 1 by omega, allF_end (by rw [e0]; simp)]
    refine S_freezeR 4 J J (Nat.le_refl _) fun Gf hextf hncf hcmf hclf => ?_;refine S_retp (Res.t2 Tryz.results21 J J J J) (hext.trans hextf) ⟨_, by rw [hsome]; rfl, fun Ws' h => ?_⟩
    rw [hsome] at h
    cases h
    exact frz (Cs_mono (fun s _ cs h => wRep_le hextf.le h) hcs) J (by omega) hncf hcmf hclf
end
section
attribute [local irreducible] X Pure Mod
def endsP (p : List (List Stm)) : Option (List Wld) := if progOk p = true then (allW p).map endsW else none
theorem endsP_f {p : List (List Stm)} (h : progOk p = false) : endsP p = none := by rw [endsP, if_neg (by simp [h])]
theorem endsP_n {p : List (List Stm)} (h : allW p = none) : endsP p = none := by rw [endsP, h]; simp
theorem Fin3_ofW {W : Wld} {B : Nat} (h : Inv W B) (hB : B ≤ 1000000) : Fin3 W := ⟨h.n1, h.n3, (h.rdy hB).sd, (h.rdy hB).q0, (h.rdy hB).q1, (h.rdy hB).tl⟩
theorem endsW_take {Ws : List Wld} {i : Nat} (h : i < Ws.length) : endsW (Ws.take (i + 1)) = endsW (Ws.take i) ++ (if finalW Ws[i] = true then [Ws[i]] else []) := by
 unfold endsW
 rw [List.take_succ_eq_append_getElem h, List.filter_append]
 by_cases hf : finalW Ws[i] = true <;> simp [hf]
theorem endsW_le (Ws : List Wld) : (endsW Ws).length ≤ Ws.length := List.length_filter_le _ _
theorem WsG_nil {G : PH} {A : Option Addr} : WsG G [] (.slice A 0 0) := ⟨A, 0, rfl, by simp, by simp, by simp [maxLen], .inl rfl⟩
structure ES where
 k : Nat
 A : Option Addr
 c : Nat
 xs : List Value
 G : PH
theorem c_sAllEnds (p : List (List Stm)) (pv : Value) (G : PH) (hp : PrgS G p pv) : Pure Tryz.prog 13 [pv] G fun v' G' => ∃ lv, v' = .tuple #[lv, .bool (endsP p).isSome] ∧ WsG G' ((endsP p).getD []) lv := by
 obtain ⟨Ap, cp, rfl, _⟩ := id hp.1
 refine Pure.intro Tryz.func13 Tryz.ntmps13 J J fun w0 => ?_;refine Va J J ?_;refine S_emptyO Tk 4 J J J J fun A0 => ?_;refine Va J J ?_;refine S_call Tryz.call20 (c_ProgOk p _ _ hp.1) J J J ?_;rintro v1 G1 ⟨rfl, rfl⟩ _
 refine Va J J ?_
 cases hpo : progOk p
 ·refine RT J J ?_
  refine Va J J ?_;exact S_retp (Res.t2 Tryz.results13 J J J J) XR ⟨_, by rw [endsP_f hpo]; rfl, by rw [endsP_f hpo]; exact WsG_nil⟩
 refine RF J J ?_;refine Va J J ?_;refine S_call Tryz.call21 (c_l8All p _ _ hp hpo) J J J ?_;rintro v2 G2 ⟨lv, rfl, hlv⟩ hext2
 refine Va J J ?_
 cases hall : allW p with
 | none =>
  refine RT J (by simp) ?_;refine Va J J ?_;exact S_retp (Res.t2 Tryz.results13 J J J J) hext2 ⟨_, by rw [endsP_n hall]; rfl, by rw [endsP_n hall]; exact WsG_nil⟩
 | some Ws =>
 have hWs := hlv Ws hall
 have hok := allW_ok hpo hp.2.1 (prg_iL hp.1) hall
 have hle := hok.le
 refine RF J (by simp) ?_;refine Va J J ?_;obtain ⟨Al, cl, rfl, _⟩ := id hWs
 refine S_loop (α := ES) (fun y => y.k ≤ Ws.length ∧ PH.ext w0.heap.size G2 y.G ∧ Cs 5 (wRep y.G) (endsW (Ws.take y.k)) y.xs) (fun y => Ws.length - y.k) []
  (fun y => [(7, .val (.int .i64 (y.k : Nat))), (5, .val (.slice Al Ws.length cl)), (4, .val (.slice y.A (endsW (Ws.take y.k)).length y.c))])
  (fun y => [.hp 4 (rowO w0.heap.size 56 5 y.A (endsW (Ws.take y.k)).length y.c y.xs)]) (fun y => y.G) ⟨0, A0, 0, [], G2⟩ ⟨Nat.zero_le _, PH.ext.refl _ _, rfl⟩ rfl ?_ ?_ ?_
 ·exact ⟨⟨_, J, J⟩, ⟨_, J, J⟩, ⟨_, J, J⟩, trivial⟩
 ·exact .hp .nil
 rintro ⟨k, A4, c4, xs, G4⟩ ⟨hk, hext, hcs⟩
 simp only at hk hext hcs ⊢
 refine Va J J ?_
 refine S_condp J (fun h5 => ?_) (fun h5 => ?_) <;> refine Va J J ?_
 ·have hkl : k < Ws.length := by omega
  have hnx := endsW_take hkl
  have hel := endsW_le (Ws.take k)
  have htl := List.length_take_le k Ws
  obtain ⟨hWok, hWn⟩ := hok.ok k _ (List.getElem?_eq_getElem hkl)
  obtain ⟨ad, cs5, e5, hc5, hW5⟩ := Sr_at (WsG_le hext.le hWs) hkl
  subst e5
  generalize Ws[k] = W at hnx hWok hWn hW5
  obtain ⟨f1, f2, f3, f4, f5, rfl⟩ := wRep_five hW5
  refine S_index Tk J J J J J J (by omega) (by omega) ?_;refine Va J J ?_;refine S_loadA Tk J J J J J (by simpa using hc5) ?_;refine Va J J ?_;refine S_call Tryz.call29 (c_l3CanF W _ _ hW5 hWok.cod) J J J ?_;rintro v7 G5 hcan hext5
  have hfin := @canL_nil W
  generalize canL W W.procs.length = can at hcan hfin
  obtain ⟨Ac, cc, rfl, _⟩ := id hcan
  refine Va J J ?_
  by_cases hf : finalW W = true
  ·have hc0 := hfin.2 hf
   rw [if_pos hf] at hnx
   refine RT J (by simp [hc0]) ?_;refine Va J J ?_;refine S_index Tk J J J J J J (by omega) (by omega) ?_;refine Va J J ?_;refine S_loadA Tk J J J J J (by simpa using gcells_le hext5.le hc5) ?_;refine Va J J ?_;refine S_callN 21 Tryz.call30 (c_l3Out W _ _ (wRep_le hext5.le hW5) (Fin3_ofW hWok.inv (by omega))) J J J ?_;rintro v3 G6 A6 ⟨cs3, ts3, rfl, rfl, htd3⟩ hext6
   rw [hWok.shl.out] at htd3 ⊢
   refine S_newHP 21 J J ?_;refine S_csV 21 J ?_;rintro bp bc br bs kp asd ksd kc kr ks rfl
   have hrd2 := hWok.inv.rdy (by omega)
   refine S_frzV 21 J J (fun _ h => h) htd3 hWok.inv.n3 ⟨by have := hrd2.sd; omega, by have := hrd2.q0; omega, by have := hrd2.q1; omega⟩ fun G8 hext8 hWs8 => ?_;refine S_slice Tk ZT_ok J J J J (by decide) (by decide) J J J J fun b40 => ?_;refine Va J J ?_
   refine S_app1 Tk 4 40 J J J J J J J J J J J J J J (by intro u hu; simp at hu; rcases hu with rfl | rfl | rfl | rfl | rfl <;> rfl) rfl (fun _ _ => rfl) (by omega) (Nat.le_refl _) fun A6 c6 => ?_
   refine Va J J ?_;refine S_add J J J J (by omega) ?_;refine Va J J ?_
   have hextx := (hext5.trans hext6).trans hext8
   refine S_again ⟨k + 1, A6, c6, _, G8⟩ ⟨hkl, hext.trans hextx, by simp only; rw [hnx]; exact Cs_append (Cs_mono (fun s _ cs h => wRep_le hextx.le h) hcs) hWs8 J⟩ (by simp only; omega) rfl ⟨⟨_, rfl, by simp [denO]⟩, ⟨_, rfl, rfl⟩, ⟨_, rfl, by simp [denO, hnx]⟩, trivial⟩ ?_
   simp only [hnx, List.length_append, List.length_singleton]
   first | exact .hp .nil | exact .drop (.hp .nil)
  ·have hc0 : ¬ can.length = 0 := fun h => hf (hfin.1 h)
   rw [if_neg hf, List.append_nil] at hnx
   refine RF J (by simpa using hc0) ?_;refine Va J J ?_;refine S_add J J J J (by omega) ?_;refine Va J J ?_;refine S_again ⟨k + 1, A4, c4, xs, G5⟩ ⟨hkl, hext.trans hext5, by simp only; rw [hnx]; exact Cs_mono (fun s _ cs h => wRep_le hext5.le h) hcs⟩ (by simp only; omega) rfl ⟨⟨_, rfl, by simp [denO]⟩, ⟨_, rfl, rfl⟩, ⟨_, rfl, by simp [denO, hnx]⟩, trivial⟩ ?_
   simp only [hnx]
   exact .hp .nil
 ·have e0 : k = Ws.length := by omega
  subst e0
  rw [List.take_length] at hcs ⊢
  have hel := endsW_le Ws
  have hends : endsP p = some (endsW Ws) := by rw [endsP, if_pos hpo, hall]; rfl
  refine S_freezeR 4 J J (Nat.le_refl _) fun Gf hextf hncf hcmf hclf => ?_;refine S_retp (Res.t2 Tryz.results13 J J J J) (hext2.trans (hext.trans hextf)) ⟨_, by rw [hends]; rfl, ?_⟩
  rw [hends]
  exact frz (Cs_mono (fun s _ cs h => wRep_le hextf.le h) hcs) J (by omega) hncf hcmf hclf
end
section
attribute [local irreducible] X Pure Mod
theorem c_codeF (W : Wld) (who : Nat) (ad0 : Addr) (vs0 : List Value) (G : PH) (hg : gcells G ad0 vs0) (hW : WG G W (.agg vs0.toArray)) (h3 : W.procs.length ≤ 3) (hw : who < W.procs.length) (hh : ∀ p ∈ W.procs, HeadOk p) (hm : 0 ≤ W.m0 ∧ 0 ≤ W.m1) : Pure Tryz.prog 53 [.pointer (some ad0), .int .i64 (who : Nat)] G fun v' G' => v' = .int .i64 (codeOf W (who : Nat)) ∧ G' = G := by
 obtain ⟨vp, vc, vr, vs, vd, e0, hpr, hce, hro, hsg, hsd⟩ := hW
 obtain rfl : vs0 = [vp, vc, vr, vs, vd] := by simpa using congrArg (fun v => match v with | .agg x => x.toList | _ => []) e0
 clear e0
 obtain ⟨Ap, cp, rfl, _⟩ := id hpr
 obtain ⟨Ac, cc, rfl, _⟩ := id hce
 obtain ⟨Ar, cr, rfl, _⟩ := id hro
 obtain ⟨As, cs_, rfl, _⟩ := id hsg
 obtain ⟨Ad, cd, rfl, _⟩ := id hsd
 obtain ⟨ad, cs, e1, hcs, vr', vt, rfl, hrg, htd⟩ := Sr_at hpr hw
 subst e1
 have hP := hh _ (List.getElem_mem hw)
 rw [codeOf_at (List.getElem?_eq_getElem hw)]
 generalize W.procs[who] = p at hcs hrg htd hP
 obtain ⟨a0, a1, a2, td, mo, on, ro⟩ := p
 obtain ⟨A1, c1, rfl, _⟩ := id hrg
 obtain ⟨A2, c2, rfl, _⟩ := id htd
 obtain ⟨ar, e2, hr0⟩ := intsU_at hro (t := 0) (by simp)
 subst e2
 obtain ⟨ar', e2, hr1⟩ := intsU_at hro (t := 1) (by simp)
 cases e2
 obtain ⟨ps, x0, x1, x2, m0, m1, q0, q1, sd⟩ := W
 simp only [List.getElem_cons_zero, List.getElem_cons_succ] at h3 hw hm hP hr0 hr1 hcs htd ⊢
 obtain ⟨w1, w2, w3, w4, w5, _⟩ := hg
 refine Pure.intro Tryz.func53 Tryz.ntmps53 J J fun w => ?_; refine Va J J ?_;refine GF J J (by simp) ?_;refine Va J J ?_;refine S_load Tk J J J J J (by simpa [add_zero', add_add'] using w1) ?_;refine Va J J ?_;refine RF J (by simp; omega) ?_;refine Va J J ?_;refine S_load Tk J J J J J (by simpa [add_zero', add_add'] using w1) ?_;refine Va J J ?_;refine S_index Tk J J J J J J (by omega) (by omega) ?_
 refine Va J J ?_;refine S_loadA Tk J J J J J (by simpa using hcs) ?_;refine Va J J ?_;refine AZ ZT_ok J J J J fun b5 => ?_;refine Va J J ?_
 by_cases hm1 : mo = 1
 ·refine RT J (by simp [hm1]) ?_
  refine Va J J ?_;refine RT J (by simp [hm1]) ?_;refine Va J J ?_;exact S_retp (Res.t1 Tryz.results53 J J) XR ⟨by first | (simp [codeP, Wld.rm, *]; done) | (simp_all [codeP, Wld.rm]; done) | (simp [codeP, Wld.rm, Stm.kind, Stm.a, *]; done) | (simp [codeP, Wld.rm, Stm.kind, Stm.a, *]; omega), rfl⟩
 by_cases hm2 : mo = 2
 ·subst hm2
  have hro' := hP.1 rfl
  simp only at hro'
  rcases hro' with rfl | rfl <;>
  ·refine RF J J ?_
   refine Va J J ?_;refine Ds J J J ?_;refine Da J J ?_;refine D_setP 31 (b := true) J J ?_;refine Da J J ?_;refine D_val 7 J J J J J J J J J (V_load Tk J J J (by simpa [add_zero', add_add'] using w3)) ?_;refine Da J J ?_;refine D_val 10 J J J J J J J J J (V_index Tk J J J J (by simp) (by simp)) ?_;refine Da J J ?_;refine D_val 11 J J J J J J J J J (V_load Tk J J J (by first | simpa using hr0 | simpa using hr1)) ?_
   refine Da J J ?_;refine DD ?_;refine Va J J ?_
   refine S_condp J (fun h => ?_) (fun h => ?_) <;> refine Va J J ?_
   ·exact S_retp (Res.t1 Tryz.results53 J J) XR ⟨by first | (simp [codeP, Wld.rm, *]; done) | (simp_all [codeP, Wld.rm]; done) | (simp [codeP, Wld.rm, Stm.kind, Stm.a, *]; done) | (simp [codeP, Wld.rm, Stm.kind, Stm.a, *]; omega), rfl⟩
   ·refine RT J J ?_
    refine Va J J ?_;exact S_retp (Res.t1 Tryz.results53 J J) XR ⟨by first | (simp [codeP, Wld.rm, *]; done) | (simp_all [codeP, Wld.rm]; done) | (simp [codeP, Wld.rm, Stm.kind, Stm.a, *]; done) | (simp [codeP, Wld.rm, Stm.kind, Stm.a, *]; omega), rfl⟩
 refine RF J (by simp [hm1]) ?_;refine Va J J ?_;refine Ds J J J ?_;refine Da J J ?_;refine D_split 31 J (fun _ => J) (fun h => absurd h (by simp [hm2])) (fun h => ?_)
 refine Da J J ?_;refine DD ?_;refine Va J J ?_;refine RF J (by simp [hm2]) ?_;refine Va J J ?_
 rcases td with _ | ⟨s, r⟩
 ·refine RT J J ?_
  refine Va J J ?_;exact S_retp (Res.t1 Tryz.results53 J J) XR ⟨by first | (simp [codeP, Wld.rm, *]; done) | (simp_all [codeP, Wld.rm]; done) | (simp [codeP, Wld.rm, Stm.kind, Stm.a, *]; done) | (simp [codeP, Wld.rm, Stm.kind, Stm.a, *]; omega), rfl⟩
 obtain ⟨adt, vx, vy, rfl, hct, _⟩ := Sts_head htd
 refine RF J (by simp <;> omega) ?_
 refine Va J J ?_
 by_cases hk8 : s.kind = 8
 ·have hsa := hP.2 s r rfl hk8
  obtain ⟨sk, sa, sb, sn, sx, sy⟩ := s
  simp only [Stm.kind, Stm.a] at hk8 hsa hct
  subst hk8
  rcases hsa with rfl | rfl <;>
  ·refine Ds J J J ?_
   refine Da J J ?_
   refine D_val 2 J J J J J J J J J (V_index Tk J J J J (by omega) (by simp <;> omega)) ?_
   refine Da J J ?_;refine D_val 4 J J J J J J J J J (V_load Tk J J J (by simpa [add_add', add_zero'] using gcells_at hct 0 _ J)) ?_;refine Da J J ?_;refine D_setP 58 (b := true) J J ?_;refine Da J J ?_;refine D_val 10 J J J J J J J J J (V_load Tk J J J (by simpa [add_zero', add_add'] using w3)) ?_;refine Da J J ?_
   refine D_val 13 J J J J J J J J J (V_index Tk J J J J (by omega) (by simp <;> omega)) ?_
   refine Da J J ?_;refine D_val 15 J J J J J J J J J (V_load Tk J J J (by simpa [add_add', add_zero'] using gcells_at hct 1 _ J)) ?_;refine Da J J ?_;refine D_val 16 J J J J J J J J J (V_index Tk J J J J (by simp) (by simp)) ?_;refine Da J J ?_;refine D_val 17 J J J J J J J J J (V_load Tk J J J (by first | simpa using hr0 | simpa using hr1)) ?_;refine Da J J ?_;refine DD ?_;refine Va J J ?_
   refine S_condp J (fun h => ?_) (fun h => ?_) <;> refine Va J J ?_
   ·exact S_retp (Res.t1 Tryz.results53 J J) XR ⟨by first | (simp [codeP, Wld.rm, *]; done) | (simp_all [codeP, Wld.rm]; done) | (simp [codeP, Wld.rm, Stm.kind, Stm.a, *]; done) | (simp [codeP, Wld.rm, Stm.kind, Stm.a, *]; omega), rfl⟩
   ·have h' := Classical.not_not.1 h
    exact S_retp (Res.t1 Tryz.results53 J J) XR ⟨by first | (simp [codeP, Wld.rm, *]; done) | (simp_all [codeP, Wld.rm]; done) | (simp [codeP, Wld.rm, Stm.kind, Stm.a, *]; done) | (simp [codeP, Wld.rm, Stm.kind, Stm.a, *]; omega), rfl⟩
 refine Ds J J J ?_;refine Da J J ?_
 refine D_val 2 J J J J J J J J J (V_index Tk J J J J (by omega) (by simp <;> omega)) ?_
 refine Da J J ?_;refine D_val 4 J J J J J J J J J (V_load Tk J J J (by simpa [add_add', add_zero'] using gcells_at hct 0 _ J)) ?_;refine Da J J ?_;refine D_split 58 J (fun _ => J) (fun h => absurd h (by simp [hk8])) (fun h => ?_)
 refine Da J J ?_;refine DD ?_;refine Va J J ?_;exact S_retp (Res.t1 Tryz.results53 J J) XR ⟨by first | (simp [codeP, Wld.rm, *]; done) | (simp_all [codeP, Wld.rm]; done) | (simp [codeP, Wld.rm, Stm.kind, Stm.a, *]; done) | (simp [codeP, Wld.rm, Stm.kind, Stm.a, *]; omega), rfl⟩
end
section
attribute [local irreducible] X Pure Mod
theorem c_CloneIntZ (l : List Int) (v : Value) (G : PH) (h : IntsU G l v) : Mod Tryz.prog 61 [v] G emptyHP fun v' G' A' => ∃ A c base, v' = .slice A (0 + l.length) c ∧ Off0 A ∧ G' = G ∧ A' = rowO base 3 1 A (0 + l.length) c ([] ++ intC l) := by
  obtain ⟨xs, hx, hc⟩ := Sr_Sx (rep := intU) (sz := 1) (fun n cs h => by rw [show cs = [.int .i64 n] from h]; rfl) h
  obtain rfl := Cs_intU_eq hc
  obtain ⟨A, c, rfl, hn, hnc, hcm, hlen, hrow⟩ := hx
  refine Mod.intro Tryz.func61 Tryz.ntmps61 J J fun w S => ?_;refine Va J J ?_
  cases A with
  | none =>
    have hl0 : l.length = 0 := by rcases hrow with h | ⟨a, h, _⟩; exact h; cases h
    obtain rfl := List.eq_nil_of_length_eq_zero hl0
    refine S_valV J J J (V_eqNil Tk J J) ?_;refine Va J J ?_;refine RT J J ?_;refine Va J J ?_;refine S_nilO 5 (base := w.heap.size) (e := 3) (size := 1) ?_;exact S_retm 5 (Res.t1 Tryz.results61 J J) J XR ⟨none, 0, _, J, .inl J, J, J⟩
  | some a =>
    refine S_valV J J J (V_eqNil Tk J J) ?_;refine Va J J ?_;refine RF J J ?_;refine Va J J ?_;refine S_emptyOz Tk 5 J J J J fun A h5 => ?_;refine Va J J ?_;refine S_appOz Tk 5 J J J J J J J J J J J (fun _ _ => J) (src_G hlen (by
      rcases hrow with h | ⟨a', h, h2⟩
      · exact .inl h
      · exact .inr ⟨a', h, h2⟩)) (intC1 _) (by simp only; omega) (by simp only [maxLen]; omega) (Nat.le_refl _) fun A' c' h5' => ?_
    refine Va J J ?_;exact S_retm 5 (Res.t1 Tryz.results61 J J) J XR ⟨A', c', w.heap.size, J, off_app h5 h5', J, J⟩
theorem c_CloneSayZ (l : List (Int × Int)) (v : Value) (G : PH) (h : SaysU G l v) : Mod Tryz.prog 62 [v] G emptyHP fun v' G' A' => ∃ A c base, v' = .slice A (0 + l.length) c ∧ G' = G ∧ A' = rowO base 96 2 A (0 + l.length) c ([] ++ saidC l) := by
  obtain ⟨xs, hx, hc⟩ := Sr_Sx (rep := sayU) (sz := 2) (fun n cs h => by rw [show cs = [.int .i64 n.1, .int .i64 n.2] from h]; rfl) h
  obtain rfl := Cs_sayU_eq hc
  obtain ⟨A, c, rfl, hn, hnc, hcm, hlen, hrow⟩ := hx
  refine Mod.intro Tryz.func62 Tryz.ntmps62 J J fun w S => ?_;refine Va J J ?_
  cases A with
  | none =>
    have hl0 : l.length = 0 := by rcases hrow with h | ⟨a, h, _⟩; exact h; cases h
    obtain rfl := List.eq_nil_of_length_eq_zero hl0
    refine S_valV J J J (V_eqNil Tk J J) ?_;refine Va J J ?_;refine RT J J ?_;refine Va J J ?_;refine S_nilO 5 (base := w.heap.size) (e := 96) (size := 2) ?_;exact S_retm 5 (Res.t1 Tryz.results62 J J) J XR ⟨none, 0, _, J, J, J⟩
  | some a =>
    refine S_valV J J J (V_eqNil Tk J J) ?_;refine Va J J ?_;refine RF J J ?_;refine Va J J ?_;refine S_emptyO Tk 5 J J J J fun A => ?_;refine Va J J ?_;refine S_appO Tk 5 J J J J J J J J J J J (fun _ _ => J) (src_G hlen (by
      rcases hrow with h | ⟨a', h, h2⟩
      · exact .inl h
      · exact .inr ⟨a', h, h2⟩)) (saidC_one _) (by simp only; omega) (by simp only [maxLen]; omega) (Nat.le_refl _) fun A' c' => ?_
    refine Va J J ?_;exact S_retm 5 (Res.t1 Tryz.results62 J J) J XR ⟨A', c', w.heap.size, J, J, J⟩
theorem c_wcopyO (W : Wld) (v : Value) (G : PH) (hW : WG G W v) (hn : 1 ≤ W.procs.length ∧ W.procs.length ≤ 3) (hl : W.said.length ≤ 1000000 ∧ W.q0.length ≤ 1000000 ∧ W.q1.length ≤ 1000000) : Mod Tryz.prog 31 [v] G emptyHP (NPost W) := by
  obtain ⟨vp, vc, vr, vs, vd, rfl, hpr, hce, hro, hsg, hsd⟩ := hW
  obtain ⟨Ac, cc, rfl, xc1, xc2⟩ := intsU_cells hce
  obtain ⟨Ar, cr, rfl, xr1, xr2⟩ := intsU_cells hro
  obtain ⟨Ad, cd, rfl, xd1, xd2⟩ := saysU_cells hsd
  obtain ⟨Ap, cp, rfl, _⟩ := id hpr
  obtain ⟨As, cs', rfl, _⟩ := id hsg
  obtain ⟨ads, z0, eA, hz0, v0, rfl, hv0⟩ := Sr_at hsg (k := 0) (by simp)
  subst eA
  obtain ⟨ads', z1, eA, hz1, v1, rfl, hv1⟩ := Sr_at hsg (k := 1) (by simp)
  cases eA
  obtain ⟨A0, c0, rfl, x01, x02⟩ := intsU_cells hv0
  obtain ⟨A1, c1, rfl, x11, x12⟩ := intsU_cells hv1
  simp only [List.getElem_cons_zero, List.getElem_cons_succ] at hz0 hz1 hv0 hv1
  refine Mod.intro Tryz.func31 Tryz.ntmps31 J J fun w S => ?_;refine Va J J ?_;refine S_box J J J J J fun b1 => ?_;refine Va J J ?_;refine AZ ZT_ok J J J J fun b2 => ?_;refine Va J J ?_;refine S_cut (α := Nat × (Option Addr × Nat) × (Option Addr × Nat) × Option Addr × Nat) (fun y => Off0 y.2.1.1 ∧ Off0 y.2.2.1.1) (fun y => [(1, b1), (2, b2), (3, y.1)]) (fun y => [(1, .ptr 1 0), (2, .ptr 2 0), (3, .ptr 3 0)])
    (fun y => [.blk 1 56 (vL [.slice Ap W.procs.length cp, .slice Ac [W.c0, W.c1, W.c2].length cc, .slice Ar [W.m0, W.m1].length cr, .slice (some ads) [W.q0, W.q1].length cs', .slice Ad W.said.length cd]), .blk 2 56 (vL [.slice none 0 0, .slice none 0 0, .slice none 0 0, .slice none 0 0, .slice none 0 0]),
      .blk 3 56 [.v (.slice none 0 0), .v (.slice y.2.1.1 (0 + [W.c0, W.c1, W.c2].length) y.2.1.2), .v (.slice y.2.2.1.1 (0 + [W.m0, W.m1].length) y.2.2.1.2), .v (.slice none 0 0), .v (.slice y.2.2.2.1 (0 + W.said.length) y.2.2.2.2)],
      .hp 7 (rowO w.heap.size 3 1 y.2.1.1 (0 + [W.c0, W.c1, W.c2].length) y.2.1.2 ([] ++ intC [W.c0, W.c1, W.c2])), .hp 11 (rowO w.heap.size 3 1 y.2.2.1.1 (0 + [W.m0, W.m1].length) y.2.2.1.2 ([] ++ intC [W.m0, W.m1])), .hp 15 (rowO w.heap.size 96 2 y.2.2.2.1 (0 + W.said.length) y.2.2.2.2 ([] ++ saidC W.said)), .hp 1 emptyHP]) (fun _ => G) ?_ ?_
  · refine Ds J J J ?_
    refine Da J J ?_
    repeat' (first
      | exact trivial
      | (refine D_list J ?_)
      | refine And.intro ?_ ?_
      | (refine N_turn Tk 2 J J J J fun back => ?_
         refine S_callN 7 Tryz.call61 (c_CloneIntZ _ _ _ hce) J J J ?_;rintro v2 G2 A2' ⟨A7, c7, base7, rfl, h7, rfl, rfl⟩ hext2
         refine S_newRow 7 J J ?_;refine back _ _ _ _ (by kernel_rfl) ?_
         clear back
         refine Da J J ?_)
      | (refine N_turn Tk 5 J J J J fun back => ?_
         refine S_callN 11 Tryz.call61 (c_CloneIntZ _ _ _ hro) J J J ?_;rintro v2 G2 A2' ⟨A11, c11, base11, rfl, h11, rfl, rfl⟩ hext2
         refine S_newRow 11 J J ?_;refine back _ _ _ _ (by kernel_rfl) ?_
         clear back
         refine Da J J ?_)
      | (refine N_turn Tk 8 J J J J fun back => ?_
         refine S_callN 15 Tryz.call62 (c_CloneSayZ _ _ _ hsd) J J J ?_;rintro v2 G2 A2' ⟨A15, c15, base15, rfl, rfl, rfl⟩ hext2
         refine S_newRow 15 J J ?_;refine back _ _ _ _ (by kernel_rfl) ?_
         clear back
         refine Da J J ?_)
      | (refine N_turn Tk 10 J J J J fun back => ?_
         refine AZ ZT_ok J J J J fun b3 => ?_;refine back _ _ _ _ (by kernel_rfl) ?_
         clear back
         refine Da J J ?_)
      | fail)
    all_goals (refine N_store Tk 11 rfl rfl rfl rfl rfl rfl rfl rfl (by kernel_rfl) ?_)
    all_goals refine D_adv Tk (by decide) rfl rfl ?_
    all_goals (refine DD ?_)
    all_goals refine S_adv Tk rfl 1000 rfl ?_
    all_goals (refine S_pick [1, 2, 3, 7, 11, 15, 1] rfl ?_)
    all_goals exact S_meet (_, (_, _), (_, _), _, _) ⟨h7, h11⟩ rfl ⟨⟨_, rfl, rfl⟩, ⟨_, rfl, rfl⟩, ⟨_, rfl, rfl⟩, trivial⟩ (.blk rfl rfl (.blk rfl rfl (.blk rfl rfl (.hp (.hp (.hp (.hp .nil)))))))
  rintro ⟨b3, ⟨A7, c7⟩, ⟨A11, c11⟩, A15, c15⟩ ⟨o7, o11⟩
  simp only at o7 o11 ⊢
  refine Va J J ?_;refine S_nilO (base := w.heap.size) (e := 62) (size := 5) 50 ?_;refine S_newE 55 ?_;refine S_loop (α := OC) (fun y => y.i ≤ W.procs.length ∧ y.q.length = y.i ∧ PH.ext w.heap.size G y.G ∧ QOk y.G (W.procs.take y.i) y.q ∧ Off0 y.A) (fun y => W.procs.length - y.i) [(1, b1), (2, b2), (3, b3)]
    (fun y => [(21, .val (.int .i64 (y.i : Nat))), (19, .val (.slice Ap W.procs.length cp)), (20, .val (.int .i64 (W.procs.length : Nat))), (1, .ptr 1 0), (2, .ptr 2 0), (3, .ptr 3 0)])
    (fun y => [.hp 55 (regsZ w.heap.size y.q), .hp 50 (rowO w.heap.size 62 5 y.A y.q.length y.c (procZ y.q)),
      .blk 1 56 (vL [.slice Ap W.procs.length cp, .slice Ac [W.c0, W.c1, W.c2].length cc, .slice Ar [W.m0, W.m1].length cr, .slice (some ads) [W.q0, W.q1].length cs', .slice Ad W.said.length cd]), .blk 2 56 (vL [.slice none 0 0, .slice none 0 0, .slice none 0 0, .slice none 0 0, .slice none 0 0]),
      .blk 3 56 [.v (.slice y.A y.q.length y.c), .v (.slice A7 (0 + [W.c0, W.c1, W.c2].length) c7), .v (.slice A11 (0 + [W.m0, W.m1].length) c11), .v (.slice none 0 0), .v (.slice A15 (0 + W.said.length) c15)],
      .hp 7 (rowO w.heap.size 3 1 A7 (0 + [W.c0, W.c1, W.c2].length) c7 ([] ++ intC [W.c0, W.c1, W.c2])), .hp 11 (rowO w.heap.size 3 1 A11 (0 + [W.m0, W.m1].length) c11 ([] ++ intC [W.m0, W.m1])), .hp 15 (rowO w.heap.size 96 2 A15 (0 + W.said.length) c15 ([] ++ saidC W.said)), .hp 1 emptyHP]) (fun y => y.G) ⟨0, none, 0, [], G⟩ ⟨Nat.zero_le _, rfl, PH.ext.refl _ _, ⟨rfl, by simp⟩, .inl rfl⟩ rfl ?_ ?_ ?_
  · exact ⟨⟨_, J, J⟩, ⟨_, J, J⟩, ⟨_, J, J⟩, ⟨_, J, J⟩, ⟨_, J, J⟩, ⟨_, J, J⟩, trivial⟩
  · exact .hp (.hp (.blk J J (.blk J J (.blk J J (.hp (.hp (.hp (.hp .nil))))))))
  rintro ⟨i, A5, c5, q, G1⟩ ⟨hi, hq, hext, hqd, hoff⟩
  simp only at hi hq hext hqd hoff ⊢
  refine Va J J ?_
  refine S_condp J (fun h5 => ?_) (fun h5 => ?_) <;> refine Va J J ?_
  · have hil : i < W.procs.length := by omega
    obtain ⟨ad, cs, rfl, hcs, vr1, vt1, rfl, hr1, ht1⟩ := Sr_at (Sr_mono hext.le (fun _ _ _ h => prcRep_le hext.le h) hpr) hil
    obtain ⟨Br, dr, rfl, _⟩ := id hr1
    obtain ⟨Bt, dt, rfl, _⟩ := id ht1
    refine S_index Tk J J J J J J (by omega) (by omega) ?_;refine Va J J ?_;refine S_loadA Tk J J J J J (by simpa using hcs) ?_;refine Va J J ?_;refine AZ ZT_ok J J J J fun b6 => ?_;refine Va J J ?_;refine Ds J J J ?_;refine Da J J ?_;refine Nt 2 J J J J J J fun back => ?_;refine S_callN 52 Tryz.call61 (c_CloneIntZ _ _ _ hr1) J J J ?_;rintro v2 G2 A2' ⟨A53, c53, base53, rfl, h53, rfl, rfl⟩ hext2
    refine S_newRow 52 J J ?_;refine back _ _ _ _ (by kernel_rfl) ?_; clear back
    refine Da J J ?_;refine D_sole 5 J J (N_call 5 Tryz.call63 (c_copyStmts _ _ _ ht1) J J J J J J J J J J ?_)
    rintro ve G3 hve hext3
    obtain ⟨Ae, ce, rfl, _⟩ := id hve
    refine Da J J ?_;refine Ns 7 J J J J J J J J J ?_;refine Da J J ?_;refine Ns 9 J J J J J J J J J ?_;refine DD ?_;refine Va J J ?_;refine S_slice Tk ZT_ok J J J J (by decide) (by decide) J J J J fun b64 => ?_;refine Va J J ?_
    refine S_app1z Tk 50 36 J J J J J J J J J J J J J J (by intro u hu; simp at hu; rcases hu with rfl | rfl | rfl | rfl | rfl <;> rfl) rfl (fun _ _ => rfl) (by omega) (Nat.le_refl _) fun A6 c6 h6 => ?_
    refine Va J J ?_;refine S_add J J J J (by omega) ?_;refine Va J J ?_;refine S_pair 52 55 58 J J J J ?_;refine S_pick [58, 50, 1, 2, 3, 7, 11, 15, 1] J ?_;refine S_again ⟨i + 1, A6, c6, q ++ [⟨A53, c53, .slice Ae W.procs[i].todo.length ce, W.procs[i]⟩], G3⟩ ⟨by simp only; omega, by simp; omega, hext.trans hext3, ⟨?_, ?_⟩, off_app' hoff h6⟩ (by simp only; omega) rfl ⟨⟨_, rfl, by simp [denO]⟩, ⟨_, rfl, rfl⟩, ⟨_, rfl, rfl⟩, ⟨_, rfl, rfl⟩, ⟨_, rfl, rfl⟩, ⟨_, rfl, rfl⟩, trivial⟩ ?_
    · simp only
      rw [List.take_succ_eq_append_getElem hil, List.map_append, hqd.1]; rfl
    · intro x hx
      rcases List.mem_append.1 hx with hx | hx
      · exact (QOk_le hext3.le hqd).2 x hx
      · rw [List.mem_singleton.1 hx]; exact ⟨hve, h53⟩
    · simp only [regsZ_snoc, procZ_snoc, List.length_append, List.length_singleton]
      exact .hp (.hp (.blk J J (.blk J J (.blk J J (.hp (.hp (.hp (.hp .nil))))))))
  · have hin : i = W.procs.length := by omega
    subst hin
    rw [List.take_length] at hqd
    refine S_nilO (base := w.heap.size) (e := 52) (size := 1) 40 ?_;refine S_unroll 2 ?_;refine Va J J ?_
    have o0 : Off0 none := .inl rfl
    refine RT J (by simp) ?_;refine Va J J ?_;refine S_index Tk J J J J J J (by simp) (by simp) ?_;refine Va J J ?_;refine S_load Tk J J J J J (by simpa using gcell_le hext.le hz0.1) ?_;refine Va J J ?_;refine S_cut (α := (Option Addr × Nat) × Option Addr × Nat) (fun y => Off0 y.2.1) (fun y => [(1, b1), (2, b2), (3, b3)]) (fun y => [(43, .val (.int .i64 0)), (42, .val (.int .i64 2)), (41, .val (.slice (some ads) 2 cs')), (1, .ptr 1 0), (2, .ptr 2 0), (3, .ptr 3 0)])
      (fun y => [.hp 55 (regsZ w.heap.size q), .hp 50 (rowO w.heap.size 62 5 A5 q.length c5 (procZ q)), .blk 1 56 (vL [.slice Ap W.procs.length cp, .slice Ac [W.c0, W.c1, W.c2].length cc, .slice Ar [W.m0, W.m1].length cr, .slice (some ads) [W.q0, W.q1].length cs', .slice Ad W.said.length cd]), .blk 2 56 (vL [.slice none 0 0, .slice none 0 0, .slice none 0 0, .slice none 0 0, .slice none 0 0]),
        .blk 3 56 [.v (.slice A5 q.length c5), .v (.slice A7 (0 + [W.c0, W.c1, W.c2].length) c7), .v (.slice A11 (0 + [W.m0, W.m1].length) c11), .v (.slice y.2.1 (0 + 1) y.2.2), .v (.slice A15 (0 + W.said.length) c15)],
        .hp 7 (rowO w.heap.size 3 1 A7 (0 + [W.c0, W.c1, W.c2].length) c7 ([] ++ intC [W.c0, W.c1, W.c2])), .hp 11 (rowO w.heap.size 3 1 A11 (0 + [W.m0, W.m1].length) c11 ([] ++ intC [W.m0, W.m1])), .hp 15 (rowO w.heap.size 96 2 A15 (0 + W.said.length) c15 ([] ++ saidC W.said)),
        .hp 40 (rowO w.heap.size 52 1 y.2.1 (0 + 1) y.2.2 ([] ++ [.slice y.1.1 (0 + W.q0.length) y.1.2])), .hp 41 (rowO w.heap.size 3 1 y.1.1 (0 + W.q0.length) y.1.2 ([] ++ intC W.q0))] ++ [.hp 1 emptyHP]) (fun _ => G1) ?_ ?_
    · refine Ds J J J ?_
      refine Da J J ?_;refine Nt 3 J J J J J J fun back => ?_;refine S_callN 41 Tryz.call61 (c_CloneIntZ _ _ _ (IntsU_le hext.le hv0)) J J J ?_;rintro v5 G5 A5' ⟨A29, c29, base5, rfl, hoq, rfl, rfl⟩ _
      refine S_newRow 41 J J ?_;refine back _ _ _ _ (by kernel_rfl) ?_; clear back
      refine Da J J ?_;refine Nt 4 J J J J J J fun back => ?_;refine S_slice Tk ZT_ok J J J J (by decide) (by decide) J J J J fun b36 => ?_;refine back _ _ _ _ (by kernel_rfl) ?_; clear back
      refine Da J J ?_;refine Nt 5 J J J J J J fun back => ?_;refine S_app1z Tk 40 51 J J J J J J J J J J J J J J (by intro u hu; simp at hu; rcases hu with rfl; rfl) rfl (fun _ _ => rfl) (by omega) (Nat.le_refl _) fun A40 c40 h40 => ?_;refine back _ _ _ _ (by kernel_rfl) ?_; clear back
      refine Da J J ?_;refine Ns 7 J J J J J J J J J ?_;refine DD ?_;refine Va J J ?_;refine S_pick [55, 50, 1, 2, 3, 7, 11, 15, 40, 41, 1] J ?_;exact S_meet ((_, _), _, _) (off_app' (by assumption) h40) J ⟨⟨_, J, J⟩, ⟨_, J, J⟩, ⟨_, J, J⟩, ⟨_, J, J⟩, ⟨_, J, J⟩, ⟨_, J, J⟩, trivial⟩ (.hp (.hp (.blk J J (.blk J J (.blk J J (.hp (.hp (.hp (.hp (.hp (.hp .nil)))))))))))
    rintro ⟨⟨A41, c41⟩, A42, c42⟩ o42
    simp only at o42 ⊢
    refine Va J J ?_;refine S_add J J J J (by omega) ?_;refine Va J J ?_;refine S_next ?_;refine Va J J ?_;refine RT J (by simp) ?_;refine Va J J ?_;refine S_index Tk J J J J J J (by simp) (by simp) ?_;refine Va J J ?_;refine S_load Tk J J J J J (by simpa using gcell_le hext.le hz1.1) ?_;refine Va J J ?_;refine S_cut (α := (Option Addr × Nat) × Option Addr × Nat) (fun y => Off0 y.2.1) (fun y => [(1, b1), (2, b2), (3, b3)]) (fun y => [(43, .val (.int .i64 1)), (42, .val (.int .i64 2)), (41, .val (.slice (some ads) 2 cs')), (1, .ptr 1 0), (2, .ptr 2 0), (3, .ptr 3 0)])
      (fun y => [.hp 55 (regsZ w.heap.size q), .hp 50 (rowO w.heap.size 62 5 A5 q.length c5 (procZ q)), .blk 1 56 (vL [.slice Ap W.procs.length cp, .slice Ac [W.c0, W.c1, W.c2].length cc, .slice Ar [W.m0, W.m1].length cr, .slice (some ads) [W.q0, W.q1].length cs', .slice Ad W.said.length cd]), .blk 2 56 (vL [.slice none 0 0, .slice none 0 0, .slice none 0 0, .slice none 0 0, .slice none 0 0]),
        .blk 3 56 [.v (.slice A5 q.length c5), .v (.slice A7 (0 + [W.c0, W.c1, W.c2].length) c7), .v (.slice A11 (0 + [W.m0, W.m1].length) c11), .v (.slice y.2.1 ((0 + 1) + 1) y.2.2), .v (.slice A15 (0 + W.said.length) c15)],
        .hp 7 (rowO w.heap.size 3 1 A7 (0 + [W.c0, W.c1, W.c2].length) c7 ([] ++ intC [W.c0, W.c1, W.c2])), .hp 11 (rowO w.heap.size 3 1 A11 (0 + [W.m0, W.m1].length) c11 ([] ++ intC [W.m0, W.m1])), .hp 15 (rowO w.heap.size 96 2 A15 (0 + W.said.length) c15 ([] ++ saidC W.said)),
        .hp 40 (rowO w.heap.size 52 1 y.2.1 ((0 + 1) + 1) y.2.2 (([] ++ [.slice A41 (0 + W.q0.length) c41]) ++ [.slice y.1.1 (0 + W.q1.length) y.1.2])), .hp 43 (rowO w.heap.size 3 1 y.1.1 (0 + W.q1.length) y.1.2 ([] ++ intC W.q1))] ++ [.hp 41 (rowO w.heap.size 3 1 A41 (0 + W.q0.length) c41 ([] ++ intC W.q0)), .hp 1 emptyHP]) (fun _ => G1) ?_ ?_
    · refine Ds J J J ?_
      refine Da J J ?_;refine Nt 3 J J J J J J fun back => ?_;refine S_callN 43 Tryz.call61 (c_CloneIntZ _ _ _ (IntsU_le hext.le hv1)) J J J ?_;rintro v5 G5 A5' ⟨A29, c29, base5, rfl, hoq, rfl, rfl⟩ _
      refine S_newRow 43 J J ?_;refine back _ _ _ _ (by kernel_rfl) ?_; clear back
      refine Da J J ?_;refine Nt 4 J J J J J J fun back => ?_;refine S_slice Tk ZT_ok J J J J (by decide) (by decide) J J J J fun b36 => ?_;refine back _ _ _ _ (by kernel_rfl) ?_; clear back
      refine Da J J ?_;refine Nt 5 J J J J J J fun back => ?_;refine S_app1z Tk 40 51 J J J J J J J J J J J J J J (by intro u hu; simp at hu; rcases hu with rfl; rfl) rfl (fun _ _ => rfl) (by omega) (Nat.le_refl _) fun A40 c40 h40 => ?_;refine back _ _ _ _ (by kernel_rfl) ?_; clear back
      refine Da J J ?_;refine Ns 7 J J J J J J J J J ?_;refine DD ?_;refine Va J J ?_;refine S_pick [55, 50, 1, 2, 3, 7, 11, 15, 40, 43, 41, 1] J ?_;exact S_meet ((_, _), _, _) (off_app' (by assumption) h40) J ⟨⟨_, J, J⟩, ⟨_, J, J⟩, ⟨_, J, J⟩, ⟨_, J, J⟩, ⟨_, J, J⟩, ⟨_, J, J⟩, trivial⟩ (.hp (.hp (.blk J J (.blk J J (.blk J J (.hp (.hp (.hp (.hp (.hp (.hp (.hp .nil))))))))))))
    rintro ⟨⟨A43, c43⟩, A44, c44⟩ o44
    simp only at o44 ⊢
    refine Va J J ?_;refine S_add J J J J (by omega) ?_;refine Va J J ?_;refine S_next ?_;refine Va J J ?_;refine RF J (by simp) ?_;refine Va J J ?_;refine S_pick [55, 50, 1, 2, 3, 7, 11, 15, 40, 43, 41, 1] J ?_;refine S_capO 50 J fun hnP hmP _ => ?_;refine S_someO 50 J (by (try simp at hnP); (try simp only); omega) fun gP oP eA => ?_;obtain rfl : oP = 0 := off0_eq (hoff) eA
    subst eA
    refine S_rowB 50 74 J J J fun spP => ?_;refine S_capO 7 J fun hnC hmC _ => ?_;refine S_someO 7 J (by (try simp at hnC); (try simp only); omega) fun gC oC eA => ?_;obtain rfl : oC = 0 := off0_eq (o7) eA
    subst eA
    refine S_rowB 7 71 J J J fun spC => ?_;refine S_capO 11 J fun hnR hmR _ => ?_;refine S_someO 11 J (by (try simp at hnR); (try simp only); omega) fun gR oR eA => ?_;obtain rfl : oR = 0 := off0_eq (o11) eA
    subst eA
    refine S_rowB 11 72 J J J fun spR => ?_;refine S_capO 40 J fun hnS hmS _ => ?_;refine S_someO 40 J (by (try simp at hnS); (try simp only); omega) fun gS oS eA => ?_;obtain rfl : oS = 0 := off0_eq (o44) eA
    subst eA
    refine S_rowB 40 73 J J J fun spS => ?_;refine S_base0 15 J J ?_;refine S_base0 41 J J ?_;refine S_base0 43 J J ?_;obtain ⟨hqd1, hqd2⟩ := hqd
    obtain ⟨ps, w1, w2, w3, w4, w5, w6, w7, w8⟩ := W
    simp only at hq hqd1 hn hnP
    subst hqd1
    rcases (by rw [List.length_map] at hn; omega : q.length = 1 ∨ q.length = 2 ∨ q.length = 3) with h1 | h1 | h1
    · obtain ⟨⟨Aa, ca, ta, pa⟩, rfl⟩ := len1 h1
      refine S_unpair 55 500 600 J J ?_;refine S_capO 500 J fun hna hma _ => ?_;refine S_someO 500 J (by (try simp at hna); (try simp only); omega) fun ga oa eA => ?_;obtain rfl : oa = 0 := off0_eq ((hqd2 ⟨Aa, ca, ta, pa⟩ (by simp)).2) eA
      subst eA
      refine S_rowB 500 60 J J J fun spa => ?_
      simp only at hna hma
      exact RK [74, 71, 72, 73, 15, 41, 43, 60] (Res.c1 Tk Tryz.results31 J J) ⟨_, [ta], J, J, ⟨(hqd2 _ (List.mem_cons_self ..)).1, trivial⟩⟩ ⟨gP, gC, gR, gS, [ga], ⟨c5, spP, A15, c15, A41, c41, A43, c43, c7, spC, c11, spR, c44, spS, kg3 ca 3 3, sp3 spa [] []⟩, ⟨0 + w8.length, [] ++ saidC w8, 0 + w6.length, [] ++ intC w6, 0 + w7.length, [] ++ intC w7⟩, J, ⟨⟨by simpa using hnP, hmP⟩, ⟨by simpa using hnC, hmC⟩, ⟨by simpa using hnR, hmR⟩, ⟨by simpa using hnS, hmS⟩, kg3_ok ⟨by simpa using hna, hma⟩ ⟨by decide, by decide⟩ ⟨by decide, by decide⟩⟩, ⟨⟨by simp, by simp⟩, ⟨by simp, by simp⟩, by simp, by simp⟩, J, J, J⟩ J (Wsub 5 J J J J J J J J J J J J J J J J (Bs 3 J J J J .nil)) hext
    · obtain ⟨⟨Aa, ca, ta, pa⟩, ⟨Ab, cb, tb, pb⟩, rfl⟩ := len2 h1
      refine S_unpair 55 501 601 J J ?_;refine S_capO 501 J fun hnb hmb _ => ?_;refine S_someO 501 J (by (try simp at hnb); (try simp only); omega) fun gb ob eA => ?_;obtain rfl : ob = 0 := off0_eq ((hqd2 ⟨Ab, cb, tb, pb⟩ (by simp)).2) eA
      subst eA
      refine S_rowB 501 61 J J J fun spb => ?_
      simp only at hnb hmb
      refine S_unpair 601 500 600 J J ?_;refine S_capO 500 J fun hna hma _ => ?_;refine S_someO 500 J (by (try simp at hna); (try simp only); omega) fun ga oa eA => ?_;obtain rfl : oa = 0 := off0_eq ((hqd2 ⟨Aa, ca, ta, pa⟩ (by simp)).2) eA
      subst eA
      refine S_rowB 500 60 J J J fun spa => ?_
      simp only at hna hma
      exact RK [74, 71, 72, 73, 15, 41, 43, 60, 61] (Res.c1 Tk Tryz.results31 J J) ⟨_, [ta, tb], J, J, ⟨(hqd2 _ (List.mem_cons_self ..)).1, ⟨(hqd2 _ (List.mem_cons_of_mem _ (List.mem_cons_self ..))).1, trivial⟩⟩⟩ ⟨gP, gC, gR, gS, [ga, gb], ⟨c5, spP, A15, c15, A41, c41, A43, c43, c7, spC, c11, spR, c44, spS, kg3 ca cb 3, sp3 spa spb []⟩, ⟨0 + w8.length, [] ++ saidC w8, 0 + w6.length, [] ++ intC w6, 0 + w7.length, [] ++ intC w7⟩, J, ⟨⟨by simpa using hnP, hmP⟩, ⟨by simpa using hnC, hmC⟩, ⟨by simpa using hnR, hmR⟩, ⟨by simpa using hnS, hmS⟩, kg3_ok ⟨by simpa using hna, hma⟩ ⟨by simpa using hnb, hmb⟩ ⟨by decide, by decide⟩⟩, ⟨⟨by simp, by simp⟩, ⟨by simp, by simp⟩, by simp, by simp⟩, J, J, J⟩ J (Wsub 10 J J J J J J J J J J J J J J J J (Bs 3 J J J J (Bs 3 J J J J .nil))) hext
    · obtain ⟨⟨Aa, ca, ta, pa⟩, ⟨Ab, cb, tb, pb⟩, ⟨Ad, cd, td, pd⟩, rfl⟩ := len3 h1
      refine S_unpair 55 502 602 J J ?_;refine S_capO 502 J fun hnd hmd _ => ?_;refine S_someO 502 J (by (try simp at hnd); (try simp only); omega) fun gd od eA => ?_;obtain rfl : od = 0 := off0_eq ((hqd2 ⟨Ad, cd, td, pd⟩ (by simp)).2) eA
      subst eA
      refine S_rowB 502 62 J J J fun spd => ?_
      simp only at hnd hmd
      refine S_unpair 602 501 601 J J ?_;refine S_capO 501 J fun hnb hmb _ => ?_;refine S_someO 501 J (by (try simp at hnb); (try simp only); omega) fun gb ob eA => ?_;obtain rfl : ob = 0 := off0_eq ((hqd2 ⟨Ab, cb, tb, pb⟩ (by simp)).2) eA
      subst eA
      refine S_rowB 501 61 J J J fun spb => ?_
      simp only at hnb hmb
      refine S_unpair 601 500 600 J J ?_;refine S_capO 500 J fun hna hma _ => ?_;refine S_someO 500 J (by (try simp at hna); (try simp only); omega) fun ga oa eA => ?_;obtain rfl : oa = 0 := off0_eq ((hqd2 ⟨Aa, ca, ta, pa⟩ (by simp)).2) eA
      subst eA
      refine S_rowB 500 60 J J J fun spa => ?_
      simp only at hna hma
      exact RK [74, 71, 72, 73, 15, 41, 43, 60, 61, 62] (Res.c1 Tk Tryz.results31 J J) ⟨_, [ta, tb, td], J, J, ⟨(hqd2 _ (List.mem_cons_self ..)).1, ⟨(hqd2 _ (List.mem_cons_of_mem _ (List.mem_cons_self ..))).1, ⟨(hqd2 _ (List.mem_cons_of_mem _ (List.mem_cons_of_mem _ (List.mem_cons_self ..)))).1, trivial⟩⟩⟩⟩ ⟨gP, gC, gR, gS, [ga, gb, gd], ⟨c5, spP, A15, c15, A41, c41, A43, c43, c7, spC, c11, spR, c44, spS, kg3 ca cb cd, sp3 spa spb spd⟩, ⟨0 + w8.length, [] ++ saidC w8, 0 + w6.length, [] ++ intC w6, 0 + w7.length, [] ++ intC w7⟩, J, ⟨⟨by simpa using hnP, hmP⟩, ⟨by simpa using hnC, hmC⟩, ⟨by simpa using hnR, hmR⟩, ⟨by simpa using hnS, hmS⟩, kg3_ok ⟨by simpa using hna, hma⟩ ⟨by simpa using hnb, hmb⟩ ⟨by simpa using hnd, hmd⟩⟩, ⟨⟨by simp, by simp⟩, ⟨by simp, by simp⟩, by simp, by simp⟩, J, J, J⟩ J (Wsub 15 J J J J J J J J J J J J J J J J (Bs 3 J J J J (Bs 3 J J J J (Bs 3 J J J J .nil)))) hext
end
section
open Go.Shelf
def Tryz.lays156_ren : Go.Shelf.Ren := ⟨fun | 156 => 108 | 165 => 112 | 166 => 113 | 169 => 114 | 240 => 116 | 241 => 117 | 276 => 122 | 277 => 123 | n => n, fun | 31 => 79 | 9 => 9 | 3 => 3 | 4 => 4 | 0 => 0 | 20 => 20 | 72 => 167 | 76 => 170 | 70 => 165 | 37 => 147 | 75 => 169 | 127 => 174 | 164 => 181 | 5 => 5 | 80 => 172 | n => n, fun | n => n⟩
theorem Tryz.lays156 : Go.Proofs.Lays.n156 Tryz.prog Tryz.lays156_ren := {
 mixed := by kernel_rfl
 f156 := Tryz.func108.trans (congrArg some (by kernel_rfl))
 f165 := Tryz.func112.trans (congrArg some (by kernel_rfl))
 f166 := Tryz.func113.trans (congrArg some (by kernel_rfl))
 f169 := Tryz.func114.trans (congrArg some (by kernel_rfl))
 f240 := Tryz.func116.trans (congrArg some (by kernel_rfl))
 f241 := Tryz.func117.trans (congrArg some (by kernel_rfl))
 f276 := Tryz.func122.trans (congrArg some (by kernel_rfl))
 f277 := Tryz.func123.trans (congrArg some (by kernel_rfl))
 t0 := Tryz.underlying0
 a0 := Tryz.isAgg0
 z0 := Tryz.sizeOf0
 v0 := Tryz.zeroValue0
 t3 := Tryz.underlying3
 a3 := Tryz.isAgg3
 z3 := Tryz.sizeOf3
 v3 := Tryz.zeroValue3
 t4 := Tryz.underlying4
 a4 := Tryz.isAgg4
 z4 := Tryz.sizeOf4
 v4 := Tryz.zeroValue4
 t9 := Tryz.underlying9
 a9 := Tryz.isAgg9
 z9 := Tryz.sizeOf9
 v9 := Tryz.zeroValue9
 t20 := Tryz.underlying20
 a20 := Tryz.isAgg20
 z20 := Tryz.sizeOf20
 v20 := Tryz.zeroValue20
 t31 := Tryz.underlying79
 a31 := Tryz.isAgg79
 z31 := Tryz.sizeOf79
 v31 := Tryz.zeroValue79
 t37 := Tryz.underlying147
 a37 := Tryz.isAgg147
 z37 := Tryz.sizeOf147
 v37 := Tryz.zeroValue147
 t70 := Tryz.underlying165
 a70 := Tryz.isAgg165
 z70 := Tryz.sizeOf165
 v70 := Tryz.zeroValue165
 t72 := Tryz.underlying167
 a72 := Tryz.isAgg167
 z72 := Tryz.sizeOf167
 v72 := Tryz.zeroValue167
 t75 := Tryz.underlying169
 a75 := Tryz.isAgg169
 z75 := Tryz.sizeOf169
 v75 := Tryz.zeroValue169
 t76 := Tryz.underlying170
 a76 := Tryz.isAgg170
 z76 := Tryz.sizeOf170
 v76 := Tryz.zeroValue170
 t127 := Tryz.underlying174
 a127 := Tryz.isAgg174
 z127 := Tryz.sizeOf174
 v127 := Tryz.zeroValue174
 t164 := Tryz.underlying181
 a164 := Tryz.isAgg181
 z164 := Tryz.sizeOf181
 v164 := Tryz.zeroValue181 }
theorem Tryz.Builder_Extra_156 : Builder.Extra Tryz.prog Tryz.lays156_ren := {
 sizeBuilder := by kernel_rfl
 liesBuilder := by kernel_rfl
 t5 := Tryz.underlying5
 a5 := Tryz.isAgg5
 z5 := Tryz.sizeOf5
 v5 := Tryz.zeroValue5
 infoByte := by kernel_rfl
 cellsByte := by kernel_rfl
 sizeByte := by kernel_rfl
 neB5 := by decide }
open Go.RowKit in
theorem Tryz.strings_Join_none (a : Option Addr) (c : Nat) (sep : ByteArray) (w : World) :
  Calls Tryz.prog 108 #[.slice a 0 c, .string sep] w fun e w' => e = .returned (.string ⟨#[]⟩) ∧ w' = w := Any.strings_Join_none Tryz.lays156 Tryz.Builder_Extra_156 a c sep w
open Go.RowKit in
theorem Tryz.strings_Join (bk o c : Nat) (xs : List ByteArray) (sep : ByteArray) (w : World) (hcells : ∀ (j : Nat) x, xs[j]? = some x → w.cell? ⟨bk, o + j, none⟩ = some (.string x)) (hbk : bk < w.heap.size) (hN : xs.length ≤ 140737488355328) (hcap : xs.length ≤ c) (hlen : (Lib.join (xs.map (·.data.toList)) sep.data.toList).length ≤ 140737488355328) :
  Calls Tryz.prog 108 #[.slice (some ⟨bk, o, none⟩) xs.length c, .string sep] w fun e w' => e = .returned (.string ⟨(Lib.join (xs.map (·.data.toList)) sep.data.toList).toArray⟩) ∧ Below w.heap.size w w' := Any.strings_Join Tryz.lays156 Tryz.Builder_Extra_156 bk o c xs sep w hcells hbk hN hcap hlen
def Tryz.laysM171_ren : Go.Shelf.Ren := ⟨fun | 171 => 107 | 243 => 111 | 246 => 115 | 283 => 118 | 284 => 119 | 285 => 120 | 286 => 121 | 129 => 125 | 317 => 124 | 318 => 126 | 319 => 127 | 320 => 128 | 337 => 129 | 338 => 130 | n => n, fun | 3 => 3 | 9 => 9 | 2 => 2 | 4 => 4 | 171 => 175 | 0 => 0 | 53 => 176 | 37 => 147 | 5 => 5 | 173 => 179 | 212 => 184 | 51 => 185 | 20 => 20 | 213 => 186 | 46 => 187 | 232 => 190 | 233 => 191 | n => n, fun | 17 => 0 | 18 => 2 | 19 => 3 | n => n⟩
theorem Tryz.laysM171 : Go.Proofs.LaysM.n171 Tryz.prog Tryz.laysM171_ren := {
 mixed := by kernel_rfl
 f129 := Tryz.func125.trans (congrArg some (by kernel_rfl))
 f171 := Tryz.func107.trans (congrArg some (by kernel_rfl))
 f243 := Tryz.func111.trans (congrArg some (by kernel_rfl))
 f246 := Tryz.func115.trans (congrArg some (by kernel_rfl))
 f283 := Tryz.func118.trans (congrArg some (by kernel_rfl))
 f284 := Tryz.func119.trans (congrArg some (by kernel_rfl))
 f285 := Tryz.func120.trans (congrArg some (by kernel_rfl))
 f286 := Tryz.func121.trans (congrArg some (by kernel_rfl))
 f317 := Tryz.func124.trans (congrArg some (by kernel_rfl))
 f318 := Tryz.func126.trans (congrArg some (by kernel_rfl))
 f319 := Tryz.func127.trans (congrArg some (by kernel_rfl))
 f320 := Tryz.func128.trans (congrArg some (by kernel_rfl))
 f337 := Tryz.func129.trans (congrArg some (by kernel_rfl))
 f338 := Tryz.func130.trans (congrArg some (by kernel_rfl))
 t0 := Tryz.underlying0
 a0 := Tryz.isAgg0
 z0 := Tryz.sizeOf0
 v0 := Tryz.zeroValue0
 t2 := Tryz.underlying2
 a2 := Tryz.isAgg2
 z2 := Tryz.sizeOf2
 v2 := Tryz.zeroValue2
 t3 := Tryz.underlying3
 a3 := Tryz.isAgg3
 z3 := Tryz.sizeOf3
 v3 := Tryz.zeroValue3
 t4 := Tryz.underlying4
 a4 := Tryz.isAgg4
 z4 := Tryz.sizeOf4
 v4 := Tryz.zeroValue4
 t5 := Tryz.underlying5
 a5 := Tryz.isAgg5
 z5 := Tryz.sizeOf5
 v5 := Tryz.zeroValue5
 t9 := Tryz.underlying9
 a9 := Tryz.isAgg9
 z9 := Tryz.sizeOf9
 v9 := Tryz.zeroValue9
 t20 := Tryz.underlying20
 a20 := Tryz.isAgg20
 z20 := Tryz.sizeOf20
 v20 := Tryz.zeroValue20
 t37 := Tryz.underlying147
 a37 := Tryz.isAgg147
 z37 := Tryz.sizeOf147
 v37 := Tryz.zeroValue147
 t46 := Tryz.underlying187
 a46 := Tryz.isAgg187
 z46 := Tryz.sizeOf187
 v46 := Tryz.zeroValue187
 t51 := Tryz.underlying185
 a51 := Tryz.isAgg185
 z51 := Tryz.sizeOf185
 v51 := Tryz.zeroValue185
 t53 := Tryz.underlying176
 a53 := Tryz.isAgg176
 z53 := Tryz.sizeOf176
 v53 := Tryz.zeroValue176
 t171 := Tryz.underlying175
 a171 := Tryz.isAgg175
 z171 := Tryz.sizeOf175
 v171 := Tryz.zeroValue175
 t173 := Tryz.underlying179
 a173 := Tryz.isAgg179
 z173 := Tryz.sizeOf179
 v173 := Tryz.zeroValue179
 t212 := Tryz.underlying184
 a212 := Tryz.isAgg184
 z212 := Tryz.sizeOf184
 v212 := Tryz.zeroValue184
 t213 := Tryz.underlying186
 a213 := Tryz.isAgg186
 z213 := Tryz.sizeOf186
 t232 := Tryz.underlying190
 a232 := Tryz.isAgg190
 z232 := Tryz.sizeOf190
 v232 := Tryz.zeroValue190
 t233 := Tryz.underlying191
 a233 := Tryz.isAgg191
 z233 := Tryz.sizeOf191
 v233 := Tryz.zeroValue191
 g17 := by kernel_rfl
 g18 := by kernel_rfl
 g19 := by kernel_rfl
 i0 := by kernel_rfl
 i2 := by kernel_rfl
 i3 := by kernel_rfl
 i4 := by kernel_rfl
 i5 := by kernel_rfl
 i9 := by kernel_rfl
 i20 := by kernel_rfl
 i37 := by kernel_rfl
 i46 := by kernel_rfl
 i51 := by kernel_rfl
 i53 := by kernel_rfl
 i171 := by kernel_rfl
 i173 := by kernel_rfl
 i212 := by kernel_rfl
 i232 := by kernel_rfl
 i233 := by kernel_rfl
 m17 := by kernel_rfl
 m18 := by kernel_rfl
 m19 := by kernel_rfl }
open Go.RowKit Go.Sort Go.Lib in
theorem Tryz.strconv_Itoa (n : Int) (h0 : -9223372036854775808 ≤ n) (h1 : n ≤ 9223372036854775807) (w : World) (htab : Lib.TabIs Tryz.prog w "internal/strconv.uint64pow10" .u64 Lib.pow10Tab) :
  Calls Tryz.prog 107 #[.int .i64 n] w fun e w' => e = .returned (.string ⟨(Lib.itoa n).toArray⟩) ∧ ∃ k os, w' = grow (w.drewN k) os := Any.strconv_Itoa Tryz.laysM171 n h0 h1 w htab
end
end Go.Proofs.YtcbdilccmjpnbaaGreatDoor
