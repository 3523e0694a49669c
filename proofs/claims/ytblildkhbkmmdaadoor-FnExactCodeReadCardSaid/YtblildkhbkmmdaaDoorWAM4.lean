/- Walks of the program's functions, one after the other (part 4); without conditions of their own. -/
import Derived.Test.YtblildkhbkmmdaaDoorWAM2
import Derived.Test.YtblildkhbkmmdaaDoorWAM3
import Derived.Lib.AtoiErrMem
import Derived.Lib.ItoaLen
import Derived.Lib.SplitLaws
set_option linter.unusedVariables false
set_option linter.unusedSimpArgs false
set_option maxRecDepth 100000
set_option maxHeartbeats 4000000
open Go.RowKit
namespace Go.Proofs.YtblildkhbkmmdaaDoor
section
open Go.Lib (itoa decDigits)
attribute [local irreducible] X Pure Mod
theorem V_neg {C : Ctx} {E : Env} {ι : Ids} {L : List Ent} {G : PH} {d : Option Nat} {ty : Nat} {pos : String} {af : Array Edge} {g : Option (Nat × Bool)} {t : Nat} {x : Operand} {p : Int} (hx : ev E x = some (.val (.int .i64 p))) (hb : -9223372036854775808 ≤ -p ∧ -p ≤ 9223372036854775807) : Vl C ι E L G ⟨d, .unOp .neg t x, ty, pos, af, g⟩ (.int .i64 (-p)) := by
 intro a w hE _
 have ex := ev_sound hE hx
 simp only [denO, Option.some.injEq] at ex
 have hwr : IntKind.i64.wrap (-p) = -p := by rw [IntKind.wrap_i64]; omega
 simp only [execOp, ← ex]
 simp [Op.unary, Op.intArith, hwr]
theorem u_intT : Tryd.prog.underlying 3 = some (.int .i64) := by kernel_rfl
theorem u_byte : Tryd.prog.underlying 5 = some (.int .u8) := by kernel_rfl
theorem u_bytes : Tryd.prog.underlying 68 = some (.slice 5) := by kernel_rfl
theorem u_str : Tryd.prog.underlying 9 = some .string := by kernel_rfl
theorem digit_u8 {m : Int} (h0 : 0 ≤ m) (h1 : m < 10) : IntKind.u8.wrap (48 + m) = 48 + m := by
 simp [IntKind.wrap, IntKind.bits, IntKind.signed]
 omega
theorem dig_cell {G : PH} {b : Nat} {m : Int} (h0 : 0 ≤ m) (h1 : m < 10) (h : gcells G ⟨b, 0, none⟩ [.int .u8 (48 + m)]) : ∀ j (hj : j < [UInt8.ofNat (48 + m.toNat)].length), gcell G ((⟨b, 0, none⟩ : Addr).add j) = some (.int .u8 ([UInt8.ofNat (48 + m.toNat)][j].toNat : Int)) := by
 intro j hj
 obtain rfl : j = 0 := by simpa using hj
 rw [List.getElem_cons_zero, UInt8.toNat_ofNat', show ((48 + m.toNat) % 2 ^ 8 : Nat) = 48 + m.toNat by omega, show ((48 + m.toNat : Nat) : Int) = 48 + m by omega]
 exact h.1
theorem c_l11DecN (u : Nat) (hu : u ≤ 9223372036854775807) (G : PH) : Pure Tryd.prog 23 [.int .i64 (u : Nat)] G fun v G' => v = tx (decDigits u) := by
 refine Pure.intro Tryd.func23 Tryd.ntmps23 J J fun w => ?_; refine Va J J ?_;refine RF J (by simp) ?_;refine Va J J ?_;refine RF J (by simp) ?_;refine Va J J ?_;refine S_loop (α := Nat × List UInt8 × PH) (fun y => y.1 ≤ u ∧ decDigits u = decDigits y.1 ++ y.2.1 ∧ PH.ext w.heap.size G y.2.2) (fun y => y.1) []
  (fun y => [(0, .val (.int .i64 (y.1 : Nat))), (3, .val (tx y.2.1))]) (fun _ => []) (fun y => y.2.2) (u, [], G) ⟨Nat.le_refl _, by simp, PH.ext.refl _ _⟩ rfl ⟨⟨_, rfl, rfl⟩, ⟨_, rfl, rfl⟩, trivial⟩ .nil ?_
 rintro ⟨n, out, G1⟩ ⟨hn, hd, hext⟩
 simp only at hn hd hext ⊢
 have hl : out.length ≤ 20 := by
  have h1 := congrArg List.length hd
  have h2 := Lib.nDigits_le20 u (by omega)
  rw [Lib.decDigits_length, List.length_append] at h1
  omega
 refine Va J J ?_
 refine S_condp J (fun h => ?_) (fun h => ?_) <;> refine Va J J ?_
 ·have hm : 0 ≤ (n : Int) % 10 ∧ (n : Int) % 10 < 10 := by omega
  refine S_valV J J J (V_rem J J (by omega) (by decide)) ?_;refine Va J J ?_;refine S_add J J J J (by omega) ?_;refine Va J J ?_
  generalize hme : (n : Int) % 10 = m at hm ⊢
  refine S_valV J J J (V_conv J u_intT u_byte (digit_u8 (by omega) (by omega))) ?_;refine Va J J ?_;refine S_sliceG Tk ZT_ok J J J J (by decide) (by decide) J J J J (fun _ => J) fun bq Gq hxq hcq => ?_;refine Va J J ?_;refine S_valV J J J (V_convT u_bytes u_byte u_str J (dig_cell (by omega) (by omega) hcq)) ?_;refine Va J J ?_;refine S_valV J J J (V_addT (p := [_]) J J J J ?_) ?_
  ·simp only [List.length_singleton]; omega
  refine Va J J ?_;refine S_valV J J J (V_quo J J (by omega) (by omega) (by decide)) ?_;refine Va J J ?_
  have hdd : decDigits n = decDigits (n / 10) ++ [UInt8.ofNat (48 + m.toNat)] := by
   rw [decDigits, dif_neg (by omega), show m.toNat = n % 10 by omega]
  exact S_again (n / 10, [UInt8.ofNat (48 + m.toNat)] ++ out, _) ⟨by simp only; omega, by rw [hd, hdd, List.append_assoc], hext.trans hxq⟩ (by simp only; omega) rfl ⟨⟨_, rfl, by simp [denO]⟩, ⟨_, rfl, rfl⟩, trivial⟩ .nil
 ·obtain ⟨m, rfl⟩ : ∃ m : Nat, m = n := ⟨n, rfl⟩
  refine S_add J J J J (by omega) ?_;refine Va J J ?_
  have hm : 0 ≤ (m : Int) ∧ (m : Int) < 10 := by omega
  refine S_valV J J J (V_conv J u_intT u_byte (digit_u8 (by omega) (by omega))) ?_;refine Va J J ?_;refine S_sliceG Tk ZT_ok J J J J (by decide) (by decide) J J J J (fun _ => J) fun bq Gq hxq hcq => ?_;refine Va J J ?_;refine S_valV J J J (V_convT u_bytes u_byte u_str J (dig_cell (by omega) (by omega) hcq)) ?_;refine Va J J ?_;refine S_valV J J J (V_addT (p := [_]) J J J J ?_) ?_
  ·simp only [List.length_singleton]; omega
  refine Va J J ?_;refine S_retp (Res.t1 Tryd.results23 J J) (hext.trans hxq) ?_
  rw [hd, Lib.decDigits_one (i := m) (by omega)]
  simp
theorem c_l11Dec (n : Int) (hn : I64 n) (G : PH) : Pure Tryd.prog 23 [.int .i64 n] G fun v G' => v = tx (itoa n) := by
 obtain ⟨hn1, hn2⟩ := hn
 by_cases h0 : 0 ≤ n
 ·obtain ⟨u, rfl⟩ := Int.eq_ofNat_of_zero_le h0
  rw [Lib.itoa_nonneg]
  exact c_l11DecN u (by omega) G
 obtain ⟨u, rfl⟩ : ∃ u : Nat, n = -(u : Int) := ⟨n.natAbs, by omega⟩
 rw [Lib.itoa_neg u (by omega)]
 refine Pure.intro Tryd.func23 Tryd.ntmps23 J J fun w => ?_; refine Va J J ?_
 by_cases hmin : u = 9223372036854775808
 ·subst hmin
  refine RT J (by simp) ?_;refine Va J J ?_;refine S_retp (Res.t1 Tryd.results23 J J) XR ?_
  have e : decDigits 9223372036854775808 = [57, 50, 50, 51, 51, 55, 50, 48, 51, 54, 56, 53, 52, 55, 55, 53, 56, 48, 56] := by
   simp [Lib.decDigits]
  rw [e]; rfl
 refine RF J (by simp; omega) ?_;refine Va J J ?_;refine RT J (by simp; omega) ?_;refine Va J J ?_;refine S_valV J J J (V_neg J (by omega)) ?_;refine Va J J ?_
 rw [Int.neg_neg]
 refine S_call Tryd.call23 (c_l11DecN u (by omega) _) J J J ?_;rintro v G1 rfl hext
 refine Va J J ?_;refine S_valV J J J (V_addT (p := [45]) J J J J ?_) ?_
 ·have := Lib.itoa_length_le (u : Int) (by omega) (by omega)
  rw [Lib.itoa_nonneg] at this
  simp only [List.length_singleton]; omega
 refine Va J J ?_;exact S_retp (Res.t1 Tryd.results23 J J) hext J
end
section
attribute [local irreducible] X Pure Mod
def txRep (t : List UInt8) (cs : List Value) : Prop := cs = [tx t]
abbrev Txs (G : PH) (l : List (List UInt8)) (v : Value) : Prop := Sr G 1 txRep l v
theorem Txs_le {G G' : PH} (hl : G.le G') {l : List (List UInt8)} {v : Value} (h : Txs G l v) : Txs G' l v := Sr_mono hl (fun _ _ _ h => h) h
theorem Cs_tx : ∀ l : List (List UInt8), Cs 1 txRep l (l.map tx)
 | [] => rfl
 | t :: l => ⟨[tx t], l.map tx, rfl, rfl, rfl, Cs_tx l⟩
theorem Txs_at {G : PH} {l : List (List UInt8)} {A : Option Addr} {n c : Nat} (h : Txs G l (.slice A n c)) {k : Nat} (hk : k < l.length) : ∃ ad, A = some ad ∧ gcell G (ad.add (k * 1)) = some (tx l[k]) := by
 obtain ⟨ad, cs, rfl, h1, h2⟩ := Sr_at h hk
 obtain rfl : cs = [tx l[k]] := h2
 exact ⟨ad, J, h1.1⟩
structure CUT where
 i : Nat
 f : Nat
 A : Option Addr
 c : Nat
 ds : List (List UInt8)
theorem c_l11Cut (s : List UInt8) (b : UInt8) (G : PH) (hs : s.length ≤ 1048576) : Pure Tryd.prog 9 [tx s, .int .u8 (b.toNat : Int)] G fun v G' => Txs G' (cutB b s) v := by
 refine Pure.intro Tryd.func9 Tryd.ntmps9 J J fun w => ?_; refine Va J J ?_;refine S_emptyO Tk 5 J J J J fun A0 => ?_;refine Va J J ?_;refine S_loop (α := CUT) (fun y => y.i ≤ s.length + 1 ∧ y.f ≤ y.i ∧ y.ds.length ≤ y.i ∧ (y.i ≤ s.length → cutB b s = y.ds ++ cutB b (s.drop y.f) ∧ ∀ j, y.f ≤ j → j < y.i → s[j]? ≠ some b) ∧ (y.i = s.length + 1 → y.ds = cutB b s)) (fun y => s.length + 1 - y.i) []
  (fun y => [(7, .val (.int .i64 (y.i : Nat))), (6, .val (.int .i64 (y.f : Nat))), (5, .val (.slice y.A y.ds.length y.c)), (0, .val (tx s)), (1, .val (.int .u8 (b.toNat : Int)))])
  (fun y => [.hp 5 (rowO w.heap.size 9 1 y.A y.ds.length y.c (y.ds.map tx))]) (fun _ => G) ⟨0, 0, A0, 0, []⟩ ⟨Nat.zero_le _, Nat.le_refl _, Nat.le_refl _, fun _ => ⟨rfl, fun j h1 h2 => (Nat.not_lt_zero j h2).elim⟩, fun h => by simp at h⟩ rfl ⟨⟨_, rfl, rfl⟩, ⟨_, rfl, rfl⟩, ⟨_, rfl, rfl⟩, ⟨_, rfl, rfl⟩, ⟨_, rfl, rfl⟩, trivial⟩ (.hp .nil) ?_
 rintro ⟨i, f, A, cc, ds⟩ ⟨hi, hfi, hdl, hin, hend⟩
 simp only at hi hfi hdl hin hend ⊢
 refine Va J J ?_
 refine S_condp J (fun h5 => ?_) (fun h5 => ?_) <;> refine Va J J ?_
 ·have hil : i ≤ s.length := by simp only [ba_size] at h5; omega
  obtain ⟨hcut, hno⟩ := hin hil
  by_cases he : i = s.length
  ·refine GT J J (by simp [ba_size]; omega) ?_
   refine Va J J ?_;refine S_valV J J J (V_subT u_str J J J hfi hil) ?_;refine Va J J ?_;refine S_slice Tk ZT_ok J J J J (by decide) (by decide) J J J J fun b9 => ?_;refine Va J J ?_;refine S_app1 Tk 5 31 J J J J J J J J J J J J J J (by intro u hu; simp at hu; rcases hu with rfl; rfl) rfl (fun _ _ => rfl) (by omega) (Nat.le_refl _) fun A6 c6 => ?_;refine Va J J ?_;refine S_add J J J J (by omega) ?_
   refine Va J J ?_;refine S_add J J J J (by omega) ?_;refine Va J J ?_;refine S_again ⟨i + 1, i + 1, A6, c6, ds ++ [(s.drop f).take (i - f)]⟩ ⟨by simp only; omega, Nat.le_refl _, by simp; omega, fun h => by simp only at h; omega, fun _ => ?_⟩ (by simp only; omega) rfl ⟨⟨_, rfl, by simp [denO]⟩, ⟨_, rfl, by simp [denO]⟩, ⟨_, rfl, by simp [denO]⟩, ⟨_, rfl, rfl⟩, ⟨_, rfl, rfl⟩, trivial⟩ ?_
   ·subst he
    rw [hcut, cut_end hfi hno]
   ·simp only [List.length_append, List.length_singleton, List.map_append, List.map_cons, List.map_nil]
    first | exact .drop (.hp .nil) | exact .hp .nil
  ·have hlt : i < s.length := by omega
   refine GF J J (by simp [ba_size]; omega) ?_;refine Va J J ?_;refine S_valV J J J (V_idxT u_str J J hlt) ?_;refine Va J J ?_;refine S_valV J J J (V_eq8 J J) ?_;refine Va J J ?_
   by_cases hb : s[i] = b
   ·refine RT J (by simp [hb]) ?_
    refine Va J J ?_;refine S_valV J J J (V_subT u_str J J J hfi hil) ?_;refine Va J J ?_;refine S_slice Tk ZT_ok J J J J (by decide) (by decide) J J J J fun b9 => ?_;refine Va J J ?_;refine S_app1 Tk 5 31 J J J J J J J J J J J J J J (by intro u hu; simp at hu; rcases hu with rfl; rfl) rfl (fun _ _ => rfl) (by omega) (Nat.le_refl _) fun A6 c6 => ?_;refine Va J J ?_;refine S_add J J J J (by omega) ?_
    refine Va J J ?_;refine S_add J J J J (by omega) ?_;refine Va J J ?_;refine S_again ⟨i + 1, i + 1, A6, c6, ds ++ [(s.drop f).take (i - f)]⟩ ⟨by simp only; omega, Nat.le_refl _, by simp; omega, fun _ => ⟨?_, fun j h1 h2 => by simp only at h1 h2; omega⟩, fun h => by simp only at h; omega⟩ (by simp only; omega) rfl ⟨⟨_, rfl, by simp [denO]⟩, ⟨_, rfl, by simp [denO]⟩, ⟨_, rfl, by simp [denO]⟩, ⟨_, rfl, rfl⟩, ⟨_, rfl, rfl⟩, trivial⟩ ?_
    ·simp only
     rw [hcut, cut_step hfi hno (by rw [List.getElem?_eq_getElem hlt, hb]), List.append_assoc]
     rfl
    ·simp only [List.length_append, List.length_singleton, List.map_append, List.map_cons, List.map_nil]
     first | exact .drop (.hp .nil) | exact .hp .nil
   ·refine RF J (by simp; intro h; exact hb (UInt8.toNat_inj.1 (by omega))) ?_
    refine Va J J ?_;refine S_add J J J J (by omega) ?_;refine Va J J ?_;refine S_again ⟨i + 1, f, A, cc, ds⟩ ⟨by simp only; omega, by simp only; omega, by simp only; omega, fun _ => ⟨hcut, fun j h1 h2 => ?_⟩, fun h => by simp only at h; omega⟩ (by simp only; omega) rfl ⟨⟨_, rfl, by simp [denO]⟩, ⟨_, rfl, rfl⟩, ⟨_, rfl, rfl⟩, ⟨_, rfl, rfl⟩, ⟨_, rfl, rfl⟩, trivial⟩ (.hp .nil)
    rcases Nat.lt_or_ge j i with h | h
    ·exact hno j h1 h
    ·obtain rfl : j = i := by simp only at h2; omega
     rw [List.getElem?_eq_getElem hlt]
     simpa using hb
 ·have e0 : i = s.length + 1 := by simp only [ba_size] at h5; omega
  have hl := hend e0
  refine S_freezeR 5 J J (Nat.le_refl _) fun Gf hextf hncf hcmf hclf => ?_;refine S_retp (Res.t1 Tryd.results9 J J) hextf ?_
  rw [← hl]
  exact frz (Cs_tx ds) J (by omega) hncf hcmf hclf
end
section
attribute [local irreducible] X Pure Mod
def VarG (G : PH) (n : String) : Prop := ∃ tp p, ∀ w, Emb G w → w.var? Tryd.prog n = some #[.iface tp p]
def MaxG (G : PH) : Prop := ∃ m, ∀ w, Emb G w → w.cell? ⟨0, 0, none⟩ = some (.int .i64 m)
structure LibG (G : PH) : Prop where
 tab : TabG G
 mx : MaxG G
 es : VarG G "strconv.ErrSyntax"
 er : VarG G "strconv.ErrRange"
theorem emb_le {G G' : PH} (h : G.le G') {w : World} (hw : Emb G' w) : Emb G w := fun b o hb => hw b o (h b o hb)
theorem LibG_le {G G' : PH} (h : G.le G') (hG : LibG G) : LibG G' := by
 obtain ⟨h1, ⟨m, h2⟩, ⟨t3, p3, h3⟩, ⟨t4, p4, h4⟩⟩ := hG
 exact ⟨TabG_le h h1, ⟨m, fun w hw => h2 w (emb_le h hw)⟩, ⟨t3, p3, fun w hw => h3 w (emb_le h hw)⟩, ⟨t4, p4, fun w hw => h4 w (emb_le h hw)⟩⟩
theorem c_Split (s : List UInt8) (b : UInt8) (G : PH) (hs : s.length ≤ 1048576) (hm : MaxG G) : Pure Tryd.prog 13 [tx s, tx [b]] G fun v G' => Txs G' (cutB b s) v := by
 obtain ⟨m, hm⟩ := hm
 have hdat := Lib.splitB_data ⟨[b].toArray⟩ 0 (Lib.countB ⟨s.toArray⟩ ⟨[b].toArray⟩) ⟨s.toArray⟩
 have hlen := Lib.splitB_all ⟨[b].toArray⟩ (by simp [ByteArray.size]) 0 _ ⟨s.toArray⟩ rfl
 have hcut : Lib.splitK [b] 0 (Lib.countB ⟨s.toArray⟩ ⟨[b].toArray⟩) s = cutB b s := split_cut b _ s (Nat.le_refl _)
 simp only [List.toList_toArray] at hdat
 rw [hcut] at hdat
 have hn : (cutB b s).length = Lib.countB ⟨s.toArray⟩ ⟨[b].toArray⟩ + 1 := by rw [← hdat, List.length_map, hlen]
 have hvals : (Lib.splitB ⟨[b].toArray⟩ 0 (Lib.countB ⟨s.toArray⟩ ⟨[b].toArray⟩) ⟨s.toArray⟩).map Value.string = (cutB b s).map tx := by
  rw [← hdat, List.map_map]
  exact List.map_congr_left fun x _ => by simp [tx]
 have hl := cutB_len b s
 have key := pure_alloc (G := G) (f := 13) (vs := [tx s, tx [b]]) (P := Tryd.prog) (u := fun n => .slice (some ⟨n, 0, none⟩) (Lib.countB ⟨s.toArray⟩ ⟨[b].toArray⟩ + 1) (Lib.countB ⟨s.toArray⟩ ⟨[b].toArray⟩ + 1)) (o := .cells ((Lib.splitB ⟨[b].toArray⟩ 0 (Lib.countB ⟨s.toArray⟩ ⟨[b].toArray⟩) ⟨s.toArray⟩).map Value.string).toArray 9) fun w hw => Tryd.strings_Split ⟨s.toArray⟩ ⟨[b].toArray⟩ m w (by simp [ByteArray.size]; omega) (hm w hw) (by simp [ByteArray.size])
 refine key.mono ?_;rintro v G' _ ⟨bk, rfl, hG⟩
 rw [hvals] at hG
 rw [← hn]
 refine frz (G := fun _ => none) (xs := (cutB b s).map tx) (Cs_tx _) J (by omega) (Nat.le_refl _) (by simp only [maxLen]; omega) (.inr ⟨_, rfl, ?_⟩)
 refine gcells_row (cur := ((cutB b s).map tx).toArray) (e := 9) (fr := (0, 0)) (by simp [newp, hG]) _ 0 ?_
 simp only [List.drop_zero, List.toList_toArray]
 exact List.take_of_length_le (by simp)
theorem c_Atoi (s : List UInt8) (G : PH) (hs : s.length ≤ 1048576) (hG : LibG G) : Pure Tryd.prog 26 [tx s] G fun v G' => (match atoiO s with
  | some n => v = .tuple #[.int .i64 n, .nilIface]
  | none => ∃ x t p, v = .tuple #[x, .iface t p]) ∧ G' = G := by
 obtain ⟨_, _, ⟨t3, p3, h3⟩, ⟨t4, p4, h4⟩⟩ := hG
 refine pure_belowE fun w hw => ?_
 unfold atoiO
 have hsz : (⟨s.toArray⟩ : ByteArray).size = s.length := by simp [ByteArray.size]
 rcases h : Lib.atoiAll s with n | _ | _
 ·refine (Tryd.strconv_Atoi_ok ⟨s.toArray⟩ (by rw [hsz]; omega) n (by simpa using h) w).mono ?_
  rintro e w' ⟨rfl, hw'⟩
  refine ⟨_, J, J, ?_⟩
  rcases hw' with rfl | ⟨t, rfl⟩
  ·exact Below.refl _ _
  ·exact Lib.bytesWorld_below w _ t
 ·refine (Tryd.strconv_Atoi_syntax_var ⟨s.toArray⟩ (by rw [hsz]; omega) (by simpa using h) t3 p3 w (h3 w hw)).mono ?_
  rintro e w' ⟨N, rfl, _, _, hb⟩
  exact ⟨_, J, ⟨_, _, _, J⟩, hb⟩
 ·refine (Tryd.strconv_Atoi_range_var ⟨s.toArray⟩ (by rw [hsz]; omega) (by simpa using h) t4 p4 w (h4 w hw)).mono ?_
  rintro e w' ⟨N, rfl, _, _, hb⟩
  exact ⟨_, J, ⟨_, _, _, J⟩, hb⟩
theorem c_bMul (x y : Nat) (hx : x < 18446744073709551616) (hy : y < 18446744073709551616) (G : PH) : Pure Tryd.prog 56 [.int .u64 (x : Nat), .int .u64 (y : Nat)] G fun v G' => v = .tuple #[.int .u64 ((x * y / 18446744073709551616 : Nat) : Int), .int .u64 ((x * y % 18446744073709551616 : Nat) : Int)] ∧ G' = G :=
 pure_below fun w hw => (Tryd.bits_Mul x y hx hy w).mono fun e w' ⟨he, hw'⟩ => ⟨he, hw' ▸ Below.refl _ _⟩
theorem u_insForms : Tryd.prog.underlying 50 = some (.map 3 53) := by kernel_rfl
def limA (k : Nat) : Int := if k ≤ 6 then 3 else if k = 7 then 0 else if k ≤ 11 then 2 else 0
def limB (k : Nat) : Int := if 2 ≤ k ∧ k ≤ 4 then 3 else 0
def fmI (k : Nat) : Value := .agg #[tx (wordN k), .int .i64 (limA k), .int .i64 (limB k), .bool (hasN (k : Nat)), .bool (decide (k = 6) || decide (k = 7))]
def formE : List MapEntry := (List.range 13).map fun k => ⟨.int .i64 ((k + 1 : Nat) : Int), fmI (k + 1), k⟩
theorem formE_keys : ∀ e ∈ formE, ∃ y, e.key = .int .i64 y := by
 intro e he
 obtain ⟨k, _, rfl⟩ := List.mem_map.1 he
 exact ⟨_, J⟩
theorem formE_find (k : Nat) (h1 : 1 ≤ k) (h2 : k ≤ 13) : findI (k : Nat) formE = some (fmI k) := by
 have : k = 1 ∨ k = 2 ∨ k = 3 ∨ k = 4 ∨ k = 5 ∨ k = 6 ∨ k = 7 ∨ k = 8 ∨ k = 9 ∨ k = 10 ∨ k = 11 ∨ k = 12 ∨ k = 13 := by omega
 rcases this with rfl | rfl | rfl | rfl | rfl | rfl | rfl | rfl | rfl | rfl | rfl | rfl | rfl <;> rfl
theorem formE_none (x : Int) (h : ¬ (1 ≤ x ∧ x ≤ 13)) : findI x formE = none := by
 refine findI_none fun e he => ?_;obtain ⟨k, hk, rfl⟩ := List.mem_map.1 he
 have := List.mem_range.1 hk
 exact ⟨_, J, by omega⟩
theorem c_insForms (G : PH) : Pure Tryd.prog 25 [] G fun v G' => ∃ b es, v = .map (some b) ∧ G' b = some (.map es 13) ∧ es.toList = formE := by
 refine Pure.intro Tryd.func25 Tryd.ntmps25 J J fun w => ?_; refine Va J J ?_;refine S_makeMap 1 J J fun b => ?_;refine Va J J ?_
 iterate 13
  refine S_insert 1 u_insForms u_int J J J J J J J ?_;refine Va J J ?_
 refine S_freezeO 1 J J (fun _ h => h) fun hext => ?_;exact S_retP Tryd.results25 J J hext ⟨b, _, J, PH.add_self _ _ _, J⟩
end
section
attribute [local irreducible] X Pure Mod
theorem u_uint : Tryd.prog.underlying 89 = some (.int .u64) := by kernel_rfl
def filled (n f : Nat) (x : Int) : List Int := List.replicate f x ++ List.replicate (n - f) 0
theorem filled_step {n f m : Nat} {x : Int} (h : f + m ≤ n) : ((intC (filled n f x)).take f ++ intC (List.replicate m x) ++ (intC (filled n f x)).drop (f + m)) = intC (filled n (f + m) x) := by
 unfold filled
 rw [intC_append, List.take_left' (by rw [intC_length, List.length_replicate]), List.drop_append, List.drop_eq_nil_of_le (by rw [intC_length, List.length_replicate]; omega), intC_length, List.length_replicate]
 rw [show f + m - f = m by omega, List.nil_append, intC_append, intC_map (List.replicate (f + m) x), ← List.replicate_append_replicate, List.map_append, ← intC_map, ← intC_map]
 congr 1
 rw [intC_map, intC_map, ← List.map_drop, List.drop_replicate, show n - f - m = n - (f + m) by omega]
theorem filled_take {n f m : Nat} {x : Int} (h : m ≤ f) : (intC (filled n f x)).take m = intC (List.replicate m x) := by
 unfold filled
 rw [intC_append, List.take_append_of_le_length (by rw [intC_length, List.length_replicate]; omega), intC_map, intC_map, ← List.map_take, List.take_replicate, Nat.min_eq_left h]
theorem filled_zero (n : Nat) (x : Int) : intC (filled n 0 x) = repL n [.int .i64 0] := by
 unfold filled
 rw [List.replicate_zero, List.nil_append, Nat.sub_zero, intC_map, List.map_replicate]
 induction n with
 | zero => rfl
 | succ n ih => rw [List.replicate_succ, repL, ← ih]; rfl
theorem c_Repeat (x : Int) (n : Nat) (v : Value) (G : PH) (hv : Ints G [x] v) (h1 : 1 ≤ n) (hn : n ≤ 1000000) : Mod Tryd.prog 41 [v, .int .i64 (n : Nat)] G emptyHP fun v' G' A' => G' = G ∧ ∃ g base, v' = .slice (some ⟨g, 0, none⟩) n n ∧ A' = rowO base 3 1 (some ⟨g, 0, none⟩) n n (intC (List.replicate n x)) := by
 obtain ⟨Av, cv, rfl, _, hcv1, hcv2, _⟩ := id hv
 obtain ⟨ad, cs, rfl, hcell, rfl, _⟩ := Sr_at hv (k := 0) (by simp)
 have e0 : ad.add (0 * 1) = ad := by
  rw [Nat.zero_mul]
  unfold Addr.add
  split <;> simp_all
 refine Mod.introE Tryd.func41 Tryd.ntmps41 J J fun w => ?_;refine Va J J ?_;refine RF J (by simp) ?_;refine Va J J ?_;refine S_valV J J J (V_conv J u_intT u_uint (p := 1) (by decide)) ?_;refine Va J J ?_;refine S_valV J J J (V_conv J u_intT u_uint (p := (n : Nat)) (by simp [IntKind.wrap, IntKind.bits, IntKind.signed]; omega)) ?_;refine Va J J ?_;refine S_call Tryd.call56 (c_bMul 1 n (by omega) (by omega) G) J J J ?_
 rintro v1 G1 ⟨rfl, rfl⟩ _
 rw [show 1 * n / 18446744073709551616 = 0 by omega, show 1 * n % 18446744073709551616 = n by omega]
 refine Va J J ?_;refine S_valV J J J (V_gtK J J) ?_;refine Va J J ?_;refine GF J J (by decide) ?_;refine Va J J ?_;refine S_valV J J J (V_gtK J J) ?_;refine Va J J ?_;refine RF J (by simp; omega) ?_;refine Va J J ?_;refine S_valV J J J (V_conv J u_uint u_intT (p := (n : Nat)) (by rw [IntKind.wrap_i64]; omega)) ?_;refine Va J J ?_;refine S_make Tk ZT_ok J J J J J J (by simp; omega) (by omega) rfl rfl rfl fun b30 => ?_
 refine Va J J ?_;refine S_blkO 30 7 (base := 0) (n := n) (c := n) (o := 0) (sz := 1) (xs := intC (filled n 0 x)) J J (denL_vL _ _) J (.inr (.inl J)) (by rw [filled_zero]; exact List.take_of_length_le (by simp [repL_length])) (by simp [intC_length, filled]) (Nat.le_refl _) (by simp only [maxLen]; omega) (by simp [repL_length]) ?_;refine S_reE 7 (.val (.slice (some ⟨b30, 0, none⟩) n n)) J J ?_;refine S_reE 31 (.val (.slice (some ⟨b30, 0, none⟩) n n)) J J ?_
 refine Va J J ?_
 have hst1 := filled_step (n := n) (f := 0) (m := 1) (x := x) (by omega)
 refine S_copyO 7 (o := 0) (m := 1) (cs := intC (List.replicate 1 x)) J J J J J J (by simp only [List.length_singleton]; exact (Nat.min_eq_left h1).symm) (by omega) J (.inr (by rw [← e0]; exact hcell)) (by intro u hu; simp [intC] at hu; subst hu; rfl) rfl rfl ?_
 rw [hst1]
 refine Va J J ?_;refine S_loop (α := Nat) (fun f => 1 ≤ f ∧ f ≤ n) (fun f => n - f) []
  (fun f => [(8, .val (.int .i64 (f : Nat))), (7, .val (.slice (some ⟨b30, 0, none⟩) n n))])
  (fun f => [.hp 7 (rowO 0 3 1 (some ⟨b30, 0, none⟩) n n (intC (filled n f x)))]) (fun _ => G1) (0 + 1) ⟨by omega, by omega⟩ rfl ⟨⟨_, rfl, rfl⟩, ⟨_, rfl, rfl⟩, trivial⟩ (.hp (.drop .nil)) ?_
 rintro f ⟨hf1, hf⟩
 refine Va J J ?_
 refine S_condp J (fun h5 => ?_) (fun h5 => ?_) <;> refine Va J J ?_
 ·have hfn : f < n := by omega
  obtain ⟨m, hm⟩ : ∃ m, m = Nat.min f (n - f) := ⟨_, rfl⟩
  have hm1 : 1 ≤ m := by rw [hm]; exact Nat.le_min.2 ⟨hf1, by omega⟩
  have hm2 : m ≤ f := by rw [hm]; exact Nat.min_le_left _ _
  have hm3 : m ≤ n - f := by rw [hm]; exact Nat.min_le_right _ _
  have hst := filled_step (n := n) (f := f) (m := m) (x := x) (by omega)
  refine D_startK [8] (by exact MO) J J J (by kernel_rfl) ?_;refine Da J J ?_;refine D_val 3 J J J J J J J J J (V_sliceLo (ad' := ⟨b30, 0 + f, none⟩) Tk J J J J (by omega) (by omega) (by rw [add_lit', Nat.mul_one])) ?_;refine D_val 6 J J J J J J J J J (V_sliceHiO (ad' := ⟨b30, 0 + 0, none⟩) Tk J J J J (by omega) (by omega) (by omega) (by rw [add_lit'])) ?_;refine Da J J ?_;refine Nt 7 J J J J J J fun back => ?_
  refine S_copyO 7 (o := f) (m := m) (cs := intC (List.replicate m x)) J J J J J J hm (by omega) (by simp [intC_length]) (.inl ⟨0, J, by omega, by rw [List.drop_zero, filled_take hm2]⟩) (by intro u hu; rw [intC_map, List.map_replicate] at hu; rw [(List.mem_replicate.1 hu).2]; rfl) rfl rfl ?_
  rw [hst]
  refine back _ _ _ _ (by kernel_rfl) ?_; clear back
  refine Da J J ?_;refine D_val 8 J J J J J J J J J (V_add J J (by omega)) ?_;refine Da J J ?_;refine D_sole 9 J J (N_assign Tk 9 J J J J J J J J J (by kernel_rfl) ?_)
  refine DD ?_;refine Va J J ?_;exact S_again (f + m) ⟨by omega, by omega⟩ (by omega) J ⟨⟨_, J, by simp [denO]⟩, ⟨_, J, J⟩, trivial⟩ (.hp .nil)
 ·obtain rfl : f = n := by omega
  refine S_retm 7 (Res.t1 Tryd.results41 J J) J XR ⟨J, b30, 0, J, ?_⟩
  simp [filled]
end
section
attribute [local irreducible] X Pure Mod
def low (l : List Int) : List Int := l.map (· - 1)
theorem low_set (l : List Int) (k : Nat) (a : Int) : (low l).set k (a - 1) = low (l.set k a) := by unfold low; rw [List.map_set]
theorem low_at {l : List Int} {k : Nat} {a : Int} (h : l[k]? = some a) : (low l)[k]? = some (a - 1) := by unfold low; rw [List.getElem?_map, h]; rfl
theorem low_len (l : List Int) : (low l).length = l.length := by simp [low]
theorem c_roomsOk (c : List Ins) (v : Value) (G : PH) (hv : InsG G c v) (hw : walkOk c) (h1 : 1 ≤ c.length) (h60 : c.length ≤ 60) : Pure Tryd.prog 28 [v] G fun v' G' => v' = .bool (roomsP c) := by
 obtain ⟨Ac, cc, rfl, _⟩ := id hv
 refine Pure.intro Tryd.func28 Tryd.ntmps28 J J fun w => ?_; refine Va J J ?_;refine S_sliceG Tk ZT_ok J J J J (by decide) (by decide) J J J J (fun _ => J) fun bq Gq hxq hcq => ?_;refine Va J J ?_;refine S_callN 3 Tryd.call41 (c_Repeat (-2) c.length _ Gq (ints_of hcq J (Nat.le_refl _) (by decide) (by decide) (i64_small (by decide))) h1 (by omega)) J J J ?_;rintro v1 G1 A1 ⟨rfl, gp, base, rfl, rfl⟩ _
 refine S_newRow 3 J J ?_
 rw [show List.replicate c.length (-2 : Int) = low (List.replicate c.length (-1)) by simp [low]]
 refine Va J J ?_;refine S_index Tk J J J J J J (by omega) (by omega) ?_;refine Va J J ?_;refine S_storeO Tk 3 (o := 0) J J J (by simp [add_lit']) J J J J J (by simp [intC_length, low]; omega) rfl ?_;refine Va J J ?_;refine S_sliceB Tk ZT_ok J J J J (by decide) (by decide) J J J J fun b16 hb16 => ?_;refine Va J J ?_;refine S_blkO 16 4 (base := w.heap.size) (n := 1) (c := 1) (o := 0) (sz := 1) J J J J (.inl hb16) J J (Nat.le_refl _) (by simp [maxLen]) (Nat.le_refl _) ?_
 refine S_reE 4 (.val (.slice (some ⟨b16, 0, none⟩) 1 1)) J J ?_;refine Va J J ?_;refine S_loop (α := RM) (fun y => RI c.length y.rooms y.todo ∧ TD y.rooms y.todo ∧ y.k ≤ y.todo.length ∧ roomsP c = roomsF c (c.length + 1 - y.k) y.k y.rooms y.todo ∧ PH.ext w.heap.size G y.G) (fun y => c.length + 1 - y.k) []
  (fun y => [(4, .val (.slice y.A (y.todo.length - y.k) y.cc)), (3, .val (.slice (some ⟨gp, 0, none⟩) c.length c.length)), (0, .val (.slice Ac c.length cc))])
  (fun y => [.hp 4 (rowO w.heap.size 3 1 y.A (y.todo.length - y.k) y.cc (intC (y.todo.drop y.k))), .hp 3 (rowO w.heap.size 3 1 (some ⟨gp, 0, none⟩) c.length c.length (intC (low y.rooms)))]) (fun y => y.G) ⟨0, (List.replicate c.length (-1)).set 0 0, [0], some ⟨b16, 0, none⟩, 1, G1⟩
  ⟨RI.start h1, TD.start h1, Nat.zero_le _, rfl, hxq⟩ rfl ⟨⟨_, rfl, rfl⟩, ⟨_, rfl, rfl⟩, ⟨_, rfl, rfl⟩, trivial⟩ (by rw [← low_set, ← intC_sets]; exact .hp (.hp .nil)) ?_
 rintro ⟨k, rooms, todo, A, cq, G2⟩ ⟨hri, htd, hk, hfuel, hext⟩
 simp only at hri htd hk hfuel hext ⊢
 have htl := hri.len
 obtain ⟨f, hf⟩ : ∃ f, c.length + 1 - k = f + 1 := ⟨c.length - k, by omega⟩
 rw [hf] at hfuel
 refine Va J J ?_
 refine S_condp J (fun h5 => ?_) (fun h5 => ?_) <;> refine Va J J ?_
 ·have hkl : k < todo.length := by omega
  have hxr := hri.td _ (List.getElem_mem hkl)
  have hxt := htd _ (List.getElem_mem hkl)
  have hxk : todo[k]? = some todo[k] := List.getElem?_eq_getElem hkl
  have hdk : (todo.drop k)[0]? = some todo[k] := by rw [List.getElem?_drop]; exact hxk
  generalize hxe : todo[k] = x at hxr hxt hxk hdk
  obtain ⟨x, rfl⟩ := Int.eq_ofNat_of_zero_le hxr.1
  have hxl : x < c.length := by omega
  obtain ⟨rm, hrm, hrd⟩ := getD_at (l := rooms) hxr.1 (by rw [hri.rl]; exact hxr.2)
  rw [Int.toNat_natCast] at hrm hrd hxt
  rw [hrd] at hxt
  have hrg := hri.rg rm (List.mem_of_getElem? hrm)
  have hci : c[x]? = some c[x] := List.getElem?_eq_getElem hxl
  obtain ⟨hiok, _⟩ := hw x _ hci
  have hvx := InsG_le hext.le hv
  obtain ⟨adc, csc, rfl, hcell, rfl, hi4⟩ := Sr_at hvx hxl
  have hsr := succ_range hw hci
  have hsl := succ_len c[x] x
  rw [roomsF_at hxk hci, hrd] at hfuel
  have hq := c_moves c[x] (rm - 1) G2 (by omega)
  have hqn := fun H => c_successors c[x] x H hi4 (by omega)
  rw [Int.sub_add_cancel] at hq
  generalize c[x] = i at *
  refine S_capO 4 J fun hcap4 _ _ => ?_;refine S_someO 4 J (by omega) fun g4 o4 eA => ?_
  subst eA
  refine S_index Tk J J J J J J (by omega) (by omega) ?_;refine Va J J ?_;refine S_valV J J J (V_loadR' Tk 4 (o := 0) J J (by simp [add_lit']) J J (intC_at hdk)) ?_;refine Va J J ?_;obtain ⟨r, hr⟩ : ∃ r, todo.length - k = r + 1 := ⟨todo.length - k - 1, by omega⟩
  rw [hr]
  refine S_tailO Tk 4 J J J J J J (fun _ => J) fun A4 => ?_
  rw [show (intC (todo.drop k)).drop 1 = intC (todo.drop (k + 1)) by rw [intC_map, intC_map, ← List.map_drop, List.drop_drop]]
  refine Va J J ?_;refine Ds J J J ?_;refine Da J J ?_;refine D_val 2 J J J J J J J J J (V_index Tk J J J J (by omega) (by omega)) ?_;refine D_val 6 J J J J J J J J J (V_index Tk J J J J (by omega) (by omega)) ?_;refine Da J J ?_;refine D_val 3 J J J J J J J J J (V_loadA Tk J J J (by simpa using hcell)) ?_;refine D_val 7 J J J J J J J J J (V_loadR' Tk 3 J J (add_lit' ..) J J (by simpa using intC_at (low_at hrm))) ?_
  refine Da J J ?_;refine D_sole 8 J J (N_call 8 Tryd.call42 (hq) J J J J J J J J J J ?_)
  rintro v1 G3 ⟨⟨rr, rfl, hrr⟩, rfl⟩ _
  refine Da J J ?_;refine DD ?_;refine Va J J ?_
  by_cases hok : (heldI i rm).2 = true
  ·refine RF J (by simp [hok]) ?_
   refine Va J J ?_
   rw [if_pos hok] at hfuel
   have hro := held_room hiok ⟨hxt, hrg.2⟩ hok
   obtain rfl := hrr hok
   generalize (heldI i rm).1 = room at hro hfuel
   refine S_index Tk J J J J J J (by omega) (by omega) ?_;refine Va J J ?_;refine S_loadA Tk J J J J J (by simpa using hcell) ?_;refine Va J J ?_;refine S_call Tryd.call43 (hqn G3) J J J ?_;rintro v3 G4 hv3 hext3
   generalize succI i (x : Int) = next at hv3 hsr hsl hfuel
   obtain ⟨A3, c3, rfl, _⟩ := id hv3
   refine Va J J ?_;refine S_loop (α := RV) (fun y => y.j ≤ next.length ∧ RI c.length y.rooms y.todo ∧ TD y.rooms y.todo ∧ todo.length ≤ y.todo.length ∧ visitI room next (rooms, todo) = visitI room (next.drop y.j) (y.rooms, y.todo)) (fun y => next.length - y.j) []
    (fun y => [(46, .val (.int .i64 (y.j : Nat))), (45, .val (.int .i64 (next.length : Nat))), (44, .val (.slice A3 next.length c3)), (6, .val (.int .i64 (room - 1))), (4, .val (.slice y.A (y.todo.length - (k + 1)) y.cc)), (3, .val (.slice (some ⟨gp, 0, none⟩) c.length c.length)), (0, .val (.slice (some adc) c.length cc))])
    (fun y => [.hp 4 (rowO w.heap.size 3 1 y.A (y.todo.length - (k + 1)) y.cc (intC (y.todo.drop (k + 1)))), .hp 3 (rowO w.heap.size 3 1 (some ⟨gp, 0, none⟩) c.length c.length (intC (low y.rooms)))]) (fun _ => G4) ⟨0, rooms, todo, A4, cq - 1⟩
    ⟨Nat.zero_le _, hri, htd, Nat.le_refl _, rfl⟩ rfl ⟨⟨_, rfl, rfl⟩, ⟨_, rfl, rfl⟩, ⟨_, rfl, rfl⟩, ⟨_, rfl, rfl⟩, ⟨_, rfl, by simp only [denO]; congr 2; omega⟩, ⟨_, rfl, rfl⟩, ⟨_, rfl, rfl⟩, trivial⟩ (by rw [show todo.length - (k + 1) = r by omega]; exact .hp (.hp .nil)) ?_
   rintro ⟨j, rooms', todo', A', c'⟩ ⟨hj, hri', htd', htt, hvis⟩
   simp only at hj hri' htd' htt hvis ⊢
   have htl' := hri'.len
   refine Va J J ?_
   refine S_condp J (fun h7 => ?_) (fun h7 => ?_) <;> refine Va J J ?_
   ·have hjl : j < next.length := by omega
    obtain ⟨ad3, cs3, e3, hcs3, rfl, hy64⟩ := Sr_at hv3 hjl
    subst e3
    have hyr := hsr _ (List.getElem_mem hjl)
    rw [List.drop_eq_getElem_cons hjl] at hvis
    generalize next[j] = y at hcs3 hy64 hyr hvis
    obtain ⟨ry, hry, hryd⟩ := getD_at (l := rooms') hyr.1 (by rw [hri'.rl]; exact hyr.2)
    have hryg := hri'.rg ry (List.mem_of_getElem? hry)
    rw [visitI, hryd] at hvis
    refine S_index Tk J J J J J J (by omega) (by omega) ?_;refine Va J J ?_;refine S_load Tk J J J J J (by simpa using hcs3.1) ?_;refine Va J J ?_;refine S_index Tk J J J J J J (by omega) (by omega) ?_;refine Va J J ?_;refine S_valV J J J (V_loadR' Tk 3 J J (add_lit' ..) J J (by simpa using intC_at (low_at hry))) ?_;refine Va J J ?_
    refine S_condp J (fun hneg => ?_) (fun hneg => ?_) <;> refine Va J J ?_
    ·rw [if_pos (by omega)] at hvis
     refine S_index Tk J J J J J J (by omega) (by omega) ?_;refine Va J J ?_;refine S_storeO Tk 3 (o := y.toNat) J J J (by simp [add_lit']) J J J J J (by rw [intC_length, low_len, hri'.rl]; omega) rfl ?_
     rw [intC_sets, low_set]
     refine Va J J ?_;refine S_slice Tk ZT_ok J J J J (by decide) (by decide) J J J J fun b62 => ?_;refine Va J J ?_;refine S_app1 Tk 4 62 J J J J J J J J J J J J J J (by intro u hu; simp at hu; rcases hu with rfl; rfl) rfl (fun _ _ => rfl) (by omega) (Nat.le_refl _) fun A6 c6 => ?_
     rw [intC_snoc]
     refine Va J J ?_;refine S_add J J J J (by omega) ?_;refine Va J J ?_;refine S_again ⟨j + 1, rooms'.set y.toNat room, todo' ++ [y], A6, c6⟩ ⟨hjl, hri'.new hyr hro (by rw [hryd]; omega), htd'.new hro.1 (by rw [hri'.rl]; exact hyr), by simp only [List.length_append]; omega, hvis⟩ (by simp only; omega) rfl ⟨⟨_, rfl, by simp [denO]⟩, ⟨_, rfl, rfl⟩, ⟨_, rfl, rfl⟩, ⟨_, rfl, rfl⟩, ⟨_, rfl, by simp only [denO, List.length_append, List.length_singleton]; congr 2; omega⟩, ⟨_, rfl, rfl⟩, ⟨_, rfl, rfl⟩, trivial⟩ ?_
     simp only [List.length_append, List.length_singleton]
     rw [show todo'.length + 1 - (k + 1) = todo'.length - (k + 1) + 1 by omega, List.drop_append_of_le_length (by omega)]
     first | exact .drop (.hp (.hp .nil)) | exact .hp (.hp .nil)
    ·rw [if_neg (by omega)] at hvis
     refine S_condp J (fun hne => ?_) (fun hne => ?_) <;> refine Va J J ?_
     ·rw [if_pos (by omega)] at hvis
      refine S_add J J J J (by omega) ?_;refine Va J J ?_;exact S_again ⟨j + 1, rooms', todo', A', c'⟩ ⟨hjl, hri', htd', htt, hvis⟩ (by simp only; omega) rfl ⟨⟨_, rfl, by simp [denO]⟩, ⟨_, rfl, rfl⟩, ⟨_, rfl, rfl⟩, ⟨_, rfl, rfl⟩, ⟨_, rfl, rfl⟩, ⟨_, rfl, rfl⟩, ⟨_, rfl, rfl⟩, trivial⟩ (.hp (.hp .nil))
     ·rw [if_neg (by omega)] at hvis
      rw [hvis] at hfuel
      exact S_retp (Res.t1 Tryd.results28 J J) (hext.trans hext3) (by rw [hfuel])
   ·obtain rfl : j = next.length := by omega
    rw [List.drop_length, visitI] at hvis
    rw [hvis] at hfuel
    have hf2 : c.length + 1 - (k + 1) = f := by omega
    rw [← hf2] at hfuel
    exact S_again ⟨k + 1, rooms', todo', A', c', G4⟩ ⟨hri', htd', by simp only; omega, hfuel, hext.trans hext3⟩ (by simp only; omega) rfl ⟨⟨_, rfl, rfl⟩, ⟨_, rfl, rfl⟩, ⟨_, rfl, rfl⟩, trivial⟩ (.hp (.hp .nil))
  ·refine RT J (by simp [hok]) ?_
   refine Va J J ?_
   rw [if_neg hok] at hfuel
   exact S_retp (Res.t1 Tryd.results28 J J) hext (by rw [hfuel])
 ·rw [roomsF_none (by omega)] at hfuel
  exact S_retp (Res.t1 Tryd.results28 J J) hext (by rw [hfuel])
end
section
attribute [local irreducible] X Pure Mod
def iInsB (op a b n many la lb : Int) (at_ : Bool) : Bool :=
 if fitsB a la = false then false else if fitsB b lb = false then false
 else if at_ = true then decide (0 ≤ n) && decide (n < many)
 else if op = 1 then numOk n else if op = 2 then opOk n else decide (n = 0)
theorem iInsB_eq (k : Nat) (h1 : 1 ≤ k) (h2 : k ≤ 13) (a b n many : Int) : iInsB (k : Nat) a b n many (limA k) (limB k) (decide (k = 6) || decide (k = 7)) = insOk ⟨(k : Nat), a, b, n⟩ many := by
 have : k = 1 ∨ k = 2 ∨ k = 3 ∨ k = 4 ∨ k = 5 ∨ k = 6 ∨ k = 7 ∨ k = 8 ∨ k = 9 ∨ k = 10 ∨ k = 11 ∨ k = 12 ∨ k = 13 := by omega
 rcases this with rfl | rfl | rfl | rfl | rfl | rfl | rfl | rfl | rfl | rfl | rfl | rfl | rfl <;> simp [iInsB, insOk, leafOk, fitsB, opOk, numOk, limA, limB] <;> rw [Bool.eq_iff_iff] <;> simp <;> (first | omega | grind)
theorem insOk_none {op : Int} (h : ¬ (1 ≤ op ∧ op ≤ 13)) (a b n many : Int) : insOk ⟨op, a, b, n⟩ many = false := by
 cases hh : insOk ⟨op, a, b, n⟩ many with
 | false => rfl
 | true => exact absurd (insOk_op hh) h
theorem zinsForm : ∀ w, (zeroValue 53).run Tryd.prog w = .ok (.agg #[.string ByteArray.empty, .int .i64 0, .int .i64 0, .bool false, .bool false]) w := by
 intro w
 have h : (Tryd.prog.info? 53).bind (·.zero) = some (.agg #[.string ByteArray.empty, .int .i64 0, .int .i64 0, .bool false, .bool false]) := by kernel_rfl
 cases hi : Tryd.prog.info? 53 with
 | none => rw [hi] at h; cases h
 | some i =>
  rw [hi] at h
  simp only [Option.bind_some] at h
  simp [zeroValue, typeInfo, hi, h]
theorem c_iInsOk (i : Ins) (many : Int) (G : PH) : Pure Tryd.prog 27 [.agg (insC i).toArray, .int .i64 many] G fun v G' => v = .bool (insOk i many) := by
 obtain ⟨op, a, xb, n⟩ := i
 rw [show (insC ⟨op, a, xb, n⟩).toArray = #[.int .i64 op, .int .i64 a,   .int .i64 xb, .int .i64 n] from rfl]
 refine Pure.intro Tryd.func27 Tryd.ntmps27 J J fun w => ?_; refine Va J J ?_;refine S_box J J J J J fun b3 => ?_;refine Va J J ?_;refine Ds J J J ?_;refine Da J J ?_;refine D_or 0 7 J J (N_call 0 Tryd.call25 (c_insForms _) J J J J J J J J J J ?_) (N_new 7 J J J J J J J J J J J (AZ ZT_ok J J J J) fun b => ?_)
 ·rintro v G1 ⟨bm, es, rfl, hbm, hes⟩ hext
  have hkeys := formE_keys
  rw [← hes] at hkeys
  by_cases hr : 1 ≤ op ∧ op ≤ 13
  ·obtain ⟨k, rfl⟩ := Int.eq_ofNat_of_zero_le (show 0 ≤ op by omega)
   have hf := formE_find k (by omega) (by omega)
   have heq := iInsB_eq k (by omega) (by omega) a xb n many
   rw [← hes] at hf
   refine D_val 3 J J J J J J J J J (V_lookupS u_insForms u_int hbm hkeys hf J J) ?_
   clear hf hkeys hes hbm
   unfold fmI
   generalize limA k = la at *
   generalize limB k = lb at *
   generalize hasN (k : Nat) = hn at *
   generalize (decide (k = 6) || decide (k = 7)) = at_ at *
   generalize insOk ⟨(k : Nat), a, xb, n⟩ many = res at *
   refine Da J J ?_;refine D_sole 7 J J (N_new 7 J J J J J J J J J J J (AZ ZT_ok J J J J) fun b => ?_)
   refine Da J J ?_;refine Ns 8 J J J J J J J J J ?_;refine Da J J ?_;refine DD ?_;refine Va J J ?_
   repeat' (first
    | (refine S_condp J (fun h => ?_) (fun h => ?_) <;> refine Va J J ?_) | (refine S_cond J (fun h => ?_) (fun h => ?_) <;> refine Va J J ?_) | (refine S_box J J J J J fun b => ?_; refine Va J J ?_) | (refine AZ ZT_ok J J J J fun b => ?_; refine Va J J ?_) | (refine S_guardp J J (fun h => ?_) (fun h => ?_) <;> refine Va J J ?_) | (refine S_guard J J (fun h => ?_) (fun h => ?_) <;> refine Va J J ?_)
    | (refine S_call Tryd.call38 (c_fits _ _ _) J J J ?_; rintro v G' ⟨rfl, rfl⟩ _; refine Va J J ?_)
    | (refine S_call Tryd.call39 (c_iNumOk _ _) J J J ?_; rintro v G' ⟨rfl, rfl⟩ _; refine Va J J ?_)
    | (refine S_call Tryd.call40 (c_isOp _ _) J J J ?_; rintro v G' ⟨rfl, rfl⟩ _; refine Va J J ?_)
    | refine S_retP Tryd.results27 J J hext ?_)
   all_goals (try clear hcell hq1 hq2)
   all_goals (refine congrArg Value.bool ?_)
   all_goals (rw [← heq]; unfold iInsB)
   all_goals (clear hext heq; cases at_ <;> simp_all <;> omega)
  ·have hf := formE_none op hr
   rw [← hes] at hf
   refine D_val 3 J J J J J J J J J (V_lookupN ZT_ok (z := ⟨40, [.string ByteArray.empty, .int .i64 0, .int .i64 0, .bool false, .bool false], []⟩) u_insForms u_int hbm hkeys hf J J zinsForm) ?_;refine Da J J ?_;refine D_sole 7 J J (N_new 7 J J J J J J J J J J J (AZ ZT_ok J J J J) fun b => ?_)
   refine Da J J ?_;refine Ns 8 J J J J J J J J J ?_;refine Da J J ?_;refine DD ?_;refine Va J J ?_;refine GT J J J ?_;refine Va J J ?_;refine S_retP Tryd.results27 J J hext ?_
   rw [insOk_none hr]
 ·refine Da J J ?_
  refine D_sole 0 J J (N_call 0 Tryd.call25 (c_insForms _) J J J J J J J J J J ?_)
  rintro v G1 ⟨bm, es, rfl, hbm, hes⟩ hext
  have hkeys := formE_keys
  rw [← hes] at hkeys
  by_cases hr : 1 ≤ op ∧ op ≤ 13
  ·obtain ⟨k, rfl⟩ := Int.eq_ofNat_of_zero_le (show 0 ≤ op by omega)
   have hf := formE_find k (by omega) (by omega)
   have heq := iInsB_eq k (by omega) (by omega) a xb n many
   rw [← hes] at hf
   refine D_val 3 J J J J J J J J J (V_lookupS u_insForms u_int hbm hkeys hf J J) ?_
   clear hf hkeys hes hbm
   unfold fmI
   generalize limA k = la at *
   generalize limB k = lb at *
   generalize hasN (k : Nat) = hn at *
   generalize (decide (k = 6) || decide (k = 7)) = at_ at *
   generalize insOk ⟨(k : Nat), a, xb, n⟩ many = res at *
   refine Da J J ?_;refine Ns 8 J J J J J J J J J ?_;refine Da J J ?_;refine DD ?_;refine Va J J ?_
   repeat' (first
    | (refine S_condp J (fun h => ?_) (fun h => ?_) <;> refine Va J J ?_) | (refine S_cond J (fun h => ?_) (fun h => ?_) <;> refine Va J J ?_) | (refine S_box J J J J J fun b => ?_; refine Va J J ?_) | (refine AZ ZT_ok J J J J fun b => ?_; refine Va J J ?_) | (refine S_guardp J J (fun h => ?_) (fun h => ?_) <;> refine Va J J ?_) | (refine S_guard J J (fun h => ?_) (fun h => ?_) <;> refine Va J J ?_)
    | (refine S_call Tryd.call38 (c_fits _ _ _) J J J ?_; rintro v G' ⟨rfl, rfl⟩ _; refine Va J J ?_)
    | (refine S_call Tryd.call39 (c_iNumOk _ _) J J J ?_; rintro v G' ⟨rfl, rfl⟩ _; refine Va J J ?_)
    | (refine S_call Tryd.call40 (c_isOp _ _) J J J ?_; rintro v G' ⟨rfl, rfl⟩ _; refine Va J J ?_)
    | refine S_retP Tryd.results27 J J hext ?_)
   all_goals (try clear hcell hq1 hq2)
   all_goals (refine congrArg Value.bool ?_)
   all_goals (rw [← heq]; unfold iInsB)
   all_goals (clear hext heq; cases at_ <;> simp_all <;> omega)
  ·have hf := formE_none op hr
   rw [← hes] at hf
   refine D_val 3 J J J J J J J J J (V_lookupN ZT_ok (z := ⟨40, [.string ByteArray.empty, .int .i64 0, .int .i64 0, .bool false, .bool false], []⟩) u_insForms u_int hbm hkeys hf J J zinsForm) ?_;refine Da J J ?_;refine Ns 8 J J J J J J J J J ?_;refine Da J J ?_;refine DD ?_;refine Va J J ?_;refine GT J J J ?_;refine Va J J ?_;refine S_retP Tryd.results27 J J hext ?_
   rw [insOk_none hr]
end
section
attribute [local irreducible] X Pure Mod
theorem insV_eq (i : Ins) : (insC i).toArray = #[.int .i64 i.op, .int .i64 i.a, .int .i64 i.b, .int .i64 i.n] := rfl
theorem c_l4Ins (i : Ins) (many : Int) (G : PH) : Pure Tryd.prog 20 [.agg (insC i).toArray, .int .i64 many] G fun v G' => v = .bool (insOk i many) ∧ G' = G := by
 obtain ⟨op, a, b, n⟩ := i
 rw [insV_eq]
 dsimp only
 refine Pure.intro Tryd.func20 Tryd.ntmps20 J J fun w => ?_; refine Va J J ?_;refine S_box J J J J J fun b1 => ?_;refine Va J J ?_
 repeat' (first
  | (refine S_condp J (fun h => ?_) (fun h => ?_) <;> refine Va J J ?_) | (refine S_cond J (fun h => ?_) (fun h => ?_) <;> refine Va J J ?_) | (refine S_box J J J J J fun b => ?_; refine Va J J ?_) | (refine AZ ZT_ok J J J J fun b => ?_; refine Va J J ?_) | (refine S_guardp J J (fun h => ?_) (fun h => ?_) <;> refine Va J J ?_) | (refine S_guard J J (fun h => ?_) (fun h => ?_) <;> refine Va J J ?_)
  | (refine S_call Tryd.call30 (c_l2Leaf _ _ _ _ _ _ _ _) J J J ?_; rintro v G' ⟨rfl, rfl⟩ _; refine Va J J ?_)
  | (refine S_retP Tryd.results20 J J XR ⟨?_, J⟩))
 all_goals (simp_all [insOk, leafOk] <;> omega)
end
section
open Go.Lib (itoa decDigits)
attribute [local irreducible] X Pure Mod
theorem c_l4Word (op : Nat) (h : op ≤ 13) (G : PH) : Pure Tryd.prog 19 [.int .i64 (op : Nat)] G fun v G' => ∃ m, v = .tuple #[tx (wordN op), .int .i64 m] := by
 refine Pure.intro Tryd.func19 Tryd.ntmps19 J J fun w => ?_; refine Va J J ?_;refine S_sliceG Tk ZT_ok J J J J (by decide) (by decide) J J J J (fun _ => J) fun bq Gq hxq hcq => ?_;refine Va J J ?_;refine S_sliceG Tk ZT_ok J J J J (by decide) (by decide) J J J J (fun _ => J) fun br Gr hxr hcr => ?_;refine Va J J ?_
 have hw : ((List.range 14).map fun k => tx (wordN k))[op]? = some (tx (wordN op)) := by
  rw [List.getElem?_map, List.getElem?_range (by omega)]; rfl
 have hcw : gcell Gr ((⟨bq, 0, none⟩ : Addr).add op) = some (tx (wordN op)) := gcells_at (cs := (List.range 14).map fun k => tx (wordN k)) (gcells_le hxr.le hcq) op _ hw
 obtain ⟨m, hm⟩ : ∃ m, ([0, 2, 3, 2, 2, 1, 2, 1, 1, 1, 1, 1, 0, 0] : List Int)[op]? = some m := by
  rw [List.getElem?_eq_getElem (by simp; omega)]; exact ⟨_, J⟩
 have hcm : gcell Gr ((⟨br, 0, none⟩ : Addr).add op) = some (.int .i64 m) := gcells_at (cs := intC [0, 2, 3, 2, 2, 1, 2, 1, 1, 1, 1, 1, 0, 0]) hcr op _ (intC_at hm)
 refine Ds J J J ?_;refine Da J J ?_;refine D_val 2 J J J J J J J J J (V_index Tk J J J J (by omega) (by omega)) ?_;refine D_val 6 J J J J J J J J J (V_index Tk J J J J (by omega) (by omega)) ?_;refine Da J J ?_;refine D_val 3 J J J J J J J J J (V_load Tk J J J (by simpa using hcw)) ?_;refine D_val 7 J J J J J J J J J (V_load Tk J J J (by simpa using hcm)) ?_;refine Da J J ?_;refine DD ?_;refine Va J J ?_
 exact S_retp (Res.t2 Tryd.results19 J J J J) (hxq.trans hxr) ⟨m, J⟩
theorem c_l4Nums (i : Ins) (h4 : I4 i) (G : PH) : Pure Tryd.prog 22 [.agg (insC i).toArray] G fun v G' => Ints G' (numsI i) v := by
 obtain ⟨op, a, b, n⟩ := i
 obtain ⟨i0, i1, i2, i3⟩ := h4
 simp only at i0 i1 i2 i3
 rw [show (insC ⟨op, a, b, n⟩).toArray = #[.int .i64 op, .int .i64 a, .int .i64 b, .int .i64 n] from rfl]
 refine Pure.intro Tryd.func22 Tryd.ntmps22 J J fun w => ?_; refine Va J J ?_;refine S_box J J J J J fun b1 => ?_;refine Va J J ?_
 refine S_condp J (fun h1 => ?_) (fun h1 => ?_) <;> refine Va J J ?_
 ·refine RT J (by simp [h1]) ?_
  refine Va J J ?_;refine S_sliceG Tk ZT_ok J J J J (by decide) (by decide) J J J J (fun _ => J) fun bq Gq hxq hcq => ?_;refine Va J J ?_;refine S_retp (Res.t1 Tryd.results22 J J) hxq ?_
  rw [show numsI ⟨op, a, b, n⟩ = [a, n] by simp [numsI, hasA, hasB, hasN, *]]
  exact ints_of hcq J (Nat.le_refl _) (by decide) (by decide) (by intro y hy; simp only [List.mem_cons, List.not_mem_nil, or_false] at hy; (first | (rcases hy with rfl | rfl | rfl <;> assumption) | (rcases hy with rfl | rfl <;> assumption) | (rcases hy with rfl; assumption)))
 refine S_condp J (fun h6 => ?_) (fun h6 => ?_) <;> refine Va J J ?_
 ·refine S_sliceG Tk ZT_ok J J J J (by decide) (by decide) J J J J (fun _ => J) fun bq Gq hxq hcq => ?_
  refine Va J J ?_;refine S_retp (Res.t1 Tryd.results22 J J) hxq ?_
  rw [show numsI ⟨op, a, b, n⟩ = [a, n] by simp [numsI, hasA, hasB, hasN, *]]
  exact ints_of hcq J (Nat.le_refl _) (by decide) (by decide) (by intro y hy; simp only [List.mem_cons, List.not_mem_nil, or_false] at hy; (first | (rcases hy with rfl | rfl | rfl <;> assumption) | (rcases hy with rfl | rfl <;> assumption) | (rcases hy with rfl; assumption)))
 refine S_condp J (fun h2 => ?_) (fun h2 => ?_) <;> refine Va J J ?_
 ·refine S_sliceG Tk ZT_ok J J J J (by decide) (by decide) J J J J (fun _ => J) fun bq Gq hxq hcq => ?_
  refine Va J J ?_;refine S_retp (Res.t1 Tryd.results22 J J) hxq ?_
  rw [show numsI ⟨op, a, b, n⟩ = [a, b, n] by simp [numsI, hasA, hasB, hasN, *]]
  exact ints_of hcq J (Nat.le_refl _) (by decide) (by decide) (by intro y hy; simp only [List.mem_cons, List.not_mem_nil, or_false] at hy; (first | (rcases hy with rfl | rfl | rfl <;> assumption) | (rcases hy with rfl | rfl <;> assumption) | (rcases hy with rfl; assumption)))
 refine S_condp J (fun h3 => ?_) (fun h3 => ?_) <;> refine Va J J ?_
 ·refine RT J (by simp [h3]) ?_
  refine Va J J ?_;refine S_sliceG Tk ZT_ok J J J J (by decide) (by decide) J J J J (fun _ => J) fun bq Gq hxq hcq => ?_;refine Va J J ?_;refine S_retp (Res.t1 Tryd.results22 J J) hxq ?_
  rw [show numsI ⟨op, a, b, n⟩ = [a, b] by simp [numsI, hasA, hasB, hasN, *]]
  exact ints_of hcq J (Nat.le_refl _) (by decide) (by decide) (by intro y hy; simp only [List.mem_cons, List.not_mem_nil, or_false] at hy; (first | (rcases hy with rfl | rfl | rfl <;> assumption) | (rcases hy with rfl | rfl <;> assumption) | (rcases hy with rfl; assumption)))
 refine S_condp J (fun h4 => ?_) (fun h4 => ?_) <;> refine Va J J ?_
 ·refine S_sliceG Tk ZT_ok J J J J (by decide) (by decide) J J J J (fun _ => J) fun bq Gq hxq hcq => ?_
  refine Va J J ?_;refine S_retp (Res.t1 Tryd.results22 J J) hxq ?_
  rw [show numsI ⟨op, a, b, n⟩ = [a, b] by simp [numsI, hasA, hasB, hasN, *]]
  exact ints_of hcq J (Nat.le_refl _) (by decide) (by decide) (by intro y hy; simp only [List.mem_cons, List.not_mem_nil, or_false] at hy; (first | (rcases hy with rfl | rfl | rfl <;> assumption) | (rcases hy with rfl | rfl <;> assumption) | (rcases hy with rfl; assumption)))
 refine S_condp J (fun h7 => ?_) (fun h7 => ?_) <;> refine Va J J ?_
 ·refine S_sliceG Tk ZT_ok J J J J (by decide) (by decide) J J J J (fun _ => J) fun bq Gq hxq hcq => ?_
  refine Va J J ?_;refine S_retp (Res.t1 Tryd.results22 J J) hxq ?_
  rw [show numsI ⟨op, a, b, n⟩ = [n] by simp [numsI, hasA, hasB, hasN, *]]
  exact ints_of hcq J (Nat.le_refl _) (by decide) (by decide) (by intro y hy; simp only [List.mem_cons, List.not_mem_nil, or_false] at hy; (first | (rcases hy with rfl | rfl | rfl <;> assumption) | (rcases hy with rfl | rfl <;> assumption) | (rcases hy with rfl; assumption)))
 refine S_condp J (fun h12 => ?_) (fun h12 => ?_) <;> refine Va J J ?_
 ·refine RT J (by simp [h12]) ?_
  refine Va J J ?_;refine S_emptyO Tk 5 J J J J fun A0 => ?_;refine Va J J ?_;refine S_freezeR 5 J J (Nat.le_refl _) fun Gf hextf hncf hcmf hclf => ?_;refine S_retp (Res.t1 Tryd.results22 J J) hextf ?_
  rw [show numsI ⟨op, a, b, n⟩ = [] by simp [numsI, hasA, hasB, hasN, *]]
  exact frz (L := []) (xs := []) J J (by decide) hncf hcmf hclf
 refine S_condp J (fun h13 => ?_) (fun h13 => ?_) <;> refine Va J J ?_
 ·refine S_emptyO Tk 5 J J J J fun A0 => ?_
  refine Va J J ?_;refine S_freezeR 5 J J (Nat.le_refl _) fun Gf hextf hncf hcmf hclf => ?_;refine S_retp (Res.t1 Tryd.results22 J J) hextf ?_
  rw [show numsI ⟨op, a, b, n⟩ = [] by simp [numsI, hasA, hasB, hasN, *]]
  exact frz (L := []) (xs := []) J J (by decide) hncf hcmf hclf
 ·refine S_sliceG Tk ZT_ok J J J J (by decide) (by decide) J J J J (fun _ => J) fun bq Gq hxq hcq => ?_
  refine Va J J ?_;refine S_retp (Res.t1 Tryd.results22 J J) hxq ?_
  rw [show numsI ⟨op, a, b, n⟩ = [a] by simp [numsI, hasA, hasB, hasN, *]]
  exact ints_of hcq J (Nat.le_refl _) (by decide) (by decide) (by intro y hy; simp only [List.mem_cons, List.not_mem_nil, or_false] at hy; (first | (rcases hy with rfl | rfl | rfl <;> assumption) | (rcases hy with rfl | rfl <;> assumption) | (rcases hy with rfl; assumption)))
end
section
open Go.Lib (itoa decDigits)
attribute [local irreducible] X Pure Mod
theorem InsG_at {G : PH} {c : List Ins} {A : Option Addr} {n cc : Nat} (h : InsG G c (.slice A n cc)) {k : Nat} (hk : k < c.length) : ∃ ad, A = some ad ∧ gcells G (ad.add (k * 4)) (insC c[k]) ∧ I4 c[k] := by
 obtain ⟨ad, cs, rfl, h1, rfl, h2⟩ := Sr_at h hk
 exact ⟨ad, J, h1, h2⟩
theorem insC_op (i : Ins) : (insC i)[0]? = some (.int .i64 i.op) := rfl
theorem walk_no {c : List Ins} (h : ¬ walkOk c) : codeOk c = false := by
 cases hc : codeOk c with
 | false => rfl
 | true => exact absurd (codeOk_not hc).2.2 h
theorem c_sCodeOk (c : List Ins) (v : Value) (G : PH) (hv : InsG G c v) (hl : c.length ≤ 1000000) : Pure Tryd.prog 11 [v] G fun v' G' => v' = .bool (codeOk c) := by
 obtain ⟨Ac, cc, rfl, _⟩ := id hv
 refine Pure.intro Tryd.func11 Tryd.ntmps11 J J fun w => ?_; refine Va J J ?_
 by_cases hr : 1 ≤ c.length ∧ c.length ≤ 60
 ·refine GF J J (by simp; omega) ?_
  refine Va J J ?_;refine S_subI J J J J (by omega) ?_;refine Va J J ?_;obtain ⟨adl, rfl, hlast, hl4⟩ := InsG_at hv (k := c.length - 1) (by omega)
  refine S_index Tk J J J J J J (by omega) (by omega) ?_;refine Va J J ?_;refine S_load Tk J J J J J (by rw [show ((c.length : Int) - 1).toNat = c.length - 1 by omega]; simpa using gcells_at hlast 0 _ (insC_op _)) ?_;refine Va J J ?_
  have hcl : c[c.length - 1]? = some c[c.length - 1] := List.getElem?_eq_getElem (by omega)
  generalize hle : c[c.length - 1] = il at hcl
  by_cases h13 : il.op = 13
  ·refine RF J (by simp [h13]) ?_
   refine Va J J ?_;refine S_loop (α := Nat) (fun k => k ≤ c.length ∧ ∀ j i, j < k → c[j]? = some i → insOk i c.length = true ∧ (i.op = 13 → j = c.length - 1)) (fun k => c.length - k) []
    (fun k => [(4, .val (.int .i64 (k : Nat))), (3, .val (.int .i64 (c.length : Nat))), (0, .val (.slice (some adl) c.length cc))]) (fun _ => []) (fun _ => G) 0 ⟨Nat.zero_le _, fun j i h => by omega⟩ rfl ⟨⟨_, rfl, rfl⟩, ⟨_, rfl, rfl⟩, ⟨_, rfl, rfl⟩, trivial⟩ .nil ?_
   rintro k ⟨hk, hall⟩
   refine Va J J ?_
   refine S_condp J (fun h5 => ?_) (fun h5 => ?_) <;> refine Va J J ?_
   ·have hkl : k < c.length := by omega
    have hck : c[k]? = some c[k] := List.getElem?_eq_getElem hkl
    obtain ⟨_, e, hcell, _⟩ := InsG_at hv hkl
    cases e
    have hq := c_l4Ins c[k] (c.length : Nat) G
    generalize hke : c[k] = i at *
    refine S_index Tk J J J J J J (by omega) (by omega) ?_;refine Va J J ?_;refine S_loadA Tk J J J J J (by simpa using hcell) ?_;refine Va J J ?_;refine S_call Tryd.call20 hq J J J ?_;rintro v1 G1 ⟨rfl, rfl⟩ _
    refine Va J J ?_
    by_cases hio : insOk i c.length = true
    ·refine GF J J (by simp [hio]) ?_
     refine Va J J ?_;refine S_index Tk J J J J J J (by omega) (by omega) ?_;refine Va J J ?_;refine S_load Tk J J J J J (by simpa using gcells_at hcell 0 _ (insC_op _)) ?_;refine Va J J ?_
     by_cases hi13 : i.op = 13
     ·refine GT J J (by simp [hi13]) ?_
      refine Va J J ?_;refine S_subI J J J J (by omega) ?_;refine Va J J ?_
      by_cases hlt : k = c.length - 1
      ·refine RF J (by simp; omega) ?_
       refine Va J J ?_;refine S_add J J J J (by omega) ?_;refine Va J J ?_;refine S_again (k + 1) ⟨hkl, fun j i' hj hc => ?_⟩ (by omega) J ⟨⟨_, J, by simp [denO]⟩, ⟨_, J, J⟩, ⟨_, J, J⟩, trivial⟩ .nil
       rcases Nat.lt_or_ge j k with h | h
       ·exact hall j i' h hc
       ·obtain rfl : j = k := by omega
        rw [hck] at hc; cases hc
        exact ⟨hio, fun _ => hlt⟩
      ·refine RT J (by simp; omega) ?_
       refine Va J J ?_;exact S_retp (Res.t1 Tryd.results11 J J) XR (by rw [walk_no fun h => hlt ((h k i hck).2.1 hi13)])
     ·refine GF J J (by simp [hi13]) ?_
      refine Va J J ?_;refine S_add J J J J (by omega) ?_;refine Va J J ?_;refine S_again (k + 1) ⟨hkl, fun j i' hj hc => ?_⟩ (by omega) J ⟨⟨_, J, by simp [denO]⟩, ⟨_, J, J⟩, ⟨_, J, J⟩, trivial⟩ .nil
      rcases Nat.lt_or_ge j k with h | h
      ·exact hall j i' h hc
      ·obtain rfl : j = k := by omega
       rw [hck] at hc; cases hc
       exact ⟨hio, fun h => absurd h hi13⟩
    ·refine GT J J (by simp [hio]) ?_
     refine Va J J ?_;exact S_retp (Res.t1 Tryd.results11 J J) XR (by rw [walk_no fun h => hio (h k i hck).1])
   ·obtain rfl : k = c.length := by omega
    have hw : walkOk c := by
     intro k i hki
     have hkl := (List.getElem?_eq_some_iff.1 hki).1
     obtain ⟨a, b⟩ := hall k i hkl hki
     refine ⟨a, b, ?_⟩
     rintro rfl
     rw [hcl] at hki; cases hki
     exact h13
    refine S_call Tryd.call21 (c_l4Rooms c _ G hv hw hr.1 hr.2) J J J ?_;rintro v1 G1 ⟨rv, rfl⟩ hext1
    refine Va J J ?_;exact S_retp (Res.t1 Tryd.results11 J J) hext1 (by rw [codeOk_of hr.1 hr.2 hw])
  ·refine RT J (by simp [h13]) ?_
   refine Va J J ?_;exact S_retp (Res.t1 Tryd.results11 J J) XR (by rw [walk_no fun h => h13 ((h _ il hcl).2.2 J)])
 ·have hno : codeOk c = false := by
   cases hc : codeOk c with
   | false => rfl
   | true => exact absurd ⟨(codeOk_not hc).1, (codeOk_not hc).2.1⟩ hr
  refine GT J J (by simp; omega) ?_;refine Va J J ?_;exact S_retp (Res.t1 Tryd.results11 J J) XR (by rw [hno])
structure TX where
 k : Nat
 G : PH
structure TY where
 j : Nat
 G : PH
theorem c_sCodeText (c : List Ins) (v : Value) (G : PH) (hv : InsG G c v) (hl : c.length ≤ 1000000) : Pure Tryd.prog 12 [v] G fun v' G' => v' = tx (if codeOk c then textI c else []) := by
 obtain ⟨Ac, cc, rfl, _⟩ := id hv
 have h4 := InsG_all hv
 refine Pure.intro Tryd.func12 Tryd.ntmps12 J J fun w => ?_; refine Va J J ?_;refine S_call Tryd.call11 (c_sCodeOk c _ G hv hl) J J J ?_;rintro v1 G1 rfl hext1
 refine Va J J ?_
 by_cases hok : codeOk c = true
 ·refine RF J (by simp [hok]) ?_
  refine Va J J ?_
  rw [if_pos hok]
  obtain ⟨hc1, hc60, hins⟩ := codeOk_ins hok
  have tlen : ∀ k, (textI (c.take k)).length ≤ 81 * 60 := fun k => by
   have := text_len (c := c.take k) fun i hi => h4 i (List.mem_of_mem_take hi)
   rw [List.length_take] at this
   omega
  refine S_loop (α := TX) (fun y => y.k ≤ c.length ∧ PH.ext w.heap.size G y.G) (fun y => c.length - y.k) []
   (fun y => [(4, .val (.int .i64 (y.k : Nat))), (3, .val (tx (textI (c.take y.k)))), (0, .val (.slice Ac c.length cc))]) (fun _ => []) (fun y => y.G) ⟨0, G1⟩ ⟨Nat.zero_le _, hext1⟩ rfl ⟨⟨_, rfl, rfl⟩, ⟨_, rfl, rfl⟩, ⟨_, rfl, rfl⟩, trivial⟩ .nil ?_
  rintro ⟨k, G2⟩ ⟨hk, hext2⟩
  simp only at hk hext2 ⊢
  refine Va J J ?_
  refine S_condp J (fun h5 => ?_) (fun h5 => ?_) <;> refine Va J J ?_
  ·have hkl : k < c.length := by omega
   obtain ⟨ad, rfl, hcell, hi4⟩ := InsG_at (InsG_le hext2.le hv) hkl
   have hio := hins _ (List.getElem_mem hkl)
   have htk : c.take (k + 1) = c.take k ++ [c[k]] := List.take_succ_eq_append_getElem hkl
   have htl := tlen k
   generalize c[k] = i at *
   obtain ⟨hop1, hop2⟩ := insOk_op hio
   have hline := line_len hi4
   obtain ⟨opn, hopn⟩ := Int.eq_ofNat_of_zero_le (show 0 ≤ i.op by omega)
   refine S_index Tk J J J J J J (by omega) (by omega) ?_;refine Va J J ?_;refine S_load Tk J J J J J (by simpa using gcells_at hcell 0 _ (insC_op _)) ?_;refine Va J J ?_
   rw [hopn]
   refine S_call Tryd.call19 (c_l4Word opn (by omega) G2) J J J ?_;rintro v3 G3 ⟨m, rfl⟩ hext3
   refine Va J J ?_;refine S_index Tk J J J J J J (by omega) (by omega) ?_;refine Va J J ?_;refine S_loadA Tk J J J J J (by simpa using gcells_le hext3.le hcell) ?_;refine Va J J ?_;refine S_call Tryd.call22 (c_l4Nums i hi4 G3) J J J ?_;rintro v4 G4 hv4 hext4
   have hle : lineI i = wordN opn ++ (numsI i).flatMap fun n => 32 :: itoa n := by rw [lineI, hopn]; rfl
   have hnl : (numsI i).length ≤ 3 := by unfold numsI; (split <;> split <;> split <;> simp)
   generalize numsI i = ns at hv4 hle hnl
   obtain ⟨A4, c4, rfl, _⟩ := id hv4
   refine Va J J ?_
   have wl : ∀ j, (wordN opn ++ (ns.take j).flatMap fun n => 32 :: itoa n).length ≤ 80 := by
    intro j
    refine Nat.le_trans ?_ hline
    rw [hle]
    conv => rhs; rw [← List.take_append_drop j ns, List.flatMap_append, ← List.append_assoc]
    simp only [List.length_append]
    omega
   refine S_loop (α := TY) (fun y => y.j ≤ ns.length ∧ PH.ext w.heap.size G4 y.G) (fun y => ns.length - y.j) []
    (fun y => [(8, .val (.int .i64 (y.j : Nat))), (5, .val (tx (wordN opn ++ (ns.take y.j).flatMap fun n => 32 :: itoa n))), (7, .val (.slice A4 ns.length c4)), (4, .val (.int .i64 (k : Nat))), (3, .val (tx (textI (c.take k)))), (0, .val (.slice (some ad) c.length cc))]) (fun _ => []) (fun y => y.G) ⟨0, G4⟩ ⟨Nat.zero_le _, PH.ext.refl _ _⟩ rfl ⟨⟨_, rfl, rfl⟩, ⟨_, rfl, by simp [denO]⟩, ⟨_, rfl, rfl⟩, ⟨_, rfl, rfl⟩, ⟨_, rfl, rfl⟩, ⟨_, rfl, rfl⟩, trivial⟩ .nil ?_
   rintro ⟨j, G5⟩ ⟨hj, hext5⟩
   simp only at hj hext5 ⊢
   have hwl := wl j
   refine Va J J ?_
   refine S_condp J (fun h7 => ?_) (fun h7 => ?_) <;> refine Va J J ?_
   ·have hjl : j < ns.length := by omega
    obtain ⟨ad4, cs4, rfl, hcs4, rfl, hn64⟩ := Sr_at (Ints_le hext5.le hv4) hjl
    have hwl1 := wl (j + 1)
    have hnt : ns.take (j + 1) = ns.take j ++ [ns[j]] := List.take_succ_eq_append_getElem hjl
    generalize ns[j] = n at *
    rw [hnt, List.flatMap_append] at hwl1
    simp only [List.flatMap_cons, List.flatMap_nil, List.append_nil] at hwl1
    generalize hpre : wordN opn ++ (ns.take j).flatMap (fun n => 32 :: itoa n) = pre at hwl
    have hstep : wordN opn ++ (ns.take (j + 1)).flatMap (fun n => 32 :: itoa n) = (pre ++ [32]) ++ itoa n := by rw [hnt, List.flatMap_append, ← List.append_assoc, hpre]; simp
    rw [← List.append_assoc, hpre] at hwl1
    refine S_valV J J J (V_addT (q := [32]) J J J J (by simp only [List.length_singleton]; omega)) ?_;refine Va J J ?_;refine S_index Tk J J J J J J (by omega) (by omega) ?_;refine Va J J ?_;refine S_load Tk J J J J J (by simpa using hcs4.1) ?_;refine Va J J ?_;refine S_call Tryd.call23 (c_l11Dec n hn64 G5) J J J ?_;rintro v6 G6 rfl hext6
    refine Va J J ?_;refine S_valV J J J (V_addT J J J J (by simp at hwl1 ⊢; omega)) ?_;refine Va J J ?_;refine S_add J J J J (by omega) ?_;refine Va J J ?_;exact S_again ⟨j + 1, G6⟩ ⟨hjl, hext5.trans hext6⟩ (by simp only; omega) rfl ⟨⟨_, rfl, by simp [denO]⟩, ⟨_, rfl, by simp only [hstep]⟩, ⟨_, rfl, rfl⟩, ⟨_, rfl, rfl⟩, ⟨_, rfl, rfl⟩, ⟨_, rfl, rfl⟩, trivial⟩ .nil
   ·obtain rfl : j = ns.length := by omega
    rw [List.take_length, ← hle]
    refine S_valV J J J (V_addT J J J J (by omega)) ?_;refine Va J J ?_;refine S_valV J J J (V_addT (q := [10]) J J J J (by simp; omega)) ?_;refine Va J J ?_;refine S_add J J J J (by omega) ?_;refine Va J J ?_
    have hstep : textI (c.take (k + 1)) = textI (c.take k) ++ lineI i ++ [10] := by rw [htk, textI, textI, List.flatMap_append]; simp
    exact S_again ⟨k + 1, G5⟩ ⟨hkl, ((hext2.trans hext3).trans hext4).trans hext5⟩ (by simp only; omega) rfl ⟨⟨_, rfl, by simp [denO]⟩, ⟨_, rfl, by simp only [hstep]⟩, ⟨_, rfl, rfl⟩, trivial⟩ .nil
  ·obtain rfl : k = c.length := by omega
   rw [List.take_length]
   exact S_retp (Res.t1 Tryd.results12 J J) hext2 J
 ·refine RT J (by simp [hok]) ?_
  refine Va J J ?_
  rw [if_neg hok]
  exact S_retp (Res.t1 Tryd.results12 J J) hext1 J
end
section
attribute [local irreducible] X Pure Mod
theorem c_iCodeOk (c : List Ins) (v : Value) (G : PH) (hv : InsG G c v) (hl : c.length ≤ 2000000) : Pure Tryd.prog 15 [v] G fun v' G' => v' = .bool (codeOk c) := by
 obtain ⟨Ac, cc, rfl, _⟩ := id hv
 refine Pure.intro Tryd.func15 Tryd.ntmps15 J J fun w => ?_; refine Va J J ?_
 by_cases hr : 1 ≤ c.length ∧ c.length ≤ 60
 ·refine RF J (by simp; omega) ?_
  refine Va J J ?_;refine S_loop (α := Nat × PH) (fun y => y.1 ≤ c.length ∧ (∀ j i, j < y.1 → c[j]? = some i → insOk i c.length = true ∧ (i.op = 13 ↔ j = c.length - 1)) ∧ PH.ext w.heap.size G y.2) (fun y => c.length - y.1) []
   (fun y => [(15, .val (.int .i64 (y.1 : Nat))), (14, .val (.int .i64 (c.length : Nat))), (13, .val (.slice Ac c.length cc)), (0, .val (.slice Ac c.length cc))]) (fun _ => []) (fun y => y.2) (0, G) ⟨Nat.zero_le _, fun j i h => by simp only at h; omega, PH.ext.refl _ _⟩ rfl ⟨⟨_, rfl, rfl⟩, ⟨_, rfl, rfl⟩, ⟨_, rfl, rfl⟩, ⟨_, rfl, rfl⟩, trivial⟩ .nil ?_
  rintro ⟨k, G1⟩ ⟨hk, hall, hext⟩
  simp only at hk hall hext ⊢
  refine Va J J ?_
  refine S_condp J (fun h5 => ?_) (fun h5 => ?_) <;> refine Va J J ?_
  ·have hkl : k < c.length := by omega
   have hck : c[k]? = some c[k] := List.getElem?_eq_getElem hkl
   obtain ⟨adl, rfl, hcell, _⟩ := InsG_at (InsG_le hext.le hv) hkl
   have hq := fun H => c_iInsOk c[k] (c.length : Nat) H
   generalize hke : c[k] = i at *
   refine S_index Tk J J J J J J (by omega) (by omega) ?_;refine Va J J ?_;refine S_loadA Tk J J J J J (by simpa using hcell) ?_
   rw [insV_eq]
   refine Va J J ?_;refine AZ ZT_ok J J J J fun b4 => ?_;refine Va J J ?_;refine S_call Tryd.call27 (hq G1) J J J ?_;rintro v1 G2 rfl hext2
   refine Va J J ?_
   by_cases hio : insOk i c.length = true
   ·refine GF J J (by simp [hio]) ?_
    refine Va J J ?_;refine S_subI J J J J (by omega) ?_;refine Va J J ?_;refine S_valV J J J (V_neqB (by kernel_rfl) (by kernel_rfl) J J) ?_;refine Va J J ?_
    by_cases hiff : (i.op = 13 ↔ k = c.length - 1)
    ·refine RF J (by
      simp only [Bool.not_eq_false', decide_eq_true_eq, decide_eq_decide]
      rw [hiff]
      omega) ?_
     refine Va J J ?_;refine S_add J J J J (by omega) ?_;refine Va J J ?_;refine S_again (k + 1, G2) ⟨hkl, fun j i' hj hc => ?_, hext.trans hext2⟩ (by simp only; omega) rfl ⟨⟨_, rfl, by simp [denO]⟩, ⟨_, rfl, rfl⟩, ⟨_, rfl, rfl⟩, ⟨_, rfl, rfl⟩, trivial⟩ (.drop .nil)
     rcases Nat.lt_or_ge j k with h | h
     ·exact hall j i' h hc
     ·obtain rfl : j = k := by simp only at hj; omega
      rw [hck] at hc; cases hc
      exact ⟨hio, hiff⟩
    ·refine RT J (by
      simp only [Bool.not_eq_true', decide_eq_false_iff_not, decide_eq_decide]
      intro h
      apply hiff
      rw [h]
      omega) ?_
     refine Va J J ?_;exact S_retp (Res.t1 Tryd.results15 J J) (hext.trans hext2) (by rw [walk_no fun h => hiff (h k i hck).2])
   ·refine GT J J (by simp [hio]) ?_
    refine Va J J ?_;exact S_retp (Res.t1 Tryd.results15 J J) (hext.trans hext2) (by rw [walk_no fun h => hio (h k i hck).1])
  ·obtain rfl : k = c.length := by omega
   have hw : walkOk c := fun k i hki => hall k i (List.getElem?_eq_some_iff.1 hki).1 hki
   refine S_call Tryd.call28 (c_roomsOk c _ G1 (InsG_le hext.le hv) hw hr.1 hr.2) J J J ?_;rintro v1 G2 rfl hext2
   refine Va J J ?_;exact S_retp (Res.t1 Tryd.results15 J J) (hext.trans hext2) (by rw [codeOk_of hr.1 hr.2 hw])
 ·have hno : codeOk c = false := by
   cases hc : codeOk c with
   | false => rfl
   | true => exact absurd ⟨(codeOk_not hc).1, (codeOk_not hc).2.1⟩ hr
  refine RT J (by simp; omega) ?_;refine Va J J ?_;exact S_retp (Res.t1 Tryd.results15 J J) XR (by rw [hno])
end
section
open Go.Lib (itoa decDigits join)
attribute [local irreducible] X Pure Mod
def flI (i : Ins) : List (Bool × Int) := [(hasA i.op, i.a), (hasB i.op, i.b), (hasN i.op, i.n)]
def wrI (l : List (Bool × Int)) : List (List UInt8) := (l.filter (·.1)).map fun x => itoa x.2
theorem wrI_all (i : Ins) : wrI (flI i) = (numsI i).map itoa := by
 unfold wrI flI numsI
 cases hasA i.op <;> cases hasB i.op <;> cases hasN i.op <;> simp
theorem wrI_snoc (l : List (Bool × Int)) (x : Bool × Int) : wrI (l ++ [x]) = wrI l ++ if x.1 then [itoa x.2] else [] := by
 unfold wrI
 rw [List.filter_append, List.map_append]
 cases h : x.1 <;> simp [h]
theorem wrI_len (l : List (Bool × Int)) : (wrI l).length ≤ l.length := by
 unfold wrI
 rw [List.length_map]
 exact List.length_filter_le ..
theorem join_words (w : List UInt8) (L : List (List UInt8)) : join (w :: L) [32] = w ++ L.flatMap fun l => 32 :: l := by
 rw [Lib.join_cons, Lib.joinTail, List.flatMap]
 rfl
theorem lim_has (k : Nat) (h1 : 1 ≤ k) (h2 : k ≤ 13) : decide (0 < limA k) = hasA (k : Nat) ∧ decide (0 < limB k) = hasB (k : Nat) := by
 have : k = 1 ∨ k = 2 ∨ k = 3 ∨ k = 4 ∨ k = 5 ∨ k = 6 ∨ k = 7 ∨ k = 8 ∨ k = 9 ∨ k = 10 ∨ k = 11 ∨ k = 12 ∨ k = 13 := by omega
 rcases this with rfl | rfl | rfl | rfl | rfl | rfl | rfl | rfl | rfl | rfl | rfl | rfl | rfl <;> decide
structure LW where
 j : Nat
 A : Option Addr
 c : Nat
 G : PH
theorem c_line (i : Ins) (G : PH) (hop : 1 ≤ i.op ∧ i.op ≤ 13) (h4 : I4 i) (hT : TabG G) : Pure Tryd.prog 29 [.agg (insC i).toArray] G fun v' G' => v' = tx (lineI i) := by
 obtain ⟨op, a, xb, n⟩ := i
 obtain ⟨i0, i1, i2, i3⟩ := h4
 simp only at i0 i1 i2 i3 hop
 obtain ⟨k, rfl⟩ := Int.eq_ofNat_of_zero_le (show 0 ≤ op by omega)
 rw [show (insC ⟨(k : Nat), a, xb, n⟩).toArray = #[.int .i64 (k : Nat), .int .i64 a, .int .i64 xb, .int .i64 n] from rfl]
 have hlim := lim_has k (by omega) (by omega)
 refine Pure.intro Tryd.func29 Tryd.ntmps29 J J fun w => ?_; refine Va J J ?_;refine S_box J J J J J fun b1 => ?_;refine Va J J ?_;refine Ds J J J ?_;refine Da J J ?_;refine D_or 0 4 J J (N_call 0 Tryd.call25 (c_insForms _) J J J J J J J J J J ?_) (N_new 4 J J J J J J J J J J J (AZ ZT_ok J J J J) fun b => ?_)
 ·rintro v G1 ⟨bm, es, rfl, hbm, hes⟩ hext
  have hkeys := formE_keys
  rw [← hes] at hkeys
  have hf := formE_find k (by omega) (by omega)
  rw [← hes] at hf
  refine D_val 3 J J J J J J J J J (V_lookF u_insForms u_int hbm hkeys hf J J) ?_
  clear hf hkeys hes hbm
  unfold fmI
  refine Da J J ?_;refine D_sole 4 J J (N_new 4 J J J J J J J J J J J (AZ ZT_ok J J J J) fun b => ?_)
  refine Da J J ?_;refine Ns 5 J J J J J J J J J ?_;refine Da J J ?_;refine DD ?_;refine Va J J ?_;refine S_sliceB Tk ZT_ok J J J J (by decide) (by decide) J J J J fun b13 hb13 => ?_;refine Va J J ?_;refine S_blkO 13 4 (base := w.heap.size) (n := 1) (c := 1) (o := 0) (sz := 1) J J J J (.inl hb13) J J (Nat.le_refl _) (by simp [maxLen]) (Nat.le_refl _) ?_;refine S_reE 4 (.val (.slice (some ⟨b13, 0, none⟩) 1 1)) J J ?_
  refine Va J J ?_;refine S_sliceG Tk ZT_ok J J J J (by decide) (by decide) J J J J (fun _ => J) fun bq Gq hxq hcq => ?_
  rw [hlim.1, hlim.2] at hcq
  refine Va J J ?_;refine S_loop (α := LW) (fun y => y.j ≤ 3 ∧ PH.ext w.heap.size Gq y.G) (fun y => 3 - y.j) [(1, b1)]
   (fun y => [(24, .val (.int .i64 (y.j : Nat))), (23, .val (.int .i64 3)), (22, .val (.slice (some ⟨bq, 0, none⟩) 3 3)), (4, .val (.slice y.A (1 + (wrI ((flI ⟨(k : Nat), a, xb, n⟩).take y.j)).length) y.c)), (1, .ptr 1 0)])
   (fun y => [.hp 4 (rowO w.heap.size 9 1 y.A (1 + (wrI ((flI ⟨(k : Nat), a, xb, n⟩).take y.j)).length) y.c ((wordN k :: wrI ((flI ⟨(k : Nat), a, xb, n⟩).take y.j)).map tx)), .blk 1 31 (vL [.int .i64 (k : Nat), .int .i64 a, .int .i64 xb, .int .i64 n])]) (fun y => y.G) ⟨0, some ⟨b13, 0, none⟩, 1, Gq⟩ ⟨by simp only; omega, PH.ext.refl _ _⟩ rfl ⟨⟨_, rfl, rfl⟩, ⟨_, rfl, rfl⟩, ⟨_, rfl, rfl⟩, ⟨_, rfl, rfl⟩, ⟨_, rfl, rfl⟩, trivial⟩ (by first | exact .hp (.drop (.blk rfl rfl .nil)) | exact .hp (.blk rfl rfl .nil)) ?_
  rintro ⟨j, A, cc, G3⟩ ⟨hj, hext3⟩
  simp only at hj hext3 ⊢
  refine Va J J ?_
  have hwl := wrI_len ((flI ⟨(k : Nat), a, xb, n⟩).take j)
  have hfl : (flI ⟨(k : Nat), a, xb, n⟩).length = 3 := rfl
  rw [List.length_take] at hwl
  refine S_condp J (fun h5 => ?_) (fun h5 => ?_) <;> refine Va J J ?_
  ·have hjl : j < (flI ⟨(k : Nat), a, xb, n⟩).length := by omega
   have htk : (flI ⟨(k : Nat), a, xb, n⟩).take (j + 1) = (flI ⟨(k : Nat), a, xb, n⟩).take j ++ [(flI ⟨(k : Nat), a, xb, n⟩)[j]] := List.take_succ_eq_append_getElem hjl
   have hfj : (flI ⟨(k : Nat), a, xb, n⟩)[j]? = some (flI ⟨(k : Nat), a, xb, n⟩)[j] := List.getElem?_eq_getElem hjl
   have hbj : gcell G3 ((⟨bq, 0, none⟩ : Addr).add j) = some (.bool (flI ⟨(k : Nat), a, xb, n⟩)[j].1) := gcells_at (cs := (flI ⟨(k : Nat), a, xb, n⟩).map fun x => .bool x.1) (gcells_le hext3.le hcq) j _ (by rw [List.getElem?_map, hfj]; rfl)
   have hvj : (intC [a, xb, n])[j]? = some (.int .i64 (flI ⟨(k : Nat), a, xb, n⟩)[j].2) := by
    rw [intC_map, show [a, xb, n] = (flI ⟨(k : Nat), a, xb, n⟩).map (·.2) from rfl, List.map_map, List.getElem?_map, hfj]; rfl
   have h64 : I64 (flI ⟨(k : Nat), a, xb, n⟩)[j].2 := by
    have := List.getElem_mem hjl
    generalize (flI ⟨(k : Nat), a, xb, n⟩)[j] = x at this
    simp only [flI, List.mem_cons, List.not_mem_nil, or_false] at this
    rcases this with rfl | rfl | rfl
    ·exact i1
    ·exact i2
    ·exact i3
   generalize (flI ⟨(k : Nat), a, xb, n⟩)[j] = x at htk hbj hvj h64
   have hsn := wrI_snoc ((flI ⟨(k : Nat), a, xb, n⟩).take j) x
   rw [← htk] at hsn
   refine S_index Tk J J J J J J (by omega) (by omega) ?_;refine Va J J ?_;refine S_load Tk J J J J J (by simpa using hbj) ?_;refine Va J J ?_
   by_cases hx1 : x.1 = true
   ·refine RT J hx1 ?_
    refine Va J J ?_
    rw [if_pos hx1] at hsn
    refine S_sliceG Tk ZT_ok J J J J (by decide) (by decide) J J J J (fun _ => J) fun br Gr hxr hcr => ?_;refine Va J J ?_;refine S_index Tk J J J J J J (by omega) (by omega) ?_;refine Va J J ?_;refine S_load Tk J J J J J (by simpa using gcells_at (cs := intC [a, xb, n]) hcr j _ hvj) ?_;refine Va J J ?_;refine S_call Tryd.call44 (c_Itoa x.2 h64 Gr (TabG_le ((hext.trans hxq).trans (hext3.trans hxr)).le hT)) J J J ?_
    rintro v6 G6 ⟨rfl, rfl⟩ _
    refine Va J J ?_;refine S_slice Tk ZT_ok J J J J (by decide) (by decide) J J J J fun b42 => ?_;refine Va J J ?_;refine S_app1 Tk 4 42 J J J J J J J J J J J J J J (by intro u hu; simp at hu; rcases hu with rfl; rfl) rfl (fun _ _ => rfl) (by omega) (Nat.le_refl _) fun A6 c6 => ?_;refine Va J J ?_;refine S_add J J J J (by omega) ?_;refine Va J J ?_;refine S_again ⟨j + 1, A6, c6, _⟩ ⟨by simp only; omega, hext3.trans hxr⟩ (by simp only; omega) rfl ⟨⟨_, rfl, by simp [denO]⟩, ⟨_, rfl, rfl⟩, ⟨_, rfl, rfl⟩, ⟨_, rfl, by simp only [hsn, List.length_append, List.length_singleton, denO]; rfl⟩, ⟨_, rfl, rfl⟩, trivial⟩ ?_
    simp only [hsn, List.length_append, List.length_singleton, List.map_cons, List.map_append, List.map_nil]
    first | exact .drop (.hp (.blk J J .nil)) | exact .hp (.blk J J .nil)
   ·refine RF J (by simpa using hx1) ?_
    refine Va J J ?_
    rw [if_neg hx1, List.append_nil] at hsn
    refine S_add J J J J (by omega) ?_;refine Va J J ?_;refine S_again ⟨j + 1, A, cc, G3⟩ ⟨by simp only; omega, hext3⟩ (by simp only; omega) rfl ⟨⟨_, rfl, by simp [denO]⟩, ⟨_, rfl, rfl⟩, ⟨_, rfl, rfl⟩, ⟨_, rfl, by simp only [hsn]⟩, ⟨_, rfl, rfl⟩, trivial⟩ ?_
    simp only [hsn]
    exact .hp (.blk J J .nil)
  ·obtain rfl : j = 3 := by omega
   have hall : wordN k :: wrI ((flI ⟨(k : Nat), a, xb, n⟩).take 3) = wordN k :: (numsI ⟨(k : Nat), a, xb, n⟩).map itoa := by
    rw [List.take_of_length_le (by omega), wrI_all]
   have hjn : join (wordN k :: wrI ((flI ⟨(k : Nat), a, xb, n⟩).take 3)) [32] = lineI ⟨(k : Nat), a, xb, n⟩ := by
    rw [hall, join_words, List.flatMap_map]
    rfl
   have hlen := line_len (i := ⟨(k : Nat), a, xb, n⟩) ⟨⟨by simp only; omega, by simp only; omega⟩, i1, i2, i3⟩
   refine S_freezeN 4 J J (Nat.le_refl _) fun Gf hextf hncf hcmf hclf => ?_;refine S_call Tryd.call45 (vs := [.slice A (wordN k :: wrI ((flI ⟨(k : Nat), a, xb, n⟩).take 3)).length cc, tx [32]]) (c_Join (wordN k :: wrI ((flI ⟨(k : Nat), a, xb, n⟩).take 3)) [32] A cc Gf (hclf.imp (fun h => by omega) id) (by simp only [List.length_cons]; omega) (by simp only [List.length_cons]; omega) (by rw [hjn]; omega)) rfl rfl (by simp only [List.length_cons, Nat.add_comm 1]; rfl) ?_
   rintro v7 G7 ⟨rfl, rfl⟩ _
   refine Va J J ?_;exact S_retp (Res.t1 Tryd.results29 J J) (((hext.trans hxq).trans hext3).trans hextf) (by rw [hjn])
 ·refine Da J J ?_
  refine D_sole 0 J J (N_call 0 Tryd.call25 (c_insForms _) J J J J J J J J J J ?_)
  rintro v G1 ⟨bm, es, rfl, hbm, hes⟩ hext
  have hkeys := formE_keys
  rw [← hes] at hkeys
  have hf := formE_find k (by omega) (by omega)
  rw [← hes] at hf
  refine D_val 3 J J J J J J J J J (V_lookF u_insForms u_int hbm hkeys hf J J) ?_
  clear hf hkeys hes hbm
  unfold fmI
  refine Da J J ?_;refine Ns 5 J J J J J J J J J ?_;refine Da J J ?_;refine DD ?_;refine Va J J ?_;refine S_sliceB Tk ZT_ok J J J J (by decide) (by decide) J J J J fun b13 hb13 => ?_;refine Va J J ?_;refine S_blkO 13 4 (base := w.heap.size) (n := 1) (c := 1) (o := 0) (sz := 1) J J J J (.inl hb13) J J (Nat.le_refl _) (by simp [maxLen]) (Nat.le_refl _) ?_;refine S_reE 4 (.val (.slice (some ⟨b13, 0, none⟩) 1 1)) J J ?_
  refine Va J J ?_;refine S_sliceG Tk ZT_ok J J J J (by decide) (by decide) J J J J (fun _ => J) fun bq Gq hxq hcq => ?_
  rw [hlim.1, hlim.2] at hcq
  refine Va J J ?_;refine S_loop (α := LW) (fun y => y.j ≤ 3 ∧ PH.ext w.heap.size Gq y.G) (fun y => 3 - y.j) [(1, b1)]
   (fun y => [(24, .val (.int .i64 (y.j : Nat))), (23, .val (.int .i64 3)), (22, .val (.slice (some ⟨bq, 0, none⟩) 3 3)), (4, .val (.slice y.A (1 + (wrI ((flI ⟨(k : Nat), a, xb, n⟩).take y.j)).length) y.c)), (1, .ptr 1 0)])
   (fun y => [.hp 4 (rowO w.heap.size 9 1 y.A (1 + (wrI ((flI ⟨(k : Nat), a, xb, n⟩).take y.j)).length) y.c ((wordN k :: wrI ((flI ⟨(k : Nat), a, xb, n⟩).take y.j)).map tx)), .blk 1 31 (vL [.int .i64 (k : Nat), .int .i64 a, .int .i64 xb, .int .i64 n])]) (fun y => y.G) ⟨0, some ⟨b13, 0, none⟩, 1, Gq⟩ ⟨by simp only; omega, PH.ext.refl _ _⟩ rfl ⟨⟨_, rfl, rfl⟩, ⟨_, rfl, rfl⟩, ⟨_, rfl, rfl⟩, ⟨_, rfl, rfl⟩, ⟨_, rfl, rfl⟩, trivial⟩ (by first | exact .hp (.drop (.blk rfl rfl .nil)) | exact .hp (.blk rfl rfl .nil)) ?_
  rintro ⟨j, A, cc, G3⟩ ⟨hj, hext3⟩
  simp only at hj hext3 ⊢
  refine Va J J ?_
  have hwl := wrI_len ((flI ⟨(k : Nat), a, xb, n⟩).take j)
  have hfl : (flI ⟨(k : Nat), a, xb, n⟩).length = 3 := rfl
  rw [List.length_take] at hwl
  refine S_condp J (fun h5 => ?_) (fun h5 => ?_) <;> refine Va J J ?_
  ·have hjl : j < (flI ⟨(k : Nat), a, xb, n⟩).length := by omega
   have htk : (flI ⟨(k : Nat), a, xb, n⟩).take (j + 1) = (flI ⟨(k : Nat), a, xb, n⟩).take j ++ [(flI ⟨(k : Nat), a, xb, n⟩)[j]] := List.take_succ_eq_append_getElem hjl
   have hfj : (flI ⟨(k : Nat), a, xb, n⟩)[j]? = some (flI ⟨(k : Nat), a, xb, n⟩)[j] := List.getElem?_eq_getElem hjl
   have hbj : gcell G3 ((⟨bq, 0, none⟩ : Addr).add j) = some (.bool (flI ⟨(k : Nat), a, xb, n⟩)[j].1) := gcells_at (cs := (flI ⟨(k : Nat), a, xb, n⟩).map fun x => .bool x.1) (gcells_le hext3.le hcq) j _ (by rw [List.getElem?_map, hfj]; rfl)
   have hvj : (intC [a, xb, n])[j]? = some (.int .i64 (flI ⟨(k : Nat), a, xb, n⟩)[j].2) := by
    rw [intC_map, show [a, xb, n] = (flI ⟨(k : Nat), a, xb, n⟩).map (·.2) from rfl, List.map_map, List.getElem?_map, hfj]; rfl
   have h64 : I64 (flI ⟨(k : Nat), a, xb, n⟩)[j].2 := by
    have := List.getElem_mem hjl
    generalize (flI ⟨(k : Nat), a, xb, n⟩)[j] = x at this
    simp only [flI, List.mem_cons, List.not_mem_nil, or_false] at this
    rcases this with rfl | rfl | rfl
    ·exact i1
    ·exact i2
    ·exact i3
   generalize (flI ⟨(k : Nat), a, xb, n⟩)[j] = x at htk hbj hvj h64
   have hsn := wrI_snoc ((flI ⟨(k : Nat), a, xb, n⟩).take j) x
   rw [← htk] at hsn
   refine S_index Tk J J J J J J (by omega) (by omega) ?_;refine Va J J ?_;refine S_load Tk J J J J J (by simpa using hbj) ?_;refine Va J J ?_
   by_cases hx1 : x.1 = true
   ·refine RT J hx1 ?_
    refine Va J J ?_
    rw [if_pos hx1] at hsn
    refine S_sliceG Tk ZT_ok J J J J (by decide) (by decide) J J J J (fun _ => J) fun br Gr hxr hcr => ?_;refine Va J J ?_;refine S_index Tk J J J J J J (by omega) (by omega) ?_;refine Va J J ?_;refine S_load Tk J J J J J (by simpa using gcells_at (cs := intC [a, xb, n]) hcr j _ hvj) ?_;refine Va J J ?_;refine S_call Tryd.call44 (c_Itoa x.2 h64 Gr (TabG_le ((hext.trans hxq).trans (hext3.trans hxr)).le hT)) J J J ?_
    rintro v6 G6 ⟨rfl, rfl⟩ _
    refine Va J J ?_;refine S_slice Tk ZT_ok J J J J (by decide) (by decide) J J J J fun b42 => ?_;refine Va J J ?_;refine S_app1 Tk 4 42 J J J J J J J J J J J J J J (by intro u hu; simp at hu; rcases hu with rfl; rfl) rfl (fun _ _ => rfl) (by omega) (Nat.le_refl _) fun A6 c6 => ?_;refine Va J J ?_;refine S_add J J J J (by omega) ?_;refine Va J J ?_;refine S_again ⟨j + 1, A6, c6, _⟩ ⟨by simp only; omega, hext3.trans hxr⟩ (by simp only; omega) rfl ⟨⟨_, rfl, by simp [denO]⟩, ⟨_, rfl, rfl⟩, ⟨_, rfl, rfl⟩, ⟨_, rfl, by simp only [hsn, List.length_append, List.length_singleton, denO]; rfl⟩, ⟨_, rfl, rfl⟩, trivial⟩ ?_
    simp only [hsn, List.length_append, List.length_singleton, List.map_cons, List.map_append, List.map_nil]
    first | exact .drop (.hp (.blk J J .nil)) | exact .hp (.blk J J .nil)
   ·refine RF J (by simpa using hx1) ?_
    refine Va J J ?_
    rw [if_neg hx1, List.append_nil] at hsn
    refine S_add J J J J (by omega) ?_;refine Va J J ?_;refine S_again ⟨j + 1, A, cc, G3⟩ ⟨by simp only; omega, hext3⟩ (by simp only; omega) rfl ⟨⟨_, rfl, by simp [denO]⟩, ⟨_, rfl, rfl⟩, ⟨_, rfl, rfl⟩, ⟨_, rfl, by simp only [hsn]⟩, ⟨_, rfl, rfl⟩, trivial⟩ ?_
    simp only [hsn]
    exact .hp (.blk J J .nil)
  ·obtain rfl : j = 3 := by omega
   have hall : wordN k :: wrI ((flI ⟨(k : Nat), a, xb, n⟩).take 3) = wordN k :: (numsI ⟨(k : Nat), a, xb, n⟩).map itoa := by
    rw [List.take_of_length_le (by omega), wrI_all]
   have hjn : join (wordN k :: wrI ((flI ⟨(k : Nat), a, xb, n⟩).take 3)) [32] = lineI ⟨(k : Nat), a, xb, n⟩ := by
    rw [hall, join_words, List.flatMap_map]
    rfl
   have hlen := line_len (i := ⟨(k : Nat), a, xb, n⟩) ⟨⟨by simp only; omega, by simp only; omega⟩, i1, i2, i3⟩
   refine S_freezeN 4 J J (Nat.le_refl _) fun Gf hextf hncf hcmf hclf => ?_;refine S_call Tryd.call45 (vs := [.slice A (wordN k :: wrI ((flI ⟨(k : Nat), a, xb, n⟩).take 3)).length cc, tx [32]]) (c_Join (wordN k :: wrI ((flI ⟨(k : Nat), a, xb, n⟩).take 3)) [32] A cc Gf (hclf.imp (fun h => by omega) id) (by simp only [List.length_cons]; omega) (by simp only [List.length_cons]; omega) (by rw [hjn]; omega)) rfl rfl (by simp only [List.length_cons, Nat.add_comm 1]; rfl) ?_
   rintro v7 G7 ⟨rfl, rfl⟩ _
   refine Va J J ?_;exact S_retp (Res.t1 Tryd.results29 J J) (((hext.trans hxq).trans hext3).trans hextf) (by rw [hjn])
end
section
attribute [local irreducible] X Pure Mod
theorem c_iCodeText (c : List Ins) (v : Value) (G : PH) (hv : InsG G c v) (hl : c.length ≤ 2000000) (hT : TabG G) : Pure Tryd.prog 16 [v] G fun v' G' => v' = tx (if codeOk c then textI c else []) := by
 obtain ⟨Ac, cc, rfl, _⟩ := id hv
 have h4 := InsG_all hv
 refine Pure.intro Tryd.func16 Tryd.ntmps16 J J fun w => ?_; refine Va J J ?_;refine S_call Tryd.call15 (c_iCodeOk c _ G hv hl) J J J ?_;rintro v1 G1 rfl hext1
 refine Va J J ?_
 by_cases hok : codeOk c = true
 ·refine RF J (by simp [hok]) ?_
  refine Va J J ?_
  rw [if_pos hok]
  obtain ⟨hc1, hc60, hins⟩ := codeOk_ins hok
  have tlen : ∀ k, (textI (c.take k)).length ≤ 81 * 60 := fun k => by
   have := text_len (c := c.take k) fun i hi => h4 i (List.mem_of_mem_take hi)
   rw [List.length_take] at this
   omega
  refine S_loop (α := TX) (fun y => y.k ≤ c.length ∧ PH.ext w.heap.size G y.G) (fun y => c.length - y.k) []
   (fun y => [(11, .val (.int .i64 (y.k : Nat))), (10, .val (.int .i64 (c.length : Nat))), (9, .val (.slice Ac c.length cc)), (3, .val (tx (textI (c.take y.k))))]) (fun _ => []) (fun y => y.G) ⟨0, G1⟩ ⟨Nat.zero_le _, hext1⟩ rfl ⟨⟨_, rfl, rfl⟩, ⟨_, rfl, rfl⟩, ⟨_, rfl, rfl⟩, ⟨_, rfl, rfl⟩, trivial⟩ .nil ?_
  rintro ⟨k, G2⟩ ⟨hk, hext2⟩
  simp only at hk hext2 ⊢
  refine Va J J ?_
  refine S_condp J (fun h5 => ?_) (fun h5 => ?_) <;> refine Va J J ?_
  ·have hkl : k < c.length := by omega
   obtain ⟨ad, rfl, hcell, hi4⟩ := InsG_at (InsG_le hext2.le hv) hkl
   have hio := hins _ (List.getElem_mem hkl)
   have htk : c.take (k + 1) = c.take k ++ [c[k]] := List.take_succ_eq_append_getElem hkl
   have htl := tlen k
   have hq := fun H hT => c_line c[k] H (insOk_op hio) hi4 hT
   generalize c[k] = i at *
   have hline := line_len hi4
   refine S_index Tk J J J J J J (by omega) (by omega) ?_;refine Va J J ?_;refine S_loadA Tk J J J J J (by simpa using hcell) ?_
   rw [insV_eq]
   refine Va J J ?_;refine AZ ZT_ok J J J J fun b5 => ?_;refine Va J J ?_;refine S_call Tryd.call29 (hq G2 (TabG_le hext2.le hT)) J J J ?_;rintro v3 G3 rfl hext3
   refine Va J J ?_;refine S_valV J J J (V_addT (q := [10]) J J J J (by simp only [List.length_singleton]; omega)) ?_;refine Va J J ?_;refine S_valV J J J (V_addT J J J J (by simp only [List.length_append, List.length_singleton]; omega)) ?_;refine Va J J ?_;refine S_add J J J J (by omega) ?_;refine Va J J ?_
   have hstep : textI (c.take (k + 1)) = textI (c.take k) ++ (lineI i ++ [10]) := by rw [htk, textI, textI, List.flatMap_append]; simp
   exact S_again ⟨k + 1, G3⟩ ⟨hkl, hext2.trans hext3⟩ (by simp only; omega) rfl ⟨⟨_, rfl, by simp [denO]⟩, ⟨_, rfl, rfl⟩, ⟨_, rfl, rfl⟩, ⟨_, rfl, by simp only [hstep]; rfl⟩, trivial⟩ (.drop .nil)
  ·obtain rfl : k = c.length := by omega
   rw [List.take_length]
   exact S_retp (Res.t1 Tryd.results16 J J) hext2 J
 ·refine RT J (by simp [hok]) ?_
  refine Va J J ?_
  rw [if_neg hok]
  exact S_retp (Res.t1 Tryd.results16 J J) hext1 J
end
section
attribute [local irreducible] X Pure Mod
theorem valD_lt : ∀ (l : List UInt8), (∀ c ∈ l, digB c = true) → valD 0 l < 10 ^ l.length := by
 have key : ∀ (l : List UInt8) (a : Nat), (∀ c ∈ l, digB c = true) → valD a l < (a + 1) * 10 ^ l.length := by
  intro l
  induction l with
  | nil => intro a _; simp [valD]
  | cons c l ih =>
   intro a h
   have hc : 48 ≤ c.toNat ∧ c.toNat ≤ 57 := by simpa [digB] using h c (List.mem_cons_self ..)
   have := ih (a * 10 + (c.toNat - 48)) fun x hx => h x (List.mem_cons_of_mem _ hx)
   show valD (a * 10 + (c.toNat - 48)) l < _
   refine Nat.lt_of_lt_of_le this ?_
   rw [List.length_cons, Nat.pow_succ, Nat.mul_comm (10 ^ l.length) 10, ← Nat.mul_assoc]
   exact Nat.mul_le_mul_right _ (by omega)
 intro l h
 have := key l 0 h
 simpa using this
theorem valD_snoc (l : List UInt8) (c : UInt8) : valD 0 (l ++ [c]) = valD 0 l * 10 + (c.toNat - 48) := by rw [valD_append]; rfl
def rdT (neg : Bool) (t : List UInt8) : Int × Bool := if t.length = 0 ∨ 17 < t.length ∨ (t.head? = some 48 ∧ (1 < t.length ∨ neg = true)) then (0, false)
 else if t.all digB then (if neg then -(valD 0 t : Int) else (valD 0 t : Int), true) else (0, false)
theorem rdN_cons (c : UInt8) (r : List UInt8) : rdN (c :: r) = if c = 45 then rdT true r else rdT false (c :: r) := by
 unfold rdN
 by_cases h : c = 45
 ·subst h
  simp [rdT]
 ·have : ¬ (c :: r).head? = some 45 := by simpa using h
  simp [rdT, this, h]
theorem head_at {t : List UInt8} (h : 0 < t.length) : t.head? = some t[0] := by
 cases t with
 | nil => simp at h
 | cons x r => rfl
theorem c_l11Num (s : List UInt8) (G : PH) (hs : s.length ≤ 1048576) : Pure Tryd.prog 18 [tx s] G fun v G' => v = .tuple #[.int .i64 (rdN s).1, .bool (rdN s).2] ∧ G' = G := by
 refine Pure.intro Tryd.func18 Tryd.ntmps18 J J fun w => ?_; refine Va J J ?_
 cases s with
 | nil =>
  refine GF J J (by simp [ba_size]) ?_;refine Va J J ?_;refine GT J J (by simp [ba_size]) ?_;refine Va J J ?_;exact S_retp (Res.t2 Tryd.results18 J J J J) XR ⟨J, J⟩
 | cons c r =>
  refine GT J J (by simp [ba_size]) ?_;refine Va J J ?_;refine S_valV J J J (V_idxT (i := 0) u_str J J (by simp)) ?_;refine Va J J ?_;refine S_valV J J J (V_eq8 J J) ?_;refine Va J J ?_
  simp only [List.getElem_cons_zero]
  by_cases hc : c = 45
  ·have hc' : (c.toNat : Int) = 45 := by rw [hc]; rfl
   rw [rdN_cons, if_pos hc]
   refine RT J (by simp [hc']) ?_;refine Va J J ?_;refine S_valV J J J (V_subTl (i := 1) u_str J J (by simp)) ?_;refine Va J J ?_
   rw [List.drop_succ_cons, List.drop_zero]
   simp only [List.length_cons] at hs
   by_cases hb0 : (r).length = 0 ∨ 17 < (r).length
   ·have hbad : rdT true r = (0, false) := by unfold rdT; rw [if_pos (by rcases hb0 with h | h; exact .inl h; exact .inr (.inl h))]
    refine GT J J (by simp only [ba_size, Bool.or_eq_true, decide_eq_true_eq]; omega) ?_;refine Va J J ?_;exact S_retp (Res.t2 Tryd.results18 J J J J) XR ⟨by rw [hbad], J⟩
   refine GF J J (by simp only [ba_size, Bool.or_eq_false_iff, decide_eq_false_iff_not]; omega) ?_;refine Va J J ?_;refine S_valV J J J (V_idxT (i := 0) u_str J J (by omega)) ?_;refine Va J J ?_;refine S_valV J J J (V_eq8 J J) ?_;refine Va J J ?_
   have hh := head_at (show 0 < (r).length by omega)
   have h48 : ((r).head? = some 48) ↔ ((r)[0].toNat : Int) = 48 := by
    rw [hh, Option.some.injEq]
    constructor
    ·intro h; rw [h]; rfl
    ·intro h; exact UInt8.toNat_inj.1 (by rw [show (48 : UInt8).toNat = 48 from J]; omega)
   by_cases h1 : ((r)[0].toNat : Int) = 48
   ·refine GT J J (decide_eq_true h1) ?_
    refine Va J J ?_
    by_cases h9 : 1 < (r).length
    ·refine GT J J (by simp only [ba_size, decide_eq_true_eq]; omega) ?_
     refine Va J J ?_
     have hbad : rdT true r = (0, false) := by unfold rdT; rw [if_pos (.inr (.inr ⟨h48.2 h1, .inl h9⟩))]
     exact S_retp (Res.t2 Tryd.results18 J J J J) XR ⟨by rw [hbad], J⟩
    refine GF J J (by simp only [ba_size, decide_eq_false_iff_not]; omega) ?_;refine Va J J ?_
    have hbad : rdT true r = (0, false) := by unfold rdT; rw [if_pos (.inr (.inr ⟨h48.2 h1, .inr rfl⟩))]
    refine RT J (by simp [hc']) ?_;refine Va J J ?_;exact S_retp (Res.t2 Tryd.results18 J J J J) XR ⟨by rw [hbad], J⟩
   have hb2 : ¬ ((r).head? = some 48 ∧ (1 < (r).length ∨ true = true)) := fun h => h1 (h48.1 h.1)
   refine GF J J (decide_eq_false h1) ?_;refine Va J J ?_
   have hgo : rdT true r = if (r).all digB then (if true then -(valD 0 r : Int) else (valD 0 r : Int), true) else (0, false) := by
    unfold rdT
    rw [if_neg]
    rintro (h | h | h)
    ·exact hb0 (.inl h)
    ·exact hb0 (.inr h)
    ·exact hb2 h
   refine S_loop (α := Nat) (fun i => i ≤ (r).length ∧ ∀ y ∈ (r).take i, digB y = true) (fun i => (r).length - i) []
    (fun i => [(6, .val (.int .i64 (i : Nat))), (5, .val (.int .i64 (valD 0 ((r).take i) : Nat))), (0, .val (tx r)), (4, .val (.bool (decide ((c.toNat : Int) = 45))))]) (fun _ => []) (fun _ => G) 0 ⟨Nat.zero_le _, by simp⟩ rfl ⟨⟨_, rfl, rfl⟩, ⟨_, rfl, rfl⟩, ⟨_, rfl, rfl⟩, ⟨_, rfl, rfl⟩, trivial⟩ .nil ?_
   rintro i ⟨hi, hd⟩
   refine Va J J ?_
   refine S_condp J (fun h5 => ?_) (fun h5 => ?_) <;> refine Va J J ?_
   ·have hil : i < (r).length := by simp only [ba_size] at h5; omega
    have htk := List.take_succ_eq_append_getElem hil
    have hlt := valD_lt ((r).take i) hd
    have hp : valD 0 ((r).take i) < 10 ^ 17 := Nat.lt_of_lt_of_le hlt (Nat.pow_le_pow_right (by omega) (by rw [List.length_take]; omega))
    have hp2 : valD 0 ((r).take i) < 100000000000000000 := by simpa using hp
    refine S_valV J J J (V_idxT u_str J J hil) ?_;refine Va J J ?_;refine S_valV J J J (V_lt8 J J) ?_;refine Va J J ?_
    have hbadD : digB (r)[i] = false → rdT true r = (0, false) := by
     intro h
     rw [hgo, if_neg]
     intro h2
     have := List.all_eq_true.1 h2 (r)[i] (List.getElem_mem hil)
     rw [h] at this; cases this
    generalize hx : (r)[i] = x at htk hbadD
    by_cases hc1 : x.toNat < 48
    ·refine GT J J (by simp; omega) ?_
     refine Va J J ?_
     have hbad := hbadD (by simp [digB]; omega)
     exact S_retp (Res.t2 Tryd.results18 J J J J) XR ⟨by rw [hbad], J⟩
    refine GF J J (by simp; omega) ?_;refine Va J J ?_;refine S_valV J J J (V_idxT u_str J J hil) ?_;refine Va J J ?_;refine S_valV J J J (V_gt8 J J) ?_;refine Va J J ?_
    rw [hx]
    by_cases hc2 : 57 < x.toNat
    ·refine RT J (by simp; omega) ?_
     refine Va J J ?_
     have hbad := hbadD (by simp [digB]; omega)
     exact S_retp (Res.t2 Tryd.results18 J J J J) XR ⟨by rw [hbad], J⟩
    refine RF J (by simp; omega) ?_;refine Va J J ?_;refine S_mul J J J J (by omega) ?_;refine Va J J ?_;refine S_valV J J J (V_idxT u_str J J hil) ?_;refine Va J J ?_
    rw [hx]
    refine S_valV J J J (V_sub8 J J (by omega) (by omega)) ?_;refine Va J J ?_;refine S_valV J J J (V_conv J u_byte u_intT (by rw [IntKind.wrap_i64]; omega)) ?_;refine Va J J ?_;refine S_add J J J J (by omega) ?_;refine Va J J ?_;refine S_add J J J J (by omega) ?_;refine Va J J ?_;refine S_again (i + 1) ⟨hil, ?_⟩ (by omega) J ⟨⟨_, J, by simp [denO]⟩, ⟨_, J, by simp only [denO, htk, valD_snoc]; congr 2; omega⟩, ⟨_, rfl, rfl⟩, ⟨_, rfl, rfl⟩, trivial⟩ .nil
    intro y hy
    rw [htk] at hy
    rcases List.mem_append.1 hy with hy | hy
    ·exact hd y hy
    ·rw [List.mem_singleton.1 hy]; simp [digB]; omega
   have e0 : i = (r).length := by simp only [ba_size] at h5; omega
   subst e0
   rw [List.take_length] at *
   have hok : rdT true r = (if true then -(valD 0 r : Int) else (valD 0 r : Int), true) := by rw [hgo, if_pos (List.all_eq_true.2 hd)]
   have hlt := valD_lt (r) hd
   have hp : valD 0 (r) < 10 ^ 17 := Nat.lt_of_lt_of_le hlt (Nat.pow_le_pow_right (by omega) (by omega))
   have hp2 : valD 0 (r) < 100000000000000000 := by simpa using hp
   refine RT J (by simp [hc']) ?_;refine Va J J ?_;refine S_valV J J J (V_neg J (by omega)) ?_;refine Va J J ?_;exact S_retp (Res.t2 Tryd.results18 J J J J) XR ⟨by rw [hok]; rfl, rfl⟩
  ·have hc' : ¬ (c.toNat : Int) = 45 := fun h => hc (UInt8.toNat_inj.1 (by rw [show (45 : UInt8).toNat = 45 from rfl]; omega))
   rw [rdN_cons, if_neg hc]
   refine RF J (by simp [hc']) ?_;refine Va J J ?_
   by_cases hb0 : ((c :: r)).length = 0 ∨ 17 < ((c :: r)).length
   ·have hbad : rdT false (c :: r) = (0, false) := by unfold rdT; rw [if_pos (by rcases hb0 with h | h; exact .inl h; exact .inr (.inl h))]
    refine GT J J (by simp only [ba_size, Bool.or_eq_true, decide_eq_true_eq]; omega) ?_;refine Va J J ?_;exact S_retp (Res.t2 Tryd.results18 J J J J) XR ⟨by rw [hbad], J⟩
   refine GF J J (by simp only [ba_size, Bool.or_eq_false_iff, decide_eq_false_iff_not]; omega) ?_;refine Va J J ?_;refine S_valV J J J (V_idxT (i := 0) u_str J J (by omega)) ?_;refine Va J J ?_;refine S_valV J J J (V_eq8 J J) ?_;refine Va J J ?_
   have hh := head_at (show 0 < ((c :: r)).length by omega)
   have h48 : (((c :: r)).head? = some 48) ↔ (((c :: r))[0].toNat : Int) = 48 := by
    rw [hh, Option.some.injEq]
    constructor
    ·intro h; rw [h]; rfl
    ·intro h; exact UInt8.toNat_inj.1 (by rw [show (48 : UInt8).toNat = 48 from J]; omega)
   by_cases h1 : (((c :: r))[0].toNat : Int) = 48
   ·refine GT J J (decide_eq_true h1) ?_
    refine Va J J ?_
    by_cases h9 : 1 < ((c :: r)).length
    ·refine GT J J (by simp only [ba_size, decide_eq_true_eq]; omega) ?_
     refine Va J J ?_
     have hbad : rdT false (c :: r) = (0, false) := by unfold rdT; rw [if_pos (.inr (.inr ⟨h48.2 h1, .inl h9⟩))]
     exact S_retp (Res.t2 Tryd.results18 J J J J) XR ⟨by rw [hbad], J⟩
    refine GF J J (by simp only [ba_size, decide_eq_false_iff_not]; omega) ?_;refine Va J J ?_
    have hb2 : ¬ (((c :: r)).head? = some 48 ∧ (1 < ((c :: r)).length ∨ false = true)) := fun h => by rcases h.2 with h | h; exact h9 h; cases h
    refine RF J (by simp [hc']) ?_;refine Va J J ?_
    have hgo : rdT false (c :: r) = if ((c :: r)).all digB then (if false then -(valD 0 (c :: r) : Int) else (valD 0 (c :: r) : Int), true) else (0, false) := by
     unfold rdT
     rw [if_neg]
     rintro (h | h | h)
     ·exact hb0 (.inl h)
     ·exact hb0 (.inr h)
     ·exact hb2 h
    refine S_loop (α := Nat) (fun i => i ≤ ((c :: r)).length ∧ ∀ y ∈ ((c :: r)).take i, digB y = true) (fun i => ((c :: r)).length - i) []
     (fun i => [(6, .val (.int .i64 (i : Nat))), (5, .val (.int .i64 (valD 0 (((c :: r)).take i) : Nat))), (0, .val (tx (c :: r))), (4, .val (.bool (decide ((c.toNat : Int) = 45))))]) (fun _ => []) (fun _ => G) 0 ⟨Nat.zero_le _, by simp⟩ rfl ⟨⟨_, rfl, rfl⟩, ⟨_, rfl, rfl⟩, ⟨_, rfl, rfl⟩, ⟨_, rfl, rfl⟩, trivial⟩ .nil ?_
    rintro i ⟨hi, hd⟩
    refine Va J J ?_
    refine S_condp J (fun h5 => ?_) (fun h5 => ?_) <;> refine Va J J ?_
    ·have hil : i < ((c :: r)).length := by simp only [ba_size] at h5; omega
     have htk := List.take_succ_eq_append_getElem hil
     have hlt := valD_lt (((c :: r)).take i) hd
     have hp : valD 0 (((c :: r)).take i) < 10 ^ 17 := Nat.lt_of_lt_of_le hlt (Nat.pow_le_pow_right (by omega) (by rw [List.length_take]; omega))
     have hp2 : valD 0 (((c :: r)).take i) < 100000000000000000 := by simpa using hp
     refine S_valV J J J (V_idxT u_str J J hil) ?_;refine Va J J ?_;refine S_valV J J J (V_lt8 J J) ?_;refine Va J J ?_
     have hbadD : digB ((c :: r))[i] = false → rdT false (c :: r) = (0, false) := by
      intro h
      rw [hgo, if_neg]
      intro h2
      have := List.all_eq_true.1 h2 ((c :: r))[i] (List.getElem_mem hil)
      rw [h] at this; cases this
     generalize hx : ((c :: r))[i] = x at htk hbadD
     by_cases hc1 : x.toNat < 48
     ·refine GT J J (by simp; omega) ?_
      refine Va J J ?_
      have hbad := hbadD (by simp [digB]; omega)
      exact S_retp (Res.t2 Tryd.results18 J J J J) XR ⟨by rw [hbad], J⟩
     refine GF J J (by simp; omega) ?_;refine Va J J ?_;refine S_valV J J J (V_idxT u_str J J hil) ?_;refine Va J J ?_;refine S_valV J J J (V_gt8 J J) ?_;refine Va J J ?_
     rw [hx]
     by_cases hc2 : 57 < x.toNat
     ·refine RT J (by simp; omega) ?_
      refine Va J J ?_
      have hbad := hbadD (by simp [digB]; omega)
      exact S_retp (Res.t2 Tryd.results18 J J J J) XR ⟨by rw [hbad], J⟩
     refine RF J (by simp; omega) ?_;refine Va J J ?_;refine S_mul J J J J (by omega) ?_;refine Va J J ?_;refine S_valV J J J (V_idxT u_str J J hil) ?_;refine Va J J ?_
     rw [hx]
     refine S_valV J J J (V_sub8 J J (by omega) (by omega)) ?_;refine Va J J ?_;refine S_valV J J J (V_conv J u_byte u_intT (by rw [IntKind.wrap_i64]; omega)) ?_;refine Va J J ?_;refine S_add J J J J (by omega) ?_;refine Va J J ?_;refine S_add J J J J (by omega) ?_;refine Va J J ?_;refine S_again (i + 1) ⟨hil, ?_⟩ (by omega) J ⟨⟨_, J, by simp [denO]⟩, ⟨_, J, by simp only [denO, htk, valD_snoc]; congr 2; omega⟩, ⟨_, rfl, rfl⟩, ⟨_, rfl, rfl⟩, trivial⟩ .nil
     intro y hy
     rw [htk] at hy
     rcases List.mem_append.1 hy with hy | hy
     ·exact hd y hy
     ·rw [List.mem_singleton.1 hy]; simp [digB]; omega
    have e0 : i = ((c :: r)).length := by simp only [ba_size] at h5; omega
    subst e0
    rw [List.take_length] at *
    have hok : rdT false (c :: r) = (if false then -(valD 0 (c :: r) : Int) else (valD 0 (c :: r) : Int), true) := by rw [hgo, if_pos (List.all_eq_true.2 hd)]
    have hlt := valD_lt ((c :: r)) hd
    have hp : valD 0 ((c :: r)) < 10 ^ 17 := Nat.lt_of_lt_of_le hlt (Nat.pow_le_pow_right (by omega) (by omega))
    have hp2 : valD 0 ((c :: r)) < 100000000000000000 := by simpa using hp
    refine RF J (by simp [hc']) ?_;refine Va J J ?_;exact S_retp (Res.t2 Tryd.results18 J J J J) XR ⟨by rw [hok]; rfl, rfl⟩
   have hb2 : ¬ (((c :: r)).head? = some 48 ∧ (1 < ((c :: r)).length ∨ false = true)) := fun h => h1 (h48.1 h.1)
   refine GF J J (decide_eq_false h1) ?_;refine Va J J ?_
   have hgo : rdT false (c :: r) = if ((c :: r)).all digB then (if false then -(valD 0 (c :: r) : Int) else (valD 0 (c :: r) : Int), true) else (0, false) := by
    unfold rdT
    rw [if_neg]
    rintro (h | h | h)
    ·exact hb0 (.inl h)
    ·exact hb0 (.inr h)
    ·exact hb2 h
   refine S_loop (α := Nat) (fun i => i ≤ ((c :: r)).length ∧ ∀ y ∈ ((c :: r)).take i, digB y = true) (fun i => ((c :: r)).length - i) []
    (fun i => [(6, .val (.int .i64 (i : Nat))), (5, .val (.int .i64 (valD 0 (((c :: r)).take i) : Nat))), (0, .val (tx (c :: r))), (4, .val (.bool (decide ((c.toNat : Int) = 45))))]) (fun _ => []) (fun _ => G) 0 ⟨Nat.zero_le _, by simp⟩ rfl ⟨⟨_, rfl, rfl⟩, ⟨_, rfl, rfl⟩, ⟨_, rfl, rfl⟩, ⟨_, rfl, rfl⟩, trivial⟩ .nil ?_
   rintro i ⟨hi, hd⟩
   refine Va J J ?_
   refine S_condp J (fun h5 => ?_) (fun h5 => ?_) <;> refine Va J J ?_
   ·have hil : i < ((c :: r)).length := by simp only [ba_size] at h5; omega
    have htk := List.take_succ_eq_append_getElem hil
    have hlt := valD_lt (((c :: r)).take i) hd
    have hp : valD 0 (((c :: r)).take i) < 10 ^ 17 := Nat.lt_of_lt_of_le hlt (Nat.pow_le_pow_right (by omega) (by rw [List.length_take]; omega))
    have hp2 : valD 0 (((c :: r)).take i) < 100000000000000000 := by simpa using hp
    refine S_valV J J J (V_idxT u_str J J hil) ?_;refine Va J J ?_;refine S_valV J J J (V_lt8 J J) ?_;refine Va J J ?_
    have hbadD : digB ((c :: r))[i] = false → rdT false (c :: r) = (0, false) := by
     intro h
     rw [hgo, if_neg]
     intro h2
     have := List.all_eq_true.1 h2 ((c :: r))[i] (List.getElem_mem hil)
     rw [h] at this; cases this
    generalize hx : ((c :: r))[i] = x at htk hbadD
    by_cases hc1 : x.toNat < 48
    ·refine GT J J (by simp; omega) ?_
     refine Va J J ?_
     have hbad := hbadD (by simp [digB]; omega)
     exact S_retp (Res.t2 Tryd.results18 J J J J) XR ⟨by rw [hbad], J⟩
    refine GF J J (by simp; omega) ?_;refine Va J J ?_;refine S_valV J J J (V_idxT u_str J J hil) ?_;refine Va J J ?_;refine S_valV J J J (V_gt8 J J) ?_;refine Va J J ?_
    rw [hx]
    by_cases hc2 : 57 < x.toNat
    ·refine RT J (by simp; omega) ?_
     refine Va J J ?_
     have hbad := hbadD (by simp [digB]; omega)
     exact S_retp (Res.t2 Tryd.results18 J J J J) XR ⟨by rw [hbad], J⟩
    refine RF J (by simp; omega) ?_;refine Va J J ?_;refine S_mul J J J J (by omega) ?_;refine Va J J ?_;refine S_valV J J J (V_idxT u_str J J hil) ?_;refine Va J J ?_
    rw [hx]
    refine S_valV J J J (V_sub8 J J (by omega) (by omega)) ?_;refine Va J J ?_;refine S_valV J J J (V_conv J u_byte u_intT (by rw [IntKind.wrap_i64]; omega)) ?_;refine Va J J ?_;refine S_add J J J J (by omega) ?_;refine Va J J ?_;refine S_add J J J J (by omega) ?_;refine Va J J ?_;refine S_again (i + 1) ⟨hil, ?_⟩ (by omega) J ⟨⟨_, J, by simp [denO]⟩, ⟨_, J, by simp only [denO, htk, valD_snoc]; congr 2; omega⟩, ⟨_, rfl, rfl⟩, ⟨_, rfl, rfl⟩, trivial⟩ .nil
    intro y hy
    rw [htk] at hy
    rcases List.mem_append.1 hy with hy | hy
    ·exact hd y hy
    ·rw [List.mem_singleton.1 hy]; simp [digB]; omega
   have e0 : i = ((c :: r)).length := by simp only [ba_size] at h5; omega
   subst e0
   rw [List.take_length] at *
   have hok : rdT false (c :: r) = (if false then -(valD 0 (c :: r) : Int) else (valD 0 (c :: r) : Int), true) := by rw [hgo, if_pos (List.all_eq_true.2 hd)]
   have hlt := valD_lt ((c :: r)) hd
   have hp : valD 0 ((c :: r)) < 10 ^ 17 := Nat.lt_of_lt_of_le hlt (Nat.pow_le_pow_right (by omega) (by omega))
   have hp2 : valD 0 ((c :: r)) < 100000000000000000 := by simpa using hp
   refine RF J (by simp [hc']) ?_;refine Va J J ?_;exact S_retp (Res.t2 Tryd.results18 J J J J) XR ⟨by rw [hok]; rfl, rfl⟩
end
section
attribute [local irreducible] X Pure Mod
theorem rdN_64 (s : List UInt8) : -100000000000000000 < (rdN s).1 ∧ (rdN s).1 < 100000000000000000 := by
 unfold rdN
 simp only
 generalize (if decide (s.head? = some 45) = true then s.tail else s) = t
 split
 ·simp
 ·rename_i h
  have hl : t.length ≤ 17 := by omega
  split
  ·rename_i hd
   have h1 := valD_lt t (by simpa using hd)
   have h2 : valD 0 t < 10 ^ 17 := Nat.lt_of_lt_of_le h1 (Nat.pow_le_pow_right (by omega) hl)
   have h3 : valD 0 t < 100000000000000000 := by simpa using h2
   split <;> (simp only; omega)
  ·simp
def opUp (w : List UInt8) (m : Nat) : Nat := (List.range m).foldl (fun o k => if 1 ≤ k ∧ wordN k = w then k else o) 0
theorem opUp_succ (w : List UInt8) {m : Nat} (h : 1 ≤ m) : opUp w (m + 1) = if wordN m = w then m else opUp w m := by
 unfold opUp
 rw [List.range_succ, List.foldl_append]
 simp only [List.foldl_cons, List.foldl_nil]
 by_cases hw : wordN m = w
 ·rw [if_pos ⟨h, hw⟩, if_pos hw]
 ·rw [if_neg fun e => hw e.2, if_neg hw]
theorem opUp_all (w : List UInt8) : opUp w 14 = opOf w := rfl
def num3 (w : List (List UInt8)) (k : Nat) : List Int := [if 1 < k then numAt w 1 else 0, if 2 < k then numAt w 2 else 0, if 3 < k then numAt w 3 else 0]
theorem num3_set (w : List (List UInt8)) {k : Nat} (h1 : 1 ≤ k) (h2 : k < 4) : (num3 w k).set (k - 1) (numAt w k) = num3 w (k + 1) := by
 have : k = 1 ∨ k = 2 ∨ k = 3 := by omega
 rcases this with rfl | rfl | rfl <;> simp [num3]
theorem num3_stop (w : List (List UInt8)) {k : Nat} (h1 : 1 ≤ k) (h : ¬ (k < w.length ∧ k < 4)) : num3 w k = [numAt w 1, numAt w 2, numAt w 3] := by
 have hz : ∀ j, w.length ≤ j → numAt w j = 0 := fun j hj => by unfold numAt; rw [List.getElem?_eq_none hj]
 unfold num3
 by_cases h4 : 4 ≤ k
 ·rw [if_pos (by omega), if_pos (by omega), if_pos (by omega)]
 ·have hw : w.length ≤ k := by omega
  congr 1
  ·split
   ·rfl
   ·rw [hz 1 (by omega)]
  congr 1
  ·split
   ·rfl
   ·rw [hz 2 (by omega)]
  congr 1
  split
  ·rfl
  ·rw [hz 3 (by omega)]
theorem numAt_at {w : List (List UInt8)} {k : Nat} (h : k < w.length) : numAt w k = (rdN w[k]).1 := by
 unfold numAt
 rw [List.getElem?_eq_getElem h]
theorem cutB_each (b : UInt8) : ∀ (s : List UInt8), ∀ l ∈ cutB b s, l.length ≤ s.length
 | [], l, h => by simp [cutB] at h; subst h; simp
 | x :: r, l, h => by
  simp only [cutB] at h
  split at h
  ·rcases List.mem_cons.1 h with rfl | h
   ·simp
   ·have := cutB_each b r l h
    simp only [List.length_cons]; omega
  ·have ih := cutB_each b r
   split at h
   ·simp only [List.mem_cons, List.not_mem_nil, or_false] at h; subst h; simp
   ·rename_i p ps e
    rcases List.mem_cons.1 h with rfl | h
    ·have := ih p (by rw [e]; exact List.mem_cons_self ..)
     simp only [List.length_cons]; omega
    ·have := ih l (by rw [e]; exact List.mem_cons_of_mem _ h)
     simp only [List.length_cons]; omega
theorem c_l4Read (s : List UInt8) (G : PH) (hs : s.length ≤ 1048576) : Pure Tryd.prog 10 [tx s] G fun v G' => v = .agg (insC (readS s)).toArray ∧ I4 (readS s) := by
 refine Pure.intro Tryd.func10 Tryd.ntmps10 J J fun w => ?_; refine Va J J ?_;refine AZ ZT_ok J J J J fun b2 => ?_;refine Va J J ?_;refine S_call Tryd.call9 (c_l11Cut s 32 G hs) J J J ?_;rintro v1 G1 hv1 hext1
 have hwl := cutB_len 32 s
 have hwe := cutB_each 32 s
 have hwne := cutB_ne 32 s
 have hrd : readS s = mkIns (opOf ((cutB 32 s).headD [])) (numAt (cutB 32 s) 1) (numAt (cutB 32 s) 2) (numAt (cutB 32 s) 3) := rfl
 generalize cutB 32 s = ws at hv1 hwl hwe hwne hrd
 obtain ⟨A1, c1, rfl, _⟩ := id hv1
 refine Va J J ?_;refine S_sliceB Tk ZT_ok J J J J (by decide) (by decide) J J J J fun b12 hb12 => ?_;refine Va J J ?_;refine S_blkO 12 4 (base := w.heap.size) (n := 3) (c := 3) (o := 0) (sz := 1) J J J J (.inl hb12) J J (Nat.le_refl _) (by simp [maxLen]) (Nat.le_refl _) ?_;refine S_reE 4 (.val (.slice (some ⟨b12, 0, none⟩) 3 3)) J J ?_;refine Va J J ?_;refine S_loop (α := Nat × PH) (fun y => 1 ≤ y.1 ∧ y.1 ≤ 4 ∧ PH.ext w.heap.size G1 y.2) (fun y => 4 - y.1) [(2, b2)]
  (fun y => [(5, .val (.int .i64 (y.1 : Nat))), (4, .val (.slice (some ⟨b12, 0, none⟩) 3 3)), (3, .val (.slice A1 ws.length c1)), (2, .ptr 2 0)])
  (fun y => [.hp 4 (rowO w.heap.size 3 1 (some ⟨b12, 0, none⟩) 3 3 (intC (num3 ws y.1))), .blk 2 31 (vL [.int .i64 0, .int .i64 0, .int .i64 0, .int .i64 0])]) (fun y => y.2) (1, G1) ⟨Nat.le_refl _, by omega, PH.ext.refl _ _⟩ rfl ⟨⟨_, rfl, rfl⟩, ⟨_, rfl, rfl⟩, ⟨_, rfl, rfl⟩, ⟨_, rfl, rfl⟩, trivial⟩ (.hp (.blk rfl rfl .nil)) ?_
 rintro ⟨k, G2⟩ ⟨hk1, hk4, hext2⟩
 simp only at hk1 hk4 hext2 ⊢
 refine Va J J ?_
 have hwpos : 0 < ws.length := List.length_pos_iff.2 hwne
 by_cases h5 : k < ws.length ∧ k < 4
 ·refine RT J (by simp; omega) ?_
  refine Va J J ?_
  have hns := num3_set ws hk1 h5.2
  rw [numAt_at h5.1] at hns
  have hwk := hwe _ (List.getElem_mem h5.1)
  obtain ⟨ad, rfl, hcell⟩ := Txs_at (Txs_le hext2.le hv1) h5.1
  have hq := c_l11Num ws[k] G2 (by omega)
  generalize ws[k] = t at hns hwk hcell hq
  refine S_subI J J J J (by omega) ?_;refine Va J J ?_;refine S_index Tk J J J J J J (by omega) (by omega) ?_;refine Va J J ?_;refine S_load Tk J J J J J (by simpa using hcell) ?_;refine Va J J ?_;refine S_call Tryd.call18 hq J J J ?_;rintro v3 G3 ⟨rfl, rfl⟩ _
  refine Va J J ?_;refine S_index Tk J J J J J J (by omega) (by omega) ?_;refine Va J J ?_;refine S_storeO Tk 4 (o := k - 1) J J J (by rw [add_lit']; congr 1; omega) rfl rfl rfl rfl rfl (by simp [num3, intC]; omega) rfl ?_
  rw [intC_sets, hns]
  refine Va J J ?_;refine S_add J J J J (by omega) ?_;refine Va J J ?_;exact S_again (k + 1, G3) ⟨by omega, by simp only; omega, hext2⟩ (by simp only; omega) rfl ⟨⟨_, rfl, by simp [denO]⟩, ⟨_, rfl, rfl⟩, ⟨_, rfl, rfl⟩, ⟨_, rfl, rfl⟩, trivial⟩ (.hp (.blk rfl rfl .nil))
 refine RF J (by simp; omega) ?_;refine Va J J ?_
 rw [num3_stop ws hk1 h5]
 refine AZ ZT_ok J J J J fun b6 => ?_;refine Va J J ?_
 have hv2 := Txs_le hext2.le hv1
 obtain ⟨ad, hA1, hcell⟩ := Txs_at hv2 hwpos
 subst hA1
 have hhd : ws.headD [] = ws[0] := by
  cases ws with
  | nil => exact absurd rfl hwne
  | cons a r => rfl
 rw [hhd] at hrd
 have h64 : ∀ j, I64 (numAt ws j) := by
  intro j
  unfold numAt
  split
  ·rename_i t _
   have := rdN_64 t
   exact ⟨by omega, by omega⟩
  ·exact ⟨by omega, by omega⟩
 generalize ws[0] = w0 at hrd hcell
 have hx := h64 1
 have hy := h64 2
 have hz := h64 3
 generalize numAt ws 1 = x at hrd hx
 generalize numAt ws 2 = y at hrd hy
 generalize numAt ws 3 = z at hrd hz
 refine S_loop (α := Nat × PH) (fun q => 1 ≤ q.1 ∧ q.1 ≤ 14 ∧ PH.ext w.heap.size G2 q.2) (fun q => 14 - q.1) [(6, b6), (2, b2)]
  (fun q => [(7, .val (.int .i64 (q.1 : Nat))), (6, .ptr 6 0), (4, .val (.slice (some ⟨b12, 0, none⟩) 3 3)), (3, .val (.slice (some ad) ws.length c1)), (2, .ptr 2 0)])
  (fun q => [.blk 6 31 (vL [.int .i64 (opUp w0 q.1 : Nat), .int .i64 0, .int .i64 0, .int .i64 0]), .hp 4 (rowO w.heap.size 3 1 (some ⟨b12, 0, none⟩) 3 3 (intC [x, y, z])), .blk 2 31 (vL [.int .i64 0, .int .i64 0, .int .i64 0, .int .i64 0])]) (fun q => q.2) (1, G2) ⟨Nat.le_refl _, by omega, PH.ext.refl _ _⟩ rfl ⟨⟨_, rfl, rfl⟩, ⟨_, rfl, rfl⟩, ⟨_, rfl, rfl⟩, ⟨_, rfl, rfl⟩, ⟨_, rfl, rfl⟩, trivial⟩ (.blk rfl rfl (.hp (.blk rfl rfl .nil))) ?_
 rintro ⟨m, G3⟩ ⟨hm1, hm14, hext3⟩
 simp only at hm1 hm14 hext3 ⊢
 refine Va J J ?_
 refine S_condp J (fun h7 => ?_) (fun h7 => ?_) <;> refine Va J J ?_
 ·refine S_call Tryd.call19 (c_l4Word m (by omega) G3) J J J ?_
  rintro v4 G4 ⟨mm, rfl⟩ hext4
  refine Va J J ?_;refine S_index Tk J J J J J J (by omega) (by omega) ?_;refine Va J J ?_;refine S_load Tk J J J J J (by simpa using gcell_le (hext3.trans hext4).le hcell) ?_;refine Va J J ?_;refine S_valV J J J (V_eqT (by kernel_rfl) J J) ?_;refine Va J J ?_
  have hup := opUp_succ w0 hm1
  refine S_condp J (fun h8 => ?_) (fun h8 => ?_) <;> refine Va J J ?_
  ·rw [if_pos h8] at hup
   refine S_add J J J J (by omega) ?_;refine Va J J ?_;exact S_again (m + 1, G4) ⟨by omega, by simp only; omega, hext3.trans hext4⟩ (by simp only; omega) rfl ⟨⟨_, rfl, by simp [denO]⟩, ⟨_, rfl, rfl⟩, ⟨_, rfl, rfl⟩, ⟨_, rfl, rfl⟩, ⟨_, rfl, rfl⟩, trivial⟩ (by simp only [hup]; exact .blk J J (.hp (.blk J J .nil)))
  ·rw [if_neg h8] at hup
   refine S_add J J J J (by omega) ?_;refine Va J J ?_;exact S_again (m + 1, G4) ⟨by omega, by simp only; omega, hext3.trans hext4⟩ (by simp only; omega) rfl ⟨⟨_, rfl, by simp [denO]⟩, ⟨_, rfl, rfl⟩, ⟨_, rfl, rfl⟩, ⟨_, rfl, rfl⟩, ⟨_, rfl, rfl⟩, trivial⟩ (by simp only [hup]; exact .blk J J (.hp (.blk J J .nil)))
 obtain rfl : m = 14 := by omega
 rw [opUp_all]
 have hop := opOf_range w0
 have hopi : I64 ((opOf w0 : Nat) : Int) := ⟨by omega, by omega⟩
 have hz64 : I64 0 := ⟨by omega, by omega⟩
 generalize ((opOf w0 : Nat) : Int) = op at hrd hopi
 have hext := (hext1.trans hext2).trans hext3
 refine S_condp J (fun h7 => ?_) (fun h7 => ?_) <;> refine Va J J ?_
 ·refine S_index Tk J J J J J J (by decide) (by decide) ?_
  refine Va J J ?_;refine S_valV J J J (V_loadR' Tk 4 (v := .int .i64 x) J J (add_lit' ..) J J J) ?_;refine Va J J ?_;refine S_retp (Res.c1 Tk Tryd.results10 J J) hext ?_
  rw [hrd, mkIns, if_pos h7]
  exact ⟨J, hopi, hz64, hz64, hx⟩
 refine S_condp J (fun h1 => ?_) (fun h1 => ?_) <;> refine Va J J ?_
 ·refine RT J (by simp [h1]) ?_
  refine Va J J ?_;refine S_index Tk J J J J J J (by decide) (by decide) ?_;refine Va J J ?_;refine S_valV J J J (V_loadR' Tk 4 (v := .int .i64 y) J J (add_lit' ..) J J J) ?_;refine Va J J ?_;refine S_index Tk J J J J J J (by decide) (by decide) ?_;refine Va J J ?_;refine S_valV J J J (V_loadR' Tk 4 (v := .int .i64 x) J J (add_lit' ..) J J J) ?_;refine Va J J ?_;refine S_retp (Res.c1 Tk Tryd.results10 J J) hext ?_
  rw [hrd, mkIns, if_neg h7, if_pos (.inl h1)]
  exact ⟨J, hopi, hx, hz64, hy⟩
 refine S_condp J (fun h6 => ?_) (fun h6 => ?_) <;> refine Va J J ?_
 ·refine S_index Tk J J J J J J (by decide) (by decide) ?_
  refine Va J J ?_;refine S_valV J J J (V_loadR' Tk 4 (v := .int .i64 y) J J (add_lit' ..) J J J) ?_;refine Va J J ?_;refine S_index Tk J J J J J J (by decide) (by decide) ?_;refine Va J J ?_;refine S_valV J J J (V_loadR' Tk 4 (v := .int .i64 x) J J (add_lit' ..) J J J) ?_;refine Va J J ?_;refine S_retp (Res.c1 Tk Tryd.results10 J J) hext ?_
  rw [hrd, mkIns, if_neg h7, if_pos (.inr h6)]
  exact ⟨J, hopi, hx, hz64, hy⟩
 refine S_condp J (fun h2 => ?_) (fun h2 => ?_) <;> refine Va J J ?_
 ·refine S_index Tk J J J J J J (by decide) (by decide) ?_
  refine Va J J ?_;refine S_valV J J J (V_loadR' Tk 4 (v := .int .i64 y) J J (add_lit' ..) J J J) ?_;refine Va J J ?_;refine S_index Tk J J J J J J (by decide) (by decide) ?_;refine Va J J ?_;refine S_valV J J J (V_loadR' Tk 4 (v := .int .i64 z) J J (add_lit' ..) J J J) ?_;refine Va J J ?_;refine S_index Tk J J J J J J (by decide) (by decide) ?_;refine Va J J ?_;refine S_valV J J J (V_loadR' Tk 4 (v := .int .i64 x) J J (add_lit' ..) J J J) ?_
  refine Va J J ?_;refine S_retp (Res.c1 Tk Tryd.results10 J J) hext ?_
  rw [hrd, mkIns, if_neg h7, if_neg (by omega), if_pos h2]
  exact ⟨J, hopi, hx, hy, hz⟩
 refine S_condp J (fun h3 => ?_) (fun h3 => ?_) <;> refine Va J J ?_
 ·refine RT J (by simp [h3]) ?_
  refine Va J J ?_;refine S_index Tk J J J J J J (by decide) (by decide) ?_;refine Va J J ?_;refine S_valV J J J (V_loadR' Tk 4 (v := .int .i64 y) J J (add_lit' ..) J J J) ?_;refine Va J J ?_;refine S_index Tk J J J J J J (by decide) (by decide) ?_;refine Va J J ?_;refine S_valV J J J (V_loadR' Tk 4 (v := .int .i64 x) J J (add_lit' ..) J J J) ?_;refine Va J J ?_;refine S_retp (Res.c1 Tk Tryd.results10 J J) hext ?_
  rw [hrd, mkIns, if_neg h7, if_neg (by omega), if_neg h2, if_pos (.inl h3)]
  exact ⟨J, hopi, hx, hy, hz64⟩
 refine S_condp J (fun h4 => ?_) (fun h4 => ?_) <;> refine Va J J ?_
 ·refine S_index Tk J J J J J J (by decide) (by decide) ?_
  refine Va J J ?_;refine S_valV J J J (V_loadR' Tk 4 (v := .int .i64 y) J J (add_lit' ..) J J J) ?_;refine Va J J ?_;refine S_index Tk J J J J J J (by decide) (by decide) ?_;refine Va J J ?_;refine S_valV J J J (V_loadR' Tk 4 (v := .int .i64 x) J J (add_lit' ..) J J J) ?_;refine Va J J ?_;refine S_retp (Res.c1 Tk Tryd.results10 J J) hext ?_
  rw [hrd, mkIns, if_neg h7, if_neg (by omega), if_neg h2, if_pos (.inr h4)]
  exact ⟨J, hopi, hx, hy, hz64⟩
 ·refine S_index Tk J J J J J J (by decide) (by decide) ?_
  refine Va J J ?_;refine S_valV J J J (V_loadR' Tk 4 (v := .int .i64 x) J J (add_lit' ..) J J J) ?_;refine Va J J ?_;refine S_retp (Res.c1 Tk Tryd.results10 J J) hext ?_
  rw [hrd, mkIns, if_neg h7, if_neg (by omega), if_neg h2, if_neg (by omega)]
  exact ⟨J, hopi, hx, hz64, hz64⟩
end
end Go.Proofs.YtblildkhbkmmdaaDoor
