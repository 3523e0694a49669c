/- Walks of the program's functions, one after the other (part 11); without conditions of their own. -/
import Derived.Test.YtcbdilccmjpnbaaGreatDoorWDM2
import Derived.Test.YtcbdilccmjpnbaaGreatDoorWDM3
import Derived.Test.YtcbdilccmjpnbaaGreatDoorWDM4
import Derived.Test.YtcbdilccmjpnbaaGreatDoorWDM5
import Derived.Test.YtcbdilccmjpnbaaGreatDoorWDM7
import Derived.Test.YtcbdilccmjpnbaaGreatDoorWDM9
import Derived.Test.YtcbdilccmjpnbaaGreatDoorWDM10
set_option linter.unusedVariables false
set_option linter.unusedSimpArgs false
set_option maxRecDepth 100000
set_option maxHeartbeats 4000000
open Go.RowKit
namespace Go.Proofs.YtcbdilccmjpnbaaGreatDoor
section
open Go.Lib (itoa join)
attribute [local irreducible] X Pure Mod
def TabG (G : PH) : Prop := ∀ w, Emb G w → Lib.TabIs Tryz.prog w "internal/strconv.uint64pow10" .u64 Lib.pow10Tab
theorem TabG_le {G G' : PH} (h : G.le G') (hT : TabG G) : TabG G' := fun w hw => hT w fun b o hb => hw b o (h b o hb)
theorem pure_below {P : Program} {f : Nat} {vs : List Value} {G : PH} {u : Value} (h : ∀ w, Emb G w → Calls P f vs.toArray w fun e w' => e = .returned u ∧ Below w.heap.size w w') : Pure P f vs G fun v G' => v = u ∧ G' = G := by
 unfold Pure
 intro w hw
 refine (h w hw).mono ?_;rintro e w' ⟨rfl, hb⟩
 refine ⟨u, G, rfl, ⟨rfl, rfl⟩, PH.ext.refl _ _, fun b o hbo => ?_, hb⟩
 have hlt : b < w.heap.size := (Array.getElem?_eq_some_iff.1 (hw b o hbo)).1
 rw [hb.block b hlt]
 exact hw b o hbo
theorem below_grow (w : World) (k : Nat) (os : Array Obj) : Below w.heap.size w (Sort.grow (w.drewN k) os) :=
 ⟨rfl, rfl, rfl, by simp [Sort.grow, World.drewN], fun b hb => by
  rw [Sort.heap_grow_old _ _ (by simpa [World.drewN] using hb)]; rfl⟩
theorem c_Itoa (n : Int) (hn : I64 n) (G : PH) (hT : TabG G) : Pure Tryz.prog 107 [.int .i64 n] G fun v G' => v = tx (itoa n) ∧ G' = G :=
 pure_below fun w hw => (Tryz.strconv_Itoa n hn.1 hn.2 w (hT w hw)).mono fun e w' ⟨he, k, os, hw'⟩ => ⟨he, hw' ▸ below_grow w k os⟩
theorem c_Join (xs : List (List UInt8)) (sep : List UInt8) (A : Option Addr) (c : Nat) (G : PH) (hv : xs.length = 0 ∨ ∃ g o, A = some ⟨g, o, none⟩ ∧ gcells G ⟨g, o, none⟩ (xs.map tx)) (hc : xs.length ≤ c) (hn : xs.length ≤ 1000000000) (hl : (join xs sep).length ≤ 140737488355328) : Pure Tryz.prog 108 [.slice A xs.length c, tx sep] G fun v' G' => v' = tx (join xs sep) ∧ G' = G := by
 rcases Nat.eq_zero_or_pos xs.length with h0 | h0
 ·obtain rfl := List.eq_nil_of_length_eq_zero h0
  exact pure_below fun w hw => (Tryz.strings_Join_none A c ⟨sep.toArray⟩ w).mono fun e w' ⟨he, hw'⟩ => ⟨he, hw' ▸ Below.refl _ _⟩
 rcases hv with hv | ⟨g, o, rfl, hcs⟩
 ·omega
 have e1 : (xs.map fun x => (⟨x.toArray⟩ : ByteArray)).map (·.data.toList) = xs := by simp [Function.comp_def]
 refine pure_below fun w hw => ?_
 have hcell : ∀ (j : Nat) (x : ByteArray), (xs.map fun x => (⟨x.toArray⟩ : ByteArray))[j]? = some x → w.cell? ⟨g, o + j, none⟩ = some (.string x) := by
  intro j x hj
  rw [List.getElem?_map] at hj
  obtain ⟨y, hy, rfl⟩ := Option.map_eq_some_iff.1 hj
  have := gcell_emb hw (gcells_at hcs j (tx y) (by rw [List.getElem?_map, hy]; rfl))
  rw [show (⟨g, o, none⟩ : Addr).add j = ⟨g, o + j, none⟩ by unfold Addr.add; split <;> simp_all] at this
  exact this
 have hg : g < w.heap.size := by
  have h1 := gcells_at hcs 0 (tx xs[0]) (by simp [h0])
  unfold gcell at h1
  simp only [Addr.add] at h1
  split at h1
  ·rename_i hx
   exact (Array.getElem?_eq_some_iff.1 (hw _ _ hx)).1
  ·cases h1
 have := Tryz.strings_Join g o c (xs.map fun x => (⟨x.toArray⟩ : ByteArray)) ⟨sep.toArray⟩ w hcell hg (by simp; omega) (by simpa using hc) (by rw [e1]; simpa using hl)
 rw [e1] at this
 simpa [tx] using this
theorem S_freezeN {C : Ctx} {k : List It} {E : Env} {ι : Ids} {L : List Ent} {G : PH} (κ : Nat) {base e sz : Nat} {A : Option Addr} {n c : Nat} {xs : List Value} {L' : List Ent} (hL : getH κ L = some (rowO base e sz A n c xs)) (hL' : delH κ L = some L') (hb0 : C.w0.heap.size ≤ base)
  (hk : ∀ G', PH.ext C.w0.heap.size G G' → n ≤ c → c ≤ maxLen → (n = 0 ∨ ∃ g o, A = some ⟨g, o, none⟩ ∧ gcells G' ⟨g, o, none⟩ xs) → X C k E ι L' G') : X C k E ι L G := by
 refine S_lendO κ hL hL' (fun hA hn hc hx => ?_) (fun g off cur hA hbg hnc hcm hl hfit ht hG hb hcells => ?_)
 ·exact hk G XR (by omega) (by rw [hc]; simp [maxLen]) (.inl hn)
 ·refine hk _ ⟨le_add hG, fun b o hbo hn => ?_⟩ hnc hcm (.inr ⟨g, off, hA, ?_⟩)
  ·unfold PH.add at hbo
   split at hbo
   ·rename_i e'; subst e'; omega
   ·rw [hn] at hbo; cases hbo
  ·refine gcells_row (cur := cur) (e := e) (fr := (0, 0)) ?_ xs off ht
   simp [PH.add]
theorem join_len {l : List Int} (hi : ∀ n ∈ l, I64 n) (b : UInt8) : (join (l.map itoa) [b]).length ≤ 22 * l.length := by
 cases l with
 | nil => simp [Lib.join_nil]
 | cons x r =>
  have h1 := itoa_len (hi x (List.mem_cons_self ..))
  have h2 := flatMap_len (c := 22) (f := fun n => [b] ++ itoa n) r fun n hn => by have := itoa_len (hi n (List.mem_cons_of_mem _ hn)); simp only [List.length_append, List.length_singleton]; omega
  rw [List.map_cons, Lib.join_cons, Lib.joinTail, List.map_map, List.length_append, List.length_cons]
  rw [List.flatMap] at h2
  have h3 : (List.map ((fun x => [b] ++ x) ∘ itoa) r) = List.map (fun n => [b] ++ itoa n) r := rfl
  rw [h3]
  omega
theorem c_numbersText (l : List Int) (b : UInt8) (v : Value) (G : PH) (hT : TabG G) (hv : IntsU G l v) (hi : ∀ n ∈ l, I64 n) (hn : l.length ≤ 1000000) : Pure Tryz.prog 102 [v, tx [b]] G fun v' G' => v' = tx (join (l.map itoa) [b]) := by
 obtain ⟨A, c, rfl, hl1, _⟩ := id hv
 refine Pure.intro Tryz.func102 Tryz.ntmps102 J J fun w0 => ?_;refine Va J J ?_;refine S_nilO (base := w0.heap.size) (e := 9) (size := 1) 5 ?_;refine S_loop (α := Nat × Option Addr × Nat) (fun y => y.1 ≤ l.length) (fun y => l.length - y.1) []
  (fun y => [(10, .val (.int .i64 (y.1 : Nat))), (9, .val (.int .i64 (l.length : Nat))), (8, .val (.slice A l.length c)), (5, .val (.slice y.2.1 (l.take y.1).length y.2.2)), (1, .val (tx [b]))])
  (fun y => [.hp 5 (rowO w0.heap.size 9 1 y.2.1 (l.take y.1).length y.2.2 ((l.take y.1).map fun n => tx (itoa n)))]) (fun _ => G) (0, none, 0) (Nat.zero_le _) rfl ⟨⟨_, rfl, rfl⟩, ⟨_, rfl, rfl⟩, ⟨_, rfl, rfl⟩, ⟨_, rfl, rfl⟩, ⟨_, rfl, rfl⟩, trivial⟩ (.hp .nil) ?_
 rintro ⟨i, A1, c1⟩ hil
 simp only at hil ⊢
 refine Va J J ?_
 refine S_condp J (fun h => ?_) (fun h => ?_) <;> refine Va J J ?_
 ·have hkl : i < l.length := by omega
  obtain ⟨ad, e1, hc⟩ := intsU_at hv hkl
  subst e1
  have hin := hi _ (List.getElem_mem hkl)
  have hnx : l.take (i + 1) = l.take i ++ [l[i]] := List.take_succ_eq_append_getElem hkl
  have htl : (l.take i).length = i := by rw [List.length_take]; omega
  generalize l[i] = n at hc hin hnx
  refine S_index Tk J J J J J J (by omega) (by omega) ?_;refine Va J J ?_;refine S_load Tk J J J J J (by simpa using hc) ?_;refine Va J J ?_;refine S_call Tryz.call107 (c_Itoa n hin _ hT) J J J ?_;rintro v1 H1 ⟨rfl, rfl⟩ _
  refine Va J J ?_;refine S_slice Tk ZT_ok J J J J (by decide) (by decide) J J J J fun b9 => ?_;refine Va J J ?_;refine S_app1 Tk 5 17 J J J J J J J J J J J J J J (by intro u hu; simp at hu; rcases hu with rfl; rfl) rfl (fun _ _ => rfl) (by omega) (Nat.le_refl _) fun A6 c6 => ?_;refine Va J J ?_;refine S_add J J J J (by omega) ?_;refine Va J J ?_;refine S_again (i + 1, A6, c6) (by simp only; omega) (by simp only; omega) rfl ⟨⟨_, rfl, by simp [denO]⟩, ⟨_, rfl, rfl⟩, ⟨_, rfl, rfl⟩, ⟨_, rfl, by simp only [hnx, List.length_append, List.length_singleton]; rfl⟩, ⟨_, rfl, rfl⟩, trivial⟩ ?_
  simp only [hnx, List.length_append, List.length_singleton, List.map_append, List.map_cons, List.map_nil]
  exact .drop (.hp .nil)
 ·have e0 : i = l.length := by omega
  subst e0
  rw [List.take_length]
  refine S_freezeN 5 J J (Nat.le_refl _) fun Gf hextf hnc hcm hcl => ?_
  have hm : (l.map fun n => tx (itoa n)) = (l.map itoa).map tx := by simp [Function.comp_def]
  rw [hm] at hcl
  have hjl := join_len hi b
  refine S_call Tryz.call108 (vs := [.slice A1 (l.map itoa).length c1, tx [b]]) (c_Join (l.map itoa) [b] A1 c1 Gf (by simpa using hcl) (by simpa using hnc) (by simp; omega) (by omega)) rfl rfl (by simp only [List.length_map]; rfl) ?_;rintro v1 H1 ⟨rfl, rfl⟩ _
  refine Va J J ?_;exact S_retp (Res.t1 Tryz.results102 J J) hextf J
theorem lineT_join (w : List UInt8) (n : Int) (r : List Int) : lineT w (n :: r) = w ++ [32] ++ join ((n :: r).map itoa) [32] ++ [10] := by
 rw [List.map_cons, Lib.join_cons, Lib.joinTail, List.map_map]
 simp [lineT, List.flatMap, Function.comp_def]
theorem c_lineOf (w : List UInt8) (l : List Int) (v : Value) (G : PH) (hT : TabG G) (hv : IntsU G l v) (hi : ∀ n ∈ l, I64 n) (hw : w.length ≤ 1000) (hn : l.length ≤ 1000000) : Pure Tryz.prog 91 [tx w, v] G fun v' G' => v' = tx (lineT w l) := by
 obtain ⟨A, c, rfl, hl1, _⟩ := id hv
 refine Pure.intro Tryz.func91 Tryz.ntmps91 J J fun w0 => ?_;refine Va J J ?_
 rcases l with _ | ⟨n, r⟩
 ·refine RT J (by simp) ?_
  refine Va J J ?_;refine S_valV J J J (V_addT (q := [10]) J J J J (by simp only [List.length_singleton]; omega)) ?_;refine Va J J ?_;exact S_retp (Res.t1 Tryz.results91 J J) XR (by simp [lineT])
 refine RF J (by simp; omega) ?_;refine Va J J ?_
 have hjl := join_len hi 32
 simp only [List.length_cons] at hn hjl
 refine S_valV J J J (V_addT (q := [32]) J J J J (by simp only [List.length_singleton]; omega)) ?_;refine Va J J ?_;refine S_call Tryz.call102 (c_numbersText (n :: r) 32 _ _ hT hv hi hn) J J J ?_;rintro v1 H1 rfl hx1
 refine Va J J ?_;refine S_valV J J J (V_addT J J J J (by simp only [List.length_append, List.length_singleton]; omega)) ?_;refine Va J J ?_;refine S_valV J J J (V_addT (q := [10]) J J J J (by simp only [List.length_append, List.length_singleton]; omega)) ?_;refine Va J J ?_;exact S_retp (Res.t1 Tryz.results91 J J) hx1 (by rw [lineT_join])
end
section
open Go.Lib (itoa join)
attribute [local irreducible] X Pure Mod
theorem fourT_join (k a b n : Int) : join ([k, a, b, n].map itoa) [44] = fourT k a b n := by
 simp [Lib.join_cons, Lib.joinTail, fourT]
def TdI (L : List Stm) : Prop := ∀ (n : Nat) (nv : Int) (e : Nat) (v : Value) (G : PH), TabG G → Sts G L v → nv = (n : Nat) → n ≤ 6 → dpL L ≤ e → e ≤ 3 → mx L ≤ 1000 → Pure Tryz.prog 92 [v, .int .i64 nv] G fun v' G' => v' = tx (todoT (6 - n) L)
theorem c_todoText (L : List Stm) (hb : ∀ k (hk : k < L.length), TdI L[k].body ∧ TdI L[k].els) : TdI L := by
 intro n nv e v G hTab hst hnv hn6 hdp he hmx
 subst hnv
 obtain ⟨A, c, rfl, hl1, _⟩ := id hst
 have hiL := iL_rep hst
 refine Pure.intro Tryz.func92 Tryz.ntmps92 J J fun w0 => ?_;refine Va J J ?_
 by_cases h6 : n = 6
 ·subst h6
  refine RT J (by simp) ?_;refine Va J J ?_;exact S_retp (Res.t1 Tryz.results92 J J) XR J
 refine RF J (by simp; omega) ?_;refine Va J J ?_;obtain ⟨d, hd⟩ : ∃ d, 6 - n = d + 1 := ⟨5 - n, by omega⟩
 have hd2 : 6 - (n + 1) = d := by omega
 rw [hd]
 refine S_loop (α := Nat × PH) (fun y => y.1 ≤ L.length ∧ PH.ext w0.heap.size G y.2) (fun y => L.length - y.1) []
  (fun y => [(12, .val (.int .i64 (y.1 : Nat))), (11, .val (.int .i64 (L.length : Nat))), (10, .val (.slice A L.length c)), (5, .val (tx ([40] ++ (L.take y.1).flatMap (stmT d)))), (1, .val (.int .i64 (n : Nat)))]) (fun _ => []) (fun y => y.2) (0, G) ⟨Nat.zero_le _, PH.ext.refl _ _⟩ rfl ⟨⟨_, rfl, rfl⟩, ⟨_, rfl, rfl⟩, ⟨_, rfl, rfl⟩, ⟨_, rfl, by simp [denO]; rfl⟩, ⟨_, rfl, rfl⟩, trivial⟩ .nil ?_
 rintro ⟨i, G1⟩ ⟨hil, hext⟩
 simp only at hil hext ⊢
 have hlm := len_mx L
 refine Va J J ?_
 refine S_condp J (fun h => ?_) (fun h => ?_) <;> refine Va J J ?_
 ·have hkl : i < L.length := by omega
  have hso := List.getElem_mem hkl
  obtain ⟨ad, cs, e1, hcs, hrep⟩ := Sr_at (Sts_le hext.le hst) hkl
  subst e1
  obtain ⟨hbx, hby⟩ := hb i hkl
  have hnx : (L.take (i + 1)).flatMap (stmT d) = (L.take i).flatMap (stmT d) ++ stmT d L[i] := by rw [List.take_succ_eq_append_getElem hkl, List.flatMap_append]; simp
  generalize L[i] = s at hso hcs hrep hbx hby hnx
  obtain ⟨q1, q2, q3, q4, q5, q6⟩ := s
  obtain ⟨vx, vy, rfl, i1, i2, i3, i4, hx, hy⟩ := Stm.rep_iff.1 hrep
  obtain ⟨e', rfl, p1, p2, p3, p4, p5, p6, _⟩ := stm_parts hso hdp hiL hmx
  have htB := tB_le (show e' ≤ 3 by omega)
  have htk : ((L.take i).flatMap (stmT d)).length ≤ (87 + 2 * tB e') * (L.take i).length := flatMap_len _ fun s hs => stmT_len (List.mem_of_mem_take hs) hdp hiL hmx
  have htl : (87 + 2 * tB e') * (L.take i).length ≤ (87 + 2 * tB e') * 1000 := Nat.mul_le_mul_left _ (by have := List.length_take_le i L; omega)
  have t5 := todoT_len e' d q5 p1 p5 p3
  have t6 := todoT_len e' d q6 p2 p6 p4
  have l1 := fourT_len i1 i2 i3 i4
  simp only [Stm.body, Stm.els] at hbx hby
  obtain ⟨Ax, cx, rfl, hx1, _⟩ := id hx
  obtain ⟨Ay, cy, rfl, hy1, _⟩ := id hy
  refine S_index Tk J J J J J J (by omega) (by omega) ?_;refine Va J J ?_;refine S_loadA Tk J J J J J (by simpa using hcs) ?_;refine Va J J ?_;refine AZ ZT_ok J J J J fun b7 => ?_;refine Va J J ?_;refine D_startK [5] (by exact MO) J J J (by kernel_rfl) ?_;refine Da J J ?_;refine D_val 14 J J J J J J J J J (V_add J J (by omega)) ?_;refine Da J J ?_;refine D_val 20 J J J J J J J J J (V_add J J (by omega)) ?_
  refine Da J J ?_
  have hi4 : ∀ m ∈ [q1, q2, q3, q4], I64 m := by simp only [List.mem_cons, List.not_mem_nil, or_false]; rintro m (rfl | rfl | rfl | rfl) <;> assumption
  refine D_sole 9 J J (N_turnV 9 J J J J fun back => ?_)
  refine S_sliceG Tk ZT_ok J J J J (by decide) (by decide) J J J J (fun _ => J) fun bq Gq hxq hcq => ?_;refine back _ _ _ _ (pk_val J J J J J J J J (V_add J J (by omega)) (pk_val J J J J J J J J (V_add J J (by omega)) (pk_all Tk (by kernel_rfl)))) ?_; clear back
  refine Da J J ?_
  have hq : IntsU Gq [q1, q2, q3, q4] (.slice (some ⟨bq, 0, none⟩) 4 4) := Ints_U (ints_of hcq rfl (Nat.le_refl _) (by decide) (by decide) hi4)
  refine D_sole 10 J J (N_turnV 10 J J J J fun back => ?_)
  refine S_call Tryz.call102 (c_numbersText [q1, q2, q3, q4] 44 _ _ (TabG_le (hext.trans hxq).le hTab) hq hi4 (by simp)) J J J ?_;rintro v1 H1 rfl hx1
  refine back _ _ _ _ (pk_val J J J J J J J J (V_add J J (by omega)) (pk_val J J J J J J J J (V_add J J (by omega)) (pk_all Tk (by kernel_rfl)))) ?_; clear back
  refine Da J J ?_
  rw [fourT_join]
  have hxx := (hext.trans hxq).trans hx1
  refine D_sole 15 J J (N_turnV 15 J J J J fun back => ?_)
  refine S_call Tryz.call92 (hbx (n + 1) _ e' _ _ (TabG_le hxx.le hTab) (Sts_le (hxq.trans hx1).le hx) (by omega) (by omega) p1 (by omega) p3) J J J ?_;rintro v5 H5 rfl hx5
  rw [hd2]
  refine back _ _ _ _ (pk_val J J J J J J J J (V_add J J (by omega)) (pk_all Tk (by kernel_rfl))) ?_; clear back
  refine Da J J ?_;refine D_val 16 J J J J J J J J J (V_addS J J (by simp only [ByteArray.size_append, sz_tx, List.length_append, List.length_cons, List.length_nil]; omega)) ?_;refine Da J J ?_;refine D_sole 21 J J (N_turnV 21 J J J J fun back => ?_)
  refine S_call Tryz.call92 (hby (n + 1) _ e' _ _ (TabG_le (hxx.trans hx5).le hTab) (Sts_le ((hxq.trans hx1).trans hx5).le hy) (by omega) (by omega) p2 (by omega) p4) J J J ?_;rintro v6 H6 rfl hx6
  rw [hd2]
  refine back _ _ _ _ (pk_val J J J J J J J J (V_addS J J (by simp only [ByteArray.size_append, sz_tx, List.length_append, List.length_cons, List.length_nil]; omega)) (pk_all Tk (by kernel_rfl))) ?_; clear back
  refine Da J J ?_;refine D_val 22 J J J J J J J J J (V_addS J J (by simp only [ByteArray.size_append, sz_tx, List.length_append, List.length_cons, List.length_nil]; omega)) ?_;refine Da J J ?_;refine D_val 23 J J J J J J J J J (V_addS J J (by simp only [ByteArray.size_append, sz_tx, List.length_append, List.length_cons, List.length_nil]; omega)) ?_;refine Da J J ?_;refine D_sole 24 J J (N_assign Tk 24 J J J J J J J J J (by kernel_rfl) ?_)
  refine DD ?_;refine Va J J ?_;refine S_add J J J J (by omega) ?_;refine Va J J ?_;exact S_again (i + 1, _) ⟨hkl, (hxx.trans hx5).trans hx6⟩ (by simp only; omega) rfl ⟨⟨_, rfl, by simp [denO]⟩, ⟨_, rfl, rfl⟩, ⟨_, rfl, rfl⟩, ⟨_, rfl, by rw [hnx]; simp [denO, tx, ba_append, stmT, Stm.kind, Stm.a, Stm.b, Stm.n, Stm.body, Stm.els]⟩, ⟨_, rfl, rfl⟩, trivial⟩ (by first | exact .nil | exact .drop .nil)
 ·have e0 : i = L.length := by omega
  subst e0
  rw [List.take_length]
  have ht := todoT_len e (d + 1) L hdp hiL hmx
  have htB := tB_le he
  rw [todoT_succ] at ht
  simp only [List.length_append, List.length_cons, List.length_nil] at ht
  refine S_valV J J J (V_addT (q := [41]) J J J J (by simp only [List.length_append, List.length_cons, List.length_nil]; omega)) ?_;refine Va J J ?_;exact S_retp (Res.t1 Tryz.results92 J J) hext J
mutual
theorem TdI_stm : ∀ s : Stm, TdI s.body ∧ TdI s.els
 | .mk k a b n x y => ⟨c_todoText x (TdI_at x), c_todoText y (TdI_at y)⟩
theorem TdI_at : ∀ (L : List Stm) (k : Nat) (hk : k < L.length), TdI L[k].body ∧ TdI L[k].els
 | [], _, hk => absurd hk (Nat.not_lt_zero _)
 | s :: r, 0, _ => TdI_stm s
 | s :: r, k + 1, hk => TdI_at r k (Nat.lt_of_succ_lt_succ hk)
end
theorem TdI_all (L : List Stm) : TdI L := c_todoText L (TdI_at L)
end
section
open Go.Lib (itoa)
attribute [local irreducible] X Pure Mod
theorem c_iWorldText (W : Wld) (v : Value) (G : PH) (hTab : TabG G) (hW : WG G W v) (hT : Tok W) : Pure Tryz.prog 79 [v] G fun v' G' => v' = tx (wText W) := by
 obtain ⟨vp, vc, vr, vs, vd, rfl, hpr, hce, hro, hsg, hsd⟩ := hW
 obtain ⟨Ap, cp, rfl, _⟩ := id hpr
 obtain ⟨Ac, cc, rfl, _⟩ := id hce
 obtain ⟨Ar, cr, rfl, _⟩ := id hro
 obtain ⟨As, cs_, rfl, _⟩ := id hsg
 obtain ⟨Ad, cd, rfl, _⟩ := id hsd
 have hn3 := hT.n3
 refine Pure.intro Tryz.func79 Tryz.ntmps79 J J fun w0 => ?_;refine Va J J ?_;refine S_box J J J J J fun b1 => ?_;refine Va J J ?_;refine S_loop (α := Nat × PH) (fun y => y.1 ≤ W.procs.length ∧ PH.ext w0.heap.size G y.2) (fun y => W.procs.length - y.1) [(1, b1)]
  (fun y => [(13, .val (.int .i64 (y.1 : Nat))), (12, .val (.int .i64 (W.procs.length : Nat))), (11, .val (.slice Ap W.procs.length cp)), (3, .val (tx ((W.procs.take y.1).flatMap procT))), (1, .ptr 1 0)]) (fun _ => [.blk 1 56 (vL [.slice Ap W.procs.length cp, .slice Ac 3 cc, .slice Ar 2 cr, .slice As 2 cs_, .slice Ad W.said.length cd])]) (fun y => y.2) (0, G) ⟨Nat.zero_le _, PH.ext.refl _ _⟩ rfl ⟨⟨_, rfl, rfl⟩, ⟨_, rfl, rfl⟩, ⟨_, rfl, rfl⟩, ⟨_, rfl, rfl⟩, ⟨_, rfl, rfl⟩, trivial⟩ (.blk rfl rfl .nil) ?_
 rintro ⟨i, G1⟩ ⟨hil, hext⟩
 simp only at hil hext ⊢
 have htk : ((W.procs.take i).flatMap procT).length ≤ 400000000200 * (W.procs.take i).length := flatMap_len _ fun p hp => procT_len hT (List.mem_of_mem_take hp)
 have htl := List.length_take_le i W.procs
 refine Va J J ?_
 refine S_condp J (fun h => ?_) (fun h => ?_) <;> refine Va J J ?_
 ·have hkl : i < W.procs.length := by omega
  have hso := List.getElem_mem hkl
  obtain ⟨ad, cs, e1, hcs, vr', vt, rfl, hrg, htd⟩ := Sr_at hpr hkl
  subst e1
  have hnx : (W.procs.take (i + 1)).flatMap procT = (W.procs.take i).flatMap procT ++ procT W.procs[i] := by rw [List.take_succ_eq_append_getElem hkl, List.flatMap_append]; simp
  have hpm := hT.nm.pr _ hso
  have hmd := hT.md _ hso
  have hmx := hT.mx _ hso
  have hsh := hT.shl _ hso
  have hpl := procT_len hT hso
  generalize W.procs[i] = p at hso hcs hrg htd hnx hpm hmd hmx hsh hpl
  obtain ⟨A1, c1, rfl, _⟩ := id hrg
  obtain ⟨A2, c2, rfl, _⟩ := id htd
  refine S_index Tk J J J J J J (by omega) (by omega) ?_;refine Va J J ?_;refine S_loadA Tk J J J J J (by simpa using gcells_le hext.le hcs) ?_;refine Va J J ?_;refine AZ ZT_ok J J J J fun b5 => ?_;refine Va J J ?_
  have hi1 : ∀ n ∈ [p.mode, p.on, p.room], I64 n := by simp only [List.mem_cons, List.not_mem_nil, or_false]; rintro n (rfl | rfl | rfl); exact hmd.1; exact hpm.on; exact hmd.2
  have hi2 : ∀ n ∈ [p.r0, p.r1, p.r2], I64 n := by simp only [List.mem_cons, List.not_mem_nil, or_false]; rintro n (rfl | rfl | rfl); exact hpm.r0; exact hpm.r1; exact hpm.r2
  have l1 : (lineT wProc [p.mode, p.on, p.room]).length ≤ 71 := Nat.le_trans (lineT_len hi1) (show 4 + 22 * 3 + 1 ≤ 71 by decide)
  have l2 : (lineT wRegs [p.r0, p.r1, p.r2]).length ≤ 71 := Nat.le_trans (lineT_len hi2) (show 4 + 22 * 3 + 1 ≤ 71 by decide)
  have l3 := todoT_len 3 6 p.todo hsh hpm.td hmx
  have l4 := tB_le (e := 3) (by omega)
  refine D_startK [3] (by exact MO) J J J (by kernel_rfl) ?_;refine Da J J ?_;refine D_sole 7 J J (N_turnV 7 J J J J fun back => ?_)
  refine S_sliceG Tk ZT_ok J J J J (by decide) (by decide) J J J J (fun _ => J) fun bq Gq hxq hcq => ?_;refine back _ _ _ _ (pk_all Tk (by kernel_rfl)) ?_; clear back
  refine Da J J ?_
  have hq : IntsU Gq [p.mode, p.on, p.room] (.slice (some ⟨bq, 0, none⟩) 3 3) := Ints_U (ints_of hcq rfl (Nat.le_refl _) (by decide) (by decide) hi1)
  refine D_sole 8 J J (N_turnV 8 J J J J fun back => ?_)
  refine S_call Tryz.call91 (c_lineOf wProc _ _ _ (TabG_le (hext.trans hxq).le hTab) hq hi1 (by decide) (by simp)) J J J ?_;rintro v1 H1 rfl hx1
  refine back _ _ _ _ (pk_all Tk (by kernel_rfl)) ?_; clear back
  refine Da J J ?_;refine D_sole 11 J J (N_turnV 11 J J J J fun back => ?_)
  refine S_call Tryz.call91 (c_lineOf wRegs _ _ _ (TabG_le ((hext.trans hxq).trans hx1).le hTab) (IntsU_le ((hext.trans hxq).trans hx1).le hrg) hi2 (by decide) (by simp)) J J J ?_;rintro v2 H2 rfl hx2
  refine back _ _ _ _ (pk_all Tk (by kernel_rfl)) ?_; clear back
  refine Da J J ?_;refine D_val 12 J J J J J J J J J (V_addS J J (by simp only [ByteArray.size_append, sz_tx, List.length_append, List.length_cons, List.length_nil]; omega)) ?_;refine Da J J ?_
  have hxx := ((hext.trans hxq).trans hx1).trans hx2
  refine D_sole 15 J J (N_turnV 15 J J J J fun back => ?_)
  refine S_call Tryz.call92 (TdI_all _ 0 _ 3 _ _ (TabG_le hxx.le hTab) (Sts_le hxx.le htd) J (by omega) hsh (by omega) hmx) J J J ?_;rintro v3 H3 rfl hx3
  rw [show (6 : Nat) - 0 = 6 from rfl]
  refine back _ _ _ _ (pk_val J J J J J J J J (V_addS J J (by simp only [ByteArray.size_append, sz_tx, List.length_append, List.length_cons, List.length_nil]; omega)) (pk_all Tk (by kernel_rfl))) ?_; clear back
  refine Da J J ?_;refine D_val 16 J J J J J J J J J (V_addS J J (by simp only [ByteArray.size_append, sz_tx, List.length_append, List.length_cons, List.length_nil]; omega)) ?_;refine Da J J ?_;refine D_val 17 J J J J J J J J J (V_addS J J (by simp only [ByteArray.size_append, sz_tx, List.length_append, List.length_cons, List.length_nil]; omega)) ?_;refine Da J J ?_;refine D_val 18 J J J J J J J J J (V_addS J J (by simp only [ByteArray.size_append, sz_tx, List.length_append, List.length_cons, List.length_nil]; omega)) ?_
  refine Da J J ?_;refine D_sole 19 J J (N_assign Tk 19 J J J J J J J J J (by kernel_rfl) ?_)
  refine DD ?_;refine Va J J ?_;refine S_add J J J J (by omega) ?_;refine Va J J ?_;exact S_again (i + 1, _) ⟨hkl, hxx.trans hx3⟩ (by simp only; omega) rfl ⟨⟨_, rfl, by simp [denO]⟩, ⟨_, rfl, rfl⟩, ⟨_, rfl, rfl⟩, ⟨_, rfl, by rw [hnx]; simp [denO, tx, ba_append, procT]⟩, ⟨_, rfl, rfl⟩, trivial⟩ (.drop (.blk rfl rfl .nil))
 ·have e0 : i = W.procs.length := by omega
  subst e0
  rw [List.take_length] at htk ⊢
  have hb1 : (W.procs.flatMap procT).length ≤ 1200000000600 := by
   have : 400000000200 * W.procs.length ≤ 400000000200 * 3 := Nat.mul_le_mul_left _ hn3
   omega
  have hi1 : ∀ n ∈ [W.c0, W.c1, W.c2], I64 n := by simp only [List.mem_cons, List.not_mem_nil, or_false]; rintro n (rfl | rfl | rfl); exact hT.nm.c0; exact hT.nm.c1; exact hT.nm.c2
  have hi2 : ∀ n ∈ [W.m0, W.m1], I64 n := by simp only [List.mem_cons, List.not_mem_nil, or_false]; rintro n (rfl | rfl); exact hT.rm.1; exact hT.rm.2
  have l1 : (lineT wCells [W.c0, W.c1, W.c2]).length ≤ 72 := Nat.le_trans (lineT_len hi1) (show 5 + 22 * 3 + 1 ≤ 72 by decide)
  have l2 : (lineT wRooms [W.m0, W.m1]).length ≤ 50 := Nat.le_trans (lineT_len hi2) (show 5 + 22 * 2 + 1 ≤ 50 by decide)
  refine D_startK [3] (by exact MO) J J J (by kernel_rfl) ?_;refine Da J J ?_;refine D_sole 3 J J (N_turnV 3 J J J J fun back => ?_)
  refine S_call Tryz.call91 (c_lineOf wCells _ _ _ (TabG_le hext.le hTab) (IntsU_le hext.le hce) hi1 (by decide) (by simp)) J J J ?_;rintro v1 H1 rfl hx1
  refine back _ _ _ _ (pk_all Tk (by kernel_rfl)) ?_; clear back
  refine Da J J ?_;refine D_sole 6 J J (N_turnV 6 J J J J fun back => ?_)
  refine S_call Tryz.call91 (c_lineOf wRooms _ _ _ (TabG_le (hext.trans hx1).le hTab) (IntsU_le (hext.trans hx1).le hro) hi2 (by decide) (by simp)) J J J ?_;rintro v2 H2 rfl hx2
  refine back _ _ _ _ (pk_all Tk (by kernel_rfl)) ?_; clear back
  refine Da J J ?_;refine D_val 7 J J J J J J J J J (V_addS J J (by simp only [ByteArray.size_append, sz_tx, List.length_append, List.length_cons, List.length_nil]; omega)) ?_;refine Da J J ?_;refine D_val 8 J J J J J J J J J (V_addS J J (by simp only [ByteArray.size_append, sz_tx, List.length_append, List.length_cons, List.length_nil]; omega)) ?_;refine Da J J ?_;refine D_sole 9 J J (N_assign Tk 9 J J J J J J J J J (by kernel_rfl) ?_)
  refine DD ?_;refine Va J J ?_
  have hext2 := (hext.trans hx1).trans hx2
  have htw : wText W = (W.procs.flatMap procT ++ lineT wCells [W.c0, W.c1, W.c2] ++ lineT wRooms [W.m0, W.m1] ++ [W.q0, W.q1].flatMap (lineT wSign)) ++ W.said.flatMap saidT := by simp [wText]
  have hbase : Value.string ({ data := (W.procs.flatMap procT).toArray } ++ ({ data := (lineT wCells [W.c0, W.c1, W.c2]).toArray } ++ { data := (lineT wRooms [W.m0, W.m1]).toArray })) = tx (W.procs.flatMap procT ++ lineT wCells [W.c0, W.c1, W.c2] ++ lineT wRooms [W.m0, W.m1]) := by rw [ba_append, ba_append, List.append_assoc]; rfl
  rw [hbase]
  have hb2 : (W.procs.flatMap procT ++ lineT wCells [W.c0, W.c1, W.c2] ++ lineT wRooms [W.m0, W.m1]).length ≤ 1200000001000 := by simp only [List.length_append]; omega
  generalize W.procs.flatMap procT ++ lineT wCells [W.c0, W.c1, W.c2] ++ lineT wRooms [W.m0, W.m1] = base at htw hb2 ⊢
  have hqs : ∀ q ∈ [W.q0, W.q1], q.length ≤ 1000 ∧ ∀ n ∈ q, I64 n := by simp only [List.mem_cons, List.not_mem_nil, or_false]; rintro q (rfl | rfl); exact hT.q0; exact hT.q1
  have hsl : ∀ q ∈ [W.q0, W.q1], (lineT wSign q).length ≤ 22005 := fun q hq => Nat.le_trans (lineT_len (hqs q hq).2) (by have := (hqs q hq).1; show 4 + 22 * q.length + 1 ≤ 22005; omega)
  generalize hQ : [W.q0, W.q1] = Q at hsg htw hqs hsl
  have hQl : Q.length = 2 := by rw [← hQ]; rfl
  refine S_loop (α := Nat × PH) (fun y => y.1 ≤ 2 ∧ PH.ext w0.heap.size G y.2) (fun y => 2 - y.1) [(1, b1)]
   (fun y => [(49, .val (.int .i64 (y.1 : Nat))), (48, .val (.int .i64 ((2 : Nat) : Int))), (47, .val (.slice As 2 cs_)), (3, .val (tx (base ++ (Q.take y.1).flatMap (lineT wSign)))), (1, .ptr 1 0)]) (fun _ => [.blk 1 56 (vL [.slice Ap W.procs.length cp, .slice Ac 3 cc, .slice Ar 2 cr, .slice As 2 cs_, .slice Ad W.said.length cd])]) (fun y => y.2) (0, H2) ⟨Nat.zero_le _, hext2⟩ rfl ⟨⟨_, rfl, rfl⟩, ⟨_, rfl, rfl⟩, ⟨_, rfl, rfl⟩, ⟨_, rfl, by simp [denO]⟩, ⟨_, rfl, rfl⟩, trivial⟩ (.blk rfl rfl .nil) ?_
  rintro ⟨i, G2⟩ ⟨hil, hext⟩
  simp only at hil hext ⊢
  have htk : ((Q.take i).flatMap (lineT wSign)).length ≤ 22005 * (Q.take i).length := flatMap_len _ fun q hq => hsl q (List.mem_of_mem_take hq)
  have htl := List.length_take_le i Q
  refine Va J J ?_
  refine S_condp J (fun h => ?_) (fun h => ?_) <;> refine Va J J ?_
  ·have hkl : i < Q.length := by omega
   obtain ⟨ad, cs, e1, hcs, vq, rfl, hvq⟩ := Sr_at hsg hkl
   subst e1
   have hnx : (Q.take (i + 1)).flatMap (lineT wSign) = (Q.take i).flatMap (lineT wSign) ++ lineT wSign Q[i] := by rw [List.take_succ_eq_append_getElem hkl, List.flatMap_append]; simp
   have hqi := hqs _ (List.getElem_mem hkl)
   have hqs2 := hsl _ (List.getElem_mem hkl)
   generalize Q[i] = q at hcs hvq hnx hqi hqs2
   obtain ⟨Aq, cq, rfl, _⟩ := id hvq
   refine S_index Tk J J J J J J (by omega) (by omega) ?_;refine Va J J ?_;refine S_load Tk J J J J J (by simpa using gcell_le hext.le hcs.1) ?_;refine Va J J ?_;refine S_call Tryz.call91 (c_lineOf wSign _ _ _ (TabG_le hext.le hTab) (IntsU_le hext.le hvq) hqi.2 (by decide) (by omega)) J J J ?_;rintro v1 H1 rfl hx1
   refine Va J J ?_;refine S_valV J J J (V_addT J J J J (by simp only [List.length_append]; omega)) ?_;refine Va J J ?_;refine S_add J J J J (by omega) ?_;refine Va J J ?_;exact S_again (i + 1, _) ⟨by simp only; omega, hext.trans hx1⟩ (by simp only; omega) rfl ⟨⟨_, rfl, by simp [denO]⟩, ⟨_, rfl, rfl⟩, ⟨_, rfl, rfl⟩, ⟨_, rfl, by rw [hnx]; simp [denO]⟩, ⟨_, rfl, rfl⟩, trivial⟩ (.blk rfl rfl .nil)
  ·have e0 : i = Q.length := by omega
   subst e0
   rw [List.take_length] at htk ⊢
   have hb3 : (base ++ Q.flatMap (lineT wSign)).length ≤ 1200000046000 := by simp only [List.length_append]; omega
   generalize base ++ Q.flatMap (lineT wSign) = base at htw hb3 ⊢
   have hsl : ∀ s ∈ W.said, (saidT s).length ≤ 49 := fun s hs => Nat.le_trans (lineT_len (by
    have := hT.nm.sd s hs
    simp only [List.mem_cons, List.not_mem_nil, or_false]
    rintro n (rfl | rfl)
    ·exact this.1
    ·exact this.2)) (show 4 + 22 * 2 + 1 ≤ 49 by decide)
   have hs1 := hT.sd
   refine S_loop (α := Nat × PH) (fun y => y.1 ≤ W.said.length ∧ PH.ext w0.heap.size G y.2) (fun y => W.said.length - y.1) [(1, b1)]
    (fun y => [(61, .val (.int .i64 (y.1 : Nat))), (60, .val (.int .i64 (W.said.length : Nat))), (59, .val (.slice Ad W.said.length cd)), (3, .val (tx (base ++ (W.said.take y.1).flatMap saidT))), (1, .ptr 1 0)]) (fun _ => [.blk 1 56 (vL [.slice Ap W.procs.length cp, .slice Ac 3 cc, .slice Ar 2 cr, .slice As 2 cs_, .slice Ad W.said.length cd])]) (fun y => y.2) (0, G2) ⟨Nat.zero_le _, hext⟩ rfl ⟨⟨_, rfl, rfl⟩, ⟨_, rfl, rfl⟩, ⟨_, rfl, rfl⟩, ⟨_, rfl, by simp [denO]⟩, ⟨_, rfl, rfl⟩, trivial⟩ (.blk rfl rfl .nil) ?_
   rintro ⟨i, G3⟩ ⟨hil, hext⟩
   simp only at hil hext ⊢
   have htk : ((W.said.take i).flatMap saidT).length ≤ 49 * (W.said.take i).length := flatMap_len _ fun s hs => hsl s (List.mem_of_mem_take hs)
   have htl := List.length_take_le i W.said
   refine Va J J ?_
   refine S_condp J (fun h => ?_) (fun h => ?_) <;> refine Va J J ?_
   ·have hkl : i < W.said.length := by omega
    obtain ⟨ad, cs, e1, hcs, rfl⟩ := Sr_at hsd hkl
    subst e1
    have hnx : (W.said.take (i + 1)).flatMap saidT = (W.said.take i).flatMap saidT ++ saidT W.said[i] := by rw [List.take_succ_eq_append_getElem hkl, List.flatMap_append]; simp
    have hi3 := hT.nm.sd _ (List.getElem_mem hkl)
    have hs2 := hsl _ (List.getElem_mem hkl)
    generalize W.said[i] = sx at hcs hnx hi3 hs2
    obtain ⟨x1, x2⟩ := sx
    have hcs' := gcells_le hext.le hcs
    simp only at hcs' hi3
    refine S_index Tk J J J J J J (by omega) (by omega) ?_;refine Va J J ?_;refine S_loadA Tk J J J J J (by simpa using hcs') ?_;refine Va J J ?_;refine AZ ZT_ok J J J J fun b9 => ?_;refine Va J J ?_;refine S_sliceG Tk ZT_ok J J J J (by decide) (by decide) J J J J (fun _ => J) fun bq Gq hxq hcq => ?_;refine Va J J ?_
    have hi4 : ∀ n ∈ [x1, x2], I64 n := by simp only [List.mem_cons, List.not_mem_nil, or_false]; rintro n (rfl | rfl); exact hi3.1; exact hi3.2
    have hq : IntsU Gq [x1, x2] (.slice (some ⟨bq, 0, none⟩) 2 2) := Ints_U (ints_of hcq rfl (Nat.le_refl _) (by decide) (by decide) hi4)
    refine S_call Tryz.call91 (c_lineOf wSaid _ _ _ (TabG_le (hext.trans hxq).le hTab) hq hi4 (by decide) (by simp)) J J J ?_;rintro v1 H1 rfl hx1
    refine Va J J ?_
    have hs3 : (lineT wSaid [x1, x2]).length ≤ 49 := hs2
    refine S_valV J J J (V_addT J J J J (by simp only [List.length_append]; omega)) ?_;refine Va J J ?_;refine S_add J J J J (by omega) ?_;refine Va J J ?_;exact S_again (i + 1, _) ⟨hkl, (hext.trans hxq).trans hx1⟩ (by simp only; omega) rfl ⟨⟨_, rfl, by simp [denO]⟩, ⟨_, rfl, rfl⟩, ⟨_, rfl, rfl⟩, ⟨_, rfl, by rw [hnx]; simp [denO, saidT]⟩, ⟨_, rfl, rfl⟩, trivial⟩ (.drop (.blk rfl rfl .nil))
   ·have e0 : i = W.said.length := by omega
    subst e0
    rw [List.take_length]
    exact S_retp (Res.t1 Tryz.results79 J J) hext (by rw [htw])
end
section
def expHP (b mb : Nat) (A : Option Addr) (n c : Nat) (xs : List Value) (ts : List (List UInt8)) : HP :=
 pairHP (blkHP b 48 [.map (some mb), .slice A n c]) (pairHP (objHP mb (mapT ts)) (rowO 0 56 5 A n c xs))
section
variable {C : Ctx} {all : Array Oper} {l : List Oper} {k : List It} {E : Env} {ι : Ids} {L : List Ent} {G : PH}
theorem S_updT (κ : Nat) {t kt et b : Nat} {m x v : Operand} {p : List UInt8} {ts : List (List UInt8)} {ty : Nat} {pos : String} {af : Array Edge} {g : Option (Nat × Bool)} {L' : List Ent} {sv : Sym}
  (hu : C.P.underlying t = some (.map kt et)) (hk' : C.P.underlying kt = some .string) (hg : guardOf all E g = .on) (hm : ev E m = some (.val (.map (some b)))) (hx : ev E x = some (.val (tx p))) (hv : ev E v = some sv) (hd : denO ι sv = some (.bool true)) (hnew : p ∉ ts)
  (hL : getH κ L = some (objHP b (mapT ts))) (hL' : setH κ (objHP b (mapT (ts ++ [p]))) L = some L')
  (hk : X C (.ops all l :: k) E ι L' G) : X C (.ops all (⟨none, .mapUpdate t m x v, ty, pos, af, g⟩ :: l) :: k) E ι L G := by
 intro a w h1 h2 h3 h4
 have em := ev_sound h3 hm
 have ex := ev_sound h3 hx
 have evv := ev_sound h3 hv
 rw [hd] at evv
 simp only [denO, Option.some.injEq] at em ex evv
 obtain ⟨S, hA, hSG, hturn⟩ := h4.turn hL
 have hb : w.heap[b]? = some (.map (ts.zipIdx.map entT).toArray ts.length) := hA.1
 obtain ⟨r, hr1, hr2⟩ := findNow_T (x := p) (ts := ts) (n := 0) (i := 0)
 rw [if_neg hnew] at hr2
 have hrn : r = none := by cases r with | none => rfl | some q => cases hr2
 subst hrn
 have hf := MapKept.run_findKey (P := C.P) (w := w) hk' hr1
 have hc := MapKept.run_checkKey (P := C.P) (w := w) (k := tx p) hk' (by simp [MapKept.IsKey, tx]) false 9999
 have hr : (Instr.mapUpdate t (.map (some b)) (tx p) (.bool true)).run C.P w = .ok () (setO w b (mapT (ts ++ [p]))) := by
  rw [← mapT_push]
  simp [Instr.mapUpdate, run_underlying hu, MapKept.run_getObj_map hb, hc, hf, MapKept.run_setObj_map _ hb, Result.andThen, setO]
 have hrun : (execOp a.eval ⟨none, .mapUpdate t m x v, ty, pos, af, g⟩).run C.P w = .ok .skip (setO w b (mapT (ts ++ [p]))) := by
  simp only [execOp, ← em, ← ex, ← evv]; simp [hr]
 refine wpE_skipv (guardOf_on h3 hg) (by intro c h; cases h) hrun ?_;refine hk _ _ h1 h2 h3 (hturn _ _ G _ S hL' ⟨setO_same hb _, hA.2⟩ ?_ XR (fun x hx => ⟨hSG x hx, .inl hx⟩) J J J (by simp [setO]) ?_)
 ·intro x o hxo
  rw [setO_other _ (by rintro rfl; have := hSG x ((hA.2 x).2 rfl); rw [this] at hxo; cases hxo)]
  exact h4.emb x o hxo
 ·intro x hx hn
  exact setO_other _ (fun e => hn ((hA.2 x).2 e))
end
attribute [local irreducible] X Pure Mod
theorem c_add (Ws : List Wld) (W : Wld) (vs0 : List Value) (b mb : Nat) (A : Option Addr) (c : Nat) (xs : List Value) (G : PH) (hTab : TabG G) (hT : Tok W) (hW : WG G W (.agg vs0.toArray)) (hn : Ws.length ≤ 1000) :
  Mod Tryz.prog 51 [.pointer (some ⟨b, 0, none⟩), .agg vs0.toArray] G (expHP b mb A Ws.length c xs (Ws.map wText)) fun v G' A' => v = .tuple #[] ∧
   (hasW Ws W = true → A' = expHP b mb A Ws.length c xs (Ws.map wText)) ∧
   (hasW Ws W = false → ∃ A2 c2, A' = expHP b mb A2 (Ws.length + 1) c2 (xs ++ vs0) ((Ws ++ [W]).map wText)) := by
 have hcT := c_iWorldText W _ G hTab hW hT
 obtain ⟨vp, vc, vr, vs, vd, e0, hpr, hce, hro, hsg, hsd⟩ := hW
 obtain rfl : vs0 = [vp, vc, vr, vs, vd] := by simpa using congrArg (fun v => match v with | .agg x => x.toList | _ => []) e0
 clear e0
 obtain ⟨Ap, cp, rfl, _⟩ := id hpr
 obtain ⟨Ac, cc, rfl, _⟩ := id hce
 obtain ⟨Ar, cr, rfl, _⟩ := id hro
 obtain ⟨As, cs_, rfl, _⟩ := id hsg
 obtain ⟨Ad, cd, rfl, _⟩ := id hsd
 rw [hasW_mem]
 refine Mod.intro Tryz.func51 Tryz.ntmps51 J J fun w S => ?_;refine S_unpair 1 2 3 J J ?_;refine S_hpB 2 4 J J J ?_;refine S_unpair 3 5 6 J J ?_;refine S_reE 0 (.ptr 4 0) J J ?_;refine Va J J ?_;refine S_box J J J J J fun b3 => ?_;refine Va J J ?_;refine S_call Tryz.call79 hcT J J J ?_;rintro v1 G1 rfl hx1
 refine Va J J ?_;refine S_lookT 5 J J (fun _ => J) J J J J J ?_;refine Va J J ?_
 by_cases hm : wText W ∈ Ws.map wText
 ·rw [decide_eq_true hm]
  refine RF J J ?_;refine Va J J ?_;refine S_Bhp 4 2 J J J J ?_;refine S_pair 5 6 3 J J J J ?_;refine S_pair 2 3 1 J J J J ?_;exact S_endm 1 (Res.t0 Tryz.results51) rfl hx1 ⟨rfl, fun _ => rfl, fun h => by cases h⟩
 ·rw [decide_eq_false hm]
  refine RT J J ?_;refine Va J J ?_;refine S_updT 5 J J J J J J J hm J J ?_;refine Va J J ?_;refine Ds J J J ?_;refine Da J J ?_;refine Nt 6 J J J J J J fun back => ?_;refine S_slice Tk ZT_ok J J J J (by decide) (by decide) J J J J fun b7 => ?_;refine back _ _ _ _ (by kernel_rfl) ?_; clear back
  refine Da J J ?_;refine Nt 7 J J J J J J fun back => ?_
  refine S_app1 Tk 6 25 J J J J J J J J J J J J J J (by intro u hu; simp at hu; rcases hu with rfl | rfl | rfl | rfl | rfl <;> rfl) rfl (fun _ _ => rfl) (by omega) (Nat.zero_le _) fun A6 c6 => ?_
  refine back _ _ _ _ (by kernel_rfl) ?_; clear back
  refine Da J J ?_;refine Ns 10 J J J J J J J J J ?_;refine DD ?_;refine Va J J ?_;refine S_Bhp 4 2 J J J J ?_;refine S_pair 5 6 3 J J J J ?_;refine S_pair 2 3 1 J J J J ?_;exact S_endm 1 (Res.t0 Tryz.results51) rfl hx1 ⟨rfl, fun h => (by cases h), fun _ => ⟨A6, c6, by simp [expHP]⟩⟩
end
section
attribute [local irreducible] X Pure Mod
theorem c_opened (p : List (List Stm)) (pv : Value) (G : PH) (hpp : Prg G p pv) (hp13 : 1 ≤ p.length ∧ p.length ≤ 3) : Mod Tryz.prog 52 [pv] G emptyHP fun v G' A' => ∃ cs ts, v = .agg cs.toArray ∧ A' = worldV cs (open0 p) ts ∧ Tds G' (open0 p).procs ts := by
  obtain ⟨A, c, rfl, hl1, _⟩ := id hpp
  refine Mod.intro Tryz.func52 Tryz.ntmps52 J J fun w S => ?_;refine Va J J ?_;refine AZ ZT_ok J J J J fun b2 => ?_;refine Va J J ?_;refine S_cut (α := Nat × Nat × Nat × Nat) (fun _ => True) (fun y => [(2, b2), (3, y.1), (6, y.2.1), (7, y.2.2.1), (8, y.2.2.2)]) (fun y => [(0, .val (.slice A p.length c)), (2, .ptr 2 0), (3, .ptr 3 0)])
    (fun y => [.blk 2 56 (vL [.slice none 0 0, .slice none 0 0, .slice none 0 0, .slice none 0 0, .slice none 0 0]), .blk 3 56 [.v (.slice none 0 0), .s 6 0 3 3, .s 7 0 2 2, .s 8 0 2 2, .v (.slice none 0 0)], .blk 6 3 (vL [.int .i64 0, .int .i64 0, .int .i64 0]), .blk 7 3 (vL [.int .i64 0, .int .i64 0]), .blk 8 52 (vL [.slice none 0 0, .slice none 0 0]), .hp 1 emptyHP]) (fun _ => G) ?_ ?_
  · refine Ds J J J ?_
    refine Da J J ?_
    repeat' (first
      | exact trivial
      | (refine D_list J ?_)
      | refine And.intro ?_ ?_
      | (refine N_turn Tk _ J J J J fun back => ?_
         first
           | refine S_make Tk ZT_ok J J J J J J (by decide) (by decide) J J J fun bm => ?_
           | refine AZ ZT_ok J J J J fun ba => ?_
           | fail
         refine back _ _ _ _ (by kernel_rfl) ?_
         clear back
         refine Da J J ?_)
      | fail)
    all_goals (refine N_store Tk 5 rfl rfl rfl rfl rfl rfl rfl rfl (by kernel_rfl) ?_)
    all_goals refine D_adv Tk (by decide) rfl rfl ?_
    all_goals (refine DD ?_)
    all_goals refine S_adv Tk rfl 1000 rfl ?_
    all_goals (refine S_pick [2, 3, 6, 7, 8, 1] rfl ?_)
    all_goals exact S_meet (_, _, _, _) trivial rfl ⟨⟨_, rfl, rfl⟩, ⟨_, rfl, rfl⟩, ⟨_, rfl, rfl⟩, trivial⟩ (.blk rfl rfl (.blk rfl rfl (.blk rfl rfl (.blk rfl rfl (.blk rfl rfl (.hp .nil))))))
  rintro ⟨b3, b9, b10, b11⟩ _
  simp only
  refine S_nilO (base := w.heap.size) (e := 62) (size := 5) 20 ?_;refine S_newE 21 ?_;refine Va J J ?_;refine S_loop (α := OS) (fun y => y.i ≤ p.length ∧ y.q.length = y.i ∧ PH.ext w.heap.size G y.G ∧ Qds y.G (p.take y.i) y.q ∧ Off0 y.A ∧ ∀ x ∈ y.q, ∃ A n c, x.2 = .slice A n c) (fun y => p.length - y.i) [(2, b2), (3, b3), (6, b9), (7, b10), (8, b11)]
    (fun y => [(12, .val (.int .i64 (y.i : Nat))), (10, .val (.slice A p.length c)), (11, .val (.int .i64 (p.length : Nat))), (2, .ptr 2 0), (3, .ptr 3 0)])
    (fun y => [.hp 21 (regsHP y.q), .hp 20 (rowO w.heap.size 62 5 y.A y.q.length y.c (procX y.q)), .blk 2 56 (vL [.slice none 0 0, .slice none 0 0, .slice none 0 0, .slice none 0 0, .slice none 0 0]), .blk 3 56 [.v (.slice y.A y.q.length y.c), .s 6 0 3 3, .s 7 0 2 2, .s 8 0 2 2, .v (.slice none 0 0)], .blk 6 3 (vL [.int .i64 0, .int .i64 0, .int .i64 0]), .blk 7 3 (vL [.int .i64 0, .int .i64 0]), .blk 8 52 (vL [.slice none 0 0, .slice none 0 0]), .hp 1 emptyHP]) (fun y => y.G) ⟨0, none, 0, [], G⟩ ⟨Nat.zero_le _, rfl, PH.ext.refl _ _, trivial, .inl rfl, by simp⟩ rfl ?_ ?_ ?_
  · exact ⟨⟨_, J, J⟩, ⟨_, J, J⟩, ⟨_, J, J⟩, ⟨_, J, J⟩, ⟨_, J, J⟩, trivial⟩
  · exact .hp (.hp (.blk J J (.blk J J (.blk J J (.blk J J (.blk J J (.hp .nil)))))))
  rintro ⟨i, A5, c5, q, G1⟩ ⟨hi, hq, hext, hqd, hoff, hqs⟩
  simp only at hi hq hext hqd hoff hqs ⊢
  refine Va J J ?_
  refine S_condp J (fun h5 => ?_) (fun h5 => ?_) <;> refine Va J J ?_
  · have hil : i < p.length := by omega
    obtain ⟨ad, lv, rfl, hcell, hlv⟩ := prg_at (Prg_le hext.le hpp) hil
    obtain ⟨Al, cl, rfl, _⟩ := id hlv
    refine S_index Tk J J J J J J (by omega) (by omega) ?_;refine Va J J ?_;refine S_load Tk J J J J J (by simpa using hcell) ?_;refine Va J J ?_;refine S_cut (α := Nat × Option Addr × Nat × PH × Option Addr × Nat) (fun y => Sts y.2.2.2.1 p[i] (.slice y.2.1 p[i].length y.2.2.1) ∧ PH.ext w.heap.size G1 y.2.2.2.1 ∧ Off0 y.2.2.2.2.1) (fun y => [(2, b2), (3, b3), (6, b9), (7, b10), (8, b11), (18, y.1)]) (fun y => [(12, .val (.int .i64 (i : Nat))), (10, .val (.slice (some ad) p.length c)), (11, .val (.int .i64 (p.length : Nat))), (2, .ptr 2 0), (3, .ptr 3 0)])
      (fun y => [.hp 21 (regsHP q), .hp 20 (rowO w.heap.size 62 5 y.2.2.2.2.1 (q.length + 1) y.2.2.2.2.2 (procX q ++ [.slice (some ⟨y.1, 0, none⟩) 3 3, .slice y.2.1 p[i].length y.2.2.1, .int .i64 0, .int .i64 0, .int .i64 (-1)])), .blk 18 3 (vL [.int .i64 0, .int .i64 0, .int .i64 0]), .blk 2 56 (vL [.slice none 0 0, .slice none 0 0, .slice none 0 0, .slice none 0 0, .slice none 0 0]), .blk 3 56 [.v (.slice y.2.2.2.2.1 (q.length + 1) y.2.2.2.2.2), .s 6 0 3 3, .s 7 0 2 2, .s 8 0 2 2, .v (.slice none 0 0)], .blk 6 3 (vL [.int .i64 0, .int .i64 0, .int .i64 0]), .blk 7 3 (vL [.int .i64 0, .int .i64 0]), .blk 8 52 (vL [.slice none 0 0, .slice none 0 0]), .hp 1 emptyHP]) (fun y => y.2.2.2.1) ?_ ?_
    · refine Ds J J J ?_
      refine Da J J ?_
      repeat' (first
        | exact trivial
        | (refine D_list J ?_)
        | refine And.intro ?_ ?_
        | (refine N_call 4 Tryz.call63 (c_copyStmts _ _ _ hlv) J J J J J J J J J J ?_
           rintro v4 G4 hv4 hext4
           obtain ⟨A4, c4, rfl, _⟩ := id hv4
           refine Da J J ?_)
        | (refine N_turn Tk _ J J J J fun back => ?_
           first
             | refine S_make Tk ZT_ok J J J J J J (by decide) (by decide) J J J fun bm => ?_
             | refine S_slice Tk ZT_ok J J J J (by decide) (by decide) J J J J fun b22 => ?_
             | refine S_app1z Tk 20 22 J J J J J J J J J J J J J J (by intro u hu; simp at hu; rcases hu with rfl | rfl | rfl | rfl | rfl <;> rfl) rfl (fun _ _ => rfl) (by omega) (Nat.le_refl _) fun A6 c6 h6 => ?_
             | fail
           refine back _ _ _ _ (by kernel_rfl) ?_
           clear back
           refine Da J J ?_)
        | fail)
      all_goals (refine N_store Tk 9 rfl rfl rfl rfl rfl rfl rfl rfl (by kernel_rfl) ?_)
      all_goals refine D_adv Tk (by decide) rfl rfl ?_
      all_goals (refine DD ?_)
      all_goals refine S_adv Tk rfl 1000 rfl ?_
      all_goals (refine S_pick [21, 20, 18, 2, 3, 6, 7, 8, 1] rfl ?_)
      all_goals exact S_meet (_, _, _, _, _, _) ⟨hv4, hext4, (by rcases h6 with h6 | h6; exact h6 ▸ hoff; exact .inr h6)⟩ J ⟨⟨_, J, J⟩, ⟨_, J, J⟩, ⟨_, J, J⟩, ⟨_, J, J⟩, ⟨_, J, J⟩, trivial⟩ (.hp (.hp (.blk J J (.blk J J (.blk J J (.blk J J (.blk J J (.blk J J (.hp .nil)))))))))
    rintro ⟨b18, A20, c20, G2, A6, c6⟩ ⟨hv, hext2, hoff6⟩
    simp only at hv hext2 hoff6 ⊢
    refine S_Bhp 18 24 J J J J ?_;refine S_pair 24 21 25 J J J J ?_;refine Va J J ?_;refine S_add J J J J (by omega) ?_;refine Va J J ?_;refine S_again ⟨i + 1, A6, c6, q ++ [(b18, .slice A20 p[i].length c20)], G2⟩ ⟨by simp only; omega, by simp; omega, hext.trans hext2, ?_, hoff6, ?_⟩ (by simp only; omega) rfl ⟨⟨_, rfl, by simp [denO]⟩, ⟨_, rfl, rfl⟩, ⟨_, rfl, rfl⟩, ⟨_, rfl, rfl⟩, ⟨_, rfl, rfl⟩, trivial⟩ ?_
    · simp only
      rw [List.take_succ_eq_append_getElem hil]
      exact Qds_snoc hv (Qds_le hext2.le hqd)
    · intro x hx
      rcases List.mem_append.1 hx with hx | hx
      · exact hqs x hx
      · rw [List.mem_singleton.1 hx]; exact ⟨_, _, _, J⟩
    · simp only [regsHP_snoc, procX_snoc, List.length_append, List.length_singleton]
      exact .hp (.hp (.blk J J (.blk J J (.blk J J (.blk J J (.blk J J (.hp .nil)))))))
  · have hin : i = p.length := by omega
    subst hin
    rw [List.take_length] at hqd
    refine S_capO 20 J fun hnc5 hcm5 _ => ?_;refine S_someO 20 J (by omega) fun gp offp eA => ?_;obtain rfl : offp = 0 := by
      rcases hoff with h | ⟨g, h⟩
      · rw [h] at eA; cases eA
      · rw [h] at eA; cases eA; rfl
    subst eA
    refine S_rowB 20 20 J J J fun sp => ?_;refine S_nilO (base := 0) (e := 3) (size := 1) 30 ?_;refine S_nilO (base := 0) (e := 3) (size := 1) 31 ?_;refine S_nilO (base := 0) (e := 96) (size := 2) 32 ?_
    rcases (by omega : p.length = 1 ∨ p.length = 2 ∨ p.length = 3) with h1 | h1 | h1
    · obtain ⟨l0, rfl⟩ := len1 h1
      obtain ⟨⟨g0, t0⟩, rfl⟩ := len1 (hq.trans h1)
      refine S_unpair 21 500 600 J J ?_;refine S_hpB 500 40 J J J ?_;exact RK [20, 6, 7, 8, 32, 30, 31, 40] (Res.c1 Tk Tryz.results52 rfl rfl) ⟨_, [t0], rfl, rfl, Qds_Tds hqd⟩ ⟨gp, b9, b10, b11, [g0], ⟨c5, sp, none, 0, none, 0, none, 0, 3, [], 2, [], 2, [], fun _ => 3, fun _ => []⟩, ⟨0, [], 0, [], 0, []⟩, rfl, (mok0 ⟨by simpa [open0] using hnc5, hcm5⟩), ⟨⟨rfl, rfl⟩, ⟨rfl, rfl⟩, rfl, rfl⟩, rfl, rfl, rfl⟩ rfl (Bs 5 rfl rfl rfl rfl (.blk rfl rfl (.blk rfl rfl (.blk rfl rfl (.hp (.hp (.hp (.blk rfl rfl .nil)))))))) hext
    · obtain ⟨l0, l1, rfl⟩ := len2 h1
      obtain ⟨⟨g0, t0⟩, ⟨g1, t1⟩, rfl⟩ := len2 (hq.trans h1)
      refine S_unpair 21 501 601 J J ?_;refine S_hpB 501 41 J J J ?_;refine S_unpair 601 500 600 J J ?_;refine S_hpB 500 40 J J J ?_;exact RK [20, 6, 7, 8, 32, 30, 31, 40, 41] (Res.c1 Tk Tryz.results52 rfl rfl) ⟨_, [t0, t1], rfl, rfl, Qds_Tds hqd⟩ ⟨gp, b9, b10, b11, [g0, g1], ⟨c5, sp, none, 0, none, 0, none, 0, 3, [], 2, [], 2, [], fun _ => 3, fun _ => []⟩, ⟨0, [], 0, [], 0, []⟩, rfl, (mok0 ⟨by simpa [open0] using hnc5, hcm5⟩), ⟨⟨rfl, rfl⟩, ⟨rfl, rfl⟩, rfl, rfl⟩, rfl, rfl, rfl⟩ rfl (Bs 10 rfl rfl rfl rfl (.blk rfl rfl (.blk rfl rfl (.blk rfl rfl (.hp (.hp (.hp (.blk rfl rfl (.blk rfl rfl .nil))))))))) hext
    · obtain ⟨l0, l1, l2, rfl⟩ := len3 h1
      obtain ⟨⟨g0, t0⟩, ⟨g1, t1⟩, ⟨g2, t2⟩, rfl⟩ := len3 (hq.trans h1)
      refine S_unpair 21 502 602 J J ?_;refine S_hpB 502 42 J J J ?_;refine S_unpair 602 501 601 J J ?_;refine S_hpB 501 41 J J J ?_;refine S_unpair 601 500 600 J J ?_;refine S_hpB 500 40 J J J ?_;exact RK [20, 6, 7, 8, 32, 30, 31, 40, 41, 42] (Res.c1 Tk Tryz.results52 rfl rfl) ⟨_, [t0, t1, t2], rfl, rfl, Qds_Tds hqd⟩ ⟨gp, b9, b10, b11, [g0, g1, g2], ⟨c5, sp, none, 0, none, 0, none, 0, 3, [], 2, [], 2, [], fun _ => 3, fun _ => []⟩, ⟨0, [], 0, [], 0, []⟩, rfl, (mok0 ⟨by simpa [open0] using hnc5, hcm5⟩), ⟨⟨rfl, rfl⟩, ⟨rfl, rfl⟩, rfl, rfl⟩, rfl, rfl, rfl⟩ rfl (Bs 15 rfl rfl rfl rfl (.blk rfl rfl (.blk rfl rfl (.blk rfl rfl (.hp (.hp (.hp (.blk rfl rfl (.blk rfl rfl (.blk rfl rfl .nil)))))))))) hext
end
section
attribute [local irreducible] X Pure Mod
theorem any_at {α : Type} {L : List α} {p : α → Bool} {k : Nat} (hk : k < L.length) (h : p L[k] = true) : L.any p = true := List.any_eq_true.2 ⟨_, List.getElem_mem hk, h⟩
theorem any_not {α : Type} {L : List α} {p : α → Bool} (h : ∀ j (hj : j < L.length), p L[j] = false) : L.any p = false := by
 rw [List.any_eq_false]
 intro s hs
 obtain ⟨j, hj, rfl⟩ := List.getElem_of_mem hs
 simp [h j hj]
theorem c_IndexStm (L : List Stm) (p : Stm → Bool) (fid : Nat) (cap : Array Value) (v : Value) (G : PH) (hv : Sts G L v) (hcf : ∀ args w, (callFunc fid args).run Tryz.prog w = .ok (.enter fid args) w)
  (hp : ∀ k (hk : k < L.length) cs, Stm.rep G L[k] cs → Pure Tryz.prog fid (.agg cs.toArray :: cap.toList) G fun v G' => v = .bool (p L[k]) ∧ G' = G) :
  Pure Tryz.prog 103 [v, .func (.func fid) #[] cap] G fun v G' => (∃ r : Int, v = .int .i64 r ∧ (0 ≤ r ↔ L.any p = true)) ∧ G' = G := by
 obtain ⟨A, c, rfl, hn, hc1, hc2, hr⟩ := id hv
 refine Pure.intro Tryz.func103 Tryz.ntmps103 J J fun w => ?_; refine Va J J ?_;refine S_loop (α := Nat) (fun k => k ≤ L.length ∧ ∀ j (hj : j < L.length), j < k → p L[j] = false) (fun k => L.length - k) []
  (fun k => [(8, .val (.int .i64 k)), (7, .val (.int .i64 L.length)), (0, .val (.slice A L.length c)), (1, .val (.func (.func fid) #[] cap))]) (fun _ => []) (fun _ => G) 0 ⟨Nat.zero_le _, fun j _ h => by omega⟩ rfl
  ⟨⟨_, rfl, rfl⟩, ⟨_, rfl, rfl⟩, ⟨_, rfl, rfl⟩, ⟨_, rfl, rfl⟩, trivial⟩ .nil ?_
 rintro k ⟨hk, hall⟩
 refine Va J J ?_
 refine S_condp J (fun h => ?_) (fun h => ?_) <;> refine Va J J ?_
 ·have hkl : k < L.length := by omega
  obtain ⟨ad, cs, rfl, hcs, hrep⟩ := Sr_at hv hkl
  have hlen := Stm.rep_len hrep
  refine S_index Tk J J J J J J (by omega) (by omega) ?_;refine Va J J ?_;refine S_loadA Tk J J J J hlen (by simpa using hcs) ?_;refine Va J J ?_;refine S_callV (vs := [.agg cs.toArray]) J hcf (hp k hkl cs hrep) J J J ?_;rintro v1 G1 ⟨rfl, rfl⟩ _
  refine Va J J ?_
  refine S_cond J (fun h => ?_) (fun h => ?_) <;> refine Va J J ?_
  ·refine S_retP Tryz.results103 J J XR ⟨⟨_, J, ?_⟩, J⟩
   rw [any_at hkl h]; simp
  ·refine S_add J J J J (by omega) ?_
   refine Va J J ?_;refine S_again (k + 1) ⟨by omega, fun j hj hjk => ?_⟩ (by omega) J ⟨⟨_, J, J⟩, ⟨_, J, J⟩, ⟨_, J, J⟩, ⟨_, J, J⟩, trivial⟩ .nil
   rcases Nat.lt_or_ge j k with h' | h'
   ·exact hall j hj h'
   ·obtain rfl : j = k := by omega
    exact h
 ·refine S_retP Tryz.results103 J J XR ⟨⟨_, J, ?_⟩, J⟩
  rw [any_not fun j hj => hall j hj (by omega)]; simp
theorem c_ContainsStm (L : List Stm) (p : Stm → Bool) (fid : Nat) (cap : Array Value) (v : Value) (G : PH) (hv : Sts G L v) (hcf : ∀ args w, (callFunc fid args).run Tryz.prog w = .ok (.enter fid args) w)
  (hp : ∀ k (hk : k < L.length) cs, Stm.rep G L[k] cs → Pure Tryz.prog fid (.agg cs.toArray :: cap.toList) G fun v G' => v = .bool (p L[k]) ∧ G' = G) :
  Pure Tryz.prog 97 [v, .func (.func fid) #[] cap] G fun v G' => v = .bool (L.any p) ∧ G' = G := by
 obtain ⟨A, c, rfl, hn, hc1, hc2, hr⟩ := id hv
 refine Pure.intro Tryz.func97 Tryz.ntmps97 J J fun w => ?_; refine Va J J ?_;refine S_call Tryz.call103 (c_IndexStm L p fid cap _ _ hv hcf hp) J J J ?_;rintro v1 G1 ⟨⟨r, rfl, hrr⟩, rfl⟩ _
 refine Va J J ?_;refine S_retP Tryz.results97 J J XR ⟨?_, J⟩
 congr 1
 exact (Bool.eq_iff_iff.2 (by rw [← hrr]; simp))
theorem c_IndexSts (L : List (List Stm)) (p : (List Stm) → Bool) (fid : Nat) (cap : Array Value) (v : Value) (G : PH) (hv : Prg G L v) (hcf : ∀ args w, (callFunc fid args).run Tryz.prog w = .ok (.enter fid args) w)
  (hp : ∀ k (hk : k < L.length) u, Sts G L[k] u → Pure Tryz.prog fid (u :: cap.toList) G fun v G' => v = .bool (p L[k]) ∧ G' = G) :
  Pure Tryz.prog 88 [v, .func (.func fid) #[] cap] G fun v G' => (∃ r : Int, v = .int .i64 r ∧ (0 ≤ r ↔ L.any p = true)) ∧ G' = G := by
 obtain ⟨A, c, rfl, hn, hc1, hc2, hr⟩ := id hv
 refine Pure.intro Tryz.func88 Tryz.ntmps88 J J fun w => ?_; refine Va J J ?_;refine S_loop (α := Nat) (fun k => k ≤ L.length ∧ ∀ j (hj : j < L.length), j < k → p L[j] = false) (fun k => L.length - k) []
  (fun k => [(8, .val (.int .i64 k)), (7, .val (.int .i64 L.length)), (0, .val (.slice A L.length c)), (1, .val (.func (.func fid) #[] cap))]) (fun _ => []) (fun _ => G) 0 ⟨Nat.zero_le _, fun j _ h => by omega⟩ rfl
  ⟨⟨_, rfl, rfl⟩, ⟨_, rfl, rfl⟩, ⟨_, rfl, rfl⟩, ⟨_, rfl, rfl⟩, trivial⟩ .nil ?_
 rintro k ⟨hk, hall⟩
 refine Va J J ?_
 refine S_condp J (fun h => ?_) (fun h => ?_) <;> refine Va J J ?_
 ·have hkl : k < L.length := by omega
  obtain ⟨ad, cs, rfl, hcs, u, rfl, hu⟩ := Sr_at hv hkl
  obtain ⟨A1, c1, rfl, _⟩ := id hu
  refine S_index Tk J J J J J J (by omega) (by omega) ?_;refine Va J J ?_;refine S_load Tk J J J J J (by simpa using hcs.1) ?_;refine Va J J ?_;refine S_callV (vs := [.slice A1 L[k].length c1]) J hcf (hp k hkl _ hu) J J J ?_;rintro v1 G1 ⟨rfl, rfl⟩ _
  refine Va J J ?_
  refine S_cond J (fun h => ?_) (fun h => ?_) <;> refine Va J J ?_
  ·refine S_retP Tryz.results88 J J XR ⟨⟨_, J, ?_⟩, J⟩
   rw [any_at hkl h]; simp
  ·refine S_add J J J J (by omega) ?_
   refine Va J J ?_;refine S_again (k + 1) ⟨by omega, fun j hj hjk => ?_⟩ (by omega) J ⟨⟨_, J, J⟩, ⟨_, J, J⟩, ⟨_, J, J⟩, ⟨_, J, J⟩, trivial⟩ .nil
   rcases Nat.lt_or_ge j k with h' | h'
   ·exact hall j hj h'
   ·obtain rfl : j = k := by omega
    exact h
 ·refine S_retP Tryz.results88 J J XR ⟨⟨_, J, ?_⟩, J⟩
  rw [any_not fun j hj => hall j hj (by omega)]; simp
theorem c_ContainsSts (L : List (List Stm)) (p : (List Stm) → Bool) (fid : Nat) (cap : Array Value) (v : Value) (G : PH) (hv : Prg G L v) (hcf : ∀ args w, (callFunc fid args).run Tryz.prog w = .ok (.enter fid args) w)
  (hp : ∀ k (hk : k < L.length) u, Sts G L[k] u → Pure Tryz.prog fid (u :: cap.toList) G fun v G' => v = .bool (p L[k]) ∧ G' = G) :
  Pure Tryz.prog 76 [v, .func (.func fid) #[] cap] G fun v G' => v = .bool (L.any p) ∧ G' = G := by
 obtain ⟨A, c, rfl, hn, hc1, hc2, hr⟩ := id hv
 refine Pure.intro Tryz.func76 Tryz.ntmps76 J J fun w => ?_; refine Va J J ?_;refine S_call Tryz.call88 (c_IndexSts L p fid cap _ _ hv hcf hp) J J J ?_;rintro v1 G1 ⟨⟨r, rfl, hrr⟩, rfl⟩ _
 refine Va J J ?_;refine S_retP Tryz.results76 J J XR ⟨?_, J⟩
 congr 1
 exact (Bool.eq_iff_iff.2 (by rw [← hrr]; simp))
end
section
attribute [local irreducible] X Pure Mod
def fm (k : Int) : Option (Int × Int × Bool × Bool) :=
 if k = 1 then some (3, 0, false, false) else if k = 2 then some (3, 3, false, false) else if k = 3 then some (3, 3, false, false) else if k = 4 then some (3, 3, false, false) else if k = 5 then some (3, 0, false, false)
 else if k = 6 then some (3, 0, true, true) else if k = 7 then some (3, 0, true, false) else if k = 8 then some (2, 0, true, false) else if k = 9 then some (2, 0, false, false) else if k = 10 then some (2, 0, false, false) else if k = 11 then some (0, 0, false, false) else none
theorem fm_of {f : Int → Option Value} (h : formsP f) (k : Int) : (∃ s a b body els, f k = some (formV s a b body els) ∧ fm k = some (a, b, body, els)) ∨ (f k = none ∧ fm k = none) := by
 obtain ⟨⟨s1, h1⟩, ⟨s2, h2⟩, ⟨s3, h3⟩, ⟨s4, h4⟩, ⟨s5, h5⟩, ⟨s6, h6⟩, ⟨s7, h7⟩, ⟨s8, h8⟩, ⟨s9, h9⟩, ⟨s10, h10⟩, ⟨s11, h11⟩, hn⟩ := h
 by_cases hk : 1 ≤ k ∧ k ≤ 11
 ·left
  have hc : k = 1 ∨ k = 2 ∨ k = 3 ∨ k = 4 ∨ k = 5 ∨ k = 6 ∨ k = 7 ∨ k = 8 ∨ k = 9 ∨ k = 10 ∨ k = 11 := by omega
  rcases hc with rfl | rfl | rfl | rfl | rfl | rfl | rfl | rfl | rfl | rfl | rfl <;> exact ⟨_, _, _, _, _, by assumption, J⟩
 ·right
  refine ⟨hn k hk, ?_⟩
  unfold fm
  repeat rw [if_neg (by omega)]
def iOk (k a b n : Int) (x y : List Stm) (deep room : Int) : Bool :=
 match fm k with
 | none => false
 | some (fa, fb, body, els) =>
  if deep < 1 then false else if fitsB a fa = false then false else if fitsB b fb = false then false else if numberOkB k n = false then false
  else if body = false ∧ 0 < x.length then false else if els = false ∧ 0 < y.length then false
  else if k = 8 then (if room = -1 then listOk x (deep - 1) a && listOk y (deep - 1) a else false)
  else if k = 9 ∧ room = -1 then false
  else listOk x (deep - 1) room && listOk y (deep - 1) room
theorem iOk_eq (k a b n : Int) (x y : List Stm) (deep room : Int) (hr : -1 ≤ room) : iOk k a b n x y deep room = stmtOk (.mk k a b n x y) deep room := by
 have hnil : ∀ d r, listOk [] d r = true := fun _ _ => rfl
 have hynil : ∀ d r, y = [] → listOk y d r = true := by rintro d r rfl; rfl
 by_cases hk : 1 ≤ k ∧ k ≤ 11
 ·have hc : k = 1 ∨ k = 2 ∨ k = 3 ∨ k = 4 ∨ k = 5 ∨ k = 6 ∨ k = 7 ∨ k = 8 ∨ k = 9 ∨ k = 10 ∨ k = 11 := by omega
  by_cases hd : deep < 1
  ·rcases hc with rfl | rfl | rfl | rfl | rfl | rfl | rfl | rfl | rfl | rfl | rfl <;> simp [iOk, fm, stmtOk, hd]
  ·cases x with
   | nil =>
    cases y with
    | nil => rcases hc with rfl | rfl | rfl | rfl | rfl | rfl | rfl | rfl | rfl | rfl | rfl <;> simp [iOk, fm, stmtOk, leafOk, listOk, fitsB, numberOkB, opOk, numOk, hd] <;> rw [Bool.eq_iff_iff] <;> simp <;> (first | omega | grind)
    | cons t y => rcases hc with rfl | rfl | rfl | rfl | rfl | rfl | rfl | rfl | rfl | rfl | rfl <;> simp [iOk, fm, stmtOk, leafOk, fitsB, numberOkB, opOk, numOk, hd] <;> rw [Bool.eq_iff_iff] <;> simp <;> (first | omega | grind)
   | cons t x => rcases hc with rfl | rfl | rfl | rfl | rfl | rfl | rfl | rfl | rfl | rfl | rfl <;> simp [iOk, fm, stmtOk, leafOk, fitsB, numberOkB, opOk, numOk, hd] <;> rw [Bool.eq_iff_iff] <;> simp <;> (first | omega | grind)
 ·have : fm k = none := by unfold fm; repeat rw [if_neg (by omega)]
  obtain ⟨h1, h2, h3, h4, h5, h6, h7, h8, h9, h10, h11⟩ : k ≠ 1 ∧ k ≠ 2 ∧ k ≠ 3 ∧ k ≠ 4 ∧ k ≠ 5 ∧ k ≠ 6 ∧ k ≠ 7 ∧ k ≠ 8 ∧ k ≠ 9 ∧ k ≠ 10 ∧ k ≠ 11 := by omega
  simp [iOk, this, stmtOk, leafOk, h1, h2, h3, h4, h5, h6, h7, h8, h9, h10, h11]
def IL (L : List Stm) : Prop := ∀ (deep room : Int) (v : Value) (G : PH), I64 deep → -1 ≤ room → I64 room → Sts G L v → Pure Tryz.prog 89 [v, .int .i64 deep, .int .i64 room] G fun v G' => v = .bool (listOk L deep room) ∧ G' = G
theorem zform : ∀ w, (zeroValue 159).run Tryz.prog w = .ok (.agg #[.string ByteArray.empty, .int .i64 0, .int .i64 0, .bool false, .bool false]) w := by
 intro w
 have h : (Tryz.prog.info? 159).bind (·.zero) = some (.agg #[.string ByteArray.empty, .int .i64 0, .int .i64 0, .bool false, .bool false]) := by kernel_rfl
 cases hi : Tryz.prog.info? 159 with
 | none => rw [hi] at h; cases h
 | some i =>
  rw [hi] at h
  simp only [Option.bind_some] at h
  simp [zeroValue, typeInfo, hi, h]
theorem c_stmtOk_of (k a b n : Int) (x y : List Stm) (hX : IL x) (hY : IL y) (deep room : Int) (hd : I64 deep) (hr : -1 ≤ room) (hr' : I64 room) (cs : List Value) (G : PH) (hs : Stm.rep G (.mk k a b n x y) cs) :
  Pure Tryz.prog 99 [.agg cs.toArray, .int .i64 deep, .int .i64 room] G fun v G' => v = .bool (iOk k a b n x y deep room) := by
 obtain ⟨vx, vy, rfl, hk, ha, hb, hn, h1, h2⟩ := Stm.rep_iff.1 hs
 obtain ⟨Ax, cx, rfl, _⟩ := id h1
 have hd' : -9223372036854775808 ≤ deep ∧ deep ≤ 9223372036854775807 := hd
 obtain ⟨Ay, cy, rfl, _⟩ := id h2
 refine Pure.intro Tryz.func99 Tryz.ntmps99 J J fun w => ?_; refine Va J J ?_;refine S_box J J J J J fun b3 => ?_;refine Va J J ?_;refine Ds J J J ?_;refine Da J J ?_;refine D_or 0 7 J J (N_call 0 Tryz.call104 (c_forms _) J J J J J J J J J J ?_) (N_new 7 J J J J J J J J J J J (AZ ZT_ok J J J J) fun b => ?_)
 ·rintro v G1 ⟨bm, es, clock, rfl, hbm, hkeys, hforms⟩ hext
  rcases fm_of hforms k with ⟨s, fa, fb, body, els, hf, hfm⟩ | ⟨hf, hfm⟩
  ·refine D_val 3 J J J J J J J J J (V_lookupS u_forms u_int hbm hkeys hf J J) ?_
   unfold formV
   refine Da J J ?_;refine D_sole 7 J J (N_new 7 J J J J J J J J J J J (AZ ZT_ok J J J J) fun b => ?_)
   refine Da J J ?_;refine Ns 8 J J J J J J J J J ?_;refine Da J J ?_;refine DD ?_;refine Va J J ?_
   repeat' (first
    | (refine S_condp J (fun h => ?_) (fun h => ?_) <;> refine Va J J ?_) | (refine S_cond J (fun h => ?_) (fun h => ?_) <;> refine Va J J ?_) | (refine S_box J J J J J fun b => ?_; refine Va J J ?_) | (refine AZ ZT_ok J J J J fun b => ?_; refine Va J J ?_) | (refine S_guardp J J (fun h => ?_) (fun h => ?_) <;> refine Va J J ?_) | (refine S_guard J J (fun h => ?_) (fun h => ?_) <;> refine Va J J ?_)
    | (refine S_subI J J J J (by first | omega | (simp_all; omega)) ?_; refine Va J J ?_)
    | (refine S_call Tryz.call105 (c_fits _ _ _) J J J ?_; rintro v G' ⟨rfl, rfl⟩ _; refine Va J J ?_)
    | (refine S_call Tryz.call106 (c_numberOk _ _ _ _ _ _ _) J J J ?_; rintro v G' ⟨rfl, rfl⟩ _; refine Va J J ?_)
    | (refine S_call Tryz.call89 (hX _ _ _ _ (by unfold I64; first | omega | (simp_all; omega)) (by first | exact hr | (simp_all [fitsB]; omega)) (by first | exact hr' | exact ha) (Sts_le hext.le h1)) rfl rfl rfl ?_; rintro v G' ⟨rfl, rfl⟩ _; refine Va J J ?_)
    | (refine S_call Tryz.call89 (hY _ _ _ _ (by unfold I64; first | omega | (simp_all; omega)) (by first | exact hr | (simp_all [fitsB]; omega)) (by first | exact hr' | exact ha) (Sts_le hext.le h2)) rfl rfl rfl ?_; rintro v G' ⟨rfl, rfl⟩ _; refine Va J J ?_)
    | refine S_retP Tryz.results99 J J hext ?_)
   all_goals (try clear hX hY hforms hkeys hs)
   all_goals (refine congrArg Value.bool ?_)
   all_goals (unfold iOk; rw [hfm]; dsimp only)
   all_goals (clear hext; cases body <;> cases els <;> simp_all [listOk] <;> omega)
  ·refine D_val 3 J J J J J J J J J (V_lookupN ZT_ok (z := ⟨32, [.string ByteArray.empty, .int .i64 0, .int .i64 0, .bool false, .bool false], []⟩) u_forms u_int hbm hkeys hf J J zform) ?_
   refine Da J J ?_;refine D_sole 7 J J (N_new 7 J J J J J J J J J J J (AZ ZT_ok J J J J) fun b => ?_)
   refine Da J J ?_;refine Ns 8 J J J J J J J J J ?_;refine Da J J ?_;refine DD ?_;refine Va J J ?_;refine GT J J J ?_;refine Va J J ?_;refine S_retP Tryz.results99 J J hext ?_;refine congrArg Value.bool ?_
   unfold iOk
   rw [hfm]
 ·refine Da J J ?_
  refine D_sole 0 J J (N_call 0 Tryz.call104 (c_forms _) J J J J J J J J J J ?_)
  rintro v G1 ⟨bm, es, clock, rfl, hbm, hkeys, hforms⟩ hext
  rcases fm_of hforms k with ⟨s, fa, fb, body, els, hf, hfm⟩ | ⟨hf, hfm⟩
  ·refine D_val 3 J J J J J J J J J (V_lookupS u_forms u_int hbm hkeys hf J J) ?_
   unfold formV
   refine Da J J ?_;refine Ns 8 J J J J J J J J J ?_;refine Da J J ?_;refine DD ?_;refine Va J J ?_
   repeat' (first
    | (refine S_condp J (fun h => ?_) (fun h => ?_) <;> refine Va J J ?_) | (refine S_cond J (fun h => ?_) (fun h => ?_) <;> refine Va J J ?_) | (refine S_box J J J J J fun b => ?_; refine Va J J ?_) | (refine AZ ZT_ok J J J J fun b => ?_; refine Va J J ?_) | (refine S_guardp J J (fun h => ?_) (fun h => ?_) <;> refine Va J J ?_) | (refine S_guard J J (fun h => ?_) (fun h => ?_) <;> refine Va J J ?_)
    | (refine S_subI J J J J (by first | omega | (simp_all; omega)) ?_; refine Va J J ?_)
    | (refine S_call Tryz.call105 (c_fits _ _ _) J J J ?_; rintro v G' ⟨rfl, rfl⟩ _; refine Va J J ?_)
    | (refine S_call Tryz.call106 (c_numberOk _ _ _ _ _ _ _) J J J ?_; rintro v G' ⟨rfl, rfl⟩ _; refine Va J J ?_)
    | (refine S_call Tryz.call89 (hX _ _ _ _ (by unfold I64; first | omega | (simp_all; omega)) (by first | exact hr | (simp_all [fitsB]; omega)) (by first | exact hr' | exact ha) (Sts_le hext.le h1)) rfl rfl rfl ?_; rintro v G' ⟨rfl, rfl⟩ _; refine Va J J ?_)
    | (refine S_call Tryz.call89 (hY _ _ _ _ (by unfold I64; first | omega | (simp_all; omega)) (by first | exact hr | (simp_all [fitsB]; omega)) (by first | exact hr' | exact ha) (Sts_le hext.le h2)) rfl rfl rfl ?_; rintro v G' ⟨rfl, rfl⟩ _; refine Va J J ?_)
    | refine S_retP Tryz.results99 J J hext ?_)
   all_goals (try clear hX hY hforms hkeys hs)
   all_goals (refine congrArg Value.bool ?_)
   all_goals (unfold iOk; rw [hfm]; dsimp only)
   all_goals (clear hext; cases body <;> cases els <;> simp_all [listOk] <;> omega)
  ·refine D_val 3 J J J J J J J J J (V_lookupN ZT_ok (z := ⟨32, [.string ByteArray.empty, .int .i64 0, .int .i64 0, .bool false, .bool false], []⟩) u_forms u_int hbm hkeys hf J J zform) ?_
   refine Da J J ?_;refine Ns 8 J J J J J J J J J ?_;refine Da J J ?_;refine DD ?_;refine Va J J ?_;refine GT J J J ?_;refine Va J J ?_;refine S_retP Tryz.results99 J J hext ?_;refine congrArg Value.bool ?_
   unfold iOk
   rw [hfm]
end
section
attribute [local irreducible] X Pure Mod
theorem c_listOkC (cs : List Value) (hlen : cs.length = 6) (deep room : Int) (r : Bool) (b4 b5 : Nat) (G : PH) (h4 : gcell G ⟨b4, 0, none⟩ = some (.int .i64 deep)) (h5 : gcell G ⟨b5, 0, none⟩ = some (.int .i64 room))
  (hst : Pure Tryz.prog 99 [.agg cs.toArray, .int .i64 deep, .int .i64 room] G fun v G' => v = .bool r ∧ G' = G) :
  Pure Tryz.prog 98 [.agg cs.toArray, .pointer (some ⟨b4, 0, none⟩), .pointer (some ⟨b5, 0, none⟩)] G fun v G' => v = .bool (!r) ∧ G' = G := by
 obtain ⟨x1, x2, x3, x4, x5, x6, rfl⟩ : ∃ x1 x2 x3 x4 x5 x6, cs = [x1, x2, x3, x4, x5, x6] := by
  match cs, hlen with
  | [x1, x2, x3, x4, x5, x6], _ => exact ⟨_, _, _, _, _, _, rfl⟩
 refine Pure.intro Tryz.func98 Tryz.ntmps98 J J fun w => ?_; refine Va J J ?_;refine S_box J J J J J fun b3 => ?_;refine Va J J ?_;refine S_load Tk J J J J J h4 ?_;refine Va J J ?_;refine S_load Tk J J J J J h5 ?_;refine Va J J ?_;refine S_call Tryz.call99 hst J J J ?_;rintro v G' ⟨rfl, rfl⟩ _
 refine Va J J ?_;exact S_retP Tryz.results98 J J XR ⟨J, J⟩
theorem notany_all {α : Type} (L : List α) (p : α → Bool) : (!L.any fun s => !p s) = L.all p := by
 induction L with
 | nil => rfl
 | cons s L ih => simp only [List.any_cons, List.all_cons, Bool.not_or, Bool.not_not, ih]
theorem IL_of (L : List Stm) (h : ∀ k (hk : k < L.length), IL L[k].body ∧ IL L[k].els) : IL L := by
 intro deep room v G hd hr hr' hv
 obtain ⟨A, c, rfl, _⟩ := id hv
 refine Pure.drop (Post := fun v _ => v = .bool (listOk L deep room)) ?_ (fun v G' h => h)
 refine Pure.intro Tryz.func89 Tryz.ntmps89 J J fun w => ?_; refine Va J J ?_;refine S_box J J J J J fun b4 => ?_;refine Va J J ?_;refine S_box J J J J J fun b5 => ?_;refine Va J J ?_;refine S_valV J J J (V_makeFunc J) ?_;refine Va J J ?_;refine S_freezeB 4 J J J J (fun _ h => h) fun hext1 => ?_;refine S_freezeB 5 J J J J (fun _ h => h) fun hext2 => ?_
 have hle := hext1.le.trans hext2.le
 refine S_call Tryz.call97 (c_ContainsStm L (fun s => !stmtOk s deep room) _ _ _ _ (Sts_le hle hv) Tryz.call98 ?_) J J J ?_
 ·intro k hk cs hs
  refine c_listOkC cs (Stm.rep_len hs) deep room _ b4 b5 _ (gcell_le hext2.le ?_) ?_ ?_
  ·simp [gcell, PH.add_self]
  ·simp [gcell, PH.add_self]
  ·obtain ⟨hb, he⟩ := h k hk
   rcases hk' : L[k] with ⟨q1, q2, q3, q4, x, y⟩
   rw [hk'] at hb he hs
   exact (c_stmtOk_of q1 q2 q3 q4 x y hb he deep room hd hr hr' cs _ hs).drop fun v G' e => by rw [e, iOk_eq _ _ _ _ _ _ _ _ hr]
 ·rintro v1 G1 ⟨rfl, rfl⟩ _
  refine Va J J ?_;refine S_retP Tryz.results89 J J (hext1.trans hext2) ?_
  rw [listOk_all, notany_all]
mutual
theorem IL_stm : ∀ (s : Stm), IL s.body ∧ IL s.els
 | .mk k a b n x y => ⟨IL_all x, IL_all y⟩
theorem IL_at : ∀ (L : List Stm) (k : Nat) (hk : k < L.length), IL L[k].body ∧ IL L[k].els
 | [], k, hk => absurd hk (by simp)
 | s :: L, 0, _ => IL_stm s
 | s :: L, k + 1, hk => IL_at L k (by simpa using hk)
theorem IL_all : ∀ (L : List Stm), IL L
 | L => IL_of L (IL_at L)
end
end
section
attribute [local irreducible] X Pure Mod
mutual
def flatS : Stm → Int → List (Stm × Int)
 | .mk k a b n x y, room => flatL x (if k = 8 then a else room) ++ flatL y (if k = 8 then a else room)
def flatL : List Stm → Int → List (Stm × Int)
 | [], _ => []
 | s :: r, room => (s, room) :: (flatS s room ++ flatL r room)
end
theorem flatL_append (L M : List Stm) (room : Int) : flatL (L ++ M) room = flatL L room ++ flatL M room := by
 induction L with
 | nil => simp [flatL]
 | cons s L ih => simp [flatL, ih]
theorem flat_take {L : List Stm} {i : Nat} (hi : i < L.length) (room : Int) : flatL (L.take (i + 1)) room = flatL (L.take i) room ++ (L[i], room) :: flatS L[i] room := by
 rw [List.take_succ_eq_append_getElem hi, flatL_append]; simp [flatL]
theorem flat_pre (L : List Stm) (i : Nat) (room : Int) : flatL (L.take i) room <+: flatL L room := ⟨flatL (L.drop i) room, by rw [← flatL_append, List.take_append_drop]⟩
def encP (G : PH) (x : Stm × Int) (vs : List Value) : Prop := ∃ cs, Stm.rep G x.1 cs ∧ vs = [Value.agg (cs ++ [Value.int .i64 x.2]).toArray]
def walkF (by_ bw : Nat) : Value := .func (.func 101) #[] #[.pointer (some ⟨by_, 0, none⟩), .pointer (some ⟨bw, 0, none⟩)]
def WalkC (L : List Stm) : Prop := ∀ (l by_ bw : Nat) (A Ax : List (Stm × Int) → HP) (xs pre : List (Stm × Int)) (room : Int) (v : Value) (G0 G : PH), G0.le G → Sts G0 L v → gcell G ⟨by_, 0, none⟩ = some (.func (.yield l) #[] #[]) → gcell G ⟨bw, 0, none⟩ = some (walkF by_ bw) →
 (∀ pre x vs, (pre ++ [x]) <+: xs → encP G0 x vs → YieldM Tryz.prog l vs G0 (A pre) (A (pre ++ [x])) (Ax (pre ++ [x]))) → (pre ++ flatL L room) <+: xs →
 Mod Tryz.prog 101 [v, .int .i64 room, .pointer (some ⟨by_, 0, none⟩), .pointer (some ⟨bw, 0, none⟩)] G (A pre) fun r G' A' => G' = G ∧ ((r = .bool true ∧ A' = A (pre ++ flatL L room)) ∨ (r = .bool false ∧ ∃ q, A' = Ax q))
theorem c_walk_of (L : List Stm) (hbs : ∀ k (hk : k < L.length), WalkC L[k].body) (hes : ∀ k (hk : k < L.length), WalkC L[k].els) : WalkC L := by
 intro l by_ bw A Ax xs pre room v G0 G hle hv hy hw hY hpre
 obtain ⟨Al, c, rfl, hn, hc1, hc2, hr⟩ := id hv
 refine Mod.intro Tryz.func101 Tryz.ntmps101 J J fun w S => ?_;refine Va J J ?_;refine S_loop (α := Nat) (fun i => i ≤ L.length) (fun i => L.length - i) []
  (fun i => [(12, .val (.int .i64 (i : Nat))), (11, .val (.int .i64 (L.length : Nat))), (10, .val (.slice Al L.length c)), (1, .val (.int .i64 room)), (2, .val (.pointer (some ⟨by_, 0, none⟩))), (3, .val (.pointer (some ⟨bw, 0, none⟩)))])
  (fun i => [.hp 1 (A (pre ++ flatL (L.take i) room))]) (fun _ => G) 0 (Nat.zero_le _) rfl ⟨⟨_, rfl, rfl⟩, ⟨_, rfl, rfl⟩, ⟨_, rfl, rfl⟩, ⟨_, rfl, rfl⟩, ⟨_, rfl, rfl⟩, ⟨_, rfl, rfl⟩, trivial⟩ (by simp only [List.take_zero, flatL, List.append_nil]; exact .hp .nil) ?_
 intro i hi
 refine Va J J ?_
 refine S_condp J (fun h5 => ?_) (fun h5 => ?_) <;> refine Va J J ?_
 ·have hil : i < L.length := by omega
  obtain ⟨ad, cs, rfl, hcs, hrep⟩ := Sr_at hv hil
  have hb := hbs i hil
  have he := hes i hil
  have htk := flat_take hil room
  have hp1 : (pre ++ flatL (L.take (i + 1)) room) <+: xs := ((List.prefix_append_right_inj pre).2 (flat_pre L (i + 1) room)).trans hpre
  rcases hs : L[i] with ⟨k, a, b, n, x, y⟩
  rw [hs] at hrep hb he htk
  rw [htk] at hp1
  obtain ⟨vx, vy, rfl, i1, i2, i3, i4, hx, hyy⟩ := Stm.rep_iff.1 hrep
  simp only [Stm.body, Stm.els] at hb he hx hyy
  have HP0 : (pre ++ flatL (L.take i) room ++ [(Stm.mk k a b n x y, room)]) <+: xs := List.IsPrefix.trans ⟨flatS (Stm.mk k a b n x y) room, by simp⟩ hp1
  have HP1 : ∀ {rr : Int}, (if k = 8 then a else room) = rr → (pre ++ flatL (L.take i) room ++ [(Stm.mk k a b n x y, room)] ++ flatL x rr) <+: xs := fun {rr} e => List.IsPrefix.trans ⟨flatL y rr, by subst e; simp [flatS]⟩ hp1
  have HP2 : ∀ {rr : Int}, (if k = 8 then a else room) = rr → (pre ++ flatL (L.take i) room ++ [(Stm.mk k a b n x y, room)] ++ flatL x rr ++ flatL y rr) <+: xs := fun {rr} e => List.IsPrefix.trans ⟨[], by subst e; simp [flatS]⟩ hp1
  have HPE : ∀ {rr : Int}, (if k = 8 then a else room) = rr → pre ++ flatL (L.take (i + 1)) room = (pre ++ flatL (L.take i) room ++ [(Stm.mk k a b n x y, room)] ++ flatL x rr ++ flatL y rr) := fun {rr} e => by subst e; rw [htk]; simp [flatS]
  obtain ⟨Ax', cx', rfl, _⟩ := id hx
  obtain ⟨Ay', cy', rfl, _⟩ := id hyy
  refine S_index Tk J J J J J J (by omega) (by omega) ?_;refine Va J J ?_;refine S_loadA Tk J J J J J (by simpa using gcells_le hle hcs) ?_;refine Va J J ?_;refine AZ ZT_ok J J J J fun b8 => ?_;refine Va J J ?_;refine S_load Tk J J J J J hy ?_;refine Va J J ?_
  refine S_yield 1 l rfl rfl ((hY _ (Stm.mk k a b n x y, room) _ HP0 ⟨_, hrep, rfl⟩).le hle) rfl rfl rfl rfl (fun _ => rfl) ?_ ?_ <;> refine Va J J ?_
  ·refine RF J J ?_
   refine Va J J ?_
   refine S_condp J (fun h8 => ?_) (fun h8 => ?_) <;> refine Va J J ?_
   ·refine S_load Tk J J J J J hw ?_
    refine Va J J ?_;refine S_callMV 1 (vs := [.slice Ax' x.length cx', .int .i64 a]) (cap := #[.pointer (some ⟨by_, 0, none⟩), .pointer (some ⟨bw, 0, none⟩)]) J Tryz.call101 (hb l by_ bw A Ax xs (pre ++ flatL (L.take i) room ++ [(Stm.mk k a b n x y, room)]) a _ G0 G hle hx hy hw hY (HP1 (if_pos h8))) J J J J (fun _ => J) ?_
    rintro v2 G2 A2 ⟨rfl, ⟨rfl, rfl⟩ | ⟨rfl, q, rfl⟩⟩ _ <;> refine Va J J ?_
    ·refine GF J J J ?_
     refine Va J J ?_;refine S_load Tk J J J J J hw ?_;refine Va J J ?_;refine S_callMV 1 (vs := [.slice Ay' y.length cy', .int .i64 a]) (cap := #[.pointer (some ⟨by_, 0, none⟩), .pointer (some ⟨bw, 0, none⟩)]) J Tryz.call101 (he l by_ bw A Ax xs (pre ++ flatL (L.take i) room ++ [(Stm.mk k a b n x y, room)] ++ flatL x a) a _ G0 _ hle hyy hy hw hY (HP2 (if_pos h8))) J J J J (fun _ => J) ?_
     rintro v3 G3 A3 ⟨rfl, ⟨rfl, rfl⟩ | ⟨rfl, q, rfl⟩⟩ _ <;> refine Va J J ?_
     ·refine RF J J ?_
      refine Va J J ?_;refine S_add J J J J (by omega) ?_;refine Va J J ?_;refine S_again (i + 1) (by omega) (by omega) J ⟨⟨_, J, by simp [denO]⟩, ⟨_, J, J⟩, ⟨_, J, J⟩, ⟨_, J, J⟩, ⟨_, J, J⟩, ⟨_, J, J⟩, trivial⟩ ?_
      rw [HPE (if_pos h8)]
      exact .drop (.hp .nil)
     ·refine RT J J ?_
      refine Va J J ?_;exact S_retm 1 (Res.t1 Tryz.results101 J J) J XR ⟨J, .inr ⟨J, _, J⟩⟩
    ·refine GT J J J ?_
     refine Va J J ?_;exact S_retm 1 (Res.t1 Tryz.results101 J J) J XR ⟨J, .inr ⟨J, _, J⟩⟩
   ·refine S_load Tk J J J J J hw ?_
    refine Va J J ?_;refine S_callMV 1 (vs := [.slice Ax' x.length cx', .int .i64 room]) (cap := #[.pointer (some ⟨by_, 0, none⟩), .pointer (some ⟨bw, 0, none⟩)]) J Tryz.call101 (hb l by_ bw A Ax xs (pre ++ flatL (L.take i) room ++ [(Stm.mk k a b n x y, room)]) room _ G0 G hle hx hy hw hY (HP1 (if_neg h8))) J J J J (fun _ => J) ?_
    rintro v2 G2 A2 ⟨rfl, ⟨rfl, rfl⟩ | ⟨rfl, q, rfl⟩⟩ _ <;> refine Va J J ?_
    ·refine GF J J J ?_
     refine Va J J ?_;refine S_load Tk J J J J J hw ?_;refine Va J J ?_;refine S_callMV 1 (vs := [.slice Ay' y.length cy', .int .i64 room]) (cap := #[.pointer (some ⟨by_, 0, none⟩), .pointer (some ⟨bw, 0, none⟩)]) J Tryz.call101 (he l by_ bw A Ax xs (pre ++ flatL (L.take i) room ++ [(Stm.mk k a b n x y, room)] ++ flatL x room) room _ G0 _ hle hyy hy hw hY (HP2 (if_neg h8))) J J J J (fun _ => J) ?_
     rintro v3 G3 A3 ⟨rfl, ⟨rfl, rfl⟩ | ⟨rfl, q, rfl⟩⟩ _ <;> refine Va J J ?_
     ·refine RF J J ?_
      refine Va J J ?_;refine S_add J J J J (by omega) ?_;refine Va J J ?_;refine S_again (i + 1) (by omega) (by omega) J ⟨⟨_, J, by simp [denO]⟩, ⟨_, J, J⟩, ⟨_, J, J⟩, ⟨_, J, J⟩, ⟨_, J, J⟩, ⟨_, J, J⟩, trivial⟩ ?_
      rw [HPE (if_neg h8)]
      exact .drop (.hp .nil)
     ·refine RT J J ?_
      refine Va J J ?_;exact S_retm 1 (Res.t1 Tryz.results101 J J) J XR ⟨J, .inr ⟨J, _, J⟩⟩
    ·refine GT J J J ?_
     refine Va J J ?_;exact S_retm 1 (Res.t1 Tryz.results101 J J) J XR ⟨J, .inr ⟨J, _, J⟩⟩
  ·refine RT J J ?_
   refine Va J J ?_;exact S_retm 1 (Res.t1 Tryz.results101 J J) J XR ⟨J, .inr ⟨J, _, J⟩⟩
 ·have hin : i = L.length := by omega
  subst hin
  rw [List.take_length]
  exact S_retm 1 (Res.t1 Tryz.results101 J J) J XR ⟨J, .inl ⟨J, J⟩⟩
mutual
theorem c_walkS : ∀ (s : Stm), WalkC s.body ∧ WalkC s.els
 | .mk k a b n x y => ⟨c_walk x, c_walk y⟩
theorem c_walkA : ∀ (L : List Stm), ∀ k (hk : k < L.length), WalkC L[k].body ∧ WalkC L[k].els
 | [], k, hk => absurd hk (by simp)
 | s :: L, 0, _ => c_walkS s
 | s :: L, k + 1, hk => c_walkA L k (by simpa using hk)
theorem c_walk : ∀ (L : List Stm), WalkC L
 | L => c_walk_of L (fun k hk => (c_walkA L k hk).1) (fun k hk => (c_walkA L k hk).2)
end
end
section
attribute [local irreducible] X Pure Mod
theorem c_all1 (L : List Stm) (room : Int) (v : Value) (b1 b2 : Nat) (G : PH) (hv : Sts G L v) (h1 : gcell G ⟨b1, 0, none⟩ = some v) (h2 : gcell G ⟨b2, 0, none⟩ = some (.int .i64 room)) :
  IterR Tryz.prog 100 #[.pointer (some ⟨b1, 0, none⟩), .pointer (some ⟨b2, 0, none⟩)] G (encP G) (flatL L room) := by
 refine IterR_of fun l A Ax hY => ?_;obtain ⟨Al, c, rfl, _⟩ := id hv
 refine Mod.intro Tryz.func100 Tryz.ntmps100 J J fun w S => ?_;refine Va J J ?_;refine S_boxB J J J J J fun b3 hb3 => ?_;refine Va J J ?_;refine S_allocB ZT_ok J J J J fun b4 hb4 => ?_;refine Va J J ?_;refine S_valV J J J (V_makeFunc J) ?_;refine Va J J ?_;refine S_keepB 3 J J J J hb3 fun hext1 => ?_;refine S_keepB 4 J J J J hb4 fun hext2 => ?_
 have hle := hext1.le.trans hext2.le
 refine S_load Tk J J J J J (gcell_le hle h1) ?_;refine Va J J ?_;refine S_load Tk J J J J J (gcell_le hle h2) ?_;refine Va J J ?_;refine S_callMV 1 (vs := [.slice Al L.length c, .int .i64 room]) (cap := #[.pointer (some ⟨b3, 0, none⟩), .pointer (some ⟨b4, 0, none⟩)]) J Tryz.call101 (c_walk L l b3 b4 A Ax (flatL L room) [] room _ G _ hle hv (gcell_le hext2.le (by simp [gcell, PH.add_self])) (by simp [gcell, PH.add_self, walkF]) hY (List.prefix_refl _)) J J J J (fun _ => J) ?_
 rintro v2 G2 A2 ⟨rfl, h⟩ hext3
 refine Va J J ?_;refine S_endm 1 (Res.t0 Tryz.results100) J ((hext1.trans hext2).trans hext3) ?_
 rcases h with ⟨_, rfl⟩ | ⟨_, q, rfl⟩
 ·exact .inl (by simp)
 ·exact .inr ⟨q, J⟩
theorem c_all (L : List Stm) (room : Int) (v : Value) (G : PH) (hv : Sts G L v) : Pure Tryz.prog 90 [v, .int .i64 room] G fun v' G' => ∃ b2 b3, v' = .func (.func 100) #[] #[.pointer (some ⟨b2, 0, none⟩), .pointer (some ⟨b3, 0, none⟩)] ∧ gcell G' ⟨b2, 0, none⟩ = some v ∧ gcell G' ⟨b3, 0, none⟩ = some (.int .i64 room) := by
 obtain ⟨Al, c, rfl, _⟩ := id hv
 refine Pure.intro Tryz.func90 Tryz.ntmps90 J J fun w => ?_; refine Va J J ?_;refine S_box J J J J J fun b2 => ?_;refine Va J J ?_;refine S_box J J J J J fun b3 => ?_;refine Va J J ?_;refine S_valV J J J (V_makeFunc J) ?_;refine Va J J ?_;refine S_freezeB 2 J J J J (fun _ h => h) fun hext1 => ?_;refine S_freezeB 3 J J J J (fun _ h => h) fun hext2 => ?_;refine S_retp (Res.t1 Tryz.results90 J J) (hext1.trans hext2) ⟨b2, b3, J, gcell_le hext2.le (by simp [gcell, PH.add_self]), by simp [gcell, PH.add_self]⟩
theorem flat_len : ∀ (n : Nat) (L : List Stm) (room : Int), dpL L ≤ n → ((flatL L room).length : Int) = many L (n : Nat)
 | n, [], room, _ => by simp [flatL, many]
 | 0, s :: L, room, h => by
  have := dpS_eq s
  simp only [dpL] at h
  omega
 | n + 1, s :: L, room, h => by
  simp only [dpL] at h
  have a3 := flat_len (n + 1) L room (by omega)
  obtain ⟨k, a, b, m, x, y⟩ := s
  simp only [dpS] at h
  have a1 := flat_len n x (if k = 8 then a else room) (by omega)
  have a2 := flat_len n y (if k = 8 then a else room) (by omega)
  simp only [flatL, flatS, List.length_cons, List.length_append, many, manyS, if_pos (show (0 : Int) < ((n + 1 : Nat) : Int) by omega), show (((n + 1 : Nat) : Int) - 1) = (n : Nat) by omega]
  omega
theorem c_iStmtsOk (L : List Stm) (v : Value) (G : PH) (hv : Sts G L v) (hs : Sh L) : Pure Tryz.prog 78 [v] G fun v G' => v = .bool (stmtsOk L) ∧ G' = G := by
 obtain ⟨Al, c, rfl, _⟩ := id hv
 refine Pure.introM Tryz.func78 Tryz.ntmps78 J J fun w hw => ?_;refine Va J J ?_;refine S_call Tryz.call89 (IL_all L 3 (-1) _ _ (by unfold I64; omega) (by omega) (by unfold I64; omega) hv) rfl rfl rfl ?_;rintro v1 G1 ⟨rfl, rfl⟩ _
 refine Va J J ?_
 cases hl : listOk L 3 (-1)
 ·refine RT J J ?_
  refine Va J J ?_;exact S_retK hw Tryz.results78 J J (by simp [stmtsOk, hl])
 refine RF J J ?_;refine Va J J ?_;refine AZ ZT_ok J J J J fun b3 => ?_;refine Va J J ?_;refine S_call Tryz.call90 (c_all L (-1) _ _ hv) J J J ?_;rintro v2 G2 ⟨b5, b6, rfl, h5, h6⟩ hext2
 refine Va J J ?_
 have hd : dpL L ≤ 3 := dpL_ok 3 L 3 (-1) hl (by omega)
 have hf := flat_len 3 L (-1) hd
 have hm := many_bnd 3 L hs
 have hB := MB3
 rw [show ((3 : Nat) : Int) = 3 from rfl] at hf hm
 refine S_range (fun pre => [.blk 3 3 (vL [.int .i64 (pre.length : Nat)])]) (fun pre => [.hp 3 deadHP]) rfl rfl rfl Tryz.call100 (c_all1 L (-1) _ b5 b6 G2 (Sts_le hext2.le hv) h5 h6) (fun x vs h => by obtain ⟨cs, _, rfl⟩ := h; rfl) rfl (.blk rfl rfl .nil) ?_ ?_ ?_
 ·intro l pre x vs W S I hpre henc hW hI
  obtain ⟨cs, _, rfl⟩ := henc
  have hlen : pre.length + 1 ≤ (flatL L (-1)).length := by have := hpre.length_le; simpa using this
  refine Va J J ?_;refine hI _ _ _ fun W2 S2 hW2 => ?_;refine Va J J ?_;refine S_add J J J J (by omega) ?_;refine Va J J ?_;refine S_roundEnd ?_
  simp only [List.length_append, List.length_singleton]
  exact .blk J J .nil
 ·intro D hD hDs
  refine Va J J ?_;refine S_retK hw Tryz.results78 J J ?_
  have e : w64 ((flatL L (-1)).length : Int) = (flatL L (-1)).length := w64_eq ⟨by omega, by omega⟩
  simp [stmtsOk, hl, ← hf, e]
 ·intro D pre hD hDs
  exact S_dead 3 J
theorem c_iProgOkC (L : List Stm) (v : Value) (G : PH) (hv : Sts G L v) (hs : Sh L) : Pure Tryz.prog 77 [v] G fun v G' => v = .bool (!stmtsOk L) ∧ G' = G := by
 obtain ⟨Al, c, rfl, _⟩ := id hv
 refine Pure.intro Tryz.func77 Tryz.ntmps77 J J fun w => ?_; refine Va J J ?_;refine S_call Tryz.call78 (c_iStmtsOk L _ _ hv hs) J J J ?_;rintro v1 G1 ⟨rfl, rfl⟩ _
 refine Va J J ?_;exact S_retp (Res.t1 Tryz.results77 J J) XR ⟨J, J⟩
theorem c_iProgOk (p : List (List Stm)) (v : Value) (G : PH) (hp : PrgS G p v) : Pure Tryz.prog 50 [v] G fun v G' => v = .bool (progOk p) ∧ G' = G := by
 obtain ⟨hpp, hsh, hpl⟩ := id hp
 obtain ⟨A, c, rfl, hl1, _⟩ := id hpp
 refine Pure.intro Tryz.func50 Tryz.ntmps50 J J fun w => ?_; refine Va J J ?_
 by_cases h1 : 1 ≤ p.length ∧ p.length ≤ 3
 ·refine GT J J (by simp; omega) ?_
  refine Va J J ?_;refine S_call Tryz.call76 (c_ContainsSts p (fun l => !stmtsOk l) 77 #[] _ _ hpp Tryz.call77 fun k hk v hv => c_iProgOkC _ _ _ hv (hsh _ (List.getElem_mem hk))) J J J ?_;rintro v1 G1 ⟨rfl, rfl⟩ _
  refine Va J J ?_;refine S_retp (Res.t1 Tryz.results50 J J) XR ⟨?_, J⟩
  rw [notany_all]
  simp [progOk, h1]
 ·refine GF J J (by simp; omega) ?_
  refine Va J J ?_;refine S_retp (Res.t1 Tryz.results50 J J) XR ⟨?_, J⟩
  have : progOk p = false := by
   cases hq : progOk p with
   | false => rfl
   | true => exact absurd (prog_parts hq).2 h1
  rw [this]
end
section
attribute [local irreducible] X Pure Mod
def explP (p : List (List Stm)) : Option (List Wld) := if progOk p = true then allW p else none
theorem explP_f {p : List (List Stm)} (h : progOk p = false) : explP p = none := by rw [explP, if_neg (by simp [h])]
theorem drop_rangeW {i n : Nat} (h : i < n) : (List.range n).drop i = i :: (List.range n).drop (i + 1) := by
 rw [List.drop_eq_getElem_cons (by simpa using h)]
 simp
theorem roundW_skip {W : Wld} {n i : Nat} {Ws : List Wld} (h : i < n) (hc : ¬ codeOf W (i : Nat) = 0) : roundW W ((List.range n).drop i) Ws = roundW W ((List.range n).drop (i + 1)) Ws := by
 rw [drop_rangeW h, roundW, if_neg hc]
theorem roundW_go {W : Wld} {n i : Nat} {Ws : List Wld} (h : i < n) (hc : codeOf W (i : Nat) = 0) (hl : ¬ 120 < (addW Ws (W.step i)).length) : roundW W ((List.range n).drop i) Ws = roundW W ((List.range n).drop (i + 1)) (addW Ws (W.step i)) := by
 rw [drop_rangeW h, roundW, if_pos hc, if_neg hl]
theorem roundW_none {W : Wld} {n i : Nat} {Ws : List Wld} (h : i < n) (hc : codeOf W (i : Nat) = 0) (hl : 120 < (addW Ws (W.step i)).length) : roundW W ((List.range n).drop i) Ws = none := by
 rw [drop_rangeW h, roundW, if_pos hc, if_pos hl]
structure XS where
 k : Nat
 Ws : List Wld
 A : Option Addr
 c : Nat
 xs : List Value
 G : PH
def XOK (p : List (List Stm)) (w0 : World) (G : PH) (y : XS) : Prop :=
 y.Ws.length ≤ 120 ∧ PH.ext w0.heap.size G y.G ∧ Cs 5 (wRep y.G) y.Ws y.xs ∧ Wsok p.length y.Ws
theorem add_of {W : Wld} {Ws : List Wld} {b mb : Nat} {A : Option Addr} {c : Nat} {xs cs : List Value} {A' : HP} {G : PH} (hcs : Cs 5 (wRep G) Ws xs) (hW : wRep G W cs)
  (h1 : hasW Ws W = true → A' = expHP b mb A Ws.length c xs (Ws.map wText)) (h2 : hasW Ws W = false → ∃ A2 c2, A' = expHP b mb A2 (Ws.length + 1) c2 (xs ++ cs) ((Ws ++ [W]).map wText)) :
  ∃ A2 c2 xs2, A' = expHP b mb A2 (addW Ws W).length c2 xs2 ((addW Ws W).map wText) ∧ Cs 5 (wRep G) (addW Ws W) xs2 := by
 unfold addW
 by_cases h : hasW Ws W = true
 ·rw [if_pos h]; exact ⟨A, c, xs, h1 h, hcs⟩
 ·rw [if_neg h]
  obtain ⟨A2, c2, e⟩ := h2 (by simpa using h)
  refine ⟨A2, c2, xs ++ cs, by rw [e, List.length_append, List.length_singleton], Cs_append hcs hW ?_⟩
  obtain ⟨_, _, _, _, _, rfl⟩ := wRep_five hW
  rfl
theorem c_explore (p : List (List Stm)) (pv : Value) (G : PH) (hp : PrgS G p pv) (hTab : TabG G) : Pure Tryz.prog 23 [pv] G fun v' G' => ∃ pt, v' = .tuple #[pt, .bool (explP p).isSome] ∧ ∀ Ws, explP p = some Ws → ∃ b mb lv, pt = .pointer (some ⟨b, 0, none⟩) ∧ gcells G' ⟨b, 0, none⟩ [.map (some mb), lv] ∧ WsG G' Ws lv := by
 obtain ⟨Ap, cp, rfl, _⟩ := id hp.1
 refine Pure.intro Tryz.func23 Tryz.ntmps23 J J fun w0 => ?_;refine Va J J ?_;refine S_call Tryz.call50 (c_iProgOk p _ _ hp) J J J ?_;rintro v1 G0 ⟨rfl, rfl⟩ _
 refine Va J J ?_
 cases hpo : progOk p
 ·refine RT J J ?_
  refine Va J J ?_;exact S_retp (Res.t2 Tryz.results23 J J J J) XR ⟨_, by rw [explP_f hpo]; rfl, fun Ws h => by rw [explP_f hpo] at h; cases h⟩
 refine RF J J ?_
 have hexp : explP p = allW p := by rw [explP, if_pos hpo]
 rw [hexp]
 have hok0 := open_ok hpo hp.2.1 (prg_iL hp.1)
 have hWo := (hok0.ok 0 (open0 p) rfl).1
 have hI0 := hWo.inv
 have hp13 := (prog_parts hpo).2
 refine Va J J ?_;refine S_makeMap 5 J J fun mb => ?_;refine Va J J ?_;refine S_box J J J J J fun b => ?_;refine Va J J ?_;refine S_callN 20 Tryz.call52 (c_opened p _ _ hp.1 hp13) J J J ?_;rintro v1 G1 A1 ⟨cs, ts, rfl, rfl, htd⟩ hext1
 refine S_newHP 20 J J ?_;refine S_csV 20 J ?_;rintro bp bc br bs kp asd ksd kc kr ks rfl
 refine S_frzV 20 J J (fun _ h => h) htd hI0.n3 ⟨by simp [open0], by simp [open0], by simp [open0]⟩ fun G2 hext2 hW => ?_;refine S_nilO 6 (base := 0) (e := 56) (size := 5) ?_;refine S_reE 4 (.val (.pointer (some ⟨b, 0, none⟩))) J J ?_;refine S_Bhp 13 2 J J J J ?_;refine S_pair 5 6 3 J J J J ?_;refine S_pair 2 3 1 J J J J ?_;refine Va J J ?_;refine S_callM 1 Tryz.call51 (c_add [] (open0 p) _ b mb none 0 [] G2 (TabG_le (hext1.trans hext2).le hTab) (hWo.tok (by omega)) hW (by simp)) J J J J (fun _ => J) ?_
 rintro v G3 A' ⟨rfl, q1, q2⟩ hext3
 obtain ⟨A2, c2, xs2, rfl, hcs2⟩ := add_of (Ws := []) rfl (wRep_le hext3.le hW) q1 q2
 rw [show addW [] (open0 p) = [open0 p] from rfl] at hcs2 ⊢
 refine Va J J ?_;refine S_loop (α := XS) (fun y => XOK p w0 G0 y ∧ y.k ≤ y.Ws.length ∧ allW p = allF (122 - y.k) y.k y.Ws) (fun y => 121 - y.k) []
  (fun y => [(5, .val (.int .i64 (y.k : Nat))), (4, .val (.pointer (some ⟨b, 0, none⟩))), (0, .val (.slice Ap p.length cp))])
  (fun y => [.hp 1 (expHP b mb y.A y.Ws.length y.c y.xs (y.Ws.map wText))]) (fun y => y.G)
  ⟨0, [open0 p], A2, c2, xs2, G3⟩ ⟨⟨by simp, (hext1.trans hext2).trans hext3, hcs2, hok0⟩, Nat.zero_le _, rfl⟩ rfl ?_ ?_ ?_
 ·exact ⟨⟨_, J, J⟩, ⟨_, J, J⟩, ⟨_, J, J⟩, trivial⟩
 ·exact .hp .nil
 rintro ⟨k, Ws, A4, c4, xs, G4⟩ ⟨⟨hl120, hext, hcs, hok⟩, hk, hall⟩
 simp only at hl120 hext hcs hok hk hall ⊢
 refine S_unpair 1 2 3 J J ?_;refine S_hpB 2 4 J J J ?_;refine S_unpair 3 5 6 J J ?_;refine S_reE 4 (.ptr 4 0) J J ?_;refine Va J J ?_
 refine S_condp J (fun h5 => ?_) (fun h5 => ?_) <;> refine Va J J ?_
 ·have hkl : k < Ws.length := by omega
  have hWk : Ws[k]? = some Ws[k] := List.getElem?_eq_getElem hkl
  obtain ⟨hWok, hWn⟩ := hok.ok k _ hWk
  generalize Ws[k] = W at hWk hWok hWn
  have hround : allW p = (match roundW W (List.range p.length) Ws with
   | none => none
   | some Ws' => allF (121 - k) (k + 1) Ws') := by
   rw [hall, show 122 - k = (121 - k) + 1 by omega, allF_step hWk, hWn]; try rfl
  have hn3 := hWok.inv.n3
  refine S_reE 4 (.val (.pointer (some ⟨b, 0, none⟩))) J J ?_;refine S_Bhp 4 2 J J J J ?_;refine S_pair 5 6 3 J J J J ?_;refine S_pair 2 3 1 J J J J ?_;refine S_loop (α := XS) (fun y => XOK p w0 G0 y ∧ PH.ext w0.heap.size G4 y.G ∧ y.k ≤ p.length ∧ Ws <+: y.Ws ∧ roundW W (List.range p.length) Ws = roundW W ((List.range p.length).drop y.k) y.Ws) (fun y => p.length - y.k) []
   (fun y => [(29, .val (.int .i64 (y.k : Nat))), (28, .val (.int .i64 (p.length : Nat))), (5, .val (.int .i64 (k : Nat))), (4, .val (.pointer (some ⟨b, 0, none⟩))), (0, .val (.slice Ap p.length cp))])
   (fun y => [.hp 1 (expHP b mb y.A y.Ws.length y.c y.xs (y.Ws.map wText))]) (fun y => y.G)
   ⟨0, Ws, A4, c4, xs, G4⟩ ⟨⟨hl120, hext, hcs, hok⟩, PH.ext.refl _ _, Nat.zero_le _, List.prefix_refl _, rfl⟩ rfl ?_ ?_ ?_
  ·exact ⟨⟨_, J, J⟩, ⟨_, J, J⟩, ⟨_, J, J⟩, ⟨_, J, J⟩, ⟨_, J, J⟩, trivial⟩
  ·exact .hp .nil
  clear hcs
  rintro ⟨i, Ws2, A4, c4, xs, G6⟩ ⟨⟨hl2, hext6, hcs, hok2⟩, hext64, hi, hpre, hrW⟩
  simp only at hl2 hext6 hcs hok2 hext64 hi hpre hrW ⊢
  have hWk2 := prefix_at hpre hWk
  have hkl2 : k < Ws2.length := (List.getElem?_eq_some_iff.1 hWk2).1
  refine S_unpair 1 2 3 J J ?_;refine S_hpB 2 4 J J J ?_;refine S_unpair 3 5 6 J J ?_;refine S_reE 4 (.ptr 4 0) J J ?_;refine Va J J ?_
  refine S_condp J (fun h7 => ?_) (fun h7 => ?_) <;> refine Va J J ?_
  ·have hil : i < p.length := by omega
   obtain ⟨cs5, hcs5, hcl5, hrep5, _⟩ := Cs_at hcs hkl2
   have hW5 : wRep G6 W cs5 := by
    have e := List.getElem?_eq_getElem hkl2
    rw [hWk2] at e
    rw [Option.some.inj e]; exact hrep5
   obtain ⟨f1, f2, f3, f4, f5, rfl⟩ := wRep_five hW5
   have hxl := Cs_length hcs
   refine S_capO 6 J fun hnc4 _ _ => ?_;refine S_someO 6 J (by omega) fun g4 o4 eA => ?_
   subst eA
   refine Va J J ?_;refine S_index Tk J J J J J J (by omega) (by omega) ?_;refine Va J J ?_;refine S_lendO 6 J J (fun _ hn0 _ _ => ?_) (fun g5 o5 cur hA5 _ hnc5 hcm5 hlx hfit ht5 hg5 hb5 hcells => ?_)
   ·omega
   cases hA5
   have hgc : gcells (G6.add g4 (.cells cur 56 (0, 0))) ((⟨g4, o4, none⟩ : Addr).add (k * 5)) [f1, f2, f3, f4, f5] := by
    have h1 := (gcells_append (cs := xs.take (k * 5)) (ys := xs.drop (k * 5)) (by rw [List.take_append_drop]; exact hcells)).2
    rw [List.length_take, Nat.min_eq_left (by omega)] at h1
    have h2 := (gcells_append (cs := (xs.drop (k * 5)).take 5) (ys := (xs.drop (k * 5)).drop 5) (by rw [List.take_append_drop]; exact h1)).1
    rw [hcs5] at h2
    exact h2
   refine S_call Tryz.call53 (c_codeF W i _ [f1, f2, f3, f4, f5] _ hgc (wRep_le (le_add hg5) hW5) hn3 (by omega) hWok.inv.head ⟨hWok.inv.m0, hWok.inv.m1⟩) J J J ?_;rintro v12 G10 ⟨rfl, rfl⟩ _
   refine S_backO 6 (base := 0) (by simp [PH.add]; rfl) hb5 (Nat.zero_le _) hnc5 hcm5 hlx hfit ht5 ?_
   rw [PH.del_add hg5]
   refine Va J J ?_
   have hroww : ∀ G', PH.le G6 G' → Cs 5 (wRep G') Ws2 xs := fun G' hl => Cs_mono (fun s _ cs h => wRep_le hl h) hcs
   by_cases hc : codeOf W (i : Nat) = 0
   rotate_left
   ·refine RT J (by simpa using hc) ?_
    refine Va J J ?_;refine S_reE 4 (.val (.pointer (some ⟨b, 0, none⟩))) J J ?_;refine S_pick [4, 5, 6] J ?_;refine S_Bhp 4 2 J J J J ?_;refine S_pair 5 6 3 J J J J ?_;refine S_pair 2 3 1 J J J J ?_;refine S_add J J J J (by omega) ?_;refine Va J J ?_;exact S_again ⟨i + 1, Ws2, some ⟨g4, o4, none⟩, c4, xs, G6⟩ ⟨⟨hl2, hext6, hcs, hok2⟩, hext64, by simp only; omega, hpre, by simp only; rw [hrW, roundW_skip hil hc]⟩ (by simp only; omega) rfl ⟨⟨_, rfl, by simp [denO]⟩, ⟨_, rfl, rfl⟩, ⟨_, rfl, rfl⟩, ⟨_, rfl, rfl⟩, ⟨_, rfl, rfl⟩, trivial⟩ (.hp .nil)
   refine RF J (by simpa using hc) ?_;refine Va J J ?_
   have hst := hWok.step (by omega) hc
   have hrd := hWok.inv.rdy (by omega)
   have hstI := hst.inv
   refine S_index Tk J J J J J J (by omega) (by omega) ?_;refine Va J J ?_;refine S_valV J J J (V_loadRA Tk 6 J J (add_lit' ..) J hcs5 hcl5) ?_;refine Va J J ?_;refine S_callN 20 Tryz.call31 (c_wcopyO W _ _ hW5 ⟨hWok.inv.n1, hn3⟩ ⟨hrd.sd, hrd.q0, hrd.q1⟩) J J J ?_;rintro v4 G7 A7 ⟨cs4, ts4, rfl, rfl, htd4⟩ hext7
   refine S_newHP 20 J J ?_;refine S_csV 20 J ?_;rintro bp4 bc4 br4 bs4 kp4 asd4 ksd4 kc4 kr4 ks4 rfl
   refine Va J J ?_;refine AZ ZT_ok J J J J fun b7 => ?_;refine Va J J ?_;refine S_V2P 7 20 21 J J J J J J ?_;refine S_reE 7 (.val (.pointer (some ⟨b7, 0, none⟩))) J J ?_;refine S_callM 21 Tryz.call54 (c_step W i b7 ts4 _ hrd htd4 (by omega) (hWok.inv.go hc)) J J J J (fun _ => J) ?_;rintro v8 G8 A8 ⟨ts8, rfl, htd8⟩ hext8
   refine S_P2V 21 60 20 J J J fun cs8 => ?_;refine S_reE 7 (.ptr 60 0) J J ?_;refine S_csV 20 J ?_;rintro bp8 bc8 br8 bs8 kp8 asd8 ksd8 kc8 kr8 ks8 rfl
   have hrd2 := hst.inv.rdy (by omega)
   refine S_frzV 20 J J (fun _ h => h) htd8 hstI.n3 ⟨by have := hrd2.sd; omega, by have := hrd2.q0; omega, by have := hrd2.q1; omega⟩ fun G9 hext9 hWs => ?_
   have hext79 := (hext7.trans hext8).trans hext9
   refine S_Bhp 4 2 J J J J ?_;refine S_pair 5 6 3 J J J J ?_;refine S_pair 2 3 1 J J J J ?_;refine Va J J ?_;refine S_callM 1 Tryz.call51 (c_add Ws2 (W.step i) _ b mb _ c4 xs G9 (TabG_le (hext6.trans hext79).le hTab) (hst.tok (by omega)) hWs (by omega)) J J J J (fun _ => J) ?_;rintro v G11 A' ⟨rfl, q1, q2⟩ hext11
   obtain ⟨A12, c12, xs12, rfl, hcs12⟩ := add_of (hroww _ (hext79.trans hext11).le) (WG_le hext11.le hWs) q1 q2
   have hextz := hext79.trans hext11
   refine S_unpair 1 2 3 J J ?_;refine S_hpB 2 44 J J J ?_;refine S_unpair 3 5 6 J J ?_;refine S_reE 4 (.ptr 44 0) J J ?_;refine Va J J ?_
   refine S_condp J (fun h12 => ?_) (fun h12 => ?_) <;> refine Va J J ?_
   ·have hnone : allW p = none := by rw [hround, hrW, roundW_none hil hc (by omega)]
    exact S_retp (Res.t2 Tryz.results23 J J J J) (hext6.trans hextz) ⟨_, by rw [hnone]; rfl, fun Ws h => by rw [hnone] at h; cases h⟩
   ·refine S_reE 4 (.val (.pointer (some ⟨b, 0, none⟩))) J J ?_
    refine S_Bhp 44 2 J J J J ?_;refine S_pair 5 6 3 J J J J ?_;refine S_pair 2 3 1 J J J J ?_;refine S_add J J J J (by omega) ?_;refine Va J J ?_;refine S_pick [1] J ?_;exact S_again ⟨i + 1, addW Ws2 (W.step i), A12, c12, xs12, G11⟩ ⟨⟨by simp only; omega, hext6.trans hextz, hcs12, hok2.add hst (by omega) (by rw [Wld.step_len]; exact hWn) (by omega)⟩, hext64.trans hextz, by simp only; omega, hpre.trans (addW_pre _ _), by simp only; rw [hrW, roundW_go hil hc (by omega)]⟩ (by simp only; omega) rfl ⟨⟨_, rfl, by simp [denO]⟩, ⟨_, rfl, rfl⟩, ⟨_, rfl, rfl⟩, ⟨_, rfl, rfl⟩, ⟨_, rfl, rfl⟩, trivial⟩ (.hp .nil)
  ·have e0 : i = p.length := by omega
   subst e0
   rw [List.drop_of_length_le (by simp)] at hrW
   refine S_reE 4 (.val (.pointer (some ⟨b, 0, none⟩))) J J ?_;refine S_Bhp 4 2 J J J J ?_;refine S_pair 5 6 3 J J J J ?_;refine S_pair 2 3 1 J J J J ?_;refine S_add J J J J (by omega) ?_;refine Va J J ?_;exact S_again ⟨k + 1, Ws2, A4, c4, xs, G6⟩ ⟨⟨hl2, hext6, hcs, hok2⟩, hkl2, by simp only; rw [hround, hrW, show 122 - (k + 1) = 121 - k by omega]; rfl⟩ (by simp only; omega) rfl ⟨⟨_, rfl, by simp [denO]⟩, ⟨_, rfl, rfl⟩, ⟨_, rfl, rfl⟩, trivial⟩ (.hp .nil)
 ·have e0 : k = Ws.length := by omega
  have hsome : allW p = some Ws := by rw [hall, show 122 - k = (121 - k) + 1 by omega, allF_end (by rw [e0]; simp)]
  refine S_reE 4 (.val (.pointer (some ⟨b, 0, none⟩))) J J ?_;refine S_rebase 6 (fun _ h => h) J J ?_;refine S_freezeR 6 J J (Nat.le_refl _) fun Gf hextf hncf hcmf hclf => ?_;refine S_freezeB 4 J J J J (fun _ h => h) fun hextb => ?_;refine S_retp (Res.t2 Tryz.results23 J J J J) ((hext.trans hextf).trans hextb) ⟨_, by rw [hsome]; rfl, fun Ws' h => ?_⟩
  rw [hsome] at h
  cases h
  refine ⟨b, mb, _, J, gcells_add (pre := []), WsG_le hextb.le ?_⟩
  exact frz (Cs_mono (fun s _ cs h => wRep_le hextf.le h) hcs) J (by omega) hncf hcmf hclf
end
section
attribute [local irreducible] X Pure Mod
theorem c_final (W : Wld) (ad0 : Addr) (vs0 : List Value) (G : PH) (hg : gcells G ad0 vs0) (hW : WG G W (.agg vs0.toArray)) (hC : Cod W) : Pure Tryz.prog 57 [.pointer (some ad0)] G fun v' G' => v' = .bool (finalW W) ∧ G' = G := by
 have hcode : ∀ i, i < W.procs.length → Pure Tryz.prog 53 [.pointer (some ad0), .int .i64 (i : Nat)] G fun v' G' => v' = .int .i64 (codeOf W (i : Nat)) ∧ G' = G := fun i hi => c_codeF W i ad0 vs0 G hg hW hC.n3 hi hC.hd hC.m
 have hn3 := hC.n3
 obtain ⟨vp, vc, vr, vs, vd, e0, hpr, _⟩ := hW
 obtain rfl : vs0 = [vp, vc, vr, vs, vd] := by simpa using congrArg (fun v => match v with | .agg x => x.toList | _ => []) e0
 clear e0
 obtain ⟨Ap, cp, rfl, _⟩ := id hpr
 obtain ⟨w1, w2, w3, w4, w5, _⟩ := hg
 refine Pure.intro Tryz.func57 Tryz.ntmps57 J J fun w => ?_; refine Va J J ?_;refine S_load Tk J J J J J (by simpa [add_zero', add_add'] using w1) ?_;refine Va J J ?_;refine S_loop (α := Nat) (fun i => i ≤ W.procs.length ∧ ∀ j, j < i → ¬ codeOf W (j : Nat) = 0) (fun i => W.procs.length - i) []
  (fun i => [(9, .val (.int .i64 (i : Nat))), (8, .val (.int .i64 (W.procs.length : Nat))), (0, .val (.pointer (some ad0)))]) (fun _ => []) (fun _ => G) 0 ⟨Nat.zero_le _, fun j h => by omega⟩ rfl ⟨⟨_, rfl, rfl⟩, ⟨_, rfl, rfl⟩, ⟨_, rfl, rfl⟩, trivial⟩ .nil ?_
 rintro i ⟨hi, hn⟩
 refine Va J J ?_
 refine S_condp J (fun h5 => ?_) (fun h5 => ?_) <;> refine Va J J ?_
 ·have hil : i < W.procs.length := by omega
  refine S_call Tryz.call53 (hcode i hil) J J J ?_;rintro v G2 ⟨rfl, rfl⟩ _
  refine Va J J ?_
  refine S_condp J (fun h6 => ?_) (fun h6 => ?_) <;> refine Va J J ?_
  ·refine S_retp (Res.t1 Tryz.results57 J J) XR ⟨?_, J⟩
   have : finalW W = false := by
    unfold finalW
    rw [List.all_eq_false]
    exact ⟨i, List.mem_range.2 hil, by simp [h6]⟩
   rw [this]
  ·refine S_add J J J J (by omega) ?_
   refine Va J J ?_;refine S_again (i + 1) ⟨hil, fun j hj => ?_⟩ (by omega) J ⟨⟨_, J, by simp [denO]⟩, ⟨_, J, J⟩, ⟨_, J, J⟩, trivial⟩ .nil
   rcases Nat.lt_or_ge j i with h | h
   ·exact hn j h
   ·obtain rfl : j = i := by omega
    exact h6
 ·have e0 : i = W.procs.length := by omega
  subst e0
  refine S_retp (Res.t1 Tryz.results57 J J) XR ⟨?_, J⟩
  have : finalW W = true := by
   unfold finalW
   rw [List.all_eq_true]
   intro j hj
   simpa using hn j (List.mem_range.1 hj)
  rw [this]
theorem wRep_sl {G : PH} {W : Wld} {cs : List Value} (h : wRep G W cs) : ∃ Ap cp Ac cc Ar cr As cs' Ad cd, cs = [.slice Ap W.procs.length cp, .slice Ac 3 cc, .slice Ar 2 cr, .slice As 2 cs', .slice Ad W.said.length cd] := by
 obtain ⟨vp, vc, vr, vs, vd, e, hpr, hce, hro, hsg, hsd⟩ := h
 have e2 : cs = [vp, vc, vr, vs, vd] := by simpa using congrArg (fun v => match v with | .agg x => x.toList | _ => []) e
 subst e2
 obtain ⟨Ap, cp, rfl, _⟩ := hpr
 obtain ⟨Ac, cc, rfl, _⟩ := hce
 obtain ⟨Ar, cr, rfl, _⟩ := hro
 obtain ⟨As, cs_, rfl, _⟩ := hsg
 obtain ⟨Ad, cd, rfl, _⟩ := hsd
 exact ⟨Ap, cp, Ac, cc, Ar, cr, As, cs_, Ad, cd, J⟩
theorem explP_ok {p : List (List Stm)} {Ws : List Wld} {G : PH} {pv : Value} (hp : PrgS G p pv) (h : explP p = some Ws) : Wsok p.length Ws := by
 unfold explP at h
 split at h
 ·rename_i hpo
  exact allW_ok hpo hp.2.1 (prg_iL hp.1) h
 ·cases h
theorem endsP_of (p : List (List Stm)) : endsP p = (explP p).map endsW := by
 unfold endsP explP
 split <;> rfl
def encW (G : PH) (W : Wld) (vs : List Value) : Prop := ∃ cs, wRep G W cs ∧ vs = [Value.agg cs.toArray]
theorem c_ends1 (p : List (List Stm)) (Ws : List Wld) (b b1 mb : Nat) (lv : Value) (G : PH) (hok : Wsok p.length Ws) (h1 : gcell G ⟨b1, 0, none⟩ = some (.pointer (some ⟨b, 0, none⟩))) (hg : gcells G ⟨b, 0, none⟩ [.map (some mb), lv]) (hWs : WsG G Ws lv) :
  IterR Tryz.prog 56 #[.pointer (some ⟨b1, 0, none⟩)] G (encW G) (endsW Ws) := by
 refine IterR_of fun l A Ax hY => ?_
 have hle := hok.le
 obtain ⟨Al, cl, rfl, _⟩ := id hWs
 obtain ⟨w1, w2, _⟩ := hg
 refine Mod.intro Tryz.func56 Tryz.ntmps56 J J fun w S => ?_;refine Va J J ?_;refine S_load Tk J J J J J h1 ?_;refine Va J J ?_;refine S_load Tk J J J J J (by simpa [add_zero', add_add'] using w2) ?_;refine Va J J ?_;refine S_loop (α := Nat) (fun i => i ≤ Ws.length) (fun i => Ws.length - i) []
  (fun i => [(10, .val (.int .i64 (i : Nat))), (9, .val (.int .i64 (Ws.length : Nat))), (8, .val (.slice Al Ws.length cl)), (0, .val (.func (.yield l) #[] #[]))]) (fun i => [.hp 1 (A (endsW (Ws.take i)))]) (fun _ => G) 0 (Nat.zero_le _) rfl ⟨⟨_, rfl, rfl⟩, ⟨_, rfl, rfl⟩, ⟨_, rfl, rfl⟩, ⟨_, rfl, rfl⟩, trivial⟩ (by simp only [List.take_zero, endsW, List.filter_nil]; exact .hp .nil) ?_
 intro k hk
 refine Va J J ?_
 refine S_condp J (fun h5 => ?_) (fun h5 => ?_) <;> refine Va J J ?_
 ·have hkl : k < Ws.length := by omega
  have hnx := endsW_take hkl
  have hpre : endsW (Ws.take (k + 1)) <+: endsW Ws := ⟨endsW (Ws.drop (k + 1)), by unfold endsW; rw [← List.filter_append, List.take_append_drop]⟩
  obtain ⟨hWok, hWn⟩ := hok.ok k _ (List.getElem?_eq_getElem hkl)
  obtain ⟨ad, cs5, e5, hc5, hW5⟩ := Sr_at hWs hkl
  subst e5
  generalize Ws[k] = W at hnx hWok hWn hW5
  obtain ⟨fa, fb, fc, fd, fe, ff, fg, fh, fi, fj, rfl⟩ := wRep_sl hW5
  refine S_index Tk J J J J J J (by omega) (by omega) ?_;refine Va J J ?_;refine S_loadA Tk J J J J J (by simpa using hc5) ?_;refine Va J J ?_;refine AZ ZT_ok J J J J fun b4 => ?_;refine Va J J ?_;refine S_lendB 4 J J J J fun hGb hb0 => ?_;refine S_call Tryz.call57 (vs := [.pointer (some ⟨b4, 0, none⟩)]) (c_final W ⟨b4, 0, none⟩ [.slice fa W.procs.length fb, .slice fc 3 fd, .slice fe 2 ff, .slice fg 2 fh, .slice fi W.said.length fj] _ (gcells_add (pre := [])) (wRep_le (le_add hGb) hW5) hWok.cod) J J J ?_
  rintro v2 G2 ⟨rfl, rfl⟩ _
  refine S_backB 4 (vL [.slice fa W.procs.length fb, .slice fc 3 fd, .slice fe 2 ff, .slice fg 2 fh, .slice fi W.said.length fj]) (PH.add_self _ _ _) J (denL_vL _ _) hb0 ?_
  rw [PH.del_add hGb]
  refine Va J J ?_
  by_cases hf : finalW W = true
  ·rw [if_pos hf] at hnx
   refine GT J J hf ?_;refine Va J J ?_
   have hHY := hY (endsW (Ws.take k)) W [Value.agg [.slice fa W.procs.length fb, .slice fc 3 fd, .slice fe 2 ff, .slice fg 2 fh, .slice fi W.said.length fj].toArray] (by rw [← hnx]; exact hpre) ⟨_, hW5, J⟩
   refine S_yield 1 l J J hHY J J J J (fun _ => J) ?_ ?_ <;> refine Va J J ?_
   ·refine RF J (by simp [hf]) ?_
    refine Va J J ?_;refine S_add J J J J (by omega) ?_;refine Va J J ?_;refine S_again (k + 1) hkl (by omega) J ⟨⟨_, J, by simp [denO]⟩, ⟨_, J, J⟩, ⟨_, J, J⟩, ⟨_, J, J⟩, trivial⟩ ?_
    rw [hnx]
    first | exact .hp .nil | exact .drop (.hp .nil)
   ·refine RT J (by simp [hf]) ?_
    refine Va J J ?_;exact S_retm 1 (Res.t0 Tryz.results56) J XR (.inr ⟨_, J⟩)
  ·rw [if_neg hf, List.append_nil] at hnx
   refine GF J J (by simpa using hf) ?_;refine Va J J ?_;refine S_add J J J J (by omega) ?_;refine Va J J ?_;refine S_again (k + 1) hkl (by omega) J ⟨⟨_, J, by simp [denO]⟩, ⟨_, J, J⟩, ⟨_, J, J⟩, ⟨_, J, J⟩, trivial⟩ ?_
   rw [hnx]
   first | exact .hp .nil | exact .drop (.hp .nil)
 ·have e0 : k = Ws.length := by omega
  subst e0
  rw [List.take_length]
  exact S_endm 1 (Res.t0 Tryz.results56) J XR (.inl J)
theorem c_ends (b : Nat) (G : PH) : Pure Tryz.prog 26 [.pointer (some ⟨b, 0, none⟩)] G fun v' G' => ∃ b1, v' = .func (.func 56) #[] #[.pointer (some ⟨b1, 0, none⟩)] ∧ gcell G' ⟨b1, 0, none⟩ = some (.pointer (some ⟨b, 0, none⟩)) := by
 refine Pure.intro Tryz.func26 Tryz.ntmps26 J J fun w => ?_; refine Va J J ?_;refine S_box J J J J J fun b1 => ?_;refine Va J J ?_;refine S_valV J J J (V_makeFunc J) ?_;refine Va J J ?_;refine S_freezeB 1 J J J J (fun _ h => h) fun hext1 => ?_;refine S_retp (Res.t1 Tryz.results26 J J) hext1 ⟨b1, J, by simp [gcell, PH.add_self]⟩
end
section
def exHP {α : Type} (F : α → HP) : HP where
 holds w S := ∃ a, (F a).holds w S
 loc w w' S h hs := by
  obtain ⟨a, h⟩ := h
  exact ⟨a, (F a).loc w w' S h hs⟩
 lt w S h := by
  obtain ⟨a, h⟩ := h
  exact (F a).lt w S h
section
variable {C : Ctx} {k : List It} {E : Env} {ι : Ids} {L : List Ent} {G : PH}
theorem S_exOpen {α : Type} (κ : Nat) {F : α → HP} {L' : α → List Ent} (hL : getH κ L = some (exHP F)) (hL' : ∀ a, setH κ (F a) L = some (L' a)) (hk : ∀ a, X C k E ι (L' a) G) : X C k E ι L G := by
 intro act w h1 h2 h3 h4
 obtain ⟨S, ⟨a, hA⟩, hSG, hturn⟩ := h4.turn hL
 exact hk a act w h1 h2 h3 (hturn _ _ G w S (hL' a) hA h4.emb XR (fun b hb => ⟨hSG b hb, .inl hb⟩) J J J (Nat.le_refl _) fun _ _ _ => J)
theorem S_exClose {α : Type} (κ : Nat) (F : α → HP) (a : α) {A : HP} {L' : List Ent} (hL : getH κ L = some A) (hF : A = F a) (hL' : setH κ (exHP F) L = some L') (hk : X C k E ι L' G) : X C k E ι L G := by
 intro act w h1 h2 h3 h4
 obtain ⟨S, hA, hSG, hturn⟩ := h4.turn hL
 rw [hF] at hA
 exact hk act w h1 h2 h3 (hturn _ _ G w S hL' ⟨a, hA⟩ h4.emb XR (fun b hb => ⟨hSG b hb, .inl hb⟩) J J J (Nat.le_refl _) fun _ _ _ => J)
end
end
section
attribute [local irreducible] X Pure Mod
theorem gcells_gcW {G H : PH} (h : ∀ a, gcell H a = gcell G a) : ∀ {cs : List Value} {a : Addr}, gcells G a cs → gcells H a cs
 | [], _, _ => trivial
 | _ :: _, a, hc => ⟨by rw [h]; exact hc.1, gcells_gcW h hc.2⟩
theorem Rw_gcW {α : Type} {G H : PH} {sz : Nat} {rep rep' : α → List Value → Prop} (h : ∀ a, gcell H a = gcell G a) : ∀ {l : List α} {ad : Addr}, (∀ x ∈ l, ∀ cs, rep x cs → rep' x cs) → Rw G sz rep l ad → Rw H sz rep' l ad
 | [], _, _, _ => trivial
 | x :: l, ad, hr, hx => by
  obtain ⟨⟨cs, h1, h2⟩, h3⟩ := hx
  exact ⟨⟨cs, gcells_gcW h h1, hr x (List.mem_cons_self ..) cs h2⟩, Rw_gcW h (fun y hy => hr y (List.mem_cons_of_mem _ hy)) h3⟩
theorem Sr_gcW {α : Type} {G H : PH} {sz : Nat} {rep rep' : α → List Value → Prop} (h : ∀ a, gcell H a = gcell G a) {l : List α} (hr : ∀ x ∈ l, ∀ cs, rep x cs → rep' x cs) {v : Value} (hv : Sr G sz rep l v) : Sr H sz rep' l v := by
 obtain ⟨A, c, h1, h2, h3, h4, h5⟩ := hv
 refine ⟨A, c, h1, h2, h3, h4, ?_⟩
 rcases h5 with h5 | ⟨ad, h5, h6⟩
 ·exact .inl h5
 ·exact .inr ⟨ad, h5, Rw_gcW h hr h6⟩
mutual
theorem Stm.rep_gcW {G H : PH} (hl : ∀ a, gcell H a = gcell G a) : ∀ (s : Stm) (cs : List Value), Stm.rep G s cs → Stm.rep H s cs
 | .mk k a b n x y, cs, h => by
  obtain ⟨vx, vy, e, h1, h2, h3, h4, h5, h6⟩ := Stm.rep_iff.1 h
  exact Stm.rep_iff.2 ⟨vx, vy, e, h1, h2, h3, h4, Sr_gcW hl (Stm.reps_gcW hl x) h5, Sr_gcW hl (Stm.reps_gcW hl y) h6⟩
theorem Stm.reps_gcW {G H : PH} (hl : ∀ a, gcell H a = gcell G a) : ∀ (L : List Stm), ∀ s ∈ L, ∀ cs, Stm.rep G s cs → Stm.rep H s cs
 | [], s, hs, _, _ => by cases hs
 | t :: L, s, hs, cs, h => by
  rcases List.mem_cons.1 hs with e | hs'
  ·rw [e] at h ⊢; exact Stm.rep_gcW hl t cs h
  ·exact Stm.reps_gcW hl L s hs' cs h
end
theorem WG_gcW {G H : PH} (hl : ∀ a, gcell H a = gcell G a) {W : Wld} {v : Value} (h : WG G W v) : WG H W v := by
 obtain ⟨vp, vc, vr, vs, vd, rfl, h1, h2, h3, h4, h5⟩ := h
 refine ⟨vp, vc, vr, vs, vd, rfl, Sr_gcW hl (fun p _ cs h => ?_) h1, Sr_gcW hl (fun _ _ _ h => h) h2, Sr_gcW hl (fun _ _ _ h => h) h3, Sr_gcW hl (fun q _ cs h => ?_) h4, Sr_gcW hl (fun _ _ _ h => h) h5⟩
 ·obtain ⟨u, t, e, i1, i2⟩ := h
  exact ⟨u, t, e, Sr_gcW hl (fun _ _ _ h => h) i1, Sr_gcW hl (Stm.reps_gcW hl _) i2⟩
 ·obtain ⟨u, e, i1⟩ := h
  exact ⟨u, e, Sr_gcW hl (fun _ _ _ h => h) i1⟩
theorem WsG_gcW {G H : PH} (hl : ∀ a, gcell H a = gcell G a) {Ws : List Wld} {v : Value} (h : WsG G Ws v) : WsG H Ws v := Sr_gcW hl (fun _ _ _ h => WG_gcW hl h) h
abbrev OutY (G : PH) (pre : List Wld) := {y : PH × Option Addr × Nat × List Value // Cs 5 (wRep (G.un y.1)) pre y.2.2.2}
def outF (b base : Nat) (G : PH) (pre : List Wld) (y : OutY G pre) : HP := pairHP (frzHP y.1.1) (pairHP (blkHP b 32 [.slice y.1.2.1 pre.length y.1.2.2.1]) (rowO base 56 5 y.1.2.1 pre.length y.1.2.2.1 y.1.2.2.2))
theorem c_iAllEnds (p : List (List Stm)) (pv : Value) (G : PH) (hp : PrgS G p pv) (hTab : TabG G) : Pure Tryz.prog 14 [pv] G fun v' G' => ∃ lv, v' = .tuple #[lv, .bool (endsP p).isSome] ∧ WsG G' ((endsP p).getD []) lv := by
 have hok := @explP_ok p
 have he := c_explore p pv G hp hTab
 obtain ⟨Ap, cp, rfl, _⟩ := id hp.1
 refine Pure.introG Tryz.func14 Tryz.ntmps14 J J fun w hw => ?_;refine Va J J ?_;refine S_call Tryz.call23 he J J J ?_;rintro v1 G1 ⟨pt, rfl, hpt⟩ hext1
 rw [endsP_of]
 cases hx : explP p with
 | none =>
  refine Va J J ?_;refine RT J (by simp) ?_;refine Va J J ?_;exact S_retG2 hw hext1 Tryz.results14 J J J J fun H hH => ⟨_, J, WsG_nil⟩
 | some Ws =>
  have hWok := hok hp hx
  have hle := hWok.le
  obtain ⟨b, mb, lv, rfl, hg, hWs⟩ := hpt Ws hx
  refine Va J J ?_;refine RF J (by simp) ?_;refine Va J J ?_;refine AZ ZT_ok J J J J fun b6 => ?_;refine Va J J ?_;refine S_call Tryz.call26 (c_ends b _) J J J ?_;rintro v2 G2 ⟨b1, rfl, hb1⟩ hext2
  refine Va J J ?_
  have hWs2 := WsG_le hext2.le hWs
  have hel := endsW_le Ws
  simp only [Option.map_some, Option.getD_some, Option.isSome_some]
  refine S_nilO (base := w.heap.size) (e := 56) (size := 5) 20 ?_;refine S_reE 6 (.val (.pointer (some ⟨b6, 0, none⟩))) J J ?_;refine S_Bhp 6 21 J J J J ?_;refine S_pair 21 20 30 J J J J ?_;refine S_frN 22 ?_;refine S_pair 22 30 31 J J J J ?_;refine S_exClose 31 (outF b6 w.heap.size G2 []) ⟨(fun _ => none, none, 0, []), J⟩ J J J ?_;refine S_range (fun pre => [.hp 31 (exHP (outF b6 w.heap.size G2 pre))]) (fun pre => [.hp 31 deadHP])
   rfl rfl rfl Tryz.call56 (c_ends1 p Ws b b1 mb lv G2 hWok hb1 (gcells_le hext2.le hg) hWs2) (fun x vs h => by obtain ⟨cs, _, rfl⟩ := h; rfl) rfl (.hp .nil) ?_ ?_ ?_
  ·intro l pre x vs W S I hpre henc hW hI
   obtain ⟨cs, hrep, rfl⟩ := henc
   have hpl : pre.length + 1 ≤ (endsW Ws).length := by have := hpre.length_le; simpa using this
   have hxm : x ∈ Ws := (List.mem_filter.1 (hpre.subset (by simp : x ∈ pre ++ [x]))).1
   have hx3 : x.procs.length ≤ 3 := by
    obtain ⟨i, hi, rfl⟩ := List.getElem_of_mem hxm
    exact (hWok.ok i _ (List.getElem?_eq_getElem hi)).1.inv.n3
   obtain ⟨fa, fb, fc, fd, fe, ff, fg, fh, fi, fj, rfl⟩ := wRep_sl hrep
   refine Va J J ?_;refine AZ ZT_ok J J J J fun b7 => ?_;refine Va J J ?_;refine hI _ _ _ fun W2 S2 hW2 => ?_;refine S_exOpen 31 J (fun _ => J) ?_;rintro ⟨⟨H, A1, c1, xs⟩, hcs⟩
   unfold outF
   simp only at hcs ⊢
   refine S_unpair 31 22 30 J J ?_;refine S_unpair 30 21 20 J J ?_;refine S_frH 22 J J fun hHb hHn => ?_;refine S_hpB 21 102 J J J ?_;refine S_reE 6 (.ptr 102 0) J J ?_
   have hxl := Cs_length hcs
   refine Va J J ?_;refine Ds J J J ?_;refine Da J J ?_;refine D_sole 2 J J (N_call 2 Tryz.call31 (c_wcopy x _ _ (WG_le (PH.le_un _ _) hrep) hx3) J J J J J J J J J J ?_)
   rintro v2 G3 hW3 hext3
   obtain ⟨vs3, rfl⟩ : ∃ vs3 : List Value, v2 = .agg vs3.toArray := by
    obtain ⟨_, _, _, _, _, rfl, _⟩ := id hW3
    exact ⟨_, J⟩
   obtain ⟨ga, gb, gc, gd, ge, gf, gg, gh, gi, gj, rfl⟩ := wRep_sl hW3
   refine Da J J ?_;refine Nt 3 J J J J J J fun back => ?_;refine S_slice Tk ZT_ok J J J J (by decide) (by decide) J J J J fun b21 => ?_;refine back _ _ _ _ (by kernel_rfl) ?_; clear back
   refine Da J J ?_;refine Nt 4 J J J J J J fun back => ?_
   refine S_app1 Tk 20 21 J J J J J J J J J J J J J J (by intro u hu; simp at hu; rcases hu with rfl | rfl | rfl | rfl | rfl <;> rfl) rfl (fun _ _ => rfl) (by omega) hW2 fun A6 c6 => ?_
   refine back _ _ _ _ (by kernel_rfl) ?_; clear back
   refine Da J J ?_;refine Ns 5 J J J J J J J J J ?_;refine DD ?_;refine Va J J ?_
   have hle3 : G2.le G3 := (PH.le_un G2 H).trans hext3.le
   refine S_Bhp 102 21 J J J J ?_;refine S_pair 21 20 30 J J J J ?_;refine S_thaw 22 (G0 := G2) J hle3 (fun bb o hb hn => ?_) ?_
   ·cases hq : (G2.un H) bb with
    | none => exact .inr (hext3.new bb o hb hq)
    | some o' =>
     unfold PH.un at hq
     rw [hn] at hq
     exact hHb bb o' hq
   refine S_pair 22 30 31 J J J J ?_;refine S_exClose 31 (outF b6 w.heap.size G2 (pre ++ [x])) ⟨(newp G2 G3, A6, c6, xs ++ [.slice ga x.procs.length gb, .slice gc 3 gd, .slice ge 2 gf, .slice gg 2 gh, .slice gi x.said.length gj]), ?_⟩ J ?_ J ?_
   ·simp only
    rw [PH.un_newp hle3]
    exact Cs_append (Cs_mono (fun _ _ _ h => wRep_le hext3.le h) hcs) hW3 J
   ·simp [outF]; try rfl
   refine S_pick [31] J ?_;exact S_roundEnd (.hp .nil)
  ·intro D hD hDs
   refine S_exOpen 31 J (fun _ => J) ?_;rintro ⟨⟨H, A1, c1, xs⟩, hcs⟩
   unfold outF
   simp only at hcs ⊢
   refine S_unpair 31 22 30 J J ?_;refine S_unpair 30 21 20 J J ?_;refine S_frH 22 J J fun hHb hHn => ?_;refine S_hpB 21 103 J J J ?_;refine S_reE 6 (.ptr 103 0) J J ?_;refine Va J J ?_
   have hle4 := un_add_le hD hHn
   refine S_freezeR 20 J J (Nat.le_refl _) fun Gf hextf hncf hcmf hclf => ?_
   have hv : WsG Gf (endsW Ws) (.slice A1 (endsW Ws).length c1) := frz (Cs_mono (fun _ _ _ h => wRep_le (hle4.trans hextf.le) h) hcs) rfl (by omega) hncf hcmf hclf
   refine S_retG2 hw ((((hext1.trans hext2).trans (ext_addW hD hDs)).trans (ext_un fun bb o hb => ?_)).trans hextf) Tryz.results14 J J J J fun H hH => ⟨_, J, WsG_gcW hH hv⟩
   rcases hHb bb o hb with h | h
   ·exact h.elim
   ·exact h
  ·intro D pre hD hDs
   exact S_dead 31 J
end
end Go.Proofs.YtcbdilccmjpnbaaGreatDoor
