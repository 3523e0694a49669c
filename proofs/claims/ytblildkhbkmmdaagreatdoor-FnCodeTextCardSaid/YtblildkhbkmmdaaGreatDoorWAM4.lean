/- Walks of the program's functions, one after the other (part 4); without conditions of their own. -/
import Derived.Test.YtblildkhbkmmdaaGreatDoorWAM1
import Derived.Test.YtblildkhbkmmdaaGreatDoorWAM2
import Derived.Test.YtblildkhbkmmdaaGreatDoorWAM3
import Derived.Laws.Concat
import Derived.Laws.IdiomStrings
import Derived.Laws.Slices
import Derived.Laws.Strings
import Derived.Laws.Strings2
import Derived.Lib.ItoaLen
import Derived.Maps.RangeRun
set_option linter.unusedVariables false
set_option linter.unusedSimpArgs false
set_option maxRecDepth 100000
set_option maxHeartbeats 4000000
open Go.RowKit
namespace Go.Proofs.YtblildkhbkmmdaaGreatDoor
section
section
variable {C : Ctx} {k : List It} {E : Env} {ι : Ids} {L : List Ent} {G : PH}
theorem S_rdLe (κ : Nat) {b N : Nat} {sv : Value} (N' : Nat) {L' : List Ent} (hN : N ≤ N') (hL : getH κ L = some (rdHP b sv N)) (hL' : setH κ (rdHP b sv N') L = some L') (hx : X C k E ι L' G) : X C k E ι L G := by
 intro a w h1 h2 h3 h4
 refine hx a w h1 h2 h3 ?_;obtain ⟨S, hA, hSG, hturn⟩ := h4.turn hL
 refine hturn _ _ G w S hL' ?_ h4.emb XR (fun b hb => ⟨hSG b hb, .inl hb⟩) J J J (Nat.le_refl _) fun _ _ _ => J
 obtain ⟨ι0, L0, Ss0, ⟨p, hp, q1, q2⟩, q3⟩ := hA
 exact ⟨ι0, L0, Ss0, ⟨p, Nat.le_trans hp hN, q1, q2⟩, q3⟩
end
attribute [local irreducible] X Pure Mod
theorem rd_covers (b : Nat) (sv : Value) (N N' : Nat) : Covers (rdHP b sv N) (rdHP b sv N') := by
 rintro w w' S S' ⟨ι0, L0, Ss, ⟨p, _, rfl, rfl⟩, ho, hS⟩ ⟨ι1, L1, Ss', ⟨p', _, rfl, rfl⟩, ho', hS'⟩ x hx
 obtain ⟨T, hT, hTx⟩ := (hS x).1 hx
 cases Ss with
 | nil => cases hT
 | cons U Us =>
  cases Us with
  | cons => simp [owns] at ho
  | nil =>
   cases Ss' with
   | nil => simp [owns] at ho'
   | cons U' Us' =>
    obtain ⟨⟨c, _, hc, _, _, hU⟩, _⟩ := ho
    obtain ⟨⟨c', _, hc', _, _, hU'⟩, _⟩ := ho'
    simp [lookI] at hc hc'
    rw [List.mem_singleton.1 hT] at hTx
    exact (hS' x).2 ⟨U', List.mem_cons_self .., (hU' x).2 (by rw [(hU x).1 hTx, ← hc, ← hc'])⟩
def DrwL (f : Nat) (b : Nat) (sv : Value) (args : List Value) (N K : Nat) (G : PH) (e sz : Nat) (Post : Nat → List Value → PH → Prop) : Prop :=
 Mod Tryz.prog f (.pointer (some ⟨b, 0, none⟩) :: args) G (rdHP b sv N) fun v G' R => ∃ A' B', R = pairHP A' B' ∧ Covers (rdHP b sv N) A' ∧ A' = rdHP b sv (N + K) ∧ ∃ A n c xs base, v = .slice A n c ∧ B' = rowO base e sz A n c xs ∧ Post n xs G'
def stmL (most : Nat) (n : Nat) (xs : List Value) (G : PH) : Prop := ∃ l : List Stm, n = l.length ∧ l.length ≤ most ∧ Cs 6 (Stm.rep G) l xs ∧ shL l
def stmV (v : Value) (G : PH) : Prop := ∃ s cs, v = .agg cs.toArray ∧ Stm.rep G s cs ∧ Stm.short s
def kD : Nat → Nat
 | 0 => 10
 | d + 1 => 10 + 2 * (1 + 3 * kD d)
theorem c_l2Draws (b : Nat) (l : List Int) (sv : Value) (d N most : Nat) (room : Int) (G : PH) (hl : Byts G l sv) (hm : most ≤ 3) (hN : N + (1 + most * kD d) ≤ 1000000000)
  (hd : ∀ M G, Byts G l sv → M + kD d ≤ 1000000000 → Drw 50 b sv [.int .i64 (d : Nat), .int .i64 room] M (kD d) G stmV) :
  DrwL 66 b sv [.int .i64 (d : Nat), .int .i64 room, .int .i64 (most : Nat)] N (1 + most * kD d) G 79 6 (stmL most) := by
 obtain ⟨A, c, rfl, hl1, _⟩ := id hl
 refine Mod.intro Tryz.func66 Tryz.ntmps66 J J fun w S => ?_;refine Va J J ?_;refine S_emptyO Tk 5 J J J J fun A0 => ?_;refine Va J J ?_;refine S_add J J J J (by omega) ?_;refine Va J J ?_;refine S_callM 1 Tryz.call28 (c_pick b l _ _ N G hl ⟨by omega, by omega⟩ (by omega)) J J J J (fun _ => J) ?_;rintro v G2 A' ⟨rfl, rfl, m, rfl, h0, h1⟩ _
 refine Va J J ?_;obtain ⟨m, rfl⟩ := Int.eq_ofNat_of_zero_le h0
 have hmm : m ≤ most := by omega
 refine S_loop (α := Nat × Nat × Option Addr × Nat × List Value × List Stm × PH) (fun y => y.1 + y.2.2.2.2.2.1.length ≤ most ∧ y.2.1 + y.1 * kD d ≤ N + (1 + most * kD d) ∧ PH.ext w.heap.size G2 y.2.2.2.2.2.2 ∧ Cs 6 (Stm.rep y.2.2.2.2.2.2) y.2.2.2.2.2.1 y.2.2.2.2.1 ∧ shL y.2.2.2.2.2.1) (fun y => y.1) []
  (fun y => [(10, .val (.int .i64 (y.1 : Nat))), (9, .val (.slice y.2.2.1 y.2.2.2.2.2.1.length y.2.2.2.1)), (0, .val (.pointer (some ⟨b, 0, none⟩))), (1, .val (.int .i64 (d : Nat))), (2, .val (.int .i64 room))])
  (fun y => [.hp 5 (rowO w.heap.size 79 6 y.2.2.1 y.2.2.2.2.2.1.length y.2.2.2.1 y.2.2.2.2.1), .hp 1 (rdHP b (.slice A l.length c) y.2.1)]) (fun y => y.2.2.2.2.2.2) (m, N + 1, A0, 0, [], [], G2) ⟨by simpa using hmm, ?_, PH.ext.refl _ _, rfl, trivial⟩ rfl ?_ ?_ ?_
 ·have := Nat.mul_le_mul_right (kD d) hmm
  simp only
  omega
 ·exact ⟨⟨_, J, J⟩, ⟨_, J, J⟩, ⟨_, J, J⟩, ⟨_, J, J⟩, ⟨_, J, J⟩, trivial⟩
 ·exact .hp (.hp .nil)
 rintro ⟨i, M, A1, c1, xs, ls, G1⟩ ⟨hi, hM, hext, hcs, hsh⟩
 simp only at hi hM hext hcs hsh ⊢
 refine Va J J ?_
 refine S_condp J (fun h => ?_) (fun h => ?_) <;> refine Va J J ?_
 ·obtain ⟨j, rfl⟩ : ∃ j, i = j + 1 := ⟨i - 1, by omega⟩
  rw [Nat.succ_mul] at hM
  refine S_callM 1 Tryz.call50 (hd M G1 (Byts_le hext.le hl) (by omega)) J J J J (fun _ => J) ?_;rintro v G3 A' ⟨rfl, s, cs, rfl, hrep, hss⟩ hext3
  have hlen := Stm.rep_len hrep
  have hone := Stm.rep_one s cs hrep
  obtain ⟨c0, c1', c2', c3', c4', c5', rfl⟩ : ∃ c0 c1 c2 c3 c4 c5, cs = [c0, c1, c2, c3, c4, c5] := by
   match cs, hlen with
   | [a0, a1, a2, a3, a4, a5], _ => exact ⟨a0, a1, a2, a3, a4, a5, rfl⟩
  refine Va J J ?_;refine S_slice Tk ZT_ok J J J J (by decide) (by decide) J J J J fun b2 => ?_;refine Va J J ?_;refine S_app1 Tk 5 25 J J J J J J J J J J J J J J hone J (fun _ _ => J) (by omega) (Nat.le_refl _) fun A2 c2 => ?_;refine Va J J ?_;refine S_subI J J J J (by omega) ?_;refine Va J J ?_;refine S_again (j, M + kD d, A2, c2, _, ls ++ [s], G3) ⟨by simp; omega, by simp only; omega, hext.trans hext3, Cs_append (Cs_mono (Stm.reps_le hext3.le ls) hcs) hrep rfl, shL_append.2 ⟨hsh, hss, trivial⟩⟩ (by simp only; omega) rfl ⟨⟨_, rfl, by simp [denO]⟩, ⟨_, rfl, by simp [denO]⟩, ⟨_, rfl, rfl⟩, ⟨_, rfl, rfl⟩, ⟨_, rfl, rfl⟩, trivial⟩ ?_
  simp only [List.length_append, List.length_singleton]
  exact .drop (.hp (.hp .nil))
 ·obtain rfl : i = 0 := by omega
  refine S_rdLe 1 (N + (1 + most * kD d)) (by omega) J J ?_;refine S_pair 1 5 6 J J J J ?_;exact S_retm 6 (Res.t1 Tryz.results66 J J) J hext ⟨_, _, J, rd_covers _ _ _ _, J, _, _, _, _, _, J, J, ls, J, by omega, hcs, hsh⟩
theorem c_numL (b : Nat) {l : List Int} {sv : Value} (q : List Int) {a : Addr} {n c N : Nat} {G : PH} (hl : Byts G l sv) (h : gcells G a (intC q)) (hn : (n : Int) = q.length) (hc : n ≤ c) (hcm : c ≤ maxLen) (hb : 0 < q.length ∧ n ≤ 1000000000) (hi : ∀ x ∈ q, I64 x) (hN : N + 1 ≤ 1000000000) :
  Drw 49 b sv [.slice (some a) n c] N 1 G fun v G' => G' = G ∧ ∃ m ∈ q, v = .int .i64 m :=
 c_num b l sv q _ N G hl (ints_of h (by omega) hc hcm hb.2 hi) hb.1 hN
theorem c_l2Draw (b : Nat) (l : List Int) (sv : Value) (d N : Nat) (room : Int) (G : PH) (hl : Byts G l sv) (h3 : d ≤ 100) (hN : N + kD d ≤ 1000000000)
  (hd : 2 ≤ d → ∀ (most M : Nat) (room : Int) G, most ≤ 3 → Byts G l sv → M + (1 + most * kD (d - 1)) ≤ 1000000000 → DrwL 66 b sv [.int .i64 ((d : Int) - 1), .int .i64 room, .int .i64 (most : Nat)] M (1 + most * kD (d - 1)) G 79 6 (stmL most)) :
  Drw 50 b sv [.int .i64 (d : Nat), .int .i64 room] N (kD d) G stmV := by
 obtain ⟨A, c, rfl, hl1, _⟩ := id hl
 have hk : 10 ≤ kD d := by cases d <;> simp only [kD] <;> omega
 refine Mod.intro Tryz.func50 Tryz.ntmps50 J J fun w S => ?_;refine Va J J ?_;refine AZ ZT_ok J J J J fun b6 => ?_;refine Va J J ?_;refine S_callM 1 Tryz.call28 (c_pick b l _ _ N G hl ⟨by omega, by omega⟩ (by omega)) J J J J (fun _ => J) ?_;rintro v G2 A' ⟨rfl, rfl, a, rfl, ha0, ha1⟩ _
 refine Va J J ?_;refine S_callM 1 Tryz.call28 (c_pick b l _ _ _ _ hl ⟨by omega, by omega⟩ (by omega)) J J J J (fun _ => J) ?_;rintro v G2 A' ⟨rfl, rfl, bb, rfl, hb0, hb1⟩ _
 refine Va J J ?_;refine S_sliceG Tk ZT_ok J J J J (by decide) (by decide) J J J J (fun _ => J) fun bq Gq hxq hcq => ?_;refine Va J J ?_;refine S_callM 1 Tryz.call49 (c_numL b [1, 2, 3, 4, 5, 3, 4, 2, 8, 6, 7, 10, 9, 11, 8, 5] (Byts_le hxq.le hl) hcq J (Nat.le_refl _) (by decide) (by decide) (i64_small (by decide)) (by omega)) J J J J (fun _ => J) ?_;rintro v G' A' ⟨rfl, rfl, kind, hmem, rfl⟩ _
 refine Va J J ?_
 simp only [List.mem_cons, List.not_mem_nil, or_false] at hmem
 have hmem2 : kind = 1 ∨ kind = 2 ∨ kind = 3 ∨ kind = 4 ∨ kind = 5 ∨ kind = 6 ∨ kind = 7 ∨ kind = 8 ∨ kind = 9 ∨ kind = 10 ∨ kind = 11 := by omega
 clear hmem
 have hx2 := hxq
 rcases hmem2 with rfl | rfl | rfl | rfl | rfl | rfl | rfl | rfl | rfl | rfl | rfl
 all_goals
  repeat' (first
   | (refine GT J J J ?_; refine Va J J ?_)
   | (refine GF J J J ?_; refine Va J J ?_)
   | (refine S_guardp J J (fun h => ?_) (fun h => ?_) <;> refine Va J J ?_)
   | (refine S_guard J J (fun h => ?_) (fun h => ?_) <;> refine Va J J ?_)
   | (refine RT J J ?_; refine Va J J ?_)
   | (refine RF J J ?_; refine Va J J ?_))
 all_goals (try (simp at h; done))
 all_goals first
  |refine S_rdLe 1 (N + kD d) (by omega) J J ?_
   refine S_retm 1 (Res.c1 Tk Tryz.results50 J J) J (hxq) ⟨J, .mk _ _ _ _ [] [], _, J, Stm.rep_iff.2 ⟨_, _, J, ?_, ?_, ?_, ?_, Sr_nil J, Sr_nil J⟩, Stm.short_mk.2 ⟨Sh_nil, Sh_nil⟩⟩ <;> exact ⟨by omega, by omega⟩
  |refine S_sliceG Tk ZT_ok J J J J (by decide) (by decide) J J J J (fun _ => J) fun bq3 Gq3 hxq3 hcq3 => ?_
   refine Va J J ?_;refine S_callM 1 Tryz.call49 (c_numL b [1, 2, 3, 4, 5] (Byts_le (PH.ext.trans hxq hxq3).le hl) hcq3 J (Nat.le_refl _) (by decide) (by decide) (i64_small (by decide)) (by omega)) J J J J (fun _ => J) ?_;rintro v G' A' ⟨rfl, rfl, kind, hmem, rfl⟩ _
   refine Va J J ?_
   simp only [List.mem_cons, List.not_mem_nil, or_false] at hmem
   rcases hmem with rfl | rfl | rfl | rfl | rfl
   all_goals
    repeat' (first
     | (refine GT J J J ?_; refine Va J J ?_)
     | (refine GF J J J ?_; refine Va J J ?_)
     | (refine S_guardp J J (fun h => ?_) (fun h => ?_) <;> refine Va J J ?_)
     | (refine S_guard J J (fun h => ?_) (fun h => ?_) <;> refine Va J J ?_)
     | (refine RT J J ?_; refine Va J J ?_)
     | (refine RF J J ?_; refine Va J J ?_))
   all_goals first
    |refine S_rdLe 1 (N + kD d) (by omega) J J ?_
     refine S_retm 1 (Res.c1 Tk Tryz.results50 J J) J ((hxq.trans hxq3)) ⟨J, .mk _ _ _ _ [] [], _, J, Stm.rep_iff.2 ⟨_, _, J, ?_, ?_, ?_, ?_, Sr_nil J, Sr_nil J⟩, Stm.short_mk.2 ⟨Sh_nil, Sh_nil⟩⟩ <;> exact ⟨by omega, by omega⟩
    |refine S_sliceG Tk ZT_ok J J J J (by decide) (by decide) J J J J (fun _ => J) fun bq1 Gq1 hxq1 hcq1 => ?_
     refine Va J J ?_;refine S_callM 1 Tryz.call49 (c_numL b [0, 1, 2, 3, -1, 5] (Byts_le (PH.ext.trans ((hxq.trans hxq3)) hxq1).le hl) hcq1 J (Nat.le_refl _) (by decide) (by decide) (i64_small (by decide)) (by omega)) J J J J (fun _ => J) ?_;rintro v G' A' ⟨rfl, rfl, m1, hmem1, rfl⟩ _
     have hm1 : -1 ≤ m1 ∧ m1 ≤ 5 := by (simp only [List.mem_cons, List.not_mem_nil, or_false] at hmem1); omega
     refine Va J J ?_;refine S_rdLe 1 (N + kD d) (by omega) J J ?_
     refine S_retm 1 (Res.c1 Tk Tryz.results50 J J) J ((PH.ext.trans ((hxq.trans hxq3)) hxq1)) ⟨J, .mk _ _ _ _ [] [], _, J, Stm.rep_iff.2 ⟨_, _, J, ?_, ?_, ?_, ?_, Sr_nil J, Sr_nil J⟩, Stm.short_mk.2 ⟨Sh_nil, Sh_nil⟩⟩ <;> exact ⟨by omega, by omega⟩
    |refine S_callM 1 Tryz.call28 (c_pick b l _ _ _ _ (Byts_le (PH.ext.le ((hxq.trans hxq3))) hl) ⟨by omega, by omega⟩ (by omega)) J J J J (fun _ => J) ?_
     rintro v G2 A' ⟨rfl, rfl, m1, rfl, hm0, hm1⟩ _
     refine Va J J ?_;refine S_add J J J J (by omega) ?_;refine Va J J ?_;refine S_rdLe 1 (N + kD d) (by omega) J J ?_
     refine S_retm 1 (Res.c1 Tk Tryz.results50 J J) J ((hxq.trans hxq3)) ⟨J, .mk _ _ _ _ [] [], _, J, Stm.rep_iff.2 ⟨_, _, J, ?_, ?_, ?_, ?_, Sr_nil J, Sr_nil J⟩, Stm.short_mk.2 ⟨Sh_nil, Sh_nil⟩⟩ <;> exact ⟨by omega, by omega⟩
  |refine S_sliceG Tk ZT_ok J J J J (by decide) (by decide) J J J J (fun _ => J) fun bq1 Gq1 hxq1 hcq1 => ?_
   refine Va J J ?_;refine S_callM 1 Tryz.call49 (c_numL b [0, 1, 2, 3, -1, 5] (Byts_le (PH.ext.trans (hxq) hxq1).le hl) hcq1 J (Nat.le_refl _) (by decide) (by decide) (i64_small (by decide)) (by omega)) J J J J (fun _ => J) ?_;rintro v G' A' ⟨rfl, rfl, m1, hmem1, rfl⟩ _
   have hm1 : -1 ≤ m1 ∧ m1 ≤ 5 := by (simp only [List.mem_cons, List.not_mem_nil, or_false] at hmem1); omega
   refine Va J J ?_;refine S_rdLe 1 (N + kD d) (by omega) J J ?_
   refine S_retm 1 (Res.c1 Tk Tryz.results50 J J) J ((PH.ext.trans (hxq) hxq1)) ⟨J, .mk _ _ _ _ [] [], _, J, Stm.rep_iff.2 ⟨_, _, J, ?_, ?_, ?_, ?_, Sr_nil J, Sr_nil J⟩, Stm.short_mk.2 ⟨Sh_nil, Sh_nil⟩⟩ <;> exact ⟨by omega, by omega⟩
  |refine S_callM 1 Tryz.call28 (c_pick b l _ _ _ _ (Byts_le (PH.ext.le (hxq)) hl) ⟨by omega, by omega⟩ (by omega)) J J J J (fun _ => J) ?_
   rintro v G2 A' ⟨rfl, rfl, m1, rfl, hm0, hm1⟩ _
   refine Va J J ?_;refine S_add J J J J (by omega) ?_;refine Va J J ?_;refine S_rdLe 1 (N + kD d) (by omega) J J ?_
   refine S_retm 1 (Res.c1 Tk Tryz.results50 J J) J (hxq) ⟨J, .mk _ _ _ _ [] [], _, J, Stm.rep_iff.2 ⟨_, _, J, ?_, ?_, ?_, ?_, Sr_nil J, Sr_nil J⟩, Stm.short_mk.2 ⟨Sh_nil, Sh_nil⟩⟩ <;> exact ⟨by omega, by omega⟩
  |refine S_callM 1 Tryz.call28 (c_pick b l _ _ _ _ (Byts_le (PH.ext.le (hxq)) hl) ⟨by omega, by omega⟩ (by omega)) J J J J (fun _ => J) ?_
   rintro v G2 A' ⟨rfl, rfl, m1, rfl, hm0, hm1⟩ _
   refine Va J J ?_;refine S_rdLe 1 (N + kD d) (by omega) J J ?_
   refine S_retm 1 (Res.c1 Tk Tryz.results50 J J) J (hxq) ⟨J, .mk _ _ _ _ [] [], _, J, Stm.rep_iff.2 ⟨_, _, J, ?_, ?_, ?_, ?_, Sr_nil J, Sr_nil J⟩, Stm.short_mk.2 ⟨Sh_nil, Sh_nil⟩⟩ <;> exact ⟨by omega, by omega⟩
  | skip
 -- an if
 ·have h2 : 2 ≤ d := by simp at h; omega
  have hkd : kD d = 10 + 2 * (1 + 3 * kD (d - 1)) := by
   cases d
   ·omega
   ·rfl
  refine S_subI J J J J (by omega) ?_;refine Va J J ?_;refine S_callPr 1 300 Tryz.call66 (hd h2 2 _ room _ (by omega) (Byts_le hxq.le hl) (by omega)) J J J J (fun _ => J) ?_;rintro v G3 A' B' ⟨rfl, A1, n1, c1, xs1, base1, rfl, rfl, l1, rfl, hle1, hcs1, hsh1⟩ hext1
  refine S_newRow 300 J J ?_;refine S_freezeR 300 J J (Nat.le_refl _) fun G4 hext2 hnc1 hcm1 hcl1 => ?_
  have hv1 : Sts G4 l1 _ := frz (Cs_mono (Stm.reps_le hext2.le l1) hcs1) rfl (by omega) hnc1 hcm1 hcl1
  refine Va J J ?_;refine S_subI J J J J (by omega) ?_;refine Va J J ?_
  have e1 := (hxq.trans hext1).trans hext2
  refine S_callPr 1 301 Tryz.call66 (hd h2 2 _ room _ (by omega) (Byts_le e1.le hl) (by omega)) J J J J (fun _ => J) ?_;rintro v G5 A' B' ⟨rfl, A2, n2, c2, xs2, base2, rfl, rfl, l2, rfl, hle2, hcs2, hsh2⟩ hext3
  refine S_newRow 301 J J ?_;refine S_freezeR 301 J J (Nat.le_refl _) fun G6 hext4 hnc2 hcm2 hcl2 => ?_
  have hv2 : Sts G6 l2 _ := frz (Cs_mono (Stm.reps_le hext4.le l2) hcs2) rfl (by omega) hnc2 hcm2 hcl2
  refine Va J J ?_
  have e2 := (e1.trans hext3).trans hext4
  refine S_rdLe 1 (N + kD d) (by omega) J J ?_;refine S_retm 1 (Res.c1 Tk Tryz.results50 J J) J e2 ⟨J, .mk _ _ _ _ l1 l2, _, J, Stm.rep_iff.2 ⟨_, _, J, ⟨by omega, by omega⟩, ⟨by omega, by omega⟩, ⟨by omega, by omega⟩, ⟨by omega, by omega⟩, Sts_le (hext3.trans hext4).le hv1, hv2⟩, Stm.short_mk.2 ⟨⟨by omega, hsh1⟩, by omega, hsh2⟩⟩
 -- a while
 ·have h2 : 2 ≤ d := by simp at h; omega
  have hkd : kD d = 10 + 2 * (1 + 3 * kD (d - 1)) := by
   cases d
   ·omega
   ·rfl
  refine S_subI J J J J (by omega) ?_;refine Va J J ?_;refine S_callPr 1 300 Tryz.call66 (hd h2 2 _ room _ (by omega) (Byts_le hxq.le hl) (by omega)) J J J J (fun _ => J) ?_;rintro v G3 A' B' ⟨rfl, A1, n1, c1, xs1, base1, rfl, rfl, l1, rfl, hle1, hcs1, hsh1⟩ hext1
  refine S_newRow 300 J J ?_;refine Va J J ?_
  have e1 := hxq.trans hext1
  refine S_sliceG Tk ZT_ok J J J J (by decide) (by decide) J J J J (fun _ => J) fun bq1 Gq1 hxq1 hcq1 => ?_;refine Va J J ?_;refine S_callM 1 Tryz.call49 (c_numL b [0, 0, 0, 0, 0, 1] (Byts_le (e1.trans hxq1).le hl) hcq1 J (Nat.le_refl _) (by decide) (by decide) (i64_small (by decide)) (by omega)) J J J J (fun _ => J) ?_;rintro v G' A' ⟨rfl, rfl, m1, hmem1, rfl⟩ _
  have hm1 : 0 ≤ m1 ∧ m1 ≤ 1 := by (simp only [List.mem_cons, List.not_mem_nil, or_false] at hmem1); omega
  refine Va J J ?_;refine S_slice Tk ZT_ok J J J J (by decide) (by decide) J J J J fun b2 => ?_;refine Va J J ?_
  refine S_app1 Tk 300 105 J J J J J J J J J J J J J J (by intro u hu; simp at hu; rcases hu with rfl | rfl | rfl | rfl | rfl | rfl <;> rfl) rfl (fun _ _ => rfl) (by omega) (Nat.le_refl _) fun A2 c2 => ?_
  refine Va J J ?_;refine S_freezeR 300 J J (Nat.le_refl _) fun G4 hext2 hnc1 hcm1 hcl1 => ?_;refine Va J J ?_
  have hcs2 := Cs_append (x := Stm.mk 1 a 0 m1 [] []) hcs1 (Stm.rep_iff.2 ⟨_, _, rfl, ⟨by omega, by omega⟩, ⟨by omega, by omega⟩, ⟨by omega, by omega⟩, ⟨by omega, by omega⟩, Sr_nil rfl, Sr_nil rfl⟩) rfl
  have hv1 : Sts G4 (l1 ++ [Stm.mk 1 a 0 m1 [] []]) _ := frz (Cs_mono (Stm.reps_le (hxq1.trans hext2).le _) hcs2) (by simp) (by omega) hnc1 hcm1 hcl1
  refine S_rdLe 1 (N + kD d) (by omega) J J ?_;exact S_retm 1 (Res.c1 Tk Tryz.results50 J J) J ((e1.trans hxq1).trans hext2) ⟨J, .mk _ _ _ _ _ _, _, J, Stm.rep_iff.2 ⟨_, _, J, ⟨by omega, by omega⟩, ⟨by omega, by omega⟩, ⟨by omega, by omega⟩, ⟨by omega, by omega⟩, hv1, Sr_nil J⟩, Stm.short_mk.2 ⟨⟨by simp; omega, shL_append.2 ⟨hsh1, Stm.short_mk.2 ⟨Sh_nil, Sh_nil⟩, trivial⟩⟩, Sh_nil⟩⟩
 -- in a room
 ·have h2 : 2 ≤ d := by
   rename_i h9 h8
   simp at h8 h9
   omega
  have hkd : kD d = 10 + 2 * (1 + 3 * kD (d - 1)) := by
   cases d
   ·omega
   ·rfl
  refine S_callM 1 Tryz.call28 (c_pick b l _ _ _ _ (Byts_le hxq.le hl) ⟨by omega, by omega⟩ (by omega)) J J J J (fun _ => J) ?_;rintro v G2 A' ⟨rfl, rfl, m1, rfl, hm0, hm1⟩ _
  refine Va J J ?_;refine S_subI J J J J (by omega) ?_;refine Va J J ?_;refine S_callPr 1 300 Tryz.call66 (hd h2 3 _ m1 _ (by omega) (Byts_le hxq.le hl) (by omega)) J J J J (fun _ => J) ?_;rintro v G3 A' B' ⟨rfl, A1, n1, c1, xs1, base1, rfl, rfl, l1, rfl, hle1, hcs1, hsh1⟩ hext1
  refine S_newRow 300 J J ?_;refine S_freezeR 300 J J (Nat.le_refl _) fun G4 hext2 hnc1 hcm1 hcl1 => ?_
  have hv1 : Sts G4 l1 _ := frz (Cs_mono (Stm.reps_le hext2.le l1) hcs1) rfl (by omega) hnc1 hcm1 hcl1
  refine Va J J ?_;refine S_rdLe 1 (N + kD d) (by omega) J J ?_;exact S_retm 1 (Res.c1 Tk Tryz.results50 J J) J ((hxq.trans hext1).trans hext2) ⟨J, .mk _ _ _ _ _ _, _, J, Stm.rep_iff.2 ⟨_, _, J, ⟨by omega, by omega⟩, ⟨by omega, by omega⟩, ⟨by omega, by omega⟩, ⟨by omega, by omega⟩, hv1, Sr_nil J⟩, Stm.short_mk.2 ⟨⟨by omega, hsh1⟩, Sh_nil⟩⟩
 -- a wait
 ·refine S_cond J (fun h => ?_) (fun h => ?_) <;> refine Va J J ?_
  ·refine S_sliceG Tk ZT_ok J J J J (by decide) (by decide) J J J J (fun _ => J) fun bq3 Gq3 hxq3 hcq3 => ?_
   refine Va J J ?_;refine S_callM 1 Tryz.call49 (c_numL b [1, 2, 3, 4, 5] (Byts_le (PH.ext.trans hxq hxq3).le hl) hcq3 J (Nat.le_refl _) (by decide) (by decide) (i64_small (by decide)) (by omega)) J J J J (fun _ => J) ?_;rintro v G' A' ⟨rfl, rfl, kind, hmem, rfl⟩ _
   refine Va J J ?_
   simp only [List.mem_cons, List.not_mem_nil, or_false] at hmem
   rcases hmem with rfl | rfl | rfl | rfl | rfl
   all_goals
    repeat' (first
     | (refine GT J J J ?_; refine Va J J ?_)
     | (refine GF J J J ?_; refine Va J J ?_)
     | (refine S_guardp J J (fun h => ?_) (fun h => ?_) <;> refine Va J J ?_)
     | (refine S_guard J J (fun h => ?_) (fun h => ?_) <;> refine Va J J ?_)
     | (refine RT J J ?_; refine Va J J ?_)
     | (refine RF J J ?_; refine Va J J ?_))
   all_goals first
    |refine S_rdLe 1 (N + kD d) (by omega) J J ?_
     refine S_retm 1 (Res.c1 Tk Tryz.results50 J J) J ((hxq.trans hxq3)) ⟨J, .mk _ _ _ _ [] [], _, J, Stm.rep_iff.2 ⟨_, _, J, ?_, ?_, ?_, ?_, Sr_nil J, Sr_nil J⟩, Stm.short_mk.2 ⟨Sh_nil, Sh_nil⟩⟩ <;> exact ⟨by omega, by omega⟩
    |refine S_sliceG Tk ZT_ok J J J J (by decide) (by decide) J J J J (fun _ => J) fun bq1 Gq1 hxq1 hcq1 => ?_
     refine Va J J ?_;refine S_callM 1 Tryz.call49 (c_numL b [0, 1, 2, 3, -1, 5] (Byts_le (PH.ext.trans ((hxq.trans hxq3)) hxq1).le hl) hcq1 J (Nat.le_refl _) (by decide) (by decide) (i64_small (by decide)) (by omega)) J J J J (fun _ => J) ?_;rintro v G' A' ⟨rfl, rfl, m1, hmem1, rfl⟩ _
     have hm1 : -1 ≤ m1 ∧ m1 ≤ 5 := by (simp only [List.mem_cons, List.not_mem_nil, or_false] at hmem1); omega
     refine Va J J ?_;refine S_rdLe 1 (N + kD d) (by omega) J J ?_
     refine S_retm 1 (Res.c1 Tk Tryz.results50 J J) J ((PH.ext.trans ((hxq.trans hxq3)) hxq1)) ⟨J, .mk _ _ _ _ [] [], _, J, Stm.rep_iff.2 ⟨_, _, J, ?_, ?_, ?_, ?_, Sr_nil J, Sr_nil J⟩, Stm.short_mk.2 ⟨Sh_nil, Sh_nil⟩⟩ <;> exact ⟨by omega, by omega⟩
    |refine S_callM 1 Tryz.call28 (c_pick b l _ _ _ _ (Byts_le (PH.ext.le ((hxq.trans hxq3))) hl) ⟨by omega, by omega⟩ (by omega)) J J J J (fun _ => J) ?_
     rintro v G2 A' ⟨rfl, rfl, m1, rfl, hm0, hm1⟩ _
     refine Va J J ?_;refine S_add J J J J (by omega) ?_;refine Va J J ?_;refine S_rdLe 1 (N + kD d) (by omega) J J ?_
     refine S_retm 1 (Res.c1 Tk Tryz.results50 J J) J ((hxq.trans hxq3)) ⟨J, .mk _ _ _ _ [] [], _, J, Stm.rep_iff.2 ⟨_, _, J, ?_, ?_, ?_, ?_, Sr_nil J, Sr_nil J⟩, Stm.short_mk.2 ⟨Sh_nil, Sh_nil⟩⟩ <;> exact ⟨by omega, by omega⟩
  ·repeat' (first
    | (refine GT J J J ?_; refine Va J J ?_)
    | (refine GF J J J ?_; refine Va J J ?_)
    | (refine S_guardp J J (fun h => ?_) (fun h => ?_) <;> refine Va J J ?_)
    | (refine S_guard J J (fun h => ?_) (fun h => ?_) <;> refine Va J J ?_)
    | (refine RT J J ?_; refine Va J J ?_)
    | (refine RF J J ?_; refine Va J J ?_))
   refine S_callM 1 Tryz.call28 (c_pick b l _ _ _ _ (Byts_le (PH.ext.le (hxq)) hl) ⟨by omega, by omega⟩ (by omega)) J J J J (fun _ => J) ?_;rintro v G2 A' ⟨rfl, rfl, m1, rfl, hm0, hm1⟩ _
   refine Va J J ?_;refine S_rdLe 1 (N + kD d) (by omega) J J ?_
   refine S_retm 1 (Res.c1 Tk Tryz.results50 J J) J (hxq) ⟨J, .mk _ _ _ _ [] [], _, J, Stm.rep_iff.2 ⟨_, _, J, ?_, ?_, ?_, ?_, Sr_nil J, Sr_nil J⟩, Stm.short_mk.2 ⟨Sh_nil, Sh_nil⟩⟩ <;> exact ⟨by omega, by omega⟩
theorem c_l2Draws_all (b : Nat) (l : List Int) (sv : Value) : ∀ (d : Nat), d ≤ 100 → (∀ N (room : Int) G, Byts G l sv → N + kD d ≤ 1000000000 → Drw 50 b sv [.int .i64 (d : Nat), .int .i64 room] N (kD d) G stmV) ∧
  ∀ (most N : Nat) (room : Int) G, most ≤ 3 → Byts G l sv → N + (1 + most * kD d) ≤ 1000000000 → DrwL 66 b sv [.int .i64 (d : Nat), .int .i64 room, .int .i64 (most : Nat)] N (1 + most * kD d) G 79 6 (stmL most)
 | 0, h3 => by
  have h1 : ∀ N (room : Int) G, Byts G l sv → N + kD 0 ≤ 1000000000 → Drw 50 b sv [.int .i64 (0 : Nat), .int .i64 room] N (kD 0) G stmV := fun N room G hl hN => c_l2Draw b l sv 0 N room G hl h3 hN (fun h => by omega)
  exact ⟨h1, fun most N room G hm hl hN => c_l2Draws b l sv 0 N most room G hl hm hN fun M G hl hM => h1 M room G hl hM⟩
 | d + 1, h3 => by
  have ih := (c_l2Draws_all b l sv d (by omega)).2
  have h1 : ∀ N (room : Int) G, Byts G l sv → N + kD (d + 1) ≤ 1000000000 → Drw 50 b sv [.int .i64 (d + 1 : Nat), .int .i64 room] N (kD (d + 1)) G stmV := fun N room G hl hN => c_l2Draw b l sv (d + 1) N room G hl h3 hN (fun h most M room G hm hl hM => by
   have := ih most M room G hm hl hM
   rw [show (((d + 1 : Nat) : Int) - 1) = ((d : Nat) : Int) by omega]
   exact this)
  exact ⟨h1, fun most N room G hm hl hN => c_l2Draws b l sv (d + 1) N most room G hl hm hN fun M G hl hM => h1 M room G hl hM⟩
end
section
attribute [local irreducible] X Pure Mod
def someV (v : Value) (G : PH) : Prop := ∃ l, Sts G l v ∧ Sh l ∧ stmtsOk l = true
theorem c_l2Some (b : Nat) (l : List Int) (sv : Value) (N : Nat) (G : PH) (hl : Byts G l sv) (hN : N + (1 + 6 * kD 3) ≤ 1000000000) : Drw 27 b sv [] N (1 + 6 * kD 3) G someV := by
 obtain ⟨A, c, rfl, hl1, _⟩ := id hl
 refine Mod.intro Tryz.func27 Tryz.ntmps27 J J fun w S => ?_;refine Va J J ?_;refine S_emptyO Tk 5 J J J J fun A0 => ?_;refine S_freezeR 5 J J (Nat.le_refl _) fun G1 hext1 _ _ _ => ?_
 have hout : Sts G1 [] (.slice A0 0 0) := ⟨A0, 0, rfl, by simp, Nat.le_refl _, by simp [maxLen], .inl rfl⟩
 refine Va J J ?_;refine S_sliceG Tk ZT_ok J J J J (by decide) (by decide) J J J J (fun _ => J) fun bq Gq hxq hcq => ?_;refine Va J J ?_;refine S_callM 1 Tryz.call49 (c_numL b [3, 4, 5, 6, 2, 0] (Byts_le (hext1.trans hxq).le hl) hcq J (Nat.le_refl _) (by decide) (by decide) (i64_small (by decide)) (by omega)) J J J J (fun _ => J) ?_;rintro v G' A' ⟨rfl, rfl, m, hmem, rfl⟩ _
 have hm : 0 ≤ m ∧ m ≤ 6 := by (simp only [List.mem_cons, List.not_mem_nil, or_false] at hmem); omega
 obtain ⟨m, rfl⟩ := Int.eq_ofNat_of_zero_le hm.1
 refine Va J J ?_;refine S_loop (α := Nat × Nat × Option Addr × Nat × List Stm × PH) (fun y => y.1 ≤ 6 ∧ y.2.1 + y.1 * kD 3 ≤ N + (1 + 6 * kD 3) ∧ PH.ext w.heap.size G y.2.2.2.2.2 ∧ Sts y.2.2.2.2.2 y.2.2.2.2.1 (.slice y.2.2.1 y.2.2.2.2.1.length y.2.2.2.1) ∧ Sh y.2.2.2.2.1 ∧ stmtsOk y.2.2.2.2.1 = true ∧ y.2.2.2.2.1.length + y.1 ≤ 6) (fun y => y.1) []
  (fun y => [(4, .val (.int .i64 (y.1 : Nat))), (3, .val (.slice y.2.2.1 y.2.2.2.2.1.length y.2.2.2.1)), (0, .val (.pointer (some ⟨b, 0, none⟩)))])
  (fun y => [.hp 1 (rdHP b (.slice A l.length c) y.2.1)]) (fun y => y.2.2.2.2.2) (m, N + 1, A0, 0, [], G') ⟨by simp only; omega, ?_, hext1.trans hxq, Sts_le hxq.le hout, Sh_nil, stmtsOk_nil, by simp only [List.length_nil]; omega⟩ rfl ?_ ?_ ?_
 ·have := Nat.mul_le_mul_right (kD 3) (show m ≤ 6 by omega)
  simp only
  omega
 ·exact ⟨⟨_, J, J⟩, ⟨_, J, J⟩, ⟨_, J, J⟩, trivial⟩
 ·exact .hp .nil
 rintro ⟨i, M, A1, c1, ls, G2⟩ ⟨hi, hM, hext, hst, hsh, hok, hlen⟩
 simp only at hi hM hext hst hsh hok hlen ⊢
 refine Va J J ?_
 refine S_condp J (fun h => ?_) (fun h => ?_) <;> refine Va J J ?_
 ·obtain ⟨j, rfl⟩ : ∃ j, i = j + 1 := ⟨i - 1, by omega⟩
  rw [Nat.succ_mul] at hM
  obtain ⟨A2, c2, xs, e, hxl, hxg, hcs⟩ := sts_cells hst
  cases e
  refine S_emptyO Tk 5 J J J J fun A3 => ?_;refine Va J J ?_;refine S_appO Tk 5 J J J J J J J J J J J (fun _ _ => J) (src_G hxl hxg) (Cs_one Stm.rep_one hcs) (by simp only; omega) (by simp only [maxLen]; omega) (Nat.le_refl _) fun A4 c4 => ?_;refine Va J J ?_;refine S_callM 1 Tryz.call50 ((c_l2Draws_all b l _ 3 (by omega)).1 M (-1) G2 (Byts_le hext.le hl) (by omega)) J J J J (fun _ => J) ?_;rintro v G3 A' ⟨rfl, s, cs, rfl, hrep, hss⟩ hext3
  have hone := Stm.rep_one s cs hrep
  obtain ⟨c0, c1', c2', c3', c4', c5', rfl⟩ := six (Stm.rep_len hrep)
  refine Va J J ?_;refine S_slice Tk ZT_ok J J J J (by decide) (by decide) J J J J fun b2 => ?_;refine Va J J ?_;refine S_app1 Tk 5 19 J J J J J J J J J J J J J J hone J (fun _ _ => J) (by omega) (Nat.le_refl _) fun A5 c5 => ?_;refine Va J J ?_;refine S_freezeR 5 J J (Nat.le_refl _) fun G4 hext4 hnc hcm hcl => ?_
  have hcs2 : Cs 6 (Stm.rep G4) (ls ++ [s]) ([] ++ xs ++ [c0, c1', c2', c3', c4', c5']) := Cs_append (Cs_mono (Stm.reps_le (hext3.trans hext4).le ls) (by simpa using hcs)) (Stm.rep_le hext4.le s _ hrep) rfl
  have hv : Sts G4 (ls ++ [s]) _ := frz hcs2 (by simp) (by omega) hnc hcm hcl
  have hsh2 : Sh (ls ++ [s]) := ⟨by simp; omega, shL_append.2 ⟨hsh.2, hss, trivial⟩⟩
  refine Va J J ?_;refine S_call Tryz.call47 (c_StmtsOk (ls ++ [s]) _ G4 hv) J J J ?_;rintro v G5 ⟨rfl, rfl⟩ _
  refine Va J J ?_
  have hxx := (hext.trans hext3).trans hext4
  refine S_cond J (fun h => ?_) (fun h => ?_) <;> refine Va J J ?_
  ·refine S_subI J J J J (by omega) ?_
   refine Va J J ?_;refine S_again (j, M + kD 3, A5, c5, ls ++ [s], G5) ⟨by simp only; omega, by simp only; omega, hxx, by simpa using hv, hsh2, h, by simp; omega⟩ (by simp only; omega) rfl ⟨⟨_, rfl, by simp [denO]⟩, ⟨_, rfl, by simp [denO]⟩, ⟨_, rfl, rfl⟩, trivial⟩ ?_;exact .drop (.hp .nil)
  ·refine S_subI J J J J (by omega) ?_
   refine Va J J ?_;refine S_again (j, M + kD 3, A1, c1, ls, G5) ⟨by simp only; omega, by simp only; omega, hxx, Sts_le (hext3.trans hext4).le hst, hsh, hok, by simp only; omega⟩ (by simp only; omega) rfl ⟨⟨_, rfl, by simp [denO]⟩, ⟨_, rfl, by simp [denO]⟩, ⟨_, rfl, rfl⟩, trivial⟩ ?_;exact .drop (.hp .nil)
 ·obtain rfl : i = 0 := by omega
  refine S_rdLe 1 (N + (1 + 6 * kD 3)) (by omega) J J ?_;exact S_retm 1 (Res.t1 Tryz.results27 J J) J hext ⟨J, ls, hst, hsh, hok⟩
end
section
section
variable {C : Ctx} {E : Env} {ι : Ids} {L : List Ent} {G : PH} {d : Option Nat} {ty : Nat} {pos : String} {af : Array Edge} {g : Option (Nat × Bool)}
theorem V_gtK {t t' : Nat} {kd : IntKind} {x y : Operand} {p q : Int} (hx : ev E x = some (.val (.int kd p))) (hy : ev E y = some (.val (.int kd q))) : Vl C ι E L G ⟨d, .binOp .gtr t x y t', ty, pos, af, g⟩ (.bool (decide (q < p))) := by
 intro a w hE _
 have ex := ev_sound hE hx
 have ey := ev_sound hE hy
 simp only [denO, Option.some.injEq] at ex ey
 simp only [execOp, ← ex, ← ey]
 simp [eqGuard, binOp, Op.intCmp]
theorem V_sliceLo {T : Tab} (hT : tabOk C.P T) {t e sz sz' m : Nat} {os os' : List Nat} {tk : TK} {x y : Operand} {ad ad' : Addr} {n c : Nat} (ht : lookT t T = some ⟨.slc e, sz', os'⟩) (he : lookT e T = some ⟨tk, sz, os⟩) (hx : ev E x = some (.val (.slice (some ad) n c))) (hy : ev E y = some (.val (.int .i64 (m : Nat)))) (hm : m ≤ n) (hc : m < c) (had : ad' = ad.add (m * sz)) :
  Vl C ι E L G ⟨d, .slice t x (some y) none none, ty, pos, af, g⟩ (.slice (some ad') (n - m) (c - m)) := by
 intro a w hE hw
 have ex := ev_sound hE hx
 have ey := ev_sound hE hy
 simp only [denO, Option.some.injEq] at ex ey
 have hu := tyOk_slice (hT _ _ ht) rfl
 subst had
 simp only [execOp, Option.map_some, Option.map_none, ← ex, ← ey]
 have h1 : (m : Int) ≤ (n : Int) := by omega
 have h2 : ¬ ((m : Int) < 0) := by omega
 have h3 : ¬ (c - m = 0) := by omega
 have h4 : ¬ ((n : Int) < m) := by omega
 have h5 : ¬ (c ≤ m) := by omega
 simp only [Instr.sliceAt, Sem.run_bind, run_underlying hu, Result.andThen_ok]
 simp [Instr.slice, run_underlying hu, Instr.sliceBounds, Instr.sliceBound, asIntOf, tyOk_size (hT _ _ he), h1, h2, h3, h4, h5, hm, show ¬ c = m by omega]
theorem V_sliceHiO {T : Tab} (hT : tabOk C.P T) {t e sz sz' m : Nat} {os os' : List Nat} {tk : TK} {x y : Operand} {ad ad' : Addr} {n c : Nat} (ht : lookT t T = some ⟨.slc e, sz', os'⟩) (he : lookT e T = some ⟨tk, sz, os⟩) (hx : ev E x = some (.val (.slice (some ad) n c))) (hy : ev E y = some (.val (.int .i64 (m : Nat)))) (hm : m ≤ n) (hnc : n ≤ c) (hpos : 0 < c) (had : ad' = ad.add 0) :
  Vl C ι E L G ⟨d, .slice t x none (some y) none, ty, pos, af, g⟩ (.slice (some ad') m c) := by
 intro a w hE hw
 have ex := ev_sound hE hx
 have ey := ev_sound hE hy
 simp only [denO, Option.some.injEq] at ex ey
 have hu := tyOk_slice (hT _ _ ht) rfl
 have had2 := had.symm
 simp only [execOp, Option.map_some, Option.map_none, ← ex, ← ey]
 have h1 : (m : Int) ≤ (n : Int) := by omega
 have h2 : ¬ ((m : Int) < 0) := by omega
 have h3 : ¬ (c = 0) := by omega
 have h4 : (m : Int) ≤ (c : Int) := by omega
 simp only [Instr.sliceAt, Sem.run_bind, run_underlying hu, Result.andThen_ok]
 simp [Instr.slice, run_underlying hu, Instr.sliceBounds, Instr.sliceBound, asIntOf, tyOk_size (hT _ _ he), h1, h2, h3, h4, show m ≤ c by omega, had2]
end
end
section

end
section
theorem run_eqB {P : Program} (w : World) {t : TypeId} (ht : P.underlying t = some .bool) (p q : Bool) : (Op.equal t (.bool p) (.bool q)).run P w = .ok (decide (p = q)) w := by
 have h : ∀ d : Nat, (Op.equalIn (d + 1) t (.bool p) (.bool q)).run P w = .ok (decide (p = q)) w := fun d => by
  cases p <;> cases q <;> simp [Op.equalIn, run_underlying ht]
 simp [Op.equal, Op.maxDepth, h 9999]
section
variable {C : Ctx} {E : Env} {ι : Ids} {L : List Ent} {G : PH} {d : Option Nat} {ty : Nat} {pos : String} {af : Array Edge} {g : Option (Nat × Bool)}
theorem V_eqB {t t' : Nat} {x y : Operand} {p q : Bool} (hg : C.P.eqGuardType C.P.depth t = false) (ht : C.P.underlying t = some .bool) (hx : ev E x = some (.val (.bool p))) (hy : ev E y = some (.val (.bool q))) : Vl C ι E L G ⟨d, .binOp .eql t x y t', ty, pos, af, g⟩ (.bool (decide (p = q))) := by
 intro a w hE hw
 have ex := ev_sound hE hx
 have ey := ev_sound hE hy
 simp only [denO, Option.some.injEq] at ex ey
 simp only [execOp, ← ex, ← ey]
 simp [eqGuard, hg, binOp, run_eqB w ht]
theorem V_neqB {t t' : Nat} {x y : Operand} {p q : Bool} (hg : C.P.eqGuardType C.P.depth t = false) (ht : C.P.underlying t = some .bool) (hx : ev E x = some (.val (.bool p))) (hy : ev E y = some (.val (.bool q))) : Vl C ι E L G ⟨d, .binOp .neq t x y t', ty, pos, af, g⟩ (.bool (!decide (p = q))) := by
 intro a w hE hw
 have ex := ev_sound hE hx
 have ey := ev_sound hE hy
 simp only [denO, Option.some.injEq] at ex ey
 simp only [execOp, ← ex, ← ey]
 simp [eqGuard, hg, binOp, run_eqB w ht]
end
end
section
def tx (l : List UInt8) : Value := .string ⟨l.toArray⟩
theorem ba_append (l m : List UInt8) : ((⟨l.toArray⟩ : ByteArray) ++ ⟨m.toArray⟩) = ⟨(l ++ m).toArray⟩ := by
 apply ByteArray.ext
 show ((⟨l.toArray⟩ : ByteArray) ++ ⟨m.toArray⟩).data = _
 rw [ByteArray.data_append]; simp
section
variable {C : Ctx} {all : Array Oper} {l : List Oper} {k : List It} {E : Env} {ι : Ids} {L : List Ent} {G : PH} {d : Option Nat} {ty : Nat} {pos : String} {af : Array Edge} {g : Option (Nat × Bool)}
theorem V_addT {t t' : Nat} {x y : Operand} {p q : List UInt8} {a b : ByteArray} (hx : ev E x = some (.val (.string a))) (hy : ev E y = some (.val (.string b))) (ha : a = ⟨p.toArray⟩) (hb : b = ⟨q.toArray⟩) (hn : p.length + q.length ≤ 9223372036854775807) : Vl C ι E L G ⟨d, .binOp .add t x y t', ty, pos, af, g⟩ (tx (p ++ q)) := by
 intro a' w hE hw
 have ex := ev_sound hE hx
 have ey := ev_sound hE hy
 simp only [denO, Option.some.injEq] at ex ey
 subst ha hb
 have := run_string_add_sum (P := C.P) (w := w) ⟨p.toArray⟩ ⟨q.toArray⟩ (by simpa [ByteArray.size] using hn)
 simp only [execOp, ← ex, ← ey]
 simp [eqGuard, binOp, this, ba_append, tx]
theorem V_eqT {t t' : Nat} {x y : Operand} {p q : List UInt8} (hg : C.P.eqGuardType C.P.depth t = false) (hx : ev E x = some (.val (tx p))) (hy : ev E y = some (.val (tx q))) : Vl C ι E L G ⟨d, .binOp .eql t x y t', ty, pos, af, g⟩ (.bool (decide (p = q))) := by
 intro a' w hE hw
 have ex := ev_sound hE hx
 have ey := ev_sound hE hy
 simp only [denO, Option.some.injEq, tx] at ex ey
 simp only [execOp, ← ex, ← ey]
 simp [eqGuard, hg, binOp, Op.stringOp]
 by_cases h : p = q <;> simp [h]
theorem V_convT {t t' e : Nat} {x : Operand} {ad : Addr} {c : Nat} {p : List UInt8} (hs : C.P.underlying t = some (.slice e)) (he : C.P.underlying e = some (.int .u8)) (hd : C.P.underlying t' = some .string) (hx : ev E x = some (.val (.slice (some ad) p.length c))) (hc : ∀ j (hj : j < p.length), gcell G (ad.add j) = some (.int .u8 (p[j].toNat : Int))) : Vl C ι E L G ⟨d, .convert t t' x, ty, pos, af, g⟩ (tx p) := by
 intro a w hE hw
 have ex := ev_sound hE hx
 simp only [denO, Option.some.injEq] at ex
 have := run_convert_bytes_back (P := C.P) w t t' e ad c p hs he hd fun j hj => gcell_emb hw.emb (hc j hj)
 simp only [execOp, ← ex]
 simp [this, tx]
end
section
variable {C : Ctx} {all : Array Oper} {l : List Oper} {k : List It} {E : Env} {ι : Ids} {L : List Ent} {G : PH}
end
end
section
section
variable {C : Ctx} {ks : List Nat} {all : Array Oper} {k : List It} {E : Env} {ι : Ids} {L : List Ent} {G : PH} {R : List Nat} {pend l : List Pd}
theorem N_turnV (j : Nat) {o : Oper} {R' : List Nat} {pend' : List Pd} {E' : Env} (ho : nthOp j all.toList = some o) (hR : strN (remN j R) = some R') (hp' : strP (dropP (edgeN o.after.toList) pend) = some pend') (hE : strE (penv (takeP (edgeN o.after.toList) pend) ++ E) = some E')
  (hx : (∀ (E'' : Env) (ι' : Ids) (L' : List Ent) (G' : PH), (∀ p ∈ pend', PdOk C ks all E'' ι' L' G' pend' p) → D C ks all k R' pend' E'' ι' L' G' → X C (.ops all [] :: .stop (DR C all k R' pend') :: k) E'' ι' L' G') →
   X C (.ops all [o] :: .stop (DR C all k R' pend') :: k) E' ι L G) : Nx C ks all k R pend E ι L G j := by
 refine N_eff j ho hR hp' hE fun hok hp hdis => hx fun E'' ι' L' G' hrc h => ?_
 intro a w h1 h2 h3 h4
 refine wpE_nil (h hok hrc ?_ _ _ h1 h2 h3 h4)
 intro p hpm hR'
 have hp' := strP_eq hp'
 have hR := strN_eq hR
 rw [dropP_eq] at hp'
 rw [remN_eq] at hR
 subst hp' hR
 exact hdis p (List.mem_filter.1 hpm).1 (List.mem_filter.1 hR').1
theorem pk_all {T : Tab} (hT : tabOk C.P T) (h : rechk ks T C.n ι all L (penv pend ++ E) E l = some l) : ∀ p ∈ l, PdOk C ks all E ι L G pend p := rechk_sound hT rfl _ _ h
theorem pk_val {q : Pd} {l : List Pd} {d : Nat} {op : Op} {ty : Nat} {pos : String} {af : Array Edge} {g : Option (Nat × Bool)} {s : Sym} {v : Value} (ho : nthOp q.i all.toList = some ⟨some d, op, ty, pos, af, g⟩) (hd : some d = some q.d) (hN : Nat.ble (q.d + 1) C.n = true) (hf : look q.d E = none) (hks : memN q.d ks = false) (hsv : q.sv = some (s, v)) (hden : denO ι s = some v)
  (hg : guardOf all (penv pend ++ E) g = .on) (hV : Vl C ι (penv pend ++ E) L G ⟨some d, op, ty, pos, af, g⟩ v) (hl : ∀ p ∈ l, PdOk C ks all E ι L G pend p) : ∀ p ∈ q :: l, PdOk C ks all E ι L G pend p := fun p hp => by
 rcases List.mem_cons.1 hp with rfl | hp
 ·refine ⟨_, by simpa using nthOp_eq ho, hd, Nat.le_of_ble_eq_true hN, hf, memN_false hks, ?_⟩
  rw [hsv]
  exact ⟨hden, hg, hV⟩
 ·exact hl p hp
end
section
variable {C : Ctx} {E : Env} {ι : Ids} {L : List Ent} {G : PH} {d : Option Nat} {ty : Nat} {pos : String} {af : Array Edge} {g : Option (Nat × Bool)}
theorem V_addS {t t' : Nat} {x y : Operand} {a b : ByteArray} (hx : ev E x = some (.val (.string a))) (hy : ev E y = some (.val (.string b))) (hn : a.size + b.size ≤ 9223372036854775807) : Vl C ι E L G ⟨d, .binOp .add t x y t', ty, pos, af, g⟩ (.string (a ++ b)) := by
 intro a' w hE hw
 have ex := ev_sound hE hx
 have ey := ev_sound hE hy
 simp only [denO, Option.some.injEq] at ex ey
 have := run_string_add_sum (P := C.P) (w := w) a b hn
 simp only [execOp, ← ex, ← ey]
 simp [eqGuard, binOp, this]
end
end
section
section
variable {C : Ctx} {E : Env} {ι : Ids} {L : List Ent} {G : PH} {d : Option Nat} {ty : Nat} {pos : String} {af : Array Edge} {g : Option (Nat × Bool)}
theorem V_sliceLoG {T : Tab} (hT : tabOk C.P T) {t e sz sz' m : Nat} {os os' : List Nat} {tk : TK} {x y : Operand} {ad ad' : Addr} {n c : Nat} (ht : lookT t T = some ⟨.slc e, sz', os'⟩) (he : lookT e T = some ⟨tk, sz, os⟩) (hx : ev E x = some (.val (.slice (some ad) n c))) (hy : ev E y = some (.val (.int .i64 (m : Nat)))) (hm : m ≤ n) (hc : n ≤ c) (had : ad' = if m = c then ad else ad.add (m * sz)) :
    Vl C ι E L G ⟨d, .slice t x (some y) none none, ty, pos, af, g⟩ (.slice (some ad') (n - m) (c - m)) := by
  intro a w hE hw
  have ex := ev_sound hE hx
  have ey := ev_sound hE hy
  simp only [denO, Option.some.injEq] at ex ey
  have hu := tyOk_slice (hT _ _ ht) rfl
  subst had
  simp only [execOp, Option.map_some, Option.map_none, ← ex, ← ey]
  have h1 : (m : Int) ≤ (n : Int) := by omega
  have h2 : ¬ ((m : Int) < 0) := by omega
  have h4 : ¬ ((n : Int) < m) := by omega
  simp only [Instr.sliceAt, Sem.run_bind, run_underlying hu, Result.andThen_ok]
  by_cases hmc : m = c
  · subst hmc
    obtain rfl : n = m := by omega
    simp [Instr.slice, run_underlying hu, Instr.sliceBounds, Instr.sliceBound, asIntOf, tyOk_size (hT _ _ he), h2]
  · have h3 : ¬ (c - m = 0) := by omega
    have h5 : ¬ (c ≤ m) := by omega
    simp [Instr.slice, run_underlying hu, Instr.sliceBounds, Instr.sliceBound, asIntOf, tyOk_size (hT _ _ he), h1, h2, h3, h4, h5, hm, show ¬ c = m by omega, hmc]
theorem V_add1N {x y : Operand} {t t' : Nat} {m : Nat} (hx : ev E x = some (.val (.int .i64 (m : Nat)))) (hy : ev E y = some (.val (.int .i64 1))) (hb : m ≤ 1000000000) : Vl C ι E L G ⟨d, .binOp .add t x y t', ty, pos, af, g⟩ (.int .i64 ((m + 1 : Nat) : Int)) := by
  have h : Vl C ι E L G ⟨d, .binOp .add t x y t', ty, pos, af, g⟩ (.int .i64 ((m : Int) + 1)) := V_add hx hy (by omega)
  rwa [show ((m : Int) + 1) = ((m + 1 : Nat) : Int) by omega] at h
end
attribute [local irreducible] X Pure Mod Vl
theorem code_split {c : List Ins} {k : Nat} {G : PH} {a : Addr} (h : gcells G a (codeC c)) (hk : k ≤ c.length) : gcells G a (codeC (c.take k)) ∧ gcells G (a.add (k * 4)) (codeC (c.drop k)) := by
  have h1 : codeC c = codeC (c.take k) ++ codeC (c.drop k) := by rw [← codeC_app, List.take_append_drop]
  rw [h1] at h
  have h2 := gcells_append h
  rw [codeC_len, List.length_take, Nat.min_eq_left hk] at h2
  exact h2
theorem code_drop {c : List Ins} {k n : Nat} {G : PH} {a : Addr} (h : gcells G a (codeC c)) (hk : k ≤ c.length) (hn : c.length ≤ n) : c.length - k = 0 ∨ ∃ ad, some (if k = n then a else a.add (k * 4)) = some ad ∧ gcells G ad (codeC (c.drop k)) := by
  by_cases h0 : c.length - k = 0
  · exact .inl h0
  · rw [if_neg (by omega)]
    exact .inr ⟨_, J, (code_split h hk).2⟩
theorem codeC_drop_len {c : List Ins} {k : Nat} : (codeC (c.drop k)).length = (c.length - k) * 4 := by rw [codeC_len, List.length_drop]
theorem codeC_take_len {c : List Ins} {k : Nat} (h : k ≤ c.length) : (codeC (c.take k)).length = k * 4 := by rw [codeC_len, List.length_take, Nat.min_eq_left h]
theorem c_l4Bent (b : Nat) (l : List Int) (sv : Value) (c : List Ins) (cv : Value) (N : Nat) (G : PH) (hl : Byts G l sv) (hc : InsG G c cv) (hlen : c.length ≤ 1000) (hN : N + 4 ≤ 1000000000) : Drw 32 b sv [cv] N 4 G (CodeM 3000) := by
  obtain ⟨A, cb, rfl, hl1, _⟩ := id hl
  obtain ⟨Ac, nc, rfl, hxl, hxg, h4⟩ := ins_cells hc
  refine Mod.intro Tryz.func32 Tryz.ntmps32 J J fun w S => ?_;refine Va J J ?_;refine S_emptyO Tk 5 J J J J fun A0 => ?_;refine Va J J ?_;refine S_appO Tk 5 J J J J J J J J J J J (fun _ _ => J) (src_G hxl hxg) (codeC_one _) (by simp only; omega) (by simp only [maxLen]; omega) (Nat.le_refl _) fun A4 c4 => ?_
  rw [List.nil_append, Nat.zero_add]
  refine Va J J ?_
  refine S_guardp J J (fun h0 => ?_) (fun h0 => ?_) <;> refine Va J J ?_
  · refine S_freezeR 5 J J (Nat.le_refl _) fun Gf hextf hncf hcmf hclf => ?_
    refine S_rdLe 1 (N + 4) (by omega) J J ?_;exact S_retm 1 (Res.t1 Tryz.results32 J J) J hextf ⟨J, c, frz (xs := _) (Cs_codeC h4) J (by omega) hncf hcmf hclf, by first | omega | (rw [List.length_set]; omega)⟩
  refine S_callM 1 Tryz.call28 (c_pick b l _ _ N G hl ⟨by omega, by omega⟩ (by omega)) J J J J (fun _ => J) ?_;rintro v G2 A' ⟨rfl, rfl, k0, rfl, hk00, hk01⟩ _
  refine Va J J ?_
  refine S_condp J (fun h1 => ?_) (fun h1 => ?_) <;> refine Va J J ?_
  · refine S_freezeR 5 J J (Nat.le_refl _) fun Gf hextf hncf hcmf hclf => ?_
    refine S_rdLe 1 (N + 4) (by omega) J J ?_;exact S_retm 1 (Res.t1 Tryz.results32 J J) J hextf ⟨J, c, frz (xs := _) (Cs_codeC h4) J (by omega) hncf hcmf hclf, by first | omega | (rw [List.length_set]; omega)⟩
  refine S_callM 1 Tryz.call28 (c_pick b l _ _ _ _ hl ⟨by omega, by omega⟩ (by omega)) J J J J (fun _ => J) ?_;rintro v G2 A' ⟨rfl, rfl, k, rfl, hk0, hk1⟩ _
  refine Va J J ?_;refine S_callM 1 Tryz.call28 (c_pick b l _ _ _ _ hl ⟨by omega, by omega⟩ (by omega)) J J J J (fun _ => J) ?_;rintro v G2 A' ⟨rfl, rfl, m, rfl, hm0, hm1⟩ _
  obtain ⟨k, rfl⟩ := Int.eq_ofNat_of_zero_le hk0
  have hkl : k < c.length := by omega
  refine S_capO 5 J fun hnc4 hcm4 _ => ?_;refine S_someO 5 J (by omega) fun g off eA => ?_
  subst eA
  obtain ⟨cs, hcsd, hcsl, hrep, hset⟩ := Cs_at (Cs_codeC h4) hkl
  have hto : ((k : Int).toNat : Nat) = k := by omega
  generalize hs : c[k] = i0 at hrep
  have hi4 := hrep.2
  replace hrep := hrep.1
  subst hrep
  refine Va J J ?_
  refine S_condp J (fun h => ?_) (fun h => ?_) <;> refine Va J J ?_
  · refine S_sliceG Tk ZT_ok J J J J (by decide) (by decide) J J J J (fun _ => J) fun bq Gq hxq hcq => ?_
    refine Va J J ?_;refine S_callM 1 Tryz.call49 (c_numL b [0, 14, 8, 9, 10, 13, -1] (Byts_le hxq.le hl) hcq J (Nat.le_refl _) (by decide) (by decide) (i64_small (by decide)) (by omega)) J J J J (fun _ => J) ?_;rintro v G' A' ⟨rfl, rfl, m1, hmem1, rfl⟩ _
    have hi1 : I64 m1 := i64_small (l := [0, 14, 8, 9, 10, 13, -1]) (by decide) m1 hmem1
    refine Va J J ?_;refine S_index Tk J J J J J J (by omega) (by omega) ?_;refine Va J J ?_;refine S_storeO Tk 5 (o := k * 4 + 0) J J J (by simp [add_lit', Nat.add_assoc]) J J J J J (by rw [codeC_len]; omega) rfl ?_;refine Va J J ?_
    have hset2 := hset 0 (.int .i64 m1) ⟨m1, i0.a, i0.b, i0.n⟩ (by omega) ⟨rfl, ⟨hi1, hi4.2⟩⟩
    obtain ⟨hse, hs4⟩ := Cs_codeC_eq hset2
    rw [hse]
    refine S_freezeR 5 J J (Nat.le_refl _) fun Gf hextf hncf hcmf hclf => ?_;refine S_rdLe 1 (N + 4) (by omega) J J ?_;exact S_retm 1 (Res.t1 Tryz.results32 J J) J (hxq.trans hextf) ⟨J, (c.set k ⟨m1, i0.a, i0.b, i0.n⟩), frz (xs := _) (Cs_codeC hs4) (by rw [List.length_set]) (by omega) hncf hcmf hclf, by first | omega | (rw [List.length_set]; omega)⟩
  refine S_condp J (fun h => ?_) (fun h => ?_) <;> refine Va J J ?_
  · refine S_sliceG Tk ZT_ok J J J J (by decide) (by decide) J J J J (fun _ => J) fun bq Gq hxq hcq => ?_
    refine Va J J ?_;refine S_callM 1 Tryz.call49 (c_numL b [-1, 2, 3, 0] (Byts_le hxq.le hl) hcq J (Nat.le_refl _) (by decide) (by decide) (i64_small (by decide)) (by omega)) J J J J (fun _ => J) ?_;rintro v G' A' ⟨rfl, rfl, m1, hmem1, rfl⟩ _
    have hi1 : I64 m1 := i64_small (l := [-1, 2, 3, 0]) (by decide) m1 hmem1
    refine Va J J ?_;refine S_index Tk J J J J J J (by omega) (by omega) ?_;refine Va J J ?_;refine S_storeO Tk 5 (o := k * 4 + 1) J J J (by simp [add_lit', Nat.add_assoc]) J J J J J (by rw [codeC_len]; omega) rfl ?_;refine Va J J ?_
    have hset2 := hset 1 (.int .i64 m1) ⟨i0.op, m1, i0.b, i0.n⟩ (by omega) ⟨rfl, ⟨hi4.1, hi1, hi4.2.2⟩⟩
    obtain ⟨hse, hs4⟩ := Cs_codeC_eq hset2
    rw [hse]
    refine S_freezeR 5 J J (Nat.le_refl _) fun Gf hextf hncf hcmf hclf => ?_;refine S_rdLe 1 (N + 4) (by omega) J J ?_;exact S_retm 1 (Res.t1 Tryz.results32 J J) J (hxq.trans hextf) ⟨J, (c.set k ⟨i0.op, m1, i0.b, i0.n⟩), frz (xs := _) (Cs_codeC hs4) (by rw [List.length_set]) (by omega) hncf hcmf hclf, by first | omega | (rw [List.length_set]; omega)⟩
  refine S_condp J (fun h => ?_) (fun h => ?_) <;> refine Va J J ?_
  · refine S_subI J J J J (by omega) ?_
    refine Va J J ?_
    have hq64 : ∀ x ∈ [-1, 0, (c.length : Int), (c.length : Int) - 1, 5], I64 x := by
      intro x hx
      simp only [List.mem_cons, List.not_mem_nil, or_false] at hx
      rcases hx with rfl | rfl | rfl | rfl | rfl <;> exact ⟨by omega, by omega⟩
    refine S_sliceG Tk ZT_ok J J J J (by decide) (by decide) J J J J (fun _ => J) fun bq Gq hxq hcq => ?_;refine Va J J ?_;refine S_callM 1 Tryz.call49 (c_numL b [-1, 0, (c.length : Int), (c.length : Int) - 1, 5] (Byts_le hxq.le hl) hcq J (Nat.le_refl _) (by simp [maxLen]) ⟨by simp, by simp⟩ hq64 (by omega)) J J J J (fun _ => J) ?_;rintro v G' A' ⟨rfl, rfl, m1, hmem1, rfl⟩ _
    have hi1 : I64 m1 := hq64 m1 hmem1
    refine Va J J ?_;refine S_index Tk J J J J J J (by omega) (by omega) ?_;refine Va J J ?_;refine S_storeO Tk 5 (o := k * 4 + 3) J J J (by simp [add_lit', Nat.add_assoc]) J J J J J (by rw [codeC_len]; omega) rfl ?_;refine Va J J ?_
    have hset2 := hset 3 (.int .i64 m1) ⟨i0.op, i0.a, i0.b, m1⟩ (by omega) ⟨rfl, hi4.1, hi4.2.1, hi4.2.2.1, hi1⟩
    obtain ⟨hse, hs4⟩ := Cs_codeC_eq hset2
    rw [hse]
    refine S_freezeR 5 J J (Nat.le_refl _) fun Gf hextf hncf hcmf hclf => ?_;refine S_rdLe 1 (N + 4) (by omega) J J ?_;exact S_retm 1 (Res.t1 Tryz.results32 J J) J (hxq.trans hextf) ⟨J, (c.set k ⟨i0.op, i0.a, i0.b, m1⟩), frz (xs := _) (Cs_codeC hs4) (by rw [List.length_set]) (by omega) hncf hcmf hclf, by first | omega | (rw [List.length_set]; omega)⟩
  refine S_freezeR 5 J J (Nat.le_refl _) fun Gf hextf hncf hcmf hclf => ?_
  have hcf : InsG Gf c _ := frz (Cs_codeC h4) rfl (by omega) hncf hcmf hclf
  obtain ⟨_, _, e, _, hgf, _⟩ := ins_cells hcf
  cases e
  obtain ⟨af, e, hgf⟩ := hgf.resolve_left (by omega)
  cases e
  obtain ⟨hgt, hgd⟩ := code_split hgf (Nat.le_of_lt hkl)
  have hgi : gcells Gf ((⟨g, off, none⟩ : Addr).add (k * 4)) (insC i0) := by
    have e : codeC (c.drop k) = insC i0 ++ codeC (c.drop (k + 1)) := by rw [List.drop_eq_getElem_cons hkl, hs]; rfl
    rw [e] at hgd
    exact (gcells_append hgd).1
  have hd4 : ∀ j, ∀ i ∈ c.drop j, I4 i := fun j i hi => h4 i (List.mem_of_mem_drop hi)
  have ht4 : ∀ i ∈ c.take k, I4 i := fun i hi => h4 i (List.mem_of_mem_take hi)
  refine S_condp J (fun h => ?_) (fun h => ?_) <;> refine Va J J ?_
  · refine S_valV J J J (V_sliceHiO (m := k) (ad' := ⟨g, off, none⟩) Tk J J J J (by omega) (by omega) (by omega) (by rw [add_zero'])) ?_
    refine Va J J ?_;refine S_rdLe 1 (N + 4) (by omega) J J ?_;refine S_retm 1 (Res.t1 Tryz.results32 J J) J hextf ⟨J, c.take k, ?_, by rw [List.length_take]; omega⟩
    exact Sx_Sr ⟨some ⟨g, off, none⟩, c4, J, by omega, by omega, hcmf, codeC_take_len (Nat.le_of_lt hkl), .inr ⟨_, J, hgt⟩⟩ (by rw [List.length_take]; omega) (Cs_codeC ht4)
  refine S_condp J (fun h => ?_) (fun h => ?_) <;> refine Va J J ?_
  · refine Ds J J J ?_
    refine Da J J ?_;refine D_val 3 J J J J J J J J J (V_sliceHiO (m := k) (ad' := ⟨g, off, none⟩) Tk J J J J (by omega) (by omega) (by omega) (by rw [add_zero'])) ?_;refine D_val 7 J J J J J J J J J (V_index Tk J J J J (by omega) (by omega)) ?_;refine D_val 13 J J J J J J J J J (V_sliceLoG (m := k) Tk J J J J (by omega) (by omega) J) ?_
    repeat' (first
      | exact trivial
      | refine D_list J ?_
      | refine And.intro ?_ ?_
      | (refine N_turnV 0 J J J J fun back => ?_
         refine S_emptyO Tk 5 J J J J fun A5 => ?_;refine back _ _ _ _ ?_ ?_
         · clear back
           repeat' first
             | refine pk_val J J J J J J J J (V_sliceLoG Tk J J J J (by omega) (by omega) J) ?_
             | refine pk_val J J J J J J J J (V_index Tk J J J J (by omega) (by omega)) ?_
             | refine pk_val J J J J J J J J (V_sliceHiO Tk J J J J (by omega) (by omega) (by omega) (by rw [add_zero'])) ?_
             | exact pk_all Tk (by kernel_rfl)
         clear back
         refine Da J J ?_
         skip)
      | (refine N_turnV 8 J J J J fun back => ?_
         refine S_loadA (cs := [.int .i64 i0.op, .int .i64 i0.a, .int .i64 i0.b, .int .i64 i0.n]) Tk J J J J J (by rw [hto]; exact hgi) ?_;refine back _ _ _ _ ?_ ?_
         · clear back
           repeat' first
             | refine pk_val J J J J J J J J (V_sliceLoG Tk J J J J (by omega) (by omega) J) ?_
             | refine pk_val J J J J J J J J (V_index Tk J J J J (by omega) (by omega)) ?_
             | refine pk_val J J J J J J J J (V_sliceHiO Tk J J J J (by omega) (by omega) (by omega) (by rw [add_zero'])) ?_
             | exact pk_all Tk (by kernel_rfl)
         clear back
         refine Da J J ?_
         skip)
      | (refine N_turnV 9 J J J J fun back => ?_
         refine S_slice Tk ZT_ok J J J J (by decide) (by decide) J J J J fun b83 => ?_;refine back _ _ _ _ ?_ ?_
         · clear back
           repeat' first
             | refine pk_val J J J J J J J J (V_sliceLoG Tk J J J J (by omega) (by omega) J) ?_
             | refine pk_val J J J J J J J J (V_index Tk J J J J (by omega) (by omega)) ?_
             | refine pk_val J J J J J J J J (V_sliceHiO Tk J J J J (by omega) (by omega) (by omega) (by rw [add_zero'])) ?_
             | exact pk_all Tk (by kernel_rfl)
         clear back
         refine Da J J ?_
         skip)
      | (refine N_turnV 4 J J J J fun back => ?_
         refine S_appO Tk 5 J J J J J J J J J J J (fun _ _ => J) (src_G (codeC_take_len (Nat.le_of_lt hkl)) (.inr ⟨_, J, hgt⟩)) (codeC_one _) (by simp only; omega) (by simp only [maxLen]; omega) (Nat.le_refl _) fun A6 c6 => ?_;refine back _ _ _ _ ?_ ?_
         · clear back
           repeat' first
             | refine pk_val J J J J J J J J (V_sliceLoG Tk J J J J (by omega) (by omega) J) ?_
             | refine pk_val J J J J J J J J (V_index Tk J J J J (by omega) (by omega)) ?_
             | refine pk_val J J J J J J J J (V_sliceHiO Tk J J J J (by omega) (by omega) (by omega) (by rw [add_zero'])) ?_
             | exact pk_all Tk (by kernel_rfl)
         clear back
         refine Da J J ?_
         skip)
      | (refine N_turnV 10 J J J J fun back => ?_
         refine S_app1 Tk 5 83 J J J J J J J J J J J J J J (by intro u hu; simp at hu; rcases hu with rfl | rfl | rfl | rfl <;> rfl) rfl (fun _ _ => rfl) (by omega) (Nat.le_refl _) fun A7 c7 => ?_
         refine back _ _ _ _ ?_ ?_
         · clear back
           repeat' first
             | refine pk_val J J J J J J J J (V_sliceLoG Tk J J J J (by omega) (by omega) J) ?_
             | refine pk_val J J J J J J J J (V_index Tk J J J J (by omega) (by omega)) ?_
             | refine pk_val J J J J J J J J (V_sliceHiO Tk J J J J (by omega) (by omega) (by omega) (by rw [add_zero'])) ?_
             | exact pk_all Tk (by kernel_rfl)
         clear back
         refine Da J J ?_
         skip)
      | (refine N_turnV 14 J J J J fun back => ?_
         refine S_appO Tk 5 J J J J J J J J J J J (fun _ _ => J) (src_G codeC_drop_len (code_drop hgf (Nat.le_of_lt hkl) hncf)) (codeC_one _) (by simp only; omega) (by simp only [maxLen]; omega) (Nat.le_refl _) fun A8 c8 => ?_;refine back _ _ _ _ ?_ ?_
         · clear back
           repeat' first
             | refine pk_val J J J J J J J J (V_sliceLoG Tk J J J J (by omega) (by omega) J) ?_
             | refine pk_val J J J J J J J J (V_index Tk J J J J (by omega) (by omega)) ?_
             | refine pk_val J J J J J J J J (V_sliceHiO Tk J J J J (by omega) (by omega) (by omega) (by rw [add_zero'])) ?_
             | exact pk_all Tk (by kernel_rfl)
         clear back
         refine Da J J ?_
         skip)
      | fail)
    all_goals (refine DD ?_)
    all_goals refine S_adv Tk rfl 1000 rfl ?_
    all_goals (
      have hall : ∀ i ∈ [] ++ c.take k ++ [i0] ++ c.drop k, I4 i := by
        intro i hi
        simp only [List.nil_append, List.mem_append, List.mem_cons, List.not_mem_nil, or_false] at hi
        rcases hi with (hi | rfl) | hi
        · exact ht4 i hi
        · exact hi4
        · exact hd4 k i hi
      refine S_freezeR 5 J J (Nat.le_refl _) fun Gg hextg hncg hcmg hclg => ?_;refine S_rdLe 1 (N + 4) (by omega) J J ?_;refine S_retm 1 (Res.t1 Tryz.results32 J J) J (hextf.trans hextg) ⟨J, [] ++ c.take k ++ [i0] ++ c.drop k, frz (xs := _) (by have := Cs_codeC hall; simp only [codeC_app] at this; exact this) (by simp only [List.length_append, List.length_cons, List.length_nil, List.length_take, List.length_drop]; omega) (by omega) hncg hcmg hclg, by simp only [List.length_append, List.length_cons, List.length_nil, List.length_take, List.length_drop]; omega⟩)
  · refine Ds J J J ?_
    refine Da J J ?_;refine D_val 3 J J J J J J J J J (V_sliceHiO (m := k) (ad' := ⟨g, off, none⟩) Tk J J J J (by omega) (by omega) (by omega) (by rw [add_zero'])) ?_;refine D_val 7 J J J J J J J J J (V_add1N (m := k) J J (by omega)) ?_;refine D_val 8 J J J J J J J J J (V_sliceLoG (m := k + 1) Tk J J J J (by omega) (by omega) J) ?_;refine D_sole 0 J J (N_turnV 0 J J J J fun back => ?_)
    refine S_emptyO Tk 5 J J J J fun A5 => ?_;refine back _ _ _ _ ?_ ?_
    · clear back
      repeat' first
        | refine pk_val J J J J J J J J (V_sliceLoG Tk J J J J (by omega) (by omega) J) ?_
        | refine pk_val J J J J J J J J (V_add1N J J (by omega)) ?_
        | refine pk_val J J J J J J J J (V_sliceHiO Tk J J J J (by omega) (by omega) (by omega) (by rw [add_zero'])) ?_
        | exact pk_all Tk (by kernel_rfl)
    clear back
    refine Da J J ?_;refine D_sole 4 J J (N_turnV 4 J J J J fun back => ?_)
    refine S_appO Tk 5 J J J J J J J J J J J (fun _ _ => J) (src_G (codeC_take_len (Nat.le_of_lt hkl)) (.inr ⟨_, J, hgt⟩)) (codeC_one _) (by simp only; omega) (by simp only [maxLen]; omega) (Nat.le_refl _) fun A6 c6 => ?_;refine back _ _ _ _ ?_ ?_
    · clear back
      repeat' first
        | refine pk_val J J J J J J J J (V_sliceLoG Tk J J J J (by omega) (by omega) J) ?_
        | refine pk_val J J J J J J J J (V_add1N J J (by omega)) ?_
        | refine pk_val J J J J J J J J (V_sliceHiO Tk J J J J (by omega) (by omega) (by omega) (by rw [add_zero'])) ?_
        | exact pk_all Tk (by kernel_rfl)
    clear back
    refine Da J J ?_;refine D_sole 9 J J (N_turnV 9 J J J J fun back => ?_)
    refine S_appO Tk 5 J J J J J J J J J J J (fun _ _ => J) (src_G codeC_drop_len (code_drop hgf hkl hncf)) (codeC_one _) (by simp only; omega) (by simp only [maxLen]; omega) (Nat.le_refl _) fun A8 c8 => ?_;refine back _ _ _ _ ?_ ?_
    · clear back
      repeat' first
        | refine pk_val J J J J J J J J (V_sliceLoG Tk J J J J (by omega) (by omega) J) ?_
        | refine pk_val J J J J J J J J (V_add1N J J (by omega)) ?_
        | refine pk_val J J J J J J J J (V_sliceHiO Tk J J J J (by omega) (by omega) (by omega) (by rw [add_zero'])) ?_
        | exact pk_all Tk (by kernel_rfl)
    clear back
    refine Da J J ?_;refine DD ?_;refine Va J J ?_
    have hall : ∀ i ∈ [] ++ c.take k ++ c.drop (k + 1), I4 i := by
      intro i hi
      simp only [List.nil_append, List.mem_append] at hi
      rcases hi with hi | hi
      · exact ht4 i hi
      · exact hd4 _ i hi
    refine S_freezeR 5 J J (Nat.le_refl _) fun Gg hextg hncg hcmg hclg => ?_;refine S_rdLe 1 (N + 4) (by omega) J J ?_;exact S_retm 1 (Res.t1 Tryz.results32 J J) J (hextf.trans hextg) ⟨J, [] ++ c.take k ++ c.drop (k + 1), frz (xs := _) (by have := Cs_codeC hall; simp only [codeC_app] at this; exact this) (by simp only [List.length_append, List.length_cons, List.length_nil, List.length_take, List.length_drop]; omega) (by omega) hncg hcmg hclg, by simp only [List.length_append, List.length_cons, List.length_nil, List.length_take, List.length_drop]; omega⟩
end
section
attribute [local irreducible] X Pure Mod
theorem c_l11Open (l : List Int) (cv : Value) (G : PH) (hl : Byts G l cv) : Mod Tryz.prog 25 [cv] G emptyHP fun v G' A' => ∃ b sv l', v = .pointer (some ⟨b, 0, none⟩) ∧ A' = rdHP b sv 0 ∧ Byts G l' sv ∧ G' = G := by
 obtain ⟨A, c, rfl, hl1, hl2, hl3, hl4⟩ := id hl
 refine Mod.intro Tryz.func25 Tryz.ntmps25 J J fun w S => ?_;refine Va J J ?_
 refine S_condp J (fun h => ?_) (fun h => ?_) <;> refine Va J J ?_
 ·refine S_valV J J J (V_sliceHi (m := 2000) Tk J J J (by omega) hl2 (by omega)) ?_
  refine Va J J ?_;refine S_box J J J J J fun b => ?_;refine Va J J ?_
  have hl5 : Byts G (l.take 2000) (.slice (A.map (·.add 0)) 2000 c) := by
   refine ⟨_, _, by rw [List.length_take, Nat.min_eq_left (by omega)], by rw [List.length_take]; omega, by rw [List.length_take]; omega, hl3, ?_⟩
   rcases hl4 with hl4 | ⟨ad, rfl, hr⟩
   ·omega
   ·exact .inr ⟨ad, by simp [add_zero'], Rw_take 2000 hr⟩
  exact RK [10] (Res.t1 Tryz.results25 J J) ⟨b, _, _, J, J, hl5, J⟩ ⟨0, Nat.le_refl _, J, J⟩ J (.blk J J .nil) XR
 ·refine S_box J J J J J fun b => ?_
  refine Va J J ?_;exact RK [10] (Res.t1 Tryz.results25 J J) ⟨b, _, _, J, J, hl, J⟩ ⟨0, Nat.le_refl _, J, J⟩ J (.blk J J .nil) XR
end
section
attribute [local irreducible] X Pure Mod
theorem c_drawCodeK (K : Nat) (hK : K + 10 ≤ 1000000000) (l : List Int) (cv : Value) (G : PH) (hl : Byts G l cv) (h1 : ∀ b l' sv G', Byts G' l' sv → Drw 27 b sv [] 0 K G' someV) : Pure Tryz.prog 13 [cv] G (CodeM 3000) := by
 obtain ⟨Ac, cc, rfl, _⟩ := id hl
 refine Pure.intro Tryz.func13 Tryz.ntmps13 J J fun w => ?_; refine Va J J ?_;refine S_callN 1 Tryz.call25 (c_l11Open l _ G hl) J J J ?_;rintro v1 G1 A1 ⟨b, sv, l', rfl, rfl, hl', rfl⟩ hext1
 refine S_newHP 1 J J ?_;refine Va J J ?_;refine S_callM 1 Tryz.call27 (h1 b l' sv _ hl') J J J J (fun _ => J) ?_;rintro v2 G2 A2 ⟨rfl, L, hst, hsh, hok⟩ hext2
 obtain ⟨A3, c3, rfl, _⟩ := id hst
 refine Va J J ?_;refine S_call Tryz.call26 (c_CodeOf L _ G2 hst hsh) J J J ?_;rintro v3 G3 ⟨c, hc, hcl⟩ hext3
 obtain ⟨A4, c4, rfl, _⟩ := id hc
 refine Va J J ?_;refine S_callM 1 Tryz.call32 (c_l4Bent b l' sv c _ (0 + K) G3 (Byts_le (hext2.trans hext3).le hl') hc (by omega) (by omega)) J J J J (fun _ => J) ?_;rintro v4 G4 A5 ⟨rfl, c', hc', hcl'⟩ hext4
 obtain ⟨A6, c6, rfl, _⟩ := id hc'
 refine Va J J ?_;exact S_retp (Res.t1 Tryz.results13 J J) (((hext1.trans hext2).trans hext3).trans hext4) ⟨c', hc', hcl'⟩
theorem c_DrawCodeOk (l : List Int) (cv : Value) (G : PH) (hl : Byts G l cv) : Pure Tryz.prog 13 [cv] G (CodeM 3000) :=
 c_drawCodeK (1 + 6 * kD 3) (by decide) l cv G hl fun b l' sv G' h => c_l2Some b l' sv 0 G' h (by decide)
theorem c_DrawCodeText (l : List Int) (cv : Value) (G : PH) (hl : Byts G l cv) : Pure Tryz.prog 4 [cv] G (CodeM 3000) := by
 obtain ⟨Ac, cc, rfl, _⟩ := id hl
 refine Pure.intro Tryz.func4 Tryz.ntmps4 J J fun w => ?_; refine Va J J ?_;refine S_call Tryz.call13 (c_DrawCodeOk l _ G hl) J J J ?_;rintro v3 G3 ⟨c, hc, hcl⟩ hext3
 obtain ⟨A4, c4, rfl, _⟩ := id hc
 refine Va J J ?_;exact S_retp (Res.t1 Tryz.results4 J J) hext3 ⟨c, hc, hcl⟩
end
section
section
variable {C : Ctx} {E : Env} {ι : Ids} {L : List Ent} {G : PH} {d : Option Nat} {ty : Nat} {pos : String} {af : Array Edge} {g : Option (Nat × Bool)}
theorem ba_size (l : List UInt8) : (ByteArray.mk l.toArray).size = l.length := by simp [ByteArray.size]
theorem ba_get (l : List UInt8) (i : Nat) (hi : i < l.length) (h : i < (ByteArray.mk l.toArray).size) : (ByteArray.mk l.toArray)[i]'h = l[i] := by
 simp [ByteArray.getElem_eq_getElem_data]
theorem V_idxT {t : Nat} {x ix : Operand} {p : List UInt8} {i : Nat} (hu : C.P.underlying t = some .string) (hx : ev E x = some (.val (tx p))) (hi : ev E ix = some (.val (.int .i64 (i : Nat)))) (hlt : i < p.length) : Vl C ι E L G ⟨d, .index t x ix, ty, pos, af, g⟩ (.int .u8 (p[i].toNat : Int)) := by
 intro a w hE hw
 have ex := ev_sound hE hx
 have ei := ev_sound hE hi
 simp only [denO, Option.some.injEq, tx] at ex ei
 simp only [execOp, ← ex, ← ei]
 rw [Sem.run_bind, run_index_string w t _ .i64 (i : Nat) hu, dif_pos ⟨by omega, by rw [ba_size]; omega⟩]
 simp only [Result.andThen, Int.toNat_natCast, ba_get p i hlt]
 rfl
theorem V_subT {t : Nat} {x lo hi : Operand} {p : List UInt8} {i j : Nat} (hu : C.P.underlying t = some .string) (hx : ev E x = some (.val (tx p))) (hlo : ev E lo = some (.val (.int .i64 (i : Nat)))) (hhi : ev E hi = some (.val (.int .i64 (j : Nat)))) (hij : i ≤ j) (hj : j ≤ p.length) : Vl C ι E L G ⟨d, .slice t x (some lo) (some hi) none, ty, pos, af, g⟩ (tx ((p.drop i).take (j - i))) := by
 intro a w hE hw
 have ex := ev_sound hE hx
 have el := ev_sound hE hlo
 have eh := ev_sound hE hhi
 simp only [denO, Option.some.injEq, tx] at ex el eh
 simp only [execOp, ← ex, Option.map_some, Option.map_none, ← el, ← eh]
 have := run_slice_string (P := C.P) w t ⟨p.toArray⟩ .i64 .i64 (i : Nat) (j : Nat) hu (by omega) (by omega) (by rw [ba_size]; omega)
 simp only [Int.toNat_natCast, ByteArray.extract_mk] at this
 simp [Instr.sliceAt, run_underlying hu, Result.andThen, this, tx]
theorem V_subTl {t : Nat} {x lo : Operand} {p : List UInt8} {i : Nat} (hu : C.P.underlying t = some .string) (hx : ev E x = some (.val (tx p))) (hlo : ev E lo = some (.val (.int .i64 (i : Nat)))) (hi : i ≤ p.length) : Vl C ι E L G ⟨d, .slice t x (some lo) none none, ty, pos, af, g⟩ (tx (p.drop i)) := by
 intro a w hE hw
 have ex := ev_sound hE hx
 have el := ev_sound hE hlo
 simp only [denO, Option.some.injEq, tx] at ex el
 simp only [execOp, ← ex, Option.map_some, Option.map_none, ← el]
 have := run_slice_string_l (P := C.P) w t ⟨p.toArray⟩ hu .i64 (i : Nat) (by omega) (by rw [ba_size]; omega)
 simp only [Int.toNat_natCast, ByteArray.extract_mk, ba_size] at this
 rw [List.take_of_length_le (by simp)] at this
 simp [Instr.sliceAt, run_underlying hu, Result.andThen, this, tx]
theorem V_neT {t t' : Nat} {x y : Operand} {p q : List UInt8} (hg : C.P.eqGuardType C.P.depth t = false) (hx : ev E x = some (.val (tx p))) (hy : ev E y = some (.val (tx q))) : Vl C ι E L G ⟨d, .binOp .neq t x y t', ty, pos, af, g⟩ (.bool (!decide (p = q))) := by
 intro a' w hE hw
 have ex := ev_sound hE hx
 have ey := ev_sound hE hy
 simp only [denO, Option.some.injEq, tx] at ex ey
 simp only [execOp, ← ex, ← ey]
 simp [eqGuard, hg, binOp, Op.stringOp]
 by_cases h : p = q <;> simp [h]
theorem V_eq8 {t t' : Nat} {x y : Operand} {p q : Int} (hx : ev E x = some (.val (.int .u8 p))) (hy : ev E y = some (.val (.int .u8 q))) : Vl C ι E L G ⟨d, .binOp .eql t x y t', ty, pos, af, g⟩ (.bool (decide (p = q))) := by
 intro a w hE _
 have ex := ev_sound hE hx
 have ey := ev_sound hE hy
 simp only [denO, Option.some.injEq] at ex ey
 simp only [execOp, ← ex, ← ey]
 simp [eqGuard, binOp, Op.intCmp]
 by_cases h : p = q <;> simp [h]
theorem V_lt8 {t t' : Nat} {x y : Operand} {p q : Int} (hx : ev E x = some (.val (.int .u8 p))) (hy : ev E y = some (.val (.int .u8 q))) : Vl C ι E L G ⟨d, .binOp .lss t x y t', ty, pos, af, g⟩ (.bool (decide (p < q))) := by
 intro a w hE _
 have ex := ev_sound hE hx
 have ey := ev_sound hE hy
 simp only [denO, Option.some.injEq] at ex ey
 simp only [execOp, ← ex, ← ey]
 simp [eqGuard, binOp, Op.intCmp]
theorem V_gt8 {t t' : Nat} {x y : Operand} {p q : Int} (hx : ev E x = some (.val (.int .u8 p))) (hy : ev E y = some (.val (.int .u8 q))) : Vl C ι E L G ⟨d, .binOp .gtr t x y t', ty, pos, af, g⟩ (.bool (decide (q < p))) := by
 intro a w hE _
 have ex := ev_sound hE hx
 have ey := ev_sound hE hy
 simp only [denO, Option.some.injEq] at ex ey
 simp only [execOp, ← ex, ← ey]
 simp [eqGuard, binOp, Op.intCmp]
theorem V_sub8 {t t' : Nat} {x y : Operand} {p q : Int} (hx : ev E x = some (.val (.int .u8 p))) (hy : ev E y = some (.val (.int .u8 q))) (h0 : 0 ≤ p - q) (h1 : p - q ≤ 255) : Vl C ι E L G ⟨d, .binOp .sub t x y t', ty, pos, af, g⟩ (.int .u8 (p - q)) := by
 intro a w hE _
 have ex := ev_sound hE hx
 have ey := ev_sound hE hy
 simp only [denO, Option.some.injEq] at ex ey
 simp only [execOp, ← ex, ← ey]
 have hwr : IntKind.u8.wrap (p - q) = p - q := by
  simp only [IntKind.wrap, IntKind.bits, IntKind.signed]
  simp
  omega
 simp [eqGuard, binOp, Op.intArith, hwr]
end
end
section
open Go.Lib (itoa decDigits)
attribute [local irreducible] X Pure Mod
theorem V_neg {C : Ctx} {E : Env} {ι : Ids} {L : List Ent} {G : PH} {d : Option Nat} {ty : Nat} {pos : String} {af : Array Edge} {g : Option (Nat × Bool)} {t : Nat} {x : Operand} {p : Int} (hx : ev E x = some (.val (.int .i64 p))) (hb : -9223372036854775808 ≤ -p ∧ -p ≤ 9223372036854775807) : Vl C ι E L G ⟨d, .unOp .neg t x, ty, pos, af, g⟩ (.int .i64 (-p)) := by
 intro a w hE _
 have ex := ev_sound hE hx
 simp only [denO, Option.some.injEq] at ex
 have hwr : IntKind.i64.wrap (-p) = -p := by rw [IntKind.wrap_i64]; omega
 simp only [execOp, ← ex]
 simp [Op.unary, Op.intArith, hwr]
theorem u_intT : Tryz.prog.underlying 3 = some (.int .i64) := by kernel_rfl
theorem u_byte : Tryz.prog.underlying 5 = some (.int .u8) := by kernel_rfl
theorem u_bytes : Tryz.prog.underlying 22 = some (.slice 5) := by kernel_rfl
theorem u_str : Tryz.prog.underlying 9 = some .string := by kernel_rfl
theorem digit_u8 {m : Int} (h0 : 0 ≤ m) (h1 : m < 10) : IntKind.u8.wrap (48 + m) = 48 + m := by
 simp [IntKind.wrap, IntKind.bits, IntKind.signed]
 omega
theorem dig_cell {G : PH} {b : Nat} {m : Int} (h0 : 0 ≤ m) (h1 : m < 10) (h : gcells G ⟨b, 0, none⟩ [.int .u8 (48 + m)]) : ∀ j (hj : j < [UInt8.ofNat (48 + m.toNat)].length), gcell G ((⟨b, 0, none⟩ : Addr).add j) = some (.int .u8 ([UInt8.ofNat (48 + m.toNat)][j].toNat : Int)) := by
 intro j hj
 obtain rfl : j = 0 := by simpa using hj
 rw [List.getElem_cons_zero, UInt8.toNat_ofNat', show ((48 + m.toNat) % 2 ^ 8 : Nat) = 48 + m.toNat by omega, show ((48 + m.toNat : Nat) : Int) = 48 + m by omega]
 exact h.1
theorem c_l11DecN (u : Nat) (hu : u ≤ 9223372036854775807) (G : PH) : Pure Tryz.prog 19 [.int .i64 (u : Nat)] G fun v G' => v = tx (decDigits u) := by
 refine Pure.intro Tryz.func19 Tryz.ntmps19 J J fun w => ?_; refine Va J J ?_;refine RF J (by simp) ?_;refine Va J J ?_;refine RF J (by simp) ?_;refine Va J J ?_;refine S_loop (α := Nat × List UInt8 × PH) (fun y => y.1 ≤ u ∧ decDigits u = decDigits y.1 ++ y.2.1 ∧ PH.ext w.heap.size G y.2.2) (fun y => y.1) []
  (fun y => [(0, .val (.int .i64 (y.1 : Nat))), (3, .val (tx y.2.1))]) (fun _ => []) (fun y => y.2.2) (u, [], G) ⟨Nat.le_refl _, by simp, PH.ext.refl _ _⟩ rfl ⟨⟨_, rfl, rfl⟩, ⟨_, rfl, rfl⟩, trivial⟩ .nil ?_
 rintro ⟨n, out, G1⟩ ⟨hn, hd, hext⟩
 simp only at hn hd hext ⊢
 have hl : out.length ≤ 20 := by
  have h1 := congrArg List.length hd
  have h2 := Lib.nDigits_le20 u (by omega)
  rw [Lib.decDigits_length, List.length_append] at h1
  omega
 refine Va J J ?_
 refine S_condp J (fun h => ?_) (fun h => ?_) <;> refine Va J J ?_
 ·have hm : 0 ≤ (n : Int) % 10 ∧ (n : Int) % 10 < 10 := by omega
  refine S_valV J J J (V_rem J J (by omega) (by decide)) ?_;refine Va J J ?_;refine S_add J J J J (by omega) ?_;refine Va J J ?_
  generalize hme : (n : Int) % 10 = m at hm ⊢
  refine S_valV J J J (V_conv J u_intT u_byte (digit_u8 (by omega) (by omega))) ?_;refine Va J J ?_;refine S_sliceG Tk ZT_ok J J J J (by decide) (by decide) J J J J (fun _ => J) fun bq Gq hxq hcq => ?_;refine Va J J ?_;refine S_valV J J J (V_convT u_bytes u_byte u_str J (dig_cell (by omega) (by omega) hcq)) ?_;refine Va J J ?_;refine S_valV J J J (V_addT (p := [_]) J J J J ?_) ?_
  ·simp only [List.length_singleton]; omega
  refine Va J J ?_;refine S_valV J J J (V_quo J J (by omega) (by omega) (by decide)) ?_;refine Va J J ?_
  have hdd : decDigits n = decDigits (n / 10) ++ [UInt8.ofNat (48 + m.toNat)] := by
   rw [decDigits, dif_neg (by omega), show m.toNat = n % 10 by omega]
  exact S_again (n / 10, [UInt8.ofNat (48 + m.toNat)] ++ out, _) ⟨by simp only; omega, by rw [hd, hdd, List.append_assoc], hext.trans hxq⟩ (by simp only; omega) rfl ⟨⟨_, rfl, by simp [denO]⟩, ⟨_, rfl, rfl⟩, trivial⟩ .nil
 ·obtain ⟨m, rfl⟩ : ∃ m : Nat, m = n := ⟨n, rfl⟩
  refine S_add J J J J (by omega) ?_;refine Va J J ?_
  have hm : 0 ≤ (m : Int) ∧ (m : Int) < 10 := by omega
  refine S_valV J J J (V_conv J u_intT u_byte (digit_u8 (by omega) (by omega))) ?_;refine Va J J ?_;refine S_sliceG Tk ZT_ok J J J J (by decide) (by decide) J J J J (fun _ => J) fun bq Gq hxq hcq => ?_;refine Va J J ?_;refine S_valV J J J (V_convT u_bytes u_byte u_str J (dig_cell (by omega) (by omega) hcq)) ?_;refine Va J J ?_;refine S_valV J J J (V_addT (p := [_]) J J J J ?_) ?_
  ·simp only [List.length_singleton]; omega
  refine Va J J ?_;refine S_retp (Res.t1 Tryz.results19 J J) (hext.trans hxq) ?_
  rw [hd, Lib.decDigits_one (i := m) (by omega)]
  simp
theorem c_l11Dec (n : Int) (hn : I64 n) (G : PH) : Pure Tryz.prog 19 [.int .i64 n] G fun v G' => v = tx (itoa n) := by
 obtain ⟨hn1, hn2⟩ := hn
 by_cases h0 : 0 ≤ n
 ·obtain ⟨u, rfl⟩ := Int.eq_ofNat_of_zero_le h0
  rw [Lib.itoa_nonneg]
  exact c_l11DecN u (by omega) G
 obtain ⟨u, rfl⟩ : ∃ u : Nat, n = -(u : Int) := ⟨n.natAbs, by omega⟩
 rw [Lib.itoa_neg u (by omega)]
 refine Pure.intro Tryz.func19 Tryz.ntmps19 J J fun w => ?_; refine Va J J ?_
 by_cases hmin : u = 9223372036854775808
 ·subst hmin
  refine RT J (by simp) ?_;refine Va J J ?_;refine S_retp (Res.t1 Tryz.results19 J J) XR ?_
  have e : decDigits 9223372036854775808 = [57, 50, 50, 51, 51, 55, 50, 48, 51, 54, 56, 53, 52, 55, 55, 53, 56, 48, 56] := by
   simp [Lib.decDigits]
  rw [e]; rfl
 refine RF J (by simp; omega) ?_;refine Va J J ?_;refine RT J (by simp; omega) ?_;refine Va J J ?_;refine S_valV J J J (V_neg J (by omega)) ?_;refine Va J J ?_
 rw [Int.neg_neg]
 refine S_call Tryz.call19 (c_l11DecN u (by omega) _) J J J ?_;rintro v G1 rfl hext
 refine Va J J ?_;refine S_valV J J J (V_addT (p := [45]) J J J J ?_) ?_
 ·have := Lib.itoa_length_le (u : Int) (by omega) (by omega)
  rw [Lib.itoa_nonneg] at this
  simp only [List.length_singleton]; omega
 refine Va J J ?_;exact S_retp (Res.t1 Tryz.results19 J J) hext J
end
section
attribute [local irreducible] X Pure Mod
def txRep (t : List UInt8) (cs : List Value) : Prop := cs = [tx t]
abbrev Txs (G : PH) (l : List (List UInt8)) (v : Value) : Prop := Sr G 1 txRep l v
theorem Txs_le {G G' : PH} (hl : G.le G') {l : List (List UInt8)} {v : Value} (h : Txs G l v) : Txs G' l v := Sr_mono hl (fun _ _ _ h => h) h
theorem Cs_tx : ∀ l : List (List UInt8), Cs 1 txRep l (l.map tx)
 | [] => rfl
 | t :: l => ⟨[tx t], l.map tx, rfl, rfl, rfl, Cs_tx l⟩
theorem Txs_at {G : PH} {l : List (List UInt8)} {A : Option Addr} {n c : Nat} (h : Txs G l (.slice A n c)) {k : Nat} (hk : k < l.length) : ∃ ad, A = some ad ∧ gcell G (ad.add (k * 1)) = some (tx l[k]) := by
 obtain ⟨ad, cs, rfl, h1, h2⟩ := Sr_at h hk
 obtain rfl : cs = [tx l[k]] := h2
 exact ⟨ad, J, h1.1⟩
structure CUT where
 i : Nat
 f : Nat
 A : Option Addr
 c : Nat
 ds : List (List UInt8)
theorem c_l11Cut (s : List UInt8) (b : UInt8) (G : PH) (hs : s.length ≤ 1048576) : Pure Tryz.prog 30 [tx s, .int .u8 (b.toNat : Int)] G fun v G' => Txs G' (cutB b s) v := by
 refine Pure.intro Tryz.func30 Tryz.ntmps30 J J fun w => ?_; refine Va J J ?_;refine S_emptyO Tk 5 J J J J fun A0 => ?_;refine Va J J ?_;refine S_loop (α := CUT) (fun y => y.i ≤ s.length + 1 ∧ y.f ≤ y.i ∧ y.ds.length ≤ y.i ∧ (y.i ≤ s.length → cutB b s = y.ds ++ cutB b (s.drop y.f) ∧ ∀ j, y.f ≤ j → j < y.i → s[j]? ≠ some b) ∧ (y.i = s.length + 1 → y.ds = cutB b s)) (fun y => s.length + 1 - y.i) []
  (fun y => [(7, .val (.int .i64 (y.i : Nat))), (6, .val (.int .i64 (y.f : Nat))), (5, .val (.slice y.A y.ds.length y.c)), (0, .val (tx s)), (1, .val (.int .u8 (b.toNat : Int)))])
  (fun y => [.hp 5 (rowO w.heap.size 9 1 y.A y.ds.length y.c (y.ds.map tx))]) (fun _ => G) ⟨0, 0, A0, 0, []⟩ ⟨Nat.zero_le _, Nat.le_refl _, Nat.le_refl _, fun _ => ⟨rfl, fun j h1 h2 => (Nat.not_lt_zero j h2).elim⟩, fun h => by simp at h⟩ rfl ⟨⟨_, rfl, rfl⟩, ⟨_, rfl, rfl⟩, ⟨_, rfl, rfl⟩, ⟨_, rfl, rfl⟩, ⟨_, rfl, rfl⟩, trivial⟩ (.hp .nil) ?_
 rintro ⟨i, f, A, cc, ds⟩ ⟨hi, hfi, hdl, hin, hend⟩
 simp only at hi hfi hdl hin hend ⊢
 refine Va J J ?_
 refine S_condp J (fun h5 => ?_) (fun h5 => ?_) <;> refine Va J J ?_
 ·have hil : i ≤ s.length := by simp only [ba_size] at h5; omega
  obtain ⟨hcut, hno⟩ := hin hil
  by_cases he : i = s.length
  ·refine GT J J (by simp [ba_size]; omega) ?_
   refine Va J J ?_;refine S_valV J J J (V_subT u_str J J J hfi hil) ?_;refine Va J J ?_;refine S_slice Tk ZT_ok J J J J (by decide) (by decide) J J J J fun b9 => ?_;refine Va J J ?_;refine S_app1 Tk 5 31 J J J J J J J J J J J J J J (by intro u hu; simp at hu; rcases hu with rfl; rfl) rfl (fun _ _ => rfl) (by omega) (Nat.le_refl _) fun A6 c6 => ?_;refine Va J J ?_;refine S_add J J J J (by omega) ?_
   refine Va J J ?_;refine S_add J J J J (by omega) ?_;refine Va J J ?_;refine S_again ⟨i + 1, i + 1, A6, c6, ds ++ [(s.drop f).take (i - f)]⟩ ⟨by simp only; omega, Nat.le_refl _, by simp; omega, fun h => by simp only at h; omega, fun _ => ?_⟩ (by simp only; omega) rfl ⟨⟨_, rfl, by simp [denO]⟩, ⟨_, rfl, by simp [denO]⟩, ⟨_, rfl, by simp [denO]⟩, ⟨_, rfl, rfl⟩, ⟨_, rfl, rfl⟩, trivial⟩ ?_
   ·subst he
    rw [hcut, cut_end hfi hno]
   ·simp only [List.length_append, List.length_singleton, List.map_append, List.map_cons, List.map_nil]
    first | exact .drop (.hp .nil) | exact .hp .nil
  ·have hlt : i < s.length := by omega
   refine GF J J (by simp [ba_size]; omega) ?_;refine Va J J ?_;refine S_valV J J J (V_idxT u_str J J hlt) ?_;refine Va J J ?_;refine S_valV J J J (V_eq8 J J) ?_;refine Va J J ?_
   by_cases hb : s[i] = b
   ·refine RT J (by simp [hb]) ?_
    refine Va J J ?_;refine S_valV J J J (V_subT u_str J J J hfi hil) ?_;refine Va J J ?_;refine S_slice Tk ZT_ok J J J J (by decide) (by decide) J J J J fun b9 => ?_;refine Va J J ?_;refine S_app1 Tk 5 31 J J J J J J J J J J J J J J (by intro u hu; simp at hu; rcases hu with rfl; rfl) rfl (fun _ _ => rfl) (by omega) (Nat.le_refl _) fun A6 c6 => ?_;refine Va J J ?_;refine S_add J J J J (by omega) ?_
    refine Va J J ?_;refine S_add J J J J (by omega) ?_;refine Va J J ?_;refine S_again ⟨i + 1, i + 1, A6, c6, ds ++ [(s.drop f).take (i - f)]⟩ ⟨by simp only; omega, Nat.le_refl _, by simp; omega, fun _ => ⟨?_, fun j h1 h2 => by simp only at h1 h2; omega⟩, fun h => by simp only at h; omega⟩ (by simp only; omega) rfl ⟨⟨_, rfl, by simp [denO]⟩, ⟨_, rfl, by simp [denO]⟩, ⟨_, rfl, by simp [denO]⟩, ⟨_, rfl, rfl⟩, ⟨_, rfl, rfl⟩, trivial⟩ ?_
    ·simp only
     rw [hcut, cut_step hfi hno (by rw [List.getElem?_eq_getElem hlt, hb]), List.append_assoc]
     rfl
    ·simp only [List.length_append, List.length_singleton, List.map_append, List.map_cons, List.map_nil]
     first | exact .drop (.hp .nil) | exact .hp .nil
   ·refine RF J (by simp; intro h; exact hb (UInt8.toNat_inj.1 (by omega))) ?_
    refine Va J J ?_;refine S_add J J J J (by omega) ?_;refine Va J J ?_;refine S_again ⟨i + 1, f, A, cc, ds⟩ ⟨by simp only; omega, by simp only; omega, by simp only; omega, fun _ => ⟨hcut, fun j h1 h2 => ?_⟩, fun h => by simp only at h; omega⟩ (by simp only; omega) rfl ⟨⟨_, rfl, by simp [denO]⟩, ⟨_, rfl, rfl⟩, ⟨_, rfl, rfl⟩, ⟨_, rfl, rfl⟩, ⟨_, rfl, rfl⟩, trivial⟩ (.hp .nil)
    rcases Nat.lt_or_ge j i with h | h
    ·exact hno j h1 h
    ·obtain rfl : j = i := by simp only at h2; omega
     rw [List.getElem?_eq_getElem hlt]
     simpa using hb
 ·have e0 : i = s.length + 1 := by simp only [ba_size] at h5; omega
  have hl := hend e0
  refine S_freezeR 5 J J (Nat.le_refl _) fun Gf hextf hncf hcmf hclf => ?_;refine S_retp (Res.t1 Tryz.results30 J J) hextf ?_
  rw [← hl]
  exact frz (Cs_tx ds) J (by omega) hncf hcmf hclf
end
section
attribute [local irreducible] X Pure Mod
theorem insV_eq (i : Ins) : (insC i).toArray = #[.int .i64 i.op, .int .i64 i.a, .int .i64 i.b, .int .i64 i.n] := rfl
theorem c_l4Ins (i : Ins) (many : Int) (G : PH) : Pure Tryz.prog 22 [.agg (insC i).toArray, .int .i64 many] G fun v G' => v = .bool (insOk i many) ∧ G' = G := by
 obtain ⟨op, a, b, n⟩ := i
 rw [insV_eq]
 dsimp only
 refine Pure.intro Tryz.func22 Tryz.ntmps22 J J fun w => ?_; refine Va J J ?_;refine S_box J J J J J fun b1 => ?_;refine Va J J ?_
 repeat' (first
  | (refine S_condp J (fun h => ?_) (fun h => ?_) <;> refine Va J J ?_) | (refine S_cond J (fun h => ?_) (fun h => ?_) <;> refine Va J J ?_) | (refine S_box J J J J J fun b => ?_; refine Va J J ?_) | (refine AZ ZT_ok J J J J fun b => ?_; refine Va J J ?_) | (refine S_guardp J J (fun h => ?_) (fun h => ?_) <;> refine Va J J ?_) | (refine S_guard J J (fun h => ?_) (fun h => ?_) <;> refine Va J J ?_)
  | (refine S_call Tryz.call44 (c_l2Leaf _ _ _ _ _ _ _ _) J J J ?_; rintro v G' ⟨rfl, rfl⟩ _; refine Va J J ?_)
  | (refine S_retP Tryz.results22 J J XR ⟨?_, J⟩))
 all_goals (simp_all [insOk, leafOk] <;> omega)
end
section
open Go.Lib (itoa decDigits)
attribute [local irreducible] X Pure Mod
theorem c_l4Word (op : Nat) (h : op ≤ 13) (G : PH) : Pure Tryz.prog 17 [.int .i64 (op : Nat)] G fun v G' => ∃ m, v = .tuple #[tx (wordN op), .int .i64 m] := by
 refine Pure.intro Tryz.func17 Tryz.ntmps17 J J fun w => ?_; refine Va J J ?_;refine S_sliceG Tk ZT_ok J J J J (by decide) (by decide) J J J J (fun _ => J) fun bq Gq hxq hcq => ?_;refine Va J J ?_;refine S_sliceG Tk ZT_ok J J J J (by decide) (by decide) J J J J (fun _ => J) fun br Gr hxr hcr => ?_;refine Va J J ?_
 have hw : ((List.range 14).map fun k => tx (wordN k))[op]? = some (tx (wordN op)) := by
  rw [List.getElem?_map, List.getElem?_range (by omega)]; rfl
 have hcw : gcell Gr ((⟨bq, 0, none⟩ : Addr).add op) = some (tx (wordN op)) := gcells_at (cs := (List.range 14).map fun k => tx (wordN k)) (gcells_le hxr.le hcq) op _ hw
 obtain ⟨m, hm⟩ : ∃ m, ([0, 2, 3, 2, 2, 1, 2, 1, 1, 1, 1, 1, 0, 0] : List Int)[op]? = some m := by
  rw [List.getElem?_eq_getElem (by simp; omega)]; exact ⟨_, J⟩
 have hcm : gcell Gr ((⟨br, 0, none⟩ : Addr).add op) = some (.int .i64 m) := gcells_at (cs := intC [0, 2, 3, 2, 2, 1, 2, 1, 1, 1, 1, 1, 0, 0]) hcr op _ (intC_at hm)
 refine Ds J J J ?_;refine Da J J ?_;refine D_val 2 J J J J J J J J J (V_index Tk J J J J (by omega) (by omega)) ?_;refine D_val 6 J J J J J J J J J (V_index Tk J J J J (by omega) (by omega)) ?_;refine Da J J ?_;refine D_val 3 J J J J J J J J J (V_load Tk J J J (by simpa using hcw)) ?_;refine D_val 7 J J J J J J J J J (V_load Tk J J J (by simpa using hcm)) ?_;refine Da J J ?_;refine DD ?_;refine Va J J ?_
 exact S_retp (Res.t2 Tryz.results17 J J J J) (hxq.trans hxr) ⟨m, J⟩
theorem c_l4Nums (i : Ins) (h4 : I4 i) (G : PH) : Pure Tryz.prog 18 [.agg (insC i).toArray] G fun v G' => Ints G' (numsI i) v := by
 obtain ⟨op, a, b, n⟩ := i
 obtain ⟨i0, i1, i2, i3⟩ := h4
 simp only at i0 i1 i2 i3
 rw [show (insC ⟨op, a, b, n⟩).toArray = #[.int .i64 op, .int .i64 a, .int .i64 b, .int .i64 n] from rfl]
 refine Pure.intro Tryz.func18 Tryz.ntmps18 J J fun w => ?_; refine Va J J ?_;refine S_box J J J J J fun b1 => ?_;refine Va J J ?_
 refine S_condp J (fun h1 => ?_) (fun h1 => ?_) <;> refine Va J J ?_
 ·refine RT J (by simp [h1]) ?_
  refine Va J J ?_;refine S_sliceG Tk ZT_ok J J J J (by decide) (by decide) J J J J (fun _ => J) fun bq Gq hxq hcq => ?_;refine Va J J ?_;refine S_retp (Res.t1 Tryz.results18 J J) hxq ?_
  rw [show numsI ⟨op, a, b, n⟩ = [a, n] by simp [numsI, hasA, hasB, hasN, *]]
  exact ints_of hcq J (Nat.le_refl _) (by decide) (by decide) (by intro y hy; simp only [List.mem_cons, List.not_mem_nil, or_false] at hy; (first | (rcases hy with rfl | rfl | rfl <;> assumption) | (rcases hy with rfl | rfl <;> assumption) | (rcases hy with rfl; assumption)))
 refine S_condp J (fun h6 => ?_) (fun h6 => ?_) <;> refine Va J J ?_
 ·refine S_sliceG Tk ZT_ok J J J J (by decide) (by decide) J J J J (fun _ => J) fun bq Gq hxq hcq => ?_
  refine Va J J ?_;refine S_retp (Res.t1 Tryz.results18 J J) hxq ?_
  rw [show numsI ⟨op, a, b, n⟩ = [a, n] by simp [numsI, hasA, hasB, hasN, *]]
  exact ints_of hcq J (Nat.le_refl _) (by decide) (by decide) (by intro y hy; simp only [List.mem_cons, List.not_mem_nil, or_false] at hy; (first | (rcases hy with rfl | rfl | rfl <;> assumption) | (rcases hy with rfl | rfl <;> assumption) | (rcases hy with rfl; assumption)))
 refine S_condp J (fun h2 => ?_) (fun h2 => ?_) <;> refine Va J J ?_
 ·refine S_sliceG Tk ZT_ok J J J J (by decide) (by decide) J J J J (fun _ => J) fun bq Gq hxq hcq => ?_
  refine Va J J ?_;refine S_retp (Res.t1 Tryz.results18 J J) hxq ?_
  rw [show numsI ⟨op, a, b, n⟩ = [a, b, n] by simp [numsI, hasA, hasB, hasN, *]]
  exact ints_of hcq J (Nat.le_refl _) (by decide) (by decide) (by intro y hy; simp only [List.mem_cons, List.not_mem_nil, or_false] at hy; (first | (rcases hy with rfl | rfl | rfl <;> assumption) | (rcases hy with rfl | rfl <;> assumption) | (rcases hy with rfl; assumption)))
 refine S_condp J (fun h3 => ?_) (fun h3 => ?_) <;> refine Va J J ?_
 ·refine RT J (by simp [h3]) ?_
  refine Va J J ?_;refine S_sliceG Tk ZT_ok J J J J (by decide) (by decide) J J J J (fun _ => J) fun bq Gq hxq hcq => ?_;refine Va J J ?_;refine S_retp (Res.t1 Tryz.results18 J J) hxq ?_
  rw [show numsI ⟨op, a, b, n⟩ = [a, b] by simp [numsI, hasA, hasB, hasN, *]]
  exact ints_of hcq J (Nat.le_refl _) (by decide) (by decide) (by intro y hy; simp only [List.mem_cons, List.not_mem_nil, or_false] at hy; (first | (rcases hy with rfl | rfl | rfl <;> assumption) | (rcases hy with rfl | rfl <;> assumption) | (rcases hy with rfl; assumption)))
 refine S_condp J (fun h4 => ?_) (fun h4 => ?_) <;> refine Va J J ?_
 ·refine S_sliceG Tk ZT_ok J J J J (by decide) (by decide) J J J J (fun _ => J) fun bq Gq hxq hcq => ?_
  refine Va J J ?_;refine S_retp (Res.t1 Tryz.results18 J J) hxq ?_
  rw [show numsI ⟨op, a, b, n⟩ = [a, b] by simp [numsI, hasA, hasB, hasN, *]]
  exact ints_of hcq J (Nat.le_refl _) (by decide) (by decide) (by intro y hy; simp only [List.mem_cons, List.not_mem_nil, or_false] at hy; (first | (rcases hy with rfl | rfl | rfl <;> assumption) | (rcases hy with rfl | rfl <;> assumption) | (rcases hy with rfl; assumption)))
 refine S_condp J (fun h7 => ?_) (fun h7 => ?_) <;> refine Va J J ?_
 ·refine S_sliceG Tk ZT_ok J J J J (by decide) (by decide) J J J J (fun _ => J) fun bq Gq hxq hcq => ?_
  refine Va J J ?_;refine S_retp (Res.t1 Tryz.results18 J J) hxq ?_
  rw [show numsI ⟨op, a, b, n⟩ = [n] by simp [numsI, hasA, hasB, hasN, *]]
  exact ints_of hcq J (Nat.le_refl _) (by decide) (by decide) (by intro y hy; simp only [List.mem_cons, List.not_mem_nil, or_false] at hy; (first | (rcases hy with rfl | rfl | rfl <;> assumption) | (rcases hy with rfl | rfl <;> assumption) | (rcases hy with rfl; assumption)))
 refine S_condp J (fun h12 => ?_) (fun h12 => ?_) <;> refine Va J J ?_
 ·refine RT J (by simp [h12]) ?_
  refine Va J J ?_;refine S_emptyO Tk 5 J J J J fun A0 => ?_;refine Va J J ?_;refine S_freezeR 5 J J (Nat.le_refl _) fun Gf hextf hncf hcmf hclf => ?_;refine S_retp (Res.t1 Tryz.results18 J J) hextf ?_
  rw [show numsI ⟨op, a, b, n⟩ = [] by simp [numsI, hasA, hasB, hasN, *]]
  exact frz (L := []) (xs := []) J J (by decide) hncf hcmf hclf
 refine S_condp J (fun h13 => ?_) (fun h13 => ?_) <;> refine Va J J ?_
 ·refine S_emptyO Tk 5 J J J J fun A0 => ?_
  refine Va J J ?_;refine S_freezeR 5 J J (Nat.le_refl _) fun Gf hextf hncf hcmf hclf => ?_;refine S_retp (Res.t1 Tryz.results18 J J) hextf ?_
  rw [show numsI ⟨op, a, b, n⟩ = [] by simp [numsI, hasA, hasB, hasN, *]]
  exact frz (L := []) (xs := []) J J (by decide) hncf hcmf hclf
 ·refine S_sliceG Tk ZT_ok J J J J (by decide) (by decide) J J J J (fun _ => J) fun bq Gq hxq hcq => ?_
  refine Va J J ?_;refine S_retp (Res.t1 Tryz.results18 J J) hxq ?_
  rw [show numsI ⟨op, a, b, n⟩ = [a] by simp [numsI, hasA, hasB, hasN, *]]
  exact ints_of hcq J (Nat.le_refl _) (by decide) (by decide) (by intro y hy; simp only [List.mem_cons, List.not_mem_nil, or_false] at hy; (first | (rcases hy with rfl | rfl | rfl <;> assumption) | (rcases hy with rfl | rfl <;> assumption) | (rcases hy with rfl; assumption)))
end
section
open Go.Lib (itoa decDigits)
attribute [local irreducible] X Pure Mod
theorem InsG_at {G : PH} {c : List Ins} {A : Option Addr} {n cc : Nat} (h : InsG G c (.slice A n cc)) {k : Nat} (hk : k < c.length) : ∃ ad, A = some ad ∧ gcells G (ad.add (k * 4)) (insC c[k]) ∧ I4 c[k] := by
 obtain ⟨ad, cs, rfl, h1, rfl, h2⟩ := Sr_at h hk
 exact ⟨ad, J, h1, h2⟩
theorem insC_op (i : Ins) : (insC i)[0]? = some (.int .i64 i.op) := rfl
theorem walk_no {c : List Ins} (h : ¬ walkOk c) : codeOk c = false := by
 cases hc : codeOk c with
 | false => rfl
 | true => exact absurd (codeOk_not hc).2.2 h
theorem c_sCodeOk (c : List Ins) (v : Value) (G : PH) (hv : InsG G c v) (hl : c.length ≤ 1000000) : Pure Tryz.prog 9 [v] G fun v' G' => v' = .bool (codeOk c) := by
 obtain ⟨Ac, cc, rfl, _⟩ := id hv
 refine Pure.intro Tryz.func9 Tryz.ntmps9 J J fun w => ?_; refine Va J J ?_
 by_cases hr : 1 ≤ c.length ∧ c.length ≤ 60
 ·refine GF J J (by simp; omega) ?_
  refine Va J J ?_;refine S_subI J J J J (by omega) ?_;refine Va J J ?_;obtain ⟨adl, rfl, hlast, hl4⟩ := InsG_at hv (k := c.length - 1) (by omega)
  refine S_index Tk J J J J J J (by omega) (by omega) ?_;refine Va J J ?_;refine S_load Tk J J J J J (by rw [show ((c.length : Int) - 1).toNat = c.length - 1 by omega]; simpa using gcells_at hlast 0 _ (insC_op _)) ?_;refine Va J J ?_
  have hcl : c[c.length - 1]? = some c[c.length - 1] := List.getElem?_eq_getElem (by omega)
  generalize hle : c[c.length - 1] = il at hcl
  by_cases h13 : il.op = 13
  ·refine RF J (by simp [h13]) ?_
   refine Va J J ?_;refine S_loop (α := Nat) (fun k => k ≤ c.length ∧ ∀ j i, j < k → c[j]? = some i → insOk i c.length = true ∧ (i.op = 13 → j = c.length - 1)) (fun k => c.length - k) []
    (fun k => [(4, .val (.int .i64 (k : Nat))), (3, .val (.int .i64 (c.length : Nat))), (0, .val (.slice (some adl) c.length cc))]) (fun _ => []) (fun _ => G) 0 ⟨Nat.zero_le _, fun j i h => by omega⟩ rfl ⟨⟨_, rfl, rfl⟩, ⟨_, rfl, rfl⟩, ⟨_, rfl, rfl⟩, trivial⟩ .nil ?_
   rintro k ⟨hk, hall⟩
   refine Va J J ?_
   refine S_condp J (fun h5 => ?_) (fun h5 => ?_) <;> refine Va J J ?_
   ·have hkl : k < c.length := by omega
    have hck : c[k]? = some c[k] := List.getElem?_eq_getElem hkl
    obtain ⟨_, e, hcell, _⟩ := InsG_at hv hkl
    cases e
    have hq := c_l4Ins c[k] (c.length : Nat) G
    generalize hke : c[k] = i at *
    refine S_index Tk J J J J J J (by omega) (by omega) ?_;refine Va J J ?_;refine S_loadA Tk J J J J J (by simpa using hcell) ?_;refine Va J J ?_;refine S_call Tryz.call22 hq J J J ?_;rintro v1 G1 ⟨rfl, rfl⟩ _
    refine Va J J ?_
    by_cases hio : insOk i c.length = true
    ·refine GF J J (by simp [hio]) ?_
     refine Va J J ?_;refine S_index Tk J J J J J J (by omega) (by omega) ?_;refine Va J J ?_;refine S_load Tk J J J J J (by simpa using gcells_at hcell 0 _ (insC_op _)) ?_;refine Va J J ?_
     by_cases hi13 : i.op = 13
     ·refine GT J J (by simp [hi13]) ?_
      refine Va J J ?_;refine S_subI J J J J (by omega) ?_;refine Va J J ?_
      by_cases hlt : k = c.length - 1
      ·refine RF J (by simp; omega) ?_
       refine Va J J ?_;refine S_add J J J J (by omega) ?_;refine Va J J ?_;refine S_again (k + 1) ⟨hkl, fun j i' hj hc => ?_⟩ (by omega) J ⟨⟨_, J, by simp [denO]⟩, ⟨_, J, J⟩, ⟨_, J, J⟩, trivial⟩ .nil
       rcases Nat.lt_or_ge j k with h | h
       ·exact hall j i' h hc
       ·obtain rfl : j = k := by omega
        rw [hck] at hc; cases hc
        exact ⟨hio, fun _ => hlt⟩
      ·refine RT J (by simp; omega) ?_
       refine Va J J ?_;exact S_retp (Res.t1 Tryz.results9 J J) XR (by rw [walk_no fun h => hlt ((h k i hck).2.1 hi13)])
     ·refine GF J J (by simp [hi13]) ?_
      refine Va J J ?_;refine S_add J J J J (by omega) ?_;refine Va J J ?_;refine S_again (k + 1) ⟨hkl, fun j i' hj hc => ?_⟩ (by omega) J ⟨⟨_, J, by simp [denO]⟩, ⟨_, J, J⟩, ⟨_, J, J⟩, trivial⟩ .nil
      rcases Nat.lt_or_ge j k with h | h
      ·exact hall j i' h hc
      ·obtain rfl : j = k := by omega
       rw [hck] at hc; cases hc
       exact ⟨hio, fun h => absurd h hi13⟩
    ·refine GT J J (by simp [hio]) ?_
     refine Va J J ?_;exact S_retp (Res.t1 Tryz.results9 J J) XR (by rw [walk_no fun h => hio (h k i hck).1])
   ·obtain rfl : k = c.length := by omega
    have hw : walkOk c := by
     intro k i hki
     have hkl := (List.getElem?_eq_some_iff.1 hki).1
     obtain ⟨a, b⟩ := hall k i hkl hki
     refine ⟨a, b, ?_⟩
     rintro rfl
     rw [hcl] at hki; cases hki
     exact h13
    refine S_call Tryz.call23 (c_l4Rooms c _ G hv hw hr.1 hr.2) J J J ?_;rintro v1 G1 ⟨rv, rfl⟩ hext1
    refine Va J J ?_;exact S_retp (Res.t1 Tryz.results9 J J) hext1 (by rw [codeOk_of hr.1 hr.2 hw])
  ·refine RT J (by simp [h13]) ?_
   refine Va J J ?_;exact S_retp (Res.t1 Tryz.results9 J J) XR (by rw [walk_no fun h => h13 ((h _ il hcl).2.2 J)])
 ·have hno : codeOk c = false := by
   cases hc : codeOk c with
   | false => rfl
   | true => exact absurd ⟨(codeOk_not hc).1, (codeOk_not hc).2.1⟩ hr
  refine GT J J (by simp; omega) ?_;refine Va J J ?_;exact S_retp (Res.t1 Tryz.results9 J J) XR (by rw [hno])
structure TX where
 k : Nat
 G : PH
structure TY where
 j : Nat
 G : PH
theorem c_sCodeText (c : List Ins) (v : Value) (G : PH) (hv : InsG G c v) (hl : c.length ≤ 1000000) : Pure Tryz.prog 7 [v] G fun v' G' => v' = tx (if codeOk c then textI c else []) := by
 obtain ⟨Ac, cc, rfl, _⟩ := id hv
 have h4 := InsG_all hv
 refine Pure.intro Tryz.func7 Tryz.ntmps7 J J fun w => ?_; refine Va J J ?_;refine S_call Tryz.call9 (c_sCodeOk c _ G hv hl) J J J ?_;rintro v1 G1 rfl hext1
 refine Va J J ?_
 by_cases hok : codeOk c = true
 ·refine RF J (by simp [hok]) ?_
  refine Va J J ?_
  rw [if_pos hok]
  obtain ⟨hc1, hc60, hins⟩ := codeOk_ins hok
  have tlen : ∀ k, (textI (c.take k)).length ≤ 81 * 60 := fun k => by
   have := text_len (c := c.take k) fun i hi => h4 i (List.mem_of_mem_take hi)
   rw [List.length_take] at this
   omega
  refine S_loop (α := TX) (fun y => y.k ≤ c.length ∧ PH.ext w.heap.size G y.G) (fun y => c.length - y.k) []
   (fun y => [(4, .val (.int .i64 (y.k : Nat))), (3, .val (tx (textI (c.take y.k)))), (0, .val (.slice Ac c.length cc))]) (fun _ => []) (fun y => y.G) ⟨0, G1⟩ ⟨Nat.zero_le _, hext1⟩ rfl ⟨⟨_, rfl, rfl⟩, ⟨_, rfl, rfl⟩, ⟨_, rfl, rfl⟩, trivial⟩ .nil ?_
  rintro ⟨k, G2⟩ ⟨hk, hext2⟩
  simp only at hk hext2 ⊢
  refine Va J J ?_
  refine S_condp J (fun h5 => ?_) (fun h5 => ?_) <;> refine Va J J ?_
  ·have hkl : k < c.length := by omega
   obtain ⟨ad, rfl, hcell, hi4⟩ := InsG_at (InsG_le hext2.le hv) hkl
   have hio := hins _ (List.getElem_mem hkl)
   have htk : c.take (k + 1) = c.take k ++ [c[k]] := List.take_succ_eq_append_getElem hkl
   have htl := tlen k
   generalize c[k] = i at *
   obtain ⟨hop1, hop2⟩ := insOk_op hio
   have hline := line_len hi4
   obtain ⟨opn, hopn⟩ := Int.eq_ofNat_of_zero_le (show 0 ≤ i.op by omega)
   refine S_index Tk J J J J J J (by omega) (by omega) ?_;refine Va J J ?_;refine S_load Tk J J J J J (by simpa using gcells_at hcell 0 _ (insC_op _)) ?_;refine Va J J ?_
   rw [hopn]
   refine S_call Tryz.call17 (c_l4Word opn (by omega) G2) J J J ?_;rintro v3 G3 ⟨m, rfl⟩ hext3
   refine Va J J ?_;refine S_index Tk J J J J J J (by omega) (by omega) ?_;refine Va J J ?_;refine S_loadA Tk J J J J J (by simpa using gcells_le hext3.le hcell) ?_;refine Va J J ?_;refine S_call Tryz.call18 (c_l4Nums i hi4 G3) J J J ?_;rintro v4 G4 hv4 hext4
   have hle : lineI i = wordN opn ++ (numsI i).flatMap fun n => 32 :: itoa n := by rw [lineI, hopn]; rfl
   have hnl : (numsI i).length ≤ 3 := by unfold numsI; (split <;> split <;> split <;> simp)
   generalize numsI i = ns at hv4 hle hnl
   obtain ⟨A4, c4, rfl, _⟩ := id hv4
   refine Va J J ?_
   have wl : ∀ j, (wordN opn ++ (ns.take j).flatMap fun n => 32 :: itoa n).length ≤ 80 := by
    intro j
    refine Nat.le_trans ?_ hline
    rw [hle]
    conv => rhs; rw [← List.take_append_drop j ns, List.flatMap_append, ← List.append_assoc]
    simp only [List.length_append]
    omega
   refine S_loop (α := TY) (fun y => y.j ≤ ns.length ∧ PH.ext w.heap.size G4 y.G) (fun y => ns.length - y.j) []
    (fun y => [(8, .val (.int .i64 (y.j : Nat))), (5, .val (tx (wordN opn ++ (ns.take y.j).flatMap fun n => 32 :: itoa n))), (7, .val (.slice A4 ns.length c4)), (4, .val (.int .i64 (k : Nat))), (3, .val (tx (textI (c.take k)))), (0, .val (.slice (some ad) c.length cc))]) (fun _ => []) (fun y => y.G) ⟨0, G4⟩ ⟨Nat.zero_le _, PH.ext.refl _ _⟩ rfl ⟨⟨_, rfl, rfl⟩, ⟨_, rfl, by simp [denO]⟩, ⟨_, rfl, rfl⟩, ⟨_, rfl, rfl⟩, ⟨_, rfl, rfl⟩, ⟨_, rfl, rfl⟩, trivial⟩ .nil ?_
   rintro ⟨j, G5⟩ ⟨hj, hext5⟩
   simp only at hj hext5 ⊢
   have hwl := wl j
   refine Va J J ?_
   refine S_condp J (fun h7 => ?_) (fun h7 => ?_) <;> refine Va J J ?_
   ·have hjl : j < ns.length := by omega
    obtain ⟨ad4, cs4, rfl, hcs4, rfl, hn64⟩ := Sr_at (Ints_le hext5.le hv4) hjl
    have hwl1 := wl (j + 1)
    have hnt : ns.take (j + 1) = ns.take j ++ [ns[j]] := List.take_succ_eq_append_getElem hjl
    generalize ns[j] = n at *
    rw [hnt, List.flatMap_append] at hwl1
    simp only [List.flatMap_cons, List.flatMap_nil, List.append_nil] at hwl1
    generalize hpre : wordN opn ++ (ns.take j).flatMap (fun n => 32 :: itoa n) = pre at hwl
    have hstep : wordN opn ++ (ns.take (j + 1)).flatMap (fun n => 32 :: itoa n) = (pre ++ [32]) ++ itoa n := by rw [hnt, List.flatMap_append, ← List.append_assoc, hpre]; simp
    rw [← List.append_assoc, hpre] at hwl1
    refine S_valV J J J (V_addT (q := [32]) J J J J (by simp only [List.length_singleton]; omega)) ?_;refine Va J J ?_;refine S_index Tk J J J J J J (by omega) (by omega) ?_;refine Va J J ?_;refine S_load Tk J J J J J (by simpa using hcs4.1) ?_;refine Va J J ?_;refine S_call Tryz.call19 (c_l11Dec n hn64 G5) J J J ?_;rintro v6 G6 rfl hext6
    refine Va J J ?_;refine S_valV J J J (V_addT J J J J (by simp at hwl1 ⊢; omega)) ?_;refine Va J J ?_;refine S_add J J J J (by omega) ?_;refine Va J J ?_;exact S_again ⟨j + 1, G6⟩ ⟨hjl, hext5.trans hext6⟩ (by simp only; omega) rfl ⟨⟨_, rfl, by simp [denO]⟩, ⟨_, rfl, by simp only [hstep]⟩, ⟨_, rfl, rfl⟩, ⟨_, rfl, rfl⟩, ⟨_, rfl, rfl⟩, ⟨_, rfl, rfl⟩, trivial⟩ .nil
   ·obtain rfl : j = ns.length := by omega
    rw [List.take_length, ← hle]
    refine S_valV J J J (V_addT J J J J (by omega)) ?_;refine Va J J ?_;refine S_valV J J J (V_addT (q := [10]) J J J J (by simp; omega)) ?_;refine Va J J ?_;refine S_add J J J J (by omega) ?_;refine Va J J ?_
    have hstep : textI (c.take (k + 1)) = textI (c.take k) ++ lineI i ++ [10] := by rw [htk, textI, textI, List.flatMap_append]; simp
    exact S_again ⟨k + 1, G5⟩ ⟨hkl, ((hext2.trans hext3).trans hext4).trans hext5⟩ (by simp only; omega) rfl ⟨⟨_, rfl, by simp [denO]⟩, ⟨_, rfl, by simp only [hstep]⟩, ⟨_, rfl, rfl⟩, trivial⟩ .nil
  ·obtain rfl : k = c.length := by omega
   rw [List.take_length]
   exact S_retp (Res.t1 Tryz.results7 J J) hext2 J
 ·refine RT J (by simp [hok]) ?_
  refine Va J J ?_
  rw [if_neg hok]
  exact S_retp (Res.t1 Tryz.results7 J J) hext1 J
end
section
section
variable {C : Ctx} {E : Env} {ι : Ids} {L : List Ent} {G : PH} {d : Option Nat} {ty : Nat} {pos : String} {af : Array Edge} {g : Option (Nat × Bool)}
theorem V_subTh {t : Nat} {x hi : Operand} {p : List UInt8} {j : Nat} (hu : C.P.underlying t = some .string) (hx : ev E x = some (.val (tx p))) (hhi : ev E hi = some (.val (.int .i64 (j : Nat)))) (hj : j ≤ p.length) : Vl C ι E L G ⟨d, .slice t x none (some hi) none, ty, pos, af, g⟩ (tx (p.take j)) := by
 intro a w hE hw
 have ex := ev_sound hE hx
 have eh := ev_sound hE hhi
 simp only [denO, Option.some.injEq, tx] at ex eh
 simp only [execOp, ← ex, Option.map_some, Option.map_none, ← eh]
 have := run_slice_string_h (P := C.P) w t ⟨p.toArray⟩ hu .i64 (j : Nat) (by omega) (by rw [ba_size]; omega)
 simp only [Int.toNat_natCast, ByteArray.extract_mk] at this
 simp [Instr.sliceAt, run_underlying hu, Result.andThen, this, tx]
theorem V_addNN {x y : Operand} {t t' : Nat} {m j : Nat} (hx : ev E x = some (.val (.int .i64 (m : Nat)))) (hy : ev E y = some (.val (.int .i64 (j : Nat)))) (hb : m + j ≤ 1000000000) : Vl C ι E L G ⟨d, .binOp .add t x y t', ty, pos, af, g⟩ (.int .i64 ((m + j : Nat) : Int)) := by
 have h : Vl C ι E L G ⟨d, .binOp .add t x y t', ty, pos, af, g⟩ (.int .i64 ((m : Int) + (j : Nat))) := V_add hx hy (by omega)
 rwa [show ((m : Int) + (j : Nat)) = ((m + j : Nat) : Int) by omega] at h
end
attribute [local irreducible] X Pure Mod Vl
theorem c_of (b : Nat) (l : List Int) (sv : Value) (q : List (List UInt8)) (qv : Value) (N : Nat) (G : PH) (hl : Byts G l sv) (hq : Txs G q qv) (hn : 0 < q.length) (hN : N + 1 ≤ 1000000000) : Drw 29 b sv [qv] N 1 G fun v G' => G' = G ∧ ∃ m ∈ q, v = tx m := by
 obtain ⟨A, c, rfl, hq1, _⟩ := id hq
 refine Mod.intro Tryz.func29 Tryz.ntmps29 J J fun w S => ?_;refine Va J J ?_;refine S_callM 1 Tryz.call28 (c_pick b l sv q.length N G hl ⟨by omega, by omega⟩ hN) J J J J (fun _ => J) ?_;rintro v G2 A' ⟨rfl, rfl, m, rfl, h0, h1⟩ _
 refine Va J J ?_;obtain ⟨ad, rfl, hcs⟩ := Txs_at hq (k := m.toNat) (by omega)
 refine S_index Tk J J J J J J (by omega) (by omega) ?_;refine Va J J ?_;refine S_load Tk J J J J J hcs ?_;refine Va J J ?_;exact S_retm 1 (Res.t1 Tryz.results29 J J) J XR ⟨J, J, _, List.getElem_mem _, J⟩
def tornL : List (List UInt8) := [[], [32], [10], [48], [45], [49], [97]]
theorem torn_len : ∀ s ∈ tornL, s.length ≤ 1 := by decide
def TextM (v : Value) (G : PH) : Prop := ∃ s, v = tx s ∧ s.length ≤ 1000000
theorem c_drawReadK (K : Nat) (hK : K + 10 ≤ 1000000000) (l : List Int) (cv : Value) (G : PH) (hl : Byts G l cv) (h1 : ∀ b l' sv G', Byts G' l' sv → Drw 27 b sv [] 0 K G' someV) : Pure Tryz.prog 11 [cv] G TextM := by
 obtain ⟨Ac, cc, rfl, _⟩ := id hl
 refine Pure.intro Tryz.func11 Tryz.ntmps11 J J fun w => ?_; refine Va J J ?_;refine S_callN 1 Tryz.call25 (c_l11Open l _ G hl) J J J ?_;rintro v1 G1 A1 ⟨b, sv, l', rfl, rfl, hl', rfl⟩ hext1
 refine S_newHP 1 J J ?_;refine Va J J ?_;refine S_callM 1 Tryz.call27 (h1 b l' sv _ hl') J J J J (fun _ => J) ?_;rintro v2 G2 A2 ⟨rfl, L, hst, hsh, hok⟩ hext2
 obtain ⟨A3, c3, rfl, _⟩ := id hst
 refine Va J J ?_;refine S_call Tryz.call26 (c_CodeOf L _ G2 hst hsh) J J J ?_;rintro v3 G3 ⟨c, hc, hcl⟩ hext3
 obtain ⟨A4, c4, rfl, _⟩ := id hc
 refine Va J J ?_;refine S_call Tryz.call7 (c_sCodeText c _ G3 hc (by omega)) J J J ?_;rintro v4 G4 rfl hext4
 obtain ⟨s, hs, hsl⟩ : ∃ s, (if codeOk c then textI c else []) = s ∧ s.length ≤ 3000 := by
  refine ⟨_, J, ?_⟩
  split
  ·have := text_len (InsG_all hc)
   omega
  ·simp
 rw [hs]
 clear hs
 have hxx := ((hext1.trans hext2).trans hext3).trans hext4
 have hl4 := Byts_le ((hext2.trans hext3).trans hext4).le hl'
 refine Va J J ?_
 refine S_guardp J J (fun h0 => ?_) (fun h0 => ?_) <;> refine Va J J ?_
 ·exact S_retp (Res.t1 Tryz.results11 J J) hxx ⟨s, J, by omega⟩
 rw [ba_size] at h0
 refine S_callM 1 Tryz.call28 (c_pick b l' _ _ (0 + K) _ hl4 ⟨by omega, by omega⟩ (by omega)) J J J J (fun _ => J) ?_;rintro v G5 A' ⟨rfl, rfl, m0, rfl, hm00, hm01⟩ _
 refine Va J J ?_
 refine S_condp J (fun h2 => ?_) (fun h2 => ?_) <;> refine Va J J ?_
 ·exact S_retp (Res.t1 Tryz.results11 J J) hxx ⟨s, J, by omega⟩
 refine S_callM 1 Tryz.call28 (c_pick b l' _ _ _ _ hl4 ⟨by omega, by rw [ba_size]; omega⟩ (by omega)) rfl rfl rfl rfl (fun _ => rfl) ?_;rintro v G6 A' ⟨rfl, rfl, k, rfl, hk0, hk1⟩ _
 rw [ba_size] at hk1
 obtain ⟨k, rfl⟩ := Int.eq_ofNat_of_zero_le hk0
 have hkl : k < s.length := by omega
 refine Va J J ?_;refine Ds J J J ?_;refine Da J J ?_;refine D_val 2 J J J J J J J J J (V_subTh u_str J J (Nat.le_of_lt hkl)) ?_;refine Da J J ?_;refine D_sole 4 J J (N_turnV 4 J J J J fun back => ?_)
 refine S_sliceG Tk ZT_ok J J J J (by decide) (by decide) J J J J (fun _ => J) fun bq Gq hxq hcq => ?_;refine back _ _ _ _ ?_ ?_
 ·clear back
  repeat' first
   | refine pk_val J J J J J J J J (V_subTh u_str J J (Nat.le_of_lt hkl)) ?_
   | refine pk_val J J J J J J J J (V_addS J J (by simp only [ba_size, List.length_take]; omega)) ?_
   | exact pk_all Tk (by kernel_rfl)
 clear back
 refine Da J J ?_
 have hq7 : Txs Gq tornL (.slice (some ⟨bq, 0, none⟩) 7 7) := Sx_Sr ⟨_, 7, rfl, by decide, Nat.le_refl _, by simp [maxLen], rfl, .inr ⟨_, rfl, hcq⟩⟩ rfl (Cs_tx tornL)
 refine D_sole 5 J J (N_turnV 5 J J J J fun back => ?_)
 refine S_callM 1 Tryz.call29 (c_of b l' _ tornL _ (0 + K + 1 + 1) _ (Byts_le hxq.le hl4) hq7 (by decide) (by omega)) J J J J (fun _ => J) ?_;rintro v G7 A' ⟨rfl, rfl, m, hm, rfl⟩ _
 have hml := torn_len m hm
 refine back _ _ _ _ ?_ ?_
 ·clear back
  repeat' first
   | refine pk_val J J J J J J J J (V_subTh u_str J J (Nat.le_of_lt hkl)) ?_
   | refine pk_val J J J J J J J J (V_addS J J (by simp only [ba_size, List.length_take]; omega)) ?_
   | exact pk_all Tk (by kernel_rfl)
 clear back
 refine Da J J ?_;refine D_val 6 J J J J J J J J J (V_addS J J (by simp only [ba_size, List.length_take]; omega)) ?_;refine Da J J ?_;refine D_sole 10 J J (N_turnV 10 J J J J fun back => ?_)
 refine S_callM 1 Tryz.call28 (c_pick b l' _ _ _ _ (Byts_le hxq.le hl4) ⟨by omega, by omega⟩ (by omega)) J J J J (fun _ => J) ?_;rintro v G8 A' ⟨rfl, rfl, j, rfl, hj0, hj1⟩ _
 obtain ⟨j, rfl⟩ := Int.eq_ofNat_of_zero_le hj0
 refine back _ _ _ _ ?_ ?_
 ·clear back
  repeat' first
   | refine pk_val J J J J J J J J (V_subTh u_str J J (Nat.le_of_lt hkl)) ?_
   | refine pk_val J J J J J J J J (V_addS J J (by simp only [ba_size, List.length_take]; omega)) ?_
   | exact pk_all Tk (by kernel_rfl)
 clear back
 refine Da J J ?_;refine D_val 11 J J J J J J J J J (V_addNN (m := k) (j := j) J J (by omega)) ?_;refine D_val 12 J J J J J J J J J (V_subTl (i := k + j) u_str J J (by omega)) ?_;refine D_val 13 J J J J J J J J J (V_addS J J (by simp only [ByteArray.size_append, ba_size, List.length_take, List.length_drop]; omega)) ?_;refine Da J J ?_;refine DD ?_;refine Va J J ?_;exact S_retp (Res.t1 Tryz.results11 J J) (hxx.trans hxq) ⟨s.take k ++ m ++ s.drop (k + j), by simp only [tx, ba_append], by simp only [List.length_append, List.length_take, List.length_drop]; omega⟩
theorem c_DrawCodeRead (l : List Int) (cv : Value) (G : PH) (hl : Byts G l cv) : Pure Tryz.prog 11 [cv] G TextM :=
 c_drawReadK (1 + 6 * kD 3) (by decide) l cv G hl fun b l' sv G' h => c_l2Some b l' sv 0 G' h (by decide)
end
section
def fldN (P : Program) (f : Field) (o : Nat) : Prop := (∃ k, P.underlying f.type = some (.int k)) ∧ f.name ≠ "_" ∧ f.offset = o
theorem run_eqS4 {P : Program} (w : World) {t : TypeId} {f0 f1 f2 f3 : Field} (ht : P.underlying t = some (.struct #[f0, f1, f2, f3])) (hst : P.stoodInHeld t = false) (h0 : fldN P f0 0) (h1 : fldN P f1 1) (h2 : fldN P f2 2) (h3 : fldN P f3 3) (p q r s : Int) :
  (Op.equal t (.agg #[.int .i64 p, .int .i64 q, .int .i64 r, .int .i64 s]) (.agg #[.int .i64 p, .int .i64 q, .int .i64 r, .int .i64 s])).run P w = .ok true w := by
 obtain ⟨⟨k0, h0⟩, n0, o0⟩ := h0
 obtain ⟨⟨k1, h1⟩, n1, o1⟩ := h1
 obtain ⟨⟨k2, h2⟩, n2, o2⟩ := h2
 obtain ⟨⟨k3, h3⟩, n3, o3⟩ := h3
 have e1 : ∀ d (f : Field) k (a : Int), P.underlying f.type = some (.int k) → (Op.equalIn (d + 1) f.type (.int .i64 a) (.int .i64 a)).run P w = .ok true w := by
  intro d f k a hf
  simp [Op.equalIn, run_underlying hf]
 have h : ∀ d : Nat, (Op.equalIn (d + 2) t (.agg #[.int .i64 p, .int .i64 q, .int .i64 r, .int .i64 s]) (.agg #[.int .i64 p, .int .i64 q, .int .i64 r, .int .i64 s])).run P w = .ok true w := fun d => by
  have a0 := e1 d f0 k0 p h0
  have a1 := e1 d f1 k1 q h1
  have a2 := e1 d f2 k2 r h2
  have a3 := e1 d f3 k3 s h3
  simp [Op.equalIn, run_underlying ht, hst, part, isAgg, run_underlying h0, run_underlying h1, run_underlying h2, run_underlying h3, n0, n1, n2, n3, o0, o1, o2, o3, a0, a1, a2, a3]
 simp [Op.equal, Op.maxDepth, h 9998]
theorem V_neqS4 {C : Ctx} {ι : Ids} {E : Env} {L : List Ent} {G : PH} {d : Option Nat} {ty : Nat} {pos : String} {af : Array Edge} {g : Option (Nat × Bool)} {t t' : Nat} {x y : Operand} {f0 f1 f2 f3 : Field} {p q r s : Int} (hgt : C.P.eqGuardType C.P.depth t = false) (ht : C.P.underlying t = some (.struct #[f0, f1, f2, f3])) (hst : C.P.stoodInHeld t = false) (h0 : fldN C.P f0 0) (h1 : fldN C.P f1 1) (h2 : fldN C.P f2 2) (h3 : fldN C.P f3 3)
  (hx : ev E x = some (.val (.agg #[.int .i64 p, .int .i64 q, .int .i64 r, .int .i64 s]))) (hy : ev E y = some (.val (.agg #[.int .i64 p, .int .i64 q, .int .i64 r, .int .i64 s]))) : Vl C ι E L G ⟨d, .binOp .neq t x y t', ty, pos, af, g⟩ (.bool false) := by
 intro a w hE _
 have ex := ev_sound hE hx
 have ey := ev_sound hE hy
 simp only [denO, Option.some.injEq] at ex ey
 simp only [execOp, ← ex, ← ey]
 have he := run_eqS4 (P := C.P) w ht hst h0 h1 h2 h3 p q r s
 simp [eqGuard, binOp, hgt, he]
def fldB (P : Program) (f : Field) (o : Nat) : Bool := (match P.underlying f.type with | some (.int _) => true | _ => false) && !(f.name == "_") && Nat.beq f.offset o
theorem fldB_of {P : Program} {f : Field} {o : Nat} (h : fldB P f o = true) : fldN P f o := by
 simp only [fldB, Bool.and_eq_true, Bool.not_eq_true', beq_eq_false_iff_ne, ne_eq] at h
 obtain ⟨⟨h1, h2⟩, h3⟩ := h
 split at h1
 ·rename_i k e
  exact ⟨⟨k, e⟩, h2, Nat.eq_of_beq_eq_true h3⟩
 ·cases h1
def s4B (P : Program) (t : Nat) : Bool := match P.underlying t with
 | some (.struct fs) => match fs.toList with
  | [f0, f1, f2, f3] => fldB P f0 0 && fldB P f1 1 && fldB P f2 2 && fldB P f3 3
  | _ => false
 | _ => false
theorem s4_of {P : Program} {t : Nat} (h : s4B P t = true) : ∃ f0 f1 f2 f3, P.underlying t = some (.struct #[f0, f1, f2, f3]) ∧ fldN P f0 0 ∧ fldN P f1 1 ∧ fldN P f2 2 ∧ fldN P f3 3 := by
 unfold s4B at h
 split at h
 ·rename_i fs hu
  split at h
  ·rename_i f0 f1 f2 f3 hf
   simp only [Bool.and_eq_true] at h
   obtain ⟨⟨⟨h1, h2⟩, h3⟩, h4⟩ := h
   refine ⟨f0, f1, f2, f3, ?_, fldB_of h1, fldB_of h2, fldB_of h3, fldB_of h4⟩
   rw [hu, ← Array.toArray_toList (xs := fs), hf]
  ·cases h
 ·cases h
end
section
attribute [local irreducible] X Pure Mod
theorem g_ins : Tryz.prog.eqGuardType Tryz.prog.depth 33 = false := by kernel_rfl
theorem u_ins4 : s4B Tryz.prog 33 = true := by kernel_rfl
theorem s_ins : Tryz.prog.stoodInHeld 33 = false := by kernel_rfl
theorem c_EqIns (l : List Ins) (v v' : Value) (G : PH) (h : InsG G l v) (h' : InsG G l v') : Pure Tryz.prog 24 [v, v'] G fun r G' => r = .bool true ∧ G' = G := by
 obtain ⟨A, c, rfl, hl1, _⟩ := id h
 obtain ⟨A', c', rfl, _⟩ := id h'
 obtain ⟨f0, f1, f2, f3, s1, s2, s3, s4, s5⟩ := s4_of u_ins4
 refine Pure.intro Tryz.func24 Tryz.ntmps24 J J fun w => ?_; refine Va J J ?_;refine RF J (by simp) ?_;refine Va J J ?_;refine S_loop (α := Nat) (fun i => i ≤ l.length) (fun i => l.length - i) [] (fun i => [(13, .val (.int .i64 (i : Nat))), (12, .val (.int .i64 (l.length : Nat))), (0, .val (.slice A l.length c)), (1, .val (.slice A' l.length c'))]) (fun _ => []) (fun _ => G) 0 (Nat.zero_le _) J ⟨⟨_, J, J⟩, ⟨_, J, J⟩, ⟨_, J, J⟩, ⟨_, J, J⟩, trivial⟩ .nil ?_
 intro i hi
 refine Va J J ?_
 refine S_condp J (fun h5 => ?_) (fun h5 => ?_) <;> refine Va J J ?_
 ·have hil : i < l.length := by omega
  obtain ⟨ad, cs, rfl, hcs, rfl, _⟩ := Sr_at h hil
  obtain ⟨ad', cs, rfl, hcs', rfl, _⟩ := Sr_at h' hil
  refine Ds J J J ?_;refine Da J J ?_;refine D_val 2 J J J J J J J J J (V_index Tk J J J J (by omega) (by omega)) ?_;refine Da J J ?_;refine D_val 3 J J J J J J J J J (V_loadA Tk J J J (by simpa using hcs)) ?_;refine Da J J ?_;refine D_val 6 J J J J J J J J J (V_index Tk J J J J (by omega) (by omega)) ?_;refine Da J J ?_;refine D_val 7 J J J J J J J J J (V_loadA Tk J J J (by simpa using hcs')) ?_;refine Da J J ?_
  refine D_val 8 J J J J J J J J J (V_neqS4 g_ins s1 s_ins s2 s3 s4 s5 J J) ?_;refine Da J J ?_;refine DD ?_;refine Va J J ?_;refine RF J J ?_;refine Va J J ?_;refine S_add J J J J (by omega) ?_;refine Va J J ?_;exact S_again (i + 1) (by omega) (by omega) J ⟨⟨_, J, by simp [denO]⟩, ⟨_, J, J⟩, ⟨_, J, J⟩, ⟨_, J, J⟩, trivial⟩ .nil
 ·exact S_retp (Res.t1 Tryz.results24 J J) XR ⟨J, J⟩
theorem c_CodeSame (l : List Ins) (v v' : Value) (G : PH) (h : InsG G l v) (h' : InsG G l v') : Pure Tryz.prog 10 [v, v'] G fun r G' => r = .bool true ∧ G' = G := by
 obtain ⟨A, c, rfl, hl1, _⟩ := id h
 obtain ⟨A', c', rfl, _⟩ := id h'
 refine Pure.intro Tryz.func10 Tryz.ntmps10 J J fun w => ?_; refine Va J J ?_;refine S_call Tryz.call24 (c_EqIns l _ _ G h h') J J J ?_;rintro r G1 ⟨rfl, rfl⟩ _
 refine Va J J ?_;exact S_retp (Res.t1 Tryz.results10 J J) XR ⟨J, J⟩
end
section
section
variable {C : Ctx} {k : List It} {E : Env} {ι : Ids} {L : List Ent} {G : PH} {all : Array Oper} {l : List Oper}
theorem S_rangeM (κ : Nat) {d t kt et bm clock : Nat} {es : Array MapEntry} {x : Operand} {ty : Nat} {pos : String} {af : Array Edge} {g : Option (Nat × Bool)} (hu : C.P.underlying t = some (.map kt et)) (hg : guardOf all E g = .on) (hN : Nat.ble (d + 1) C.n = true) (hx : ev E x = some (.val (.map (some bm)))) (hb : G bm = some (.map es clock))
  (hk : ∀ r, X C (.ops all l :: k) ((d, .val (.pointer (some ⟨r, 0, none⟩))) :: E) ι (.hp κ (objHP r (.mapIter (some bm) clock #[] clock)) :: L) G) : X C (.ops all (⟨some d, .range t x, ty, pos, af, g⟩ :: l) :: k) E ι L G := by
 intro a w h1 h2 h3 h4
 have ex := ev_sound h3 hx
 simp only [denO, Option.some.injEq] at ex
 have hrun : (execOp a.eval ⟨some d, .range t x, ty, pos, af, g⟩).run C.P w = .ok (.value (.pointer (some ⟨w.heap.size, 0, none⟩))) (w.alloc (.mapIter (some bm) clock #[] clock)) := by
  simp only [execOp, ← ex]
  simp [run_range_map w t kt et bm es clock hu (h4.emb _ _ hb)]
 refine wpE_val (guardOf_on h3 hg) (by intro c h; cases h) hrun ?_
 have hdn : d < a.tmps.size := by rw [h2]; exact Nat.le_of_ble_eq_true hN
 exact hk w.heap.size _ _ h1 (by simp [Act.put, h2]) (h3.put hdn J) (h4.allocH κ _)
theorem S_nextM (κ : Nat) {d r bm since c0 clock : Nat} {seen : Array Nat} {es : Array MapEntry} {x : Operand} {ty : Nat} {pos : String} {af : Array Edge} {g : Option (Nat × Bool)} (hg : guardOf all E g = .on) (hN : Nat.ble (d + 1) C.n = true) (hx : ev E x = some (.val (.pointer (some ⟨r, 0, none⟩)))) (hL : getH κ L = some (objHP r (.mapIter (some bm) since seen c0))) (hb : G bm = some (.map es clock))
  (hold : ∀ x ∈ es.toList, x.born < since) (hsc : since ≤ c0)
  (h0 : (leftOf es seen).size = 0 → X C (.ops all l :: k) ((d, .val (.tuple #[.bool false])) :: E) ι L G)
  (hS : ∀ e ∈ (leftOf es seen).toList, ∃ L', setH κ (objHP r (.mapIter (some bm) since (seen.push e.born) clock)) L = some L' ∧ X C (.ops all l :: k) ((d, .val (.tuple #[.bool true, e.key, e.val])) :: E) ι L' G) :
  X C (.ops all (⟨some d, .next x false, ty, pos, af, g⟩ :: l) :: k) E ι L G := by
 intro a w h1 h2 h3 h4
 have ex := ev_sound h3 hx
 simp only [denO, Option.some.injEq] at ex
 obtain ⟨S, hA, hSG, hturn⟩ := h4.turn hL
 have hdn : d < a.tmps.size := by rw [h2]; exact Nat.le_of_ble_eq_true hN
 rcases run_next_at (P := C.P) w ty r bm since c0 seen es clock hA.1 (h4.emb _ _ hb) hold hsc with ⟨hn, hr⟩ | ⟨e, he, w1, hw1, hr⟩
 ·have hrun : (execOp a.eval ⟨some d, .next x false, ty, pos, af, g⟩).run C.P w = .ok (.value (.tuple #[.bool false])) w := by
   simp only [execOp, ← ex]
   simp [hr]
  refine wpE_val (guardOf_on h3 hg) (by intro c h; cases h) hrun ?_;exact h0 hn _ _ h1 (by simp [Act.put, h2]) (h3.put hdn J) h4
 ·have hrun : (execOp a.eval ⟨some d, .next x false, ty, pos, af, g⟩).run C.P w = .ok (.value (.tuple #[.bool true, e.key, e.val])) (ChangeMaps.setBlock w1 r (.mapIter (some bm) since (seen.push e.born) clock)) := by
   simp only [execOp, ← ex]
   simp [hr]
  obtain ⟨L', hL', hk⟩ := hS e he
  have hsz := (Array.getElem?_eq_some_iff.1 hA.1).1
  have hw1h : w1.heap = w.heap ∧ w1.os = w.os ∧ w1.tape = w.tape ∧ w1.output = w.output := by
   rcases hw1 with rfl | rfl <;> exact ⟨J, J, J, J⟩
  have hot : ∀ b, b ≠ r → (ChangeMaps.setBlock w1 r (.mapIter (some bm) since (seen.push e.born) clock)).heap[b]? = w.heap[b]? := by
   intro b hne
   simp only [ChangeMaps.setBlock, Array.getElem?_setIfInBounds, hw1h.1]
   rw [if_neg (fun e => hne e.symm)]
  refine wpE_val (guardOf_on h3 hg) (by intro c h; cases h) hrun ?_;refine hk _ _ h1 (by simp [Act.put, h2]) (h3.put hdn J) (hturn _ _ G _ S hL' ⟨?_, hA.2⟩ ?_ XR (fun x hx => ⟨hSG x hx, .inl hx⟩) ?_ ?_ ?_ ?_ ?_)
  ·simp [ChangeMaps.setBlock, hw1h.1, hsz]
  ·intro b o hbo
   rw [hot b (by rintro rfl; have := hSG b ((hA.2 b).2 rfl); rw [this] at hbo; cases hbo)]
   exact h4.emb b o hbo
  ·exact hw1h.2.1
  ·exact hw1h.2.2.1
  ·exact hw1h.2.2.2
  ·simp [ChangeMaps.setBlock, hw1h.1]
  ·intro b _ hn
   exact hot b fun e => hn ((hA.2 b).2 e)
end
end
section
section
variable {C : Ctx} {E : Env} {ι : Ids} {L : List Ent} {G : PH} {d : Option Nat} {ty : Nat} {pos : String} {af : Array Edge} {g : Option (Nat × Bool)}
theorem V_entryM (κ : Nat) {r bm since clock : Nat} {seen : Array Nat} {es : Array MapEntry} {e : MapEntry} {x : Operand} (hx : ev E x = some (.val (.pointer (some ⟨r, 0, none⟩)))) (hL : getH κ L = some (objHP r (.mapIter (some bm) since (seen.push e.born) clock))) (hb : G bm = some (.map es clock)) (he : e ∈ es.toList) (hn : (es.toList.map (·.born)).Nodup) :
  Vl C ι E L G ⟨d, .entry x, ty, pos, af, g⟩ (.tuple #[e.key, e.val]) := by
 intro a w hE hw
 have ex := ev_sound hE hx
 simp only [denO, Option.some.injEq] at ex
 obtain ⟨Ss, ho, _⟩ := hw.own
 obtain ⟨S, hA, _⟩ := owns_split ho hL
 have := run_entry_at (P := C.P) w r bm since seen es clock e hA.1 (hw.emb _ _ hb) he hn
 simp only [execOp, ← ex]
 simp [this]
theorem run_neqNilI {P : Program} (w : World) {t : TypeId} {ms : Array (String × TypeId)} (hu : P.underlying t = some (.interface ms)) (tp : TypeId) (p : Value) : (binOp .neq t (.iface tp p) .nilIface).run P w = .ok (.bool true) w := by
 have h : ∀ d : Nat, (Op.equalIn (d + 1) t (.iface tp p) .nilIface).run P w = .ok false w := fun d => by simp [Op.equalIn, run_underlying hu]
 simp only [binOp]
 simp [Op.equal, Op.maxDepth, h 9999]
theorem run_neqNilN {P : Program} (w : World) {t : TypeId} {ms : Array (String × TypeId)} (hu : P.underlying t = some (.interface ms)) : (binOp .neq t .nilIface .nilIface).run P w = .ok (.bool false) w := by
 have h : ∀ d : Nat, (Op.equalIn (d + 1) t .nilIface .nilIface).run P w = .ok true w := fun d => by simp [Op.equalIn, run_underlying hu]
 simp only [binOp]
 simp [Op.equal, Op.maxDepth, h 9999]
theorem V_neqNilI {t t' : Nat} {ms : Array (String × TypeId)} {x : Operand} {tp : TypeId} {p : Value} (hu : C.P.underlying t = some (.interface ms)) (hx : ev E x = some (.val (.iface tp p))) : Vl C ι E L G ⟨d, .binOp .neq t x (.const .nilIface) t', ty, pos, af, g⟩ (.bool true) := by
 intro a w hE hw
 have ex := ev_sound hE hx
 simp only [denO, Option.some.injEq] at ex
 have ey : a.eval (.const .nilIface) = .nilIface := rfl
 simp only [execOp, ← ex, ey]
 simp [eqGuard, run_neqNilI w hu]
theorem V_neqNilN {t t' : Nat} {ms : Array (String × TypeId)} {x : Operand} (hu : C.P.underlying t = some (.interface ms)) (hx : ev E x = some (.val .nilIface)) : Vl C ι E L G ⟨d, .binOp .neq t x (.const .nilIface) t', ty, pos, af, g⟩ (.bool false) := by
 intro a w hE hw
 have ex := ev_sound hE hx
 simp only [denO, Option.some.injEq] at ex
 have ey : a.eval (.const .nilIface) = .nilIface := rfl
 have eg := eqGuard_nil_constR (op := .neq) (t := t) (x := x) .nilIface
 simp only [execOp, ← ex, ey]
 simp [eg, run_neqNilN w hu]
end
end
end Go.Proofs.YtblildkhbkmmdaaGreatDoor
