/- Walks of the program's functions, one after the other (part 4); without conditions of their own. -/
import Derived.Test.YtphbcboejmhaoaaGreatWM2
import Derived.Test.YtphbcboejmhaoaaGreatWM3
set_option linter.unusedVariables false
set_option linter.unusedSimpArgs false
set_option maxRecDepth 100000
set_option maxHeartbeats 4000000
open Go.RowKit
namespace Go.Proofs.YtphbcboejmhaoaaGreat
section
section
variable {C : Ctx} {k : List It} {E : Env} {ι : Ids} {L : List Ent} {G : PH}
theorem S_rdLe (κ : Nat) {b N : Nat} {sv : Value} (N' : Nat) {L' : List Ent} (hN : N ≤ N') (hL : getH κ L = some (rdHP b sv N)) (hL' : setH κ (rdHP b sv N') L = some L') (hx : X C k E ι L' G) : X C k E ι L G := by
 intro a w h1 h2 h3 h4
 refine hx a w h1 h2 h3 ?_;obtain ⟨S, hA, hSG, hturn⟩ := h4.turn hL
 refine hturn _ _ G w S hL' ?_ h4.emb XR (fun b hb => ⟨hSG b hb, .inl hb⟩) J J J (Nat.le_refl _) fun _ _ _ => J
 obtain ⟨ι0, L0, Ss0, ⟨p, hp, q1, q2⟩, q3⟩ := hA
 exact ⟨ι0, L0, Ss0, ⟨p, Nat.le_trans hp hN, q1, q2⟩, q3⟩
end
attribute [local irreducible] X Pure Mod
mutual
/-- no list within is long -/
def Stm.short : Stm → Prop
 | .mk _ _ _ _ x y => (x.length ≤ 1000000 ∧ shL x) ∧ y.length ≤ 1000000 ∧ shL y
def shL : List Stm → Prop
 | [] => True
 | s :: r => Stm.short s ∧ shL r
end
def Sh (l : List Stm) : Prop := l.length ≤ 1000000 ∧ shL l
theorem Stm.short_mk {k a b n : Int} {x y : List Stm} : Stm.short (.mk k a b n x y) ↔ Sh x ∧ Sh y := by simp [Stm.short, Sh]
theorem shL_iff : ∀ {l : List Stm}, shL l ↔ ∀ s ∈ l, Stm.short s
 | [] => by simp [shL]
 | s :: r => by simp [shL, shL_iff (l := r)]
theorem shL_append {l l' : List Stm} : shL (l ++ l') ↔ shL l ∧ shL l' := by
 rw [shL_iff, shL_iff, shL_iff]
 constructor
 ·exact fun h => ⟨fun s hs => h s (List.mem_append.2 (.inl hs)), fun s hs => h s (List.mem_append.2 (.inr hs))⟩
 ·rintro ⟨h1, h2⟩ s hs
  rcases List.mem_append.1 hs with hs | hs
  ·exact h1 s hs
  ·exact h2 s hs
theorem Sh_nil : Sh [] := ⟨by simp, trivial⟩
theorem rd_covers (b : Nat) (sv : Value) (N N' : Nat) : Covers (rdHP b sv N) (rdHP b sv N') := by
 rintro w w' S S' ⟨ι0, L0, Ss, ⟨p, _, rfl, rfl⟩, ho, hS⟩ ⟨ι1, L1, Ss', ⟨p', _, rfl, rfl⟩, ho', hS'⟩ x hx
 obtain ⟨T, hT, hTx⟩ := (hS x).1 hx
 cases Ss with
 | nil => cases hT
 | cons U Us =>
  cases Us with
  | cons => simp [owns] at ho
  | nil =>
   cases Ss' with
   | nil => simp [owns] at ho'
   | cons U' Us' =>
    obtain ⟨⟨c, _, hc, _, _, hU⟩, _⟩ := ho
    obtain ⟨⟨c', _, hc', _, _, hU'⟩, _⟩ := ho'
    simp [lookI] at hc hc'
    rw [List.mem_singleton.1 hT] at hTx
    exact (hS' x).2 ⟨U', List.mem_cons_self .., (hU' x).2 (by rw [(hU x).1 hTx, ← hc, ← hc'])⟩
def DrwL (f : Nat) (b : Nat) (sv : Value) (args : List Value) (N K : Nat) (G : PH) (e sz : Nat) (Post : Nat → List Value → PH → Prop) : Prop :=
 Mod Tryz.prog f (.pointer (some ⟨b, 0, none⟩) :: args) G (rdHP b sv N) fun v G' R => ∃ A' B', R = pairHP A' B' ∧ Covers (rdHP b sv N) A' ∧ A' = rdHP b sv (N + K) ∧ ∃ A n c xs base, v = .slice A n c ∧ B' = rowO base e sz A n c xs ∧ Post n xs G'
def stmL (most : Nat) (n : Nat) (xs : List Value) (G : PH) : Prop := ∃ l : List Stm, n = l.length ∧ l.length ≤ most ∧ Cs 6 (Stm.rep G) l xs ∧ shL l
def stmV (v : Value) (G : PH) : Prop := ∃ s cs, v = .agg cs.toArray ∧ Stm.rep G s cs ∧ Stm.short s
def kD : Nat → Nat
 | 0 => 10
 | d + 1 => 10 + 2 * (1 + 3 * kD d)
theorem c_l2Draws (b : Nat) (l : List Int) (sv : Value) (d N most : Nat) (room : Int) (G : PH) (hl : Byts G l sv) (hm : most ≤ 3) (hN : N + (1 + most * kD d) ≤ 1000000000)
  (hd : ∀ M G, Byts G l sv → M + kD d ≤ 1000000000 → Drw 75 b sv [.int .i64 (d : Nat), .int .i64 room] M (kD d) G stmV) :
  DrwL 87 b sv [.int .i64 (d : Nat), .int .i64 room, .int .i64 (most : Nat)] N (1 + most * kD d) G 65 6 (stmL most) := by
 obtain ⟨A, c, rfl, hl1, _⟩ := id hl
 refine Mod.intro Tryz.func87 Tryz.ntmps87 J J fun w S => ?_;refine Va J J ?_;refine S_emptyO Tk 5 J J J J fun A0 => ?_;refine Va J J ?_;refine S_add J J J J (by omega) ?_;refine Va J J ?_;refine S_callM 1 Tryz.call22 (c_pick b l _ _ N G hl ⟨by omega, by omega⟩ (by omega)) J J J J (fun _ => J) ?_;rintro v G2 A' ⟨rfl, rfl, m, rfl, h0, h1⟩ _
 refine Va J J ?_;obtain ⟨m, rfl⟩ := Int.eq_ofNat_of_zero_le h0
 have hmm : m ≤ most := by omega
 refine S_loop (α := Nat × Nat × Option Addr × Nat × List Value × List Stm × PH) (fun y => y.1 + y.2.2.2.2.2.1.length ≤ most ∧ y.2.1 + y.1 * kD d ≤ N + (1 + most * kD d) ∧ PH.ext w.heap.size G2 y.2.2.2.2.2.2 ∧ Cs 6 (Stm.rep y.2.2.2.2.2.2) y.2.2.2.2.2.1 y.2.2.2.2.1 ∧ shL y.2.2.2.2.2.1) (fun y => y.1) []
  (fun y => [(10, .val (.int .i64 (y.1 : Nat))), (9, .val (.slice y.2.2.1 y.2.2.2.2.2.1.length y.2.2.2.1)), (0, .val (.pointer (some ⟨b, 0, none⟩))), (1, .val (.int .i64 (d : Nat))), (2, .val (.int .i64 room))])
  (fun y => [.hp 5 (rowO w.heap.size 65 6 y.2.2.1 y.2.2.2.2.2.1.length y.2.2.2.1 y.2.2.2.2.1), .hp 1 (rdHP b (.slice A l.length c) y.2.1)]) (fun y => y.2.2.2.2.2.2) (m, N + 1, A0, 0, [], [], G2) ⟨by simpa using hmm, ?_, PH.ext.refl _ _, rfl, trivial⟩ rfl ?_ ?_ ?_
 ·have := Nat.mul_le_mul_right (kD d) hmm
  simp only
  omega
 ·exact ⟨⟨_, J, J⟩, ⟨_, J, J⟩, ⟨_, J, J⟩, ⟨_, J, J⟩, ⟨_, J, J⟩, trivial⟩
 ·exact .hp (.hp .nil)
 rintro ⟨i, M, A1, c1, xs, ls, G1⟩ ⟨hi, hM, hext, hcs, hsh⟩
 simp only at hi hM hext hcs hsh ⊢
 refine Va J J ?_
 refine S_condp J (fun h => ?_) (fun h => ?_) <;> refine Va J J ?_
 ·obtain ⟨j, rfl⟩ : ∃ j, i = j + 1 := ⟨i - 1, by omega⟩
  rw [Nat.succ_mul] at hM
  refine S_callM 1 Tryz.call75 (hd M G1 (Byts_le hext.le hl) (by omega)) J J J J (fun _ => J) ?_;rintro v G3 A' ⟨rfl, s, cs, rfl, hrep, hss⟩ hext3
  have hlen := Stm.rep_len hrep
  have hone := Stm.rep_one s cs hrep
  obtain ⟨c0, c1', c2', c3', c4', c5', rfl⟩ : ∃ c0 c1 c2 c3 c4 c5, cs = [c0, c1, c2, c3, c4, c5] := by
   match cs, hlen with
   | [a0, a1, a2, a3, a4, a5], _ => exact ⟨a0, a1, a2, a3, a4, a5, rfl⟩
  refine Va J J ?_;refine S_slice Tk ZT_ok J J J J (by decide) (by decide) J J J J fun b2 => ?_;refine Va J J ?_;refine S_app1 Tk 5 25 J J J J J J J J J J J J J J hone J (fun _ _ => J) (by omega) (Nat.le_refl _) fun A2 c2 => ?_;refine Va J J ?_;refine S_subI J J J J (by omega) ?_;refine Va J J ?_;refine S_again (j, M + kD d, A2, c2, _, ls ++ [s], G3) ⟨by simp; omega, by simp only; omega, hext.trans hext3, Cs_append (Cs_mono (Stm.reps_le hext3.le ls) hcs) hrep rfl, shL_append.2 ⟨hsh, hss, trivial⟩⟩ (by simp only; omega) rfl ⟨⟨_, rfl, by simp [denO]⟩, ⟨_, rfl, by simp [denO]⟩, ⟨_, rfl, rfl⟩, ⟨_, rfl, rfl⟩, ⟨_, rfl, rfl⟩, trivial⟩ ?_
  simp only [List.length_append, List.length_singleton]
  exact .drop (.hp (.hp .nil))
 ·obtain rfl : i = 0 := by omega
  refine S_rdLe 1 (N + (1 + most * kD d)) (by omega) J J ?_;refine S_pair 1 5 6 J J J J ?_;exact S_retm 6 (Res.t1 Tryz.results87 J J) J hext ⟨_, _, J, rd_covers _ _ _ _, J, _, _, _, _, _, J, J, ls, J, by omega, hcs, hsh⟩
theorem ints_of {G : PH} {a : Addr} {l : List Int} {n c : Nat} (h : gcells G a (intC l)) (hn : n = l.length) (hc : n ≤ c) (hcm : c ≤ maxLen) (hb : n ≤ 1000000000) (hi : ∀ x ∈ l, I64 x) : Ints G l (.slice (some a) n c) :=
 Sx_Ints ⟨some a, c, rfl, hb, hc, hcm, by rw [intC_length, hn]; omega, .inr ⟨a, rfl, h⟩⟩ hn hi
theorem c_numL (b : Nat) {l : List Int} {sv : Value} (q : List Int) {a : Addr} {n c N : Nat} {G : PH} (hl : Byts G l sv) (h : gcells G a (intC q)) (hn : (n : Int) = q.length) (hc : n ≤ c) (hcm : c ≤ maxLen) (hb : 0 < q.length ∧ n ≤ 1000000000) (hi : ∀ x ∈ q, I64 x) (hN : N + 1 ≤ 1000000000) :
  Drw 46 b sv [.slice (some a) n c] N 1 G fun v G' => G' = G ∧ ∃ m ∈ q, v = .int .i64 m :=
 c_num b l sv q _ N G hl (ints_of h (by omega) hc hcm hb.2 hi) hb.1 hN
theorem i64_small {l : List Int} (h : (l.all fun x => decide (-9223372036854775808 ≤ x ∧ x ≤ 9223372036854775807)) = true) : ∀ x ∈ l, I64 x := by
 intro x hx
 have := List.all_eq_true.1 h x hx
 simp only [decide_eq_true_eq] at this
 exact ⟨by omega, by omega⟩
theorem frz {α : Type} {G G' : PH} {sz : Nat} {rep : α → List Value → Prop} {L : List α} {A : Option Addr} {n c : Nat} {xs : List Value} (hcs : Cs sz rep L xs) (hn : n = L.length) (hb : n ≤ 1000000000) (hnc : n ≤ c) (hcm : c ≤ maxLen) (hcl : n = 0 ∨ ∃ a, A = some a ∧ gcells (newp G G') a xs) : Sr G' sz rep L (.slice A n c) := by
 subst hn
 refine Sx_Sr ⟨A, c, J, hb, hnc, hcm, Cs_length hcs, ?_⟩ J hcs
 rcases hcl with hcl | ⟨a, h1, h2⟩
 ·exact .inl hcl
 ·exact .inr ⟨a, h1, gcells_le (newp_le _ _) h2⟩
theorem c_l2Draw (b : Nat) (l : List Int) (sv : Value) (d N : Nat) (room : Int) (G : PH) (hl : Byts G l sv) (h3 : d ≤ 100) (hN : N + kD d ≤ 1000000000)
  (hd : 2 ≤ d → ∀ (most M : Nat) (room : Int) G, most ≤ 3 → Byts G l sv → M + (1 + most * kD (d - 1)) ≤ 1000000000 → DrwL 87 b sv [.int .i64 ((d : Int) - 1), .int .i64 room, .int .i64 (most : Nat)] M (1 + most * kD (d - 1)) G 65 6 (stmL most)) :
  Drw 75 b sv [.int .i64 (d : Nat), .int .i64 room] N (kD d) G stmV := by
 obtain ⟨A, c, rfl, hl1, _⟩ := id hl
 have hk : 10 ≤ kD d := by cases d <;> simp only [kD] <;> omega
 refine Mod.intro Tryz.func75 Tryz.ntmps75 J J fun w S => ?_;refine Va J J ?_;refine AZ ZT_ok J J J J fun b6 => ?_;refine Va J J ?_;refine S_callM 1 Tryz.call22 (c_pick b l _ _ N G hl ⟨by omega, by omega⟩ (by omega)) J J J J (fun _ => J) ?_;rintro v G2 A' ⟨rfl, rfl, a, rfl, ha0, ha1⟩ _
 refine Va J J ?_;refine S_callM 1 Tryz.call22 (c_pick b l _ _ _ _ hl ⟨by omega, by omega⟩ (by omega)) J J J J (fun _ => J) ?_;rintro v G2 A' ⟨rfl, rfl, bb, rfl, hb0, hb1⟩ _
 refine Va J J ?_;refine S_sliceG Tk ZT_ok J J J J (by decide) (by decide) J J J J (fun _ => J) fun bq Gq hxq hcq => ?_;refine Va J J ?_;refine S_callM 1 Tryz.call46 (c_numL b [1, 2, 3, 4, 5, 3, 4, 2, 8, 6, 7, 10, 9, 11, 8, 5] (Byts_le hxq.le hl) hcq J (Nat.le_refl _) (by decide) (by decide) (i64_small (by decide)) (by omega)) J J J J (fun _ => J) ?_;rintro v G' A' ⟨rfl, rfl, kind, hmem, rfl⟩ _
 refine Va J J ?_
 simp only [List.mem_cons, List.not_mem_nil, or_false] at hmem
 have hmem2 : kind = 1 ∨ kind = 2 ∨ kind = 3 ∨ kind = 4 ∨ kind = 5 ∨ kind = 6 ∨ kind = 7 ∨ kind = 8 ∨ kind = 9 ∨ kind = 10 ∨ kind = 11 := by omega
 clear hmem
 have hx2 := hxq
 rcases hmem2 with rfl | rfl | rfl | rfl | rfl | rfl | rfl | rfl | rfl | rfl | rfl
 all_goals
  repeat' (first
   | (refine GT J J J ?_; refine Va J J ?_)
   | (refine GF J J J ?_; refine Va J J ?_)
   | (refine S_guardp J J (fun h => ?_) (fun h => ?_) <;> refine Va J J ?_)
   | (refine S_guard J J (fun h => ?_) (fun h => ?_) <;> refine Va J J ?_)
   | (refine RT J J ?_; refine Va J J ?_)
   | (refine RF J J ?_; refine Va J J ?_))
 all_goals (try (simp at h; done))
 all_goals first
  |refine S_rdLe 1 (N + kD d) (by omega) J J ?_
   refine S_retm 1 (Res.c1 Tk Tryz.results75 J J) J (hxq) ⟨J, .mk _ _ _ _ [] [], _, J, Stm.rep_iff.2 ⟨_, _, J, ?_, ?_, ?_, ?_, Sr_nil J, Sr_nil J⟩, Stm.short_mk.2 ⟨Sh_nil, Sh_nil⟩⟩ <;> exact ⟨by omega, by omega⟩
  |refine S_sliceG Tk ZT_ok J J J J (by decide) (by decide) J J J J (fun _ => J) fun bq3 Gq3 hxq3 hcq3 => ?_
   refine Va J J ?_;refine S_callM 1 Tryz.call46 (c_numL b [1, 2, 3, 4, 5] (Byts_le (PH.ext.trans hxq hxq3).le hl) hcq3 J (Nat.le_refl _) (by decide) (by decide) (i64_small (by decide)) (by omega)) J J J J (fun _ => J) ?_;rintro v G' A' ⟨rfl, rfl, kind, hmem, rfl⟩ _
   refine Va J J ?_
   simp only [List.mem_cons, List.not_mem_nil, or_false] at hmem
   rcases hmem with rfl | rfl | rfl | rfl | rfl
   all_goals
    repeat' (first
     | (refine GT J J J ?_; refine Va J J ?_)
     | (refine GF J J J ?_; refine Va J J ?_)
     | (refine S_guardp J J (fun h => ?_) (fun h => ?_) <;> refine Va J J ?_)
     | (refine S_guard J J (fun h => ?_) (fun h => ?_) <;> refine Va J J ?_)
     | (refine RT J J ?_; refine Va J J ?_)
     | (refine RF J J ?_; refine Va J J ?_))
   all_goals first
    |refine S_rdLe 1 (N + kD d) (by omega) J J ?_
     refine S_retm 1 (Res.c1 Tk Tryz.results75 J J) J ((hxq.trans hxq3)) ⟨J, .mk _ _ _ _ [] [], _, J, Stm.rep_iff.2 ⟨_, _, J, ?_, ?_, ?_, ?_, Sr_nil J, Sr_nil J⟩, Stm.short_mk.2 ⟨Sh_nil, Sh_nil⟩⟩ <;> exact ⟨by omega, by omega⟩
    |refine S_sliceG Tk ZT_ok J J J J (by decide) (by decide) J J J J (fun _ => J) fun bq1 Gq1 hxq1 hcq1 => ?_
     refine Va J J ?_;refine S_callM 1 Tryz.call46 (c_numL b [0, 1, 2, 3, -1, 5] (Byts_le (PH.ext.trans ((hxq.trans hxq3)) hxq1).le hl) hcq1 J (Nat.le_refl _) (by decide) (by decide) (i64_small (by decide)) (by omega)) J J J J (fun _ => J) ?_;rintro v G' A' ⟨rfl, rfl, m1, hmem1, rfl⟩ _
     have hm1 : -1 ≤ m1 ∧ m1 ≤ 5 := by (simp only [List.mem_cons, List.not_mem_nil, or_false] at hmem1); omega
     refine Va J J ?_;refine S_rdLe 1 (N + kD d) (by omega) J J ?_
     refine S_retm 1 (Res.c1 Tk Tryz.results75 J J) J ((PH.ext.trans ((hxq.trans hxq3)) hxq1)) ⟨J, .mk _ _ _ _ [] [], _, J, Stm.rep_iff.2 ⟨_, _, J, ?_, ?_, ?_, ?_, Sr_nil J, Sr_nil J⟩, Stm.short_mk.2 ⟨Sh_nil, Sh_nil⟩⟩ <;> exact ⟨by omega, by omega⟩
    |refine S_callM 1 Tryz.call22 (c_pick b l _ _ _ _ (Byts_le (PH.ext.le ((hxq.trans hxq3))) hl) ⟨by omega, by omega⟩ (by omega)) J J J J (fun _ => J) ?_
     rintro v G2 A' ⟨rfl, rfl, m1, rfl, hm0, hm1⟩ _
     refine Va J J ?_;refine S_add J J J J (by omega) ?_;refine Va J J ?_;refine S_rdLe 1 (N + kD d) (by omega) J J ?_
     refine S_retm 1 (Res.c1 Tk Tryz.results75 J J) J ((hxq.trans hxq3)) ⟨J, .mk _ _ _ _ [] [], _, J, Stm.rep_iff.2 ⟨_, _, J, ?_, ?_, ?_, ?_, Sr_nil J, Sr_nil J⟩, Stm.short_mk.2 ⟨Sh_nil, Sh_nil⟩⟩ <;> exact ⟨by omega, by omega⟩
  |refine S_sliceG Tk ZT_ok J J J J (by decide) (by decide) J J J J (fun _ => J) fun bq1 Gq1 hxq1 hcq1 => ?_
   refine Va J J ?_;refine S_callM 1 Tryz.call46 (c_numL b [0, 1, 2, 3, -1, 5] (Byts_le (PH.ext.trans (hxq) hxq1).le hl) hcq1 J (Nat.le_refl _) (by decide) (by decide) (i64_small (by decide)) (by omega)) J J J J (fun _ => J) ?_;rintro v G' A' ⟨rfl, rfl, m1, hmem1, rfl⟩ _
   have hm1 : -1 ≤ m1 ∧ m1 ≤ 5 := by (simp only [List.mem_cons, List.not_mem_nil, or_false] at hmem1); omega
   refine Va J J ?_;refine S_rdLe 1 (N + kD d) (by omega) J J ?_
   refine S_retm 1 (Res.c1 Tk Tryz.results75 J J) J ((PH.ext.trans (hxq) hxq1)) ⟨J, .mk _ _ _ _ [] [], _, J, Stm.rep_iff.2 ⟨_, _, J, ?_, ?_, ?_, ?_, Sr_nil J, Sr_nil J⟩, Stm.short_mk.2 ⟨Sh_nil, Sh_nil⟩⟩ <;> exact ⟨by omega, by omega⟩
  |refine S_callM 1 Tryz.call22 (c_pick b l _ _ _ _ (Byts_le (PH.ext.le (hxq)) hl) ⟨by omega, by omega⟩ (by omega)) J J J J (fun _ => J) ?_
   rintro v G2 A' ⟨rfl, rfl, m1, rfl, hm0, hm1⟩ _
   refine Va J J ?_;refine S_add J J J J (by omega) ?_;refine Va J J ?_;refine S_rdLe 1 (N + kD d) (by omega) J J ?_
   refine S_retm 1 (Res.c1 Tk Tryz.results75 J J) J (hxq) ⟨J, .mk _ _ _ _ [] [], _, J, Stm.rep_iff.2 ⟨_, _, J, ?_, ?_, ?_, ?_, Sr_nil J, Sr_nil J⟩, Stm.short_mk.2 ⟨Sh_nil, Sh_nil⟩⟩ <;> exact ⟨by omega, by omega⟩
  |refine S_callM 1 Tryz.call22 (c_pick b l _ _ _ _ (Byts_le (PH.ext.le (hxq)) hl) ⟨by omega, by omega⟩ (by omega)) J J J J (fun _ => J) ?_
   rintro v G2 A' ⟨rfl, rfl, m1, rfl, hm0, hm1⟩ _
   refine Va J J ?_;refine S_rdLe 1 (N + kD d) (by omega) J J ?_
   refine S_retm 1 (Res.c1 Tk Tryz.results75 J J) J (hxq) ⟨J, .mk _ _ _ _ [] [], _, J, Stm.rep_iff.2 ⟨_, _, J, ?_, ?_, ?_, ?_, Sr_nil J, Sr_nil J⟩, Stm.short_mk.2 ⟨Sh_nil, Sh_nil⟩⟩ <;> exact ⟨by omega, by omega⟩
  | skip
 -- an if
 ·have h2 : 2 ≤ d := by simp at h; omega
  have hkd : kD d = 10 + 2 * (1 + 3 * kD (d - 1)) := by
   cases d
   ·omega
   ·rfl
  refine S_subI J J J J (by omega) ?_;refine Va J J ?_;refine S_callPr 1 300 Tryz.call87 (hd h2 2 _ room _ (by omega) (Byts_le hxq.le hl) (by omega)) J J J J (fun _ => J) ?_;rintro v G3 A' B' ⟨rfl, A1, n1, c1, xs1, base1, rfl, rfl, l1, rfl, hle1, hcs1, hsh1⟩ hext1
  refine S_newRow 300 J J ?_;refine S_freezeR 300 J J (Nat.le_refl _) fun G4 hext2 hnc1 hcm1 hcl1 => ?_
  have hv1 : Sts G4 l1 _ := frz (Cs_mono (Stm.reps_le hext2.le l1) hcs1) rfl (by omega) hnc1 hcm1 hcl1
  refine Va J J ?_;refine S_subI J J J J (by omega) ?_;refine Va J J ?_
  have e1 := (hxq.trans hext1).trans hext2
  refine S_callPr 1 301 Tryz.call87 (hd h2 2 _ room _ (by omega) (Byts_le e1.le hl) (by omega)) J J J J (fun _ => J) ?_;rintro v G5 A' B' ⟨rfl, A2, n2, c2, xs2, base2, rfl, rfl, l2, rfl, hle2, hcs2, hsh2⟩ hext3
  refine S_newRow 301 J J ?_;refine S_freezeR 301 J J (Nat.le_refl _) fun G6 hext4 hnc2 hcm2 hcl2 => ?_
  have hv2 : Sts G6 l2 _ := frz (Cs_mono (Stm.reps_le hext4.le l2) hcs2) rfl (by omega) hnc2 hcm2 hcl2
  refine Va J J ?_
  have e2 := (e1.trans hext3).trans hext4
  refine S_rdLe 1 (N + kD d) (by omega) J J ?_;refine S_retm 1 (Res.c1 Tk Tryz.results75 J J) J e2 ⟨J, .mk _ _ _ _ l1 l2, _, J, Stm.rep_iff.2 ⟨_, _, J, ⟨by omega, by omega⟩, ⟨by omega, by omega⟩, ⟨by omega, by omega⟩, ⟨by omega, by omega⟩, Sts_le (hext3.trans hext4).le hv1, hv2⟩, Stm.short_mk.2 ⟨⟨by omega, hsh1⟩, by omega, hsh2⟩⟩
 -- a while
 ·have h2 : 2 ≤ d := by simp at h; omega
  have hkd : kD d = 10 + 2 * (1 + 3 * kD (d - 1)) := by
   cases d
   ·omega
   ·rfl
  refine S_subI J J J J (by omega) ?_;refine Va J J ?_;refine S_callPr 1 300 Tryz.call87 (hd h2 2 _ room _ (by omega) (Byts_le hxq.le hl) (by omega)) J J J J (fun _ => J) ?_;rintro v G3 A' B' ⟨rfl, A1, n1, c1, xs1, base1, rfl, rfl, l1, rfl, hle1, hcs1, hsh1⟩ hext1
  refine S_newRow 300 J J ?_;refine Va J J ?_
  have e1 := hxq.trans hext1
  refine S_sliceG Tk ZT_ok J J J J (by decide) (by decide) J J J J (fun _ => J) fun bq1 Gq1 hxq1 hcq1 => ?_;refine Va J J ?_;refine S_callM 1 Tryz.call46 (c_numL b [0, 0, 0, 0, 0, 1] (Byts_le (e1.trans hxq1).le hl) hcq1 J (Nat.le_refl _) (by decide) (by decide) (i64_small (by decide)) (by omega)) J J J J (fun _ => J) ?_;rintro v G' A' ⟨rfl, rfl, m1, hmem1, rfl⟩ _
  have hm1 : 0 ≤ m1 ∧ m1 ≤ 1 := by (simp only [List.mem_cons, List.not_mem_nil, or_false] at hmem1); omega
  refine Va J J ?_;refine S_slice Tk ZT_ok J J J J (by decide) (by decide) J J J J fun b2 => ?_;refine Va J J ?_
  refine S_app1 Tk 300 105 J J J J J J J J J J J J J J (by intro u hu; simp at hu; rcases hu with rfl | rfl | rfl | rfl | rfl | rfl <;> rfl) rfl (fun _ _ => rfl) (by omega) (Nat.le_refl _) fun A2 c2 => ?_
  refine Va J J ?_;refine S_freezeR 300 J J (Nat.le_refl _) fun G4 hext2 hnc1 hcm1 hcl1 => ?_;refine Va J J ?_
  have hcs2 := Cs_append (x := Stm.mk 1 a 0 m1 [] []) hcs1 (Stm.rep_iff.2 ⟨_, _, rfl, ⟨by omega, by omega⟩, ⟨by omega, by omega⟩, ⟨by omega, by omega⟩, ⟨by omega, by omega⟩, Sr_nil rfl, Sr_nil rfl⟩) rfl
  have hv1 : Sts G4 (l1 ++ [Stm.mk 1 a 0 m1 [] []]) _ := frz (Cs_mono (Stm.reps_le (hxq1.trans hext2).le _) hcs2) (by simp) (by omega) hnc1 hcm1 hcl1
  refine S_rdLe 1 (N + kD d) (by omega) J J ?_;exact S_retm 1 (Res.c1 Tk Tryz.results75 J J) J ((e1.trans hxq1).trans hext2) ⟨J, .mk _ _ _ _ _ _, _, J, Stm.rep_iff.2 ⟨_, _, J, ⟨by omega, by omega⟩, ⟨by omega, by omega⟩, ⟨by omega, by omega⟩, ⟨by omega, by omega⟩, hv1, Sr_nil J⟩, Stm.short_mk.2 ⟨⟨by simp; omega, shL_append.2 ⟨hsh1, Stm.short_mk.2 ⟨Sh_nil, Sh_nil⟩, trivial⟩⟩, Sh_nil⟩⟩
 -- in a room
 ·have h2 : 2 ≤ d := by
   rename_i h9 h8
   simp at h8 h9
   omega
  have hkd : kD d = 10 + 2 * (1 + 3 * kD (d - 1)) := by
   cases d
   ·omega
   ·rfl
  refine S_callM 1 Tryz.call22 (c_pick b l _ _ _ _ (Byts_le hxq.le hl) ⟨by omega, by omega⟩ (by omega)) J J J J (fun _ => J) ?_;rintro v G2 A' ⟨rfl, rfl, m1, rfl, hm0, hm1⟩ _
  refine Va J J ?_;refine S_subI J J J J (by omega) ?_;refine Va J J ?_;refine S_callPr 1 300 Tryz.call87 (hd h2 3 _ m1 _ (by omega) (Byts_le hxq.le hl) (by omega)) J J J J (fun _ => J) ?_;rintro v G3 A' B' ⟨rfl, A1, n1, c1, xs1, base1, rfl, rfl, l1, rfl, hle1, hcs1, hsh1⟩ hext1
  refine S_newRow 300 J J ?_;refine S_freezeR 300 J J (Nat.le_refl _) fun G4 hext2 hnc1 hcm1 hcl1 => ?_
  have hv1 : Sts G4 l1 _ := frz (Cs_mono (Stm.reps_le hext2.le l1) hcs1) rfl (by omega) hnc1 hcm1 hcl1
  refine Va J J ?_;refine S_rdLe 1 (N + kD d) (by omega) J J ?_;exact S_retm 1 (Res.c1 Tk Tryz.results75 J J) J ((hxq.trans hext1).trans hext2) ⟨J, .mk _ _ _ _ _ _, _, J, Stm.rep_iff.2 ⟨_, _, J, ⟨by omega, by omega⟩, ⟨by omega, by omega⟩, ⟨by omega, by omega⟩, ⟨by omega, by omega⟩, hv1, Sr_nil J⟩, Stm.short_mk.2 ⟨⟨by omega, hsh1⟩, Sh_nil⟩⟩
 -- a wait
 ·refine S_cond J (fun h => ?_) (fun h => ?_) <;> refine Va J J ?_
  ·refine S_sliceG Tk ZT_ok J J J J (by decide) (by decide) J J J J (fun _ => J) fun bq3 Gq3 hxq3 hcq3 => ?_
   refine Va J J ?_;refine S_callM 1 Tryz.call46 (c_numL b [1, 2, 3, 4, 5] (Byts_le (PH.ext.trans hxq hxq3).le hl) hcq3 J (Nat.le_refl _) (by decide) (by decide) (i64_small (by decide)) (by omega)) J J J J (fun _ => J) ?_;rintro v G' A' ⟨rfl, rfl, kind, hmem, rfl⟩ _
   refine Va J J ?_
   simp only [List.mem_cons, List.not_mem_nil, or_false] at hmem
   rcases hmem with rfl | rfl | rfl | rfl | rfl
   all_goals
    repeat' (first
     | (refine GT J J J ?_; refine Va J J ?_)
     | (refine GF J J J ?_; refine Va J J ?_)
     | (refine S_guardp J J (fun h => ?_) (fun h => ?_) <;> refine Va J J ?_)
     | (refine S_guard J J (fun h => ?_) (fun h => ?_) <;> refine Va J J ?_)
     | (refine RT J J ?_; refine Va J J ?_)
     | (refine RF J J ?_; refine Va J J ?_))
   all_goals first
    |refine S_rdLe 1 (N + kD d) (by omega) J J ?_
     refine S_retm 1 (Res.c1 Tk Tryz.results75 J J) J ((hxq.trans hxq3)) ⟨J, .mk _ _ _ _ [] [], _, J, Stm.rep_iff.2 ⟨_, _, J, ?_, ?_, ?_, ?_, Sr_nil J, Sr_nil J⟩, Stm.short_mk.2 ⟨Sh_nil, Sh_nil⟩⟩ <;> exact ⟨by omega, by omega⟩
    |refine S_sliceG Tk ZT_ok J J J J (by decide) (by decide) J J J J (fun _ => J) fun bq1 Gq1 hxq1 hcq1 => ?_
     refine Va J J ?_;refine S_callM 1 Tryz.call46 (c_numL b [0, 1, 2, 3, -1, 5] (Byts_le (PH.ext.trans ((hxq.trans hxq3)) hxq1).le hl) hcq1 J (Nat.le_refl _) (by decide) (by decide) (i64_small (by decide)) (by omega)) J J J J (fun _ => J) ?_;rintro v G' A' ⟨rfl, rfl, m1, hmem1, rfl⟩ _
     have hm1 : -1 ≤ m1 ∧ m1 ≤ 5 := by (simp only [List.mem_cons, List.not_mem_nil, or_false] at hmem1); omega
     refine Va J J ?_;refine S_rdLe 1 (N + kD d) (by omega) J J ?_
     refine S_retm 1 (Res.c1 Tk Tryz.results75 J J) J ((PH.ext.trans ((hxq.trans hxq3)) hxq1)) ⟨J, .mk _ _ _ _ [] [], _, J, Stm.rep_iff.2 ⟨_, _, J, ?_, ?_, ?_, ?_, Sr_nil J, Sr_nil J⟩, Stm.short_mk.2 ⟨Sh_nil, Sh_nil⟩⟩ <;> exact ⟨by omega, by omega⟩
    |refine S_callM 1 Tryz.call22 (c_pick b l _ _ _ _ (Byts_le (PH.ext.le ((hxq.trans hxq3))) hl) ⟨by omega, by omega⟩ (by omega)) J J J J (fun _ => J) ?_
     rintro v G2 A' ⟨rfl, rfl, m1, rfl, hm0, hm1⟩ _
     refine Va J J ?_;refine S_add J J J J (by omega) ?_;refine Va J J ?_;refine S_rdLe 1 (N + kD d) (by omega) J J ?_
     refine S_retm 1 (Res.c1 Tk Tryz.results75 J J) J ((hxq.trans hxq3)) ⟨J, .mk _ _ _ _ [] [], _, J, Stm.rep_iff.2 ⟨_, _, J, ?_, ?_, ?_, ?_, Sr_nil J, Sr_nil J⟩, Stm.short_mk.2 ⟨Sh_nil, Sh_nil⟩⟩ <;> exact ⟨by omega, by omega⟩
  ·repeat' (first
    | (refine GT J J J ?_; refine Va J J ?_)
    | (refine GF J J J ?_; refine Va J J ?_)
    | (refine S_guardp J J (fun h => ?_) (fun h => ?_) <;> refine Va J J ?_)
    | (refine S_guard J J (fun h => ?_) (fun h => ?_) <;> refine Va J J ?_)
    | (refine RT J J ?_; refine Va J J ?_)
    | (refine RF J J ?_; refine Va J J ?_))
   refine S_callM 1 Tryz.call22 (c_pick b l _ _ _ _ (Byts_le (PH.ext.le (hxq)) hl) ⟨by omega, by omega⟩ (by omega)) J J J J (fun _ => J) ?_;rintro v G2 A' ⟨rfl, rfl, m1, rfl, hm0, hm1⟩ _
   refine Va J J ?_;refine S_rdLe 1 (N + kD d) (by omega) J J ?_
   refine S_retm 1 (Res.c1 Tk Tryz.results75 J J) J (hxq) ⟨J, .mk _ _ _ _ [] [], _, J, Stm.rep_iff.2 ⟨_, _, J, ?_, ?_, ?_, ?_, Sr_nil J, Sr_nil J⟩, Stm.short_mk.2 ⟨Sh_nil, Sh_nil⟩⟩ <;> exact ⟨by omega, by omega⟩
theorem c_l2Draws_all (b : Nat) (l : List Int) (sv : Value) : ∀ (d : Nat), d ≤ 100 → (∀ N (room : Int) G, Byts G l sv → N + kD d ≤ 1000000000 → Drw 75 b sv [.int .i64 (d : Nat), .int .i64 room] N (kD d) G stmV) ∧
  ∀ (most N : Nat) (room : Int) G, most ≤ 3 → Byts G l sv → N + (1 + most * kD d) ≤ 1000000000 → DrwL 87 b sv [.int .i64 (d : Nat), .int .i64 room, .int .i64 (most : Nat)] N (1 + most * kD d) G 65 6 (stmL most)
 | 0, h3 => by
  have h1 : ∀ N (room : Int) G, Byts G l sv → N + kD 0 ≤ 1000000000 → Drw 75 b sv [.int .i64 (0 : Nat), .int .i64 room] N (kD 0) G stmV := fun N room G hl hN => c_l2Draw b l sv 0 N room G hl h3 hN (fun h => by omega)
  exact ⟨h1, fun most N room G hm hl hN => c_l2Draws b l sv 0 N most room G hl hm hN fun M G hl hM => h1 M room G hl hM⟩
 | d + 1, h3 => by
  have ih := (c_l2Draws_all b l sv d (by omega)).2
  have h1 : ∀ N (room : Int) G, Byts G l sv → N + kD (d + 1) ≤ 1000000000 → Drw 75 b sv [.int .i64 (d + 1 : Nat), .int .i64 room] N (kD (d + 1)) G stmV := fun N room G hl hN => c_l2Draw b l sv (d + 1) N room G hl h3 hN (fun h most M room G hm hl hM => by
   have := ih most M room G hm hl hM
   rw [show (((d + 1 : Nat) : Int) - 1) = ((d : Nat) : Int) by omega]
   exact this)
  exact ⟨h1, fun most N room G hm hl hN => c_l2Draws b l sv (d + 1) N most room G hl hm hN fun M G hl hM => h1 M room G hl hM⟩
end
section
section
variable {C : Ctx} {k : List It} {E : Env} {ι : Ids} {L : List Ent} {G : PH} {all : Array Oper} {l : List Oper}
theorem set_mid {l : List Value} {o : Nat} {v : Value} (h : o < l.length) : l.take o ++ [v] ++ l.drop (o + 1) = l.set o v := by
 rw [List.set_eq_take_append_cons_drop, if_pos h]; simp
theorem S_storeO {T : Tab} (hT : tabOk C.P T) (κ : Nat) {base e sz t : Nat} {i : TyI} {x y : Operand} {s : Sym} {gb off o n c ty : Nat} {v : Value} {xs : List Value} {L' : List Ent} {pos : String} {af : Array Edge} {g : Option (Nat × Bool)} {ad : Addr}
  (hL : getH κ L = some (rowO base e sz (some ⟨gb, off, none⟩) n c xs)) (hL' : setH κ (rowO base e sz (some ⟨gb, off, none⟩) n c (xs.set o v)) L = some L')
  (hx : ev E x = some (.val (.pointer (some ad)))) (had : ad = ⟨gb, off + o, none⟩) (hy : ev E y = some s) (hys : denO ι s = some v) (hone : v.oneCell' = true) (ht : lookT t T = some i) (hsz : i.size = 1) (ho : o < xs.length) (hg : guardOf all E g = .on)
  (hk : X C (.ops all l :: k) E ι L' G) : X C (.ops all (⟨none, .store t x y, ty, pos, af, g⟩ :: l) :: k) E ι L G := by
 intro a w h1 h2 h3 h4
 obtain ⟨S, hA, hSG, hturn⟩ := h4.turn hL
 obtain ⟨q1, q2, q3, q4⟩ := hA
 rcases q4 with ⟨q, _⟩ | ⟨g', off', cur, q, q0, q5, q6, q7, q8⟩
 ·cases q
 cases q
 have ex := ev_sound h3 hx
 have ey := ev_sound h3 hy
 subst had
 rw [hys] at ey
 simp only [denO, Option.some.injEq] at ex ey
 have hfit : off + o + [v].length ≤ cur.toList.length := by
  have h6 : xs.length ≤ cur.toList.length - off := by
   have := congrArg List.length q7
   simp only [List.length_take, List.length_drop] at this
   omega
  simp only [List.length_singleton]
  omega
 obtain ⟨w', hr, hh', hoth, e1, e2, e3, e4⟩ := run_storeCells_blk (P := C.P) (w := w) (b := gb) (o := off + o) (ty := e) (cs := cur.toList) (vs := [v]) (by simpa using q5) hfit (by intro u hu; rw [List.mem_singleton.1 hu]; exact hone)
 have hrun : (execOp a.eval ⟨none, .store t x y, ty, pos, af, g⟩).run C.P w = .ok .skip w' := by
  have hcells : (a.eval y).cells = [v].toArray := by
   rw [← ey]; exact oneCell_of (P := C.P) hone
  simp only [execOp, ← ex]
  simp [Instr.storeAt, Instr.sureAddr, storeVar, tyOk_size (hT _ _ ht), hsz, hcells]
  rw [hr]
  try simp
 refine wpE_skipv (guardOf_on h3 hg) (by rintro c h; cases h) hrun ?_;refine hk _ _ h1 h2 h3 ?_;refine hturn _ _ G w' S hL' ?_ (fun b o' hb => ?_) XR (fun b hb => ⟨hSG b hb, .inl hb⟩) e1 e2 e3 (by rw [e4]; exact Nat.le_refl _) fun b _ hn => hoth b fun h => hn ((q8 b).2 h)
 ·refine ⟨by simpa using q1, q2, q3, .inr ⟨gb, off, _, J, q0, hh', ?_, ?_, q8⟩⟩
  ·simp at hfit ⊢; omega
  ·rw [List.length_singleton, set_mid (by simp at hfit ⊢; omega)]
   simp only [List.toList_toArray, List.length_set]
   rw [List.drop_set, if_neg (by omega), List.take_set, q7]
   congr 1
   omega
 ·rw [hoth b (by rintro rfl; have := hSG _ ((q8 _).2 rfl); rw [this] at hb; cases hb)]
  exact h4.emb b o' hb
end
theorem V_loadR' {C : Ctx} {ι : Ids} {E : Env} {L : List Ent} {G : PH} {d : Option Nat} {ty : Nat} {pos : String} {af : Array Edge} {g : Option (Nat × Bool)} {T : Tab} (hT : tabOk C.P T) (κ : Nat) {t : Nat} {i : TyI} {x : Operand} {gb off o : Nat} {v : Value} {base e sz : Nat} {n c : Nat} {xs : List Value} {ad : Addr}
  (hL : getH κ L = some (rowO base e sz (some ⟨gb, off, none⟩) n c xs)) (hx : ev E x = some (.val (.pointer (some ad)))) (had : ad = ⟨gb, off + o, none⟩) (ht : lookT t T = some i) (hk0 : i.k.isAgg = false) (hc : xs[o]? = some v) : Vl C ι E L G ⟨d, .load t x, ty, pos, af, g⟩ v := by
 subst had
 exact V_loadR hT κ hL hx ht hk0 hc
theorem V_loadRA {C : Ctx} {ι : Ids} {E : Env} {L : List Ent} {G : PH} {d : Option Nat} {ty : Nat} {pos : String} {af : Array Edge} {g : Option (Nat × Bool)} {T : Tab} (hT : tabOk C.P T) (κ : Nat) {t m : Nat} {os : List Nat} {x : Operand} {gb off o : Nat} {base e sz : Nat} {n c : Nat} {xs cs : List Value} {ad : Addr}
  (hL : getH κ L = some (rowO base e sz (some ⟨gb, off, none⟩) n c xs)) (hx : ev E x = some (.val (.pointer (some ad)))) (had : ad = ⟨gb, off + o, none⟩) (ht : lookT t T = some ⟨.agg, m, os⟩) (hcs : (xs.drop o).take m = cs) (hl : cs.length = m) : Vl C ι E L G ⟨d, .load t x, ty, pos, af, g⟩ (.agg cs.toArray) := by
 intro a w hE hw
 subst had
 obtain ⟨Ss, ho, _⟩ := hw.own
 obtain ⟨S, ⟨q1, q2, q3, q4⟩, _⟩ := owns_split ho hL
 have ex := ev_sound hE hx
 simp only [denO, Option.some.injEq] at ex
 rcases q4 with ⟨q4, _⟩ | ⟨g', off', cur, q, _, q5, q6, q7, q8⟩
 ·cases q4
 ·cases q
  have hcell : ∀ j v, cs[j]? = some v → w.cell? ((⟨gb, off + o, none⟩ : Addr).add j) = some v := by
   intro j v hj
   have hjm : j < m := by rw [← hl]; exact (List.getElem?_eq_some_iff.1 hj).1
   have hj' : xs[o + j]? = some v := by
    rw [← hj, ← hcs, List.getElem?_take_of_lt hjm, List.getElem?_drop]
   have := cells_at q5 q7 (o + j) v hj'
   rw [add_lit'] at this ⊢
   rw [Nat.add_assoc]; exact this
  have hr := run_loadCells_list (P := C.P) (w := w) ⟨gb, off + o, none⟩ cs hcell
  rw [hl] at hr
  have hag : (match (⟨.agg, m, os⟩ : TyI).k with | .agg => true | _ => false) = true := rfl
  simp only [execOp, ← ex]
  simp [Instr.loadAt, loadVar, Instr.sureAddr, tyOk_agg (hT _ _ ht), TK.isAgg, tyOk_size (hT _ _ ht), hr]
theorem Cs_at {α : Type} {sz : Nat} {rep : α → List Value → Prop} : ∀ {L : List α} {xs : List Value} {k : Nat} (h : Cs sz rep L xs) (hk : k < L.length), ∃ cs, (xs.drop (k * sz)).take sz = cs ∧ cs.length = sz ∧ rep L[k] cs ∧ ∀ f v x', f < sz → rep x' (cs.set f v) → Cs sz rep (L.set k x') (xs.set (k * sz + f) v)
 | [], _, _, _, hk => by simp at hk
 | x :: L, xs, 0, h, _ => by
  obtain ⟨cs, ys, rfl, h2, h3, h4⟩ := h
  refine ⟨cs, by simp [← h2], h2, h3, fun f v x' hf hx => ?_⟩
  rw [Nat.zero_mul, Nat.zero_add, List.set_append_left _ _ (by omega)]
  exact ⟨cs.set f v, ys, J, by simpa using h2, hx, h4⟩
 | x :: L, xs, k + 1, h, hk => by
  obtain ⟨cs, ys, rfl, h2, h3, h4⟩ := h
  obtain ⟨ds, e1, e2, e3, e4⟩ := Cs_at h4 (k := k) (by simpa using hk)
  refine ⟨ds, ?_, e2, by simpa using e3, fun f v x' hf hx => ?_⟩
  ·rw [Nat.succ_mul, Nat.add_comm, ← List.drop_drop, List.drop_left' h2]; exact e1
  ·rw [Nat.succ_mul, List.set_append_right _ _ (by rw [h2]; omega)]
   refine ⟨cs, _, J, h2, h3, ?_⟩
   have := e4 f v x' hf hx
   rw [show k * sz + sz + f - cs.length = k * sz + f by omega]
   exact this
end
section
attribute [local irreducible] X Pure Mod
theorem Stm.row_at {G : PH} {L : List Stm} {ad : Addr} (h : Stm.row G L ad) {k : Nat} (hk : k < L.length) : ∃ cs, gcells G (ad.add (k * 6)) cs ∧ Stm.rep G L[k] cs := by
 induction L generalizing ad k with
 | nil => simp at hk
 | cons s r ih =>
  obtain ⟨h1, h2⟩ := (show (∃ cs, gcells G ad cs ∧ Stm.rep G s cs) ∧ Stm.row G r (ad.add 6) from by simpa [Stm.row] using h)
  cases k with
  | zero => simpa [add_zero'] using h1
  | succ k =>
   obtain ⟨cs, h3, h4⟩ := ih h2 (k := k) (by simpa using hk)
   rw [add_add'] at h3
   exact ⟨cs, by rw [show (k + 1) * 6 = 6 + k * 6 by omega]; exact h3, by simpa using h4⟩
mutual
def stmtOk : Stm → Int → Int → Bool
 | .mk k a b n x y, deep, room =>
  if (decide (k ≠ 6) && decide (0 < y.length)) || decide (deep < 1) then false
  else if k = 6 ∨ k = 7 then decide (0 ≤ a) && decide (a < 3) && decide (b = 0) && decide (n = 0) && listOk x (deep - 1) room && listOk y (deep - 1) room
  else if k = 8 then decide (room < 0) && decide (0 ≤ a) && decide (a < 2) && decide (b = 0) && decide (n = 0) && listOk x (deep - 1) a
  else decide (x.length = 0) && leafOk k a b n room
def listOk : List Stm → Int → Int → Bool
 | [], _, _ => true
 | s :: r, deep, room => stmtOk s deep room && listOk r deep room
end
theorem listOk_all (L : List Stm) (d r : Int) : listOk L d r = L.all (stmtOk · d r) := by
 induction L with
 | nil => simp [listOk]
 | cons s L ih => simp [listOk, ih]
theorem listOk_false {L : List Stm} {d r : Int} {k : Nat} (hk : k < L.length) (h : stmtOk L[k] d r = false) : listOk L d r = false := by
 rw [listOk_all, List.all_eq_false]
 exact ⟨L[k], List.getElem_mem hk, by simp [h]⟩
theorem listOk_true {L : List Stm} {d r : Int} (h : ∀ k (hk : k < L.length), stmtOk L[k] d r = true) : listOk L d r = true := by
 rw [listOk_all, List.all_eq_true]
 intro s hs
 obtain ⟨k, hk, rfl⟩ := List.getElem_of_mem hs
 exact h k hk
theorem c_l2List_of (L : List Stm) (deep room : Int) (v : Value) (G : PH) (hL : Sl G (Stm.row G L) L.length v) (h1 : ∀ k (hk : k < L.length) cs, Stm.rep G L[k] cs → Pure Tryz.prog 79 [.agg cs.toArray, .int .i64 deep, .int .i64 room] G fun v G' => v = .bool (stmtOk L[k] deep room) ∧ G' = G) :
  Pure Tryz.prog 62 [v, .int .i64 deep, .int .i64 room] G fun v G' => v = .bool (listOk L deep room) ∧ G' = G := by
 obtain ⟨A, c, rfl, hn, hc1, hc2, hr⟩ := hL
 refine Pure.intro Tryz.func62 Tryz.ntmps62 J J fun w => ?_;refine Va J J ?_;refine S_loop (α := Nat) (fun k => k ≤ L.length ∧ ∀ j (hj : j < L.length), j < k → stmtOk L[j] deep room = true) (fun k => L.length - k) []
  (fun k => [(7, .val (.int .i64 k)), (0, .val (.slice A L.length c)), (1, .val (.int .i64 deep)), (2, .val (.int .i64 room))]) (fun _ => []) (fun _ => G) 0 ⟨Nat.zero_le _, fun j _ h => by omega⟩ rfl ⟨⟨_, rfl, rfl⟩, ⟨_, rfl, rfl⟩, ⟨_, rfl, rfl⟩, ⟨_, rfl, rfl⟩, trivial⟩ .nil ?_
 rintro k ⟨hk, hall⟩
 refine Va J J ?_
 refine S_condp J (fun h => ?_) (fun h => ?_) <;> refine Va J J ?_
 ·have hkl : k < L.length := by omega
  obtain ⟨ad, rfl, hrow⟩ : ∃ ad, A = some ad ∧ Stm.row G L ad := by
   rcases hr with h0 | h0
   ·omega
   ·exact h0
  obtain ⟨cs, hcs, hrep⟩ := Stm.row_at hrow hkl
  have hlen : cs.length = 6 := by
   cases hs : L[k]; rw [hs] at hrep; obtain ⟨vx, vy, e, _⟩ := (by simpa [Stm.rep] using hrep); simp [e]
  refine S_index Tk J J J J J J (by omega) (by omega) ?_;refine Va J J ?_;refine S_loadA Tk J J J J hlen hcs ?_;refine Va J J ?_;refine S_call Tryz.call79 (h1 k hkl cs hrep) J J J ?_;rintro v G' ⟨rfl, rfl⟩ _
  refine Va J J ?_
  refine S_cond J (fun h => ?_) (fun h => ?_) <;> refine Va J J ?_
  ·refine S_retP Tryz.results62 J J XR ⟨?_, J⟩
   rw [listOk_false hkl (by simpa using h)]
  ·refine S_add J J J J (by omega) ?_
   refine Va J J ?_;refine S_again (k + 1) ⟨by omega, fun j hj hjk => ?_⟩ (by omega) J ⟨⟨_, J, J⟩, ⟨_, J, J⟩, ⟨_, J, J⟩, ⟨_, J, J⟩, trivial⟩ .nil
   rcases Nat.lt_or_ge j k with h' | h'
   ·exact hall j hj h'
   ·obtain rfl : j = k := by omega
    simpa using h
 ·refine S_retP Tryz.results62 J J XR ⟨?_, J⟩
  rw [listOk_true fun j hj => hall j hj (by omega)]
end
section
attribute [local irreducible] X Pure Mod
def L2ok (L : List Stm) : Prop := ∀ (deep room : Int) (v : Value) (G : PH), I64 deep → Sts G L v → Pure Tryz.prog 62 [v, .int .i64 deep, .int .i64 room] G fun v G' => v = .bool (listOk L deep room) ∧ G' = G
theorem c_l2Stmt_of (s : Stm) (hx : L2ok s.body) (hy : L2ok s.els) (deep room : Int) (hd : I64 deep) (cs : List Value) (G : PH) (hs : Stm.rep G s cs) :
  Pure Tryz.prog 79 [.agg cs.toArray, .int .i64 deep, .int .i64 room] G fun v G' => v = .bool (stmtOk s deep room) ∧ G' = G := by
 obtain ⟨k, a, b, n, x, y⟩ := s
 obtain ⟨vx, vy, rfl, hk, ha, hb, hn, h1, h2⟩ := Stm.rep_iff.1 hs
 have gx := hx
 have gy := hy
 simp only [Stm.body, Stm.els] at gx gy
 obtain ⟨Ax, cx, rfl, _⟩ := id h1
 obtain ⟨Ay, cy, rfl, _⟩ := id h2
 unfold I64 at hd ha
 refine Pure.intro Tryz.func79 Tryz.ntmps79 J J fun w => ?_; refine Va J J ?_
 repeat' (first
  | (refine S_condp J (fun h => ?_) (fun h => ?_) <;> refine Va J J ?_) | (refine S_cond J (fun h => ?_) (fun h => ?_) <;> refine Va J J ?_) | (refine S_box J J J J J fun b => ?_; refine Va J J ?_) | (refine AZ ZT_ok J J J J fun b => ?_; refine Va J J ?_) | (refine S_guardp J J (fun h => ?_) (fun h => ?_) <;> refine Va J J ?_) | (refine S_guard J J (fun h => ?_) (fun h => ?_) <;> refine Va J J ?_)
  | (refine S_subI J J J J (by simp_all; omega) ?_; refine Va J J ?_)
  | (refine S_call Tryz.call62 (gx _ _ _ _ (by unfold I64; simp_all; omega) h1) rfl rfl rfl ?_; rintro v G' ⟨rfl, rfl⟩ _; refine Va J J ?_)
  | (refine S_call Tryz.call62 (gy _ _ _ _ (by unfold I64; simp_all; omega) h2) rfl rfl rfl ?_; rintro v G' ⟨rfl, rfl⟩ _; refine Va J J ?_)
  | (refine S_call Tryz.call88 (c_l2Leaf _ _ _ _ _ _ _ _) J J J ?_; rintro v G' ⟨rfl, rfl⟩ _; refine Va J J ?_)
  | (refine S_retP Tryz.results79 J J XR ⟨?_, J⟩))
 all_goals (try simp_all [stmtOk, Stm.body, Stm.els])
 all_goals (try omega)
end
section
attribute [local irreducible] X Pure Mod
theorem L2ok_of (L : List Stm) (h : ∀ k (hk : k < L.length), L2ok L[k].body ∧ L2ok L[k].els) : L2ok L := by
 intro deep room v G hd hv
 refine c_l2List_of L deep room v G (Sts_Sl.1 hv) fun k hk cs hs => ?_;exact c_l2Stmt_of L[k] (h k hk).1 (h k hk).2 deep room hd cs G hs
mutual
theorem L2ok_stm : ∀ (s : Stm), L2ok s.body ∧ L2ok s.els
 | .mk k a b n x y => ⟨L2ok_all x, L2ok_all y⟩
theorem L2ok_at : ∀ (L : List Stm) (k : Nat) (hk : k < L.length), L2ok L[k].body ∧ L2ok L[k].els
 | [], k, hk => absurd hk (by simp)
 | s :: L, 0, _ => L2ok_stm s
 | s :: L, k + 1, hk => L2ok_at L k (by simpa using hk)
theorem L2ok_all : ∀ (L : List Stm), L2ok L
 | L => L2ok_of L (L2ok_at L)
end
mutual
def manyS : Stm → Int → Int
 | .mk _ _ _ _ x y, d => 1 + many x (d - 1) + many y (d - 1)
def many : List Stm → Int → Int
 | [], _ => 0
 | s :: r, d => (if 0 < d then manyS s d else 0) + many r d
end
theorem many_append (L M : List Stm) (d : Int) : many (L ++ M) d = many L d + many M d := by
 induction L with
 | nil => simp [many]
 | cons s L ih => simp only [List.cons_append, many, ih]; omega
theorem many_zero (L : List Stm) {d : Int} (h : ¬ 0 < d) : many L d = 0 := by
 induction L with
 | nil => simp [many]
 | cons s L ih => simp only [many, ih, if_neg h]; omega
theorem manyS_eq (s : Stm) (d : Int) : manyS s d = 1 + many s.body (d - 1) + many s.els (d - 1) := by cases s; simp [manyS, Stm.body, Stm.els]
def L2many (L : List Stm) : Prop := ∀ (deep : Int) (v : Value) (G : PH), I64 deep → Sts G L v → Pure Tryz.prog 63 [v, .int .i64 deep] G fun v G' => v = .int .i64 (w64 (many L deep)) ∧ G' = G
theorem L2many_of (L : List Stm) (h : ∀ k (hk : k < L.length), L2many L[k].body ∧ L2many L[k].els) : L2many L := by
 intro deep v G hd hv
 obtain ⟨A, c, rfl, hn, hc1, hc2, hr⟩ := id hv
 unfold I64 at hd
 refine Pure.intro Tryz.func63 Tryz.ntmps63 J J fun w => ?_; refine Va J J ?_;refine S_loop (α := Nat) (fun k => k ≤ L.length) (fun k => L.length - k) []
  (fun k => [(6, .val (.int .i64 k)), (5, .val (.int .i64 (w64 (many (L.take k) deep)))), (0, .val (.slice A L.length c)), (1, .val (.int .i64 deep))]) (fun _ => []) (fun _ => G) 0 (Nat.zero_le _) rfl
  ⟨⟨_, rfl, rfl⟩, ⟨_, rfl, rfl⟩, ⟨_, rfl, rfl⟩, ⟨_, rfl, rfl⟩, trivial⟩ .nil ?_
 intro k hk
 refine Va J J ?_
 refine S_cond J (fun h0 => ?_) (fun h0 => ?_) <;> refine Va J J ?_
 ·obtain ⟨h1, h2⟩ : k < L.length ∧ 0 < deep := by simpa using h0
  have hkl : k < L.length := by omega
  obtain ⟨ad, cs, rfl, hcs1, hrep⟩ := Sr_at hv hkl
  obtain ⟨hbk, hek⟩ := h k hkl
  have hmk := manyS_eq L[k] deep
  rcases hs : L[k] with ⟨q1, q2, q3, q4, x, y⟩
  rw [hs] at hrep hbk hek hmk
  obtain ⟨vx, vy, rfl, i1, i2, i3, i4, hx, hy⟩ := Stm.rep_iff.1 hrep
  obtain ⟨Ax, cx, rfl, _⟩ := id hx
  obtain ⟨Ay, cy, rfl, _⟩ := id hy
  have hdx : I64 (deep - 1) := by unfold I64; omega
  refine D_startK [5] (by exact MO) J J J (by kernel_rfl) ?_;refine Da J J ?_;refine D_val 1 J J J J J J J J J (V_addW J J) ?_;refine D_val 4 J J J J J J J J J (V_index Tk J J J J (by omega) (by omega)) ?_;refine D_val 13 J J J J J J J J J (V_index Tk J J J J (by omega) (by omega)) ?_;refine D_val 8 J J J J J J J J J (V_sub J J (by omega)) ?_;refine D_val 17 J J J J J J J J J (V_sub J J (by omega)) ?_
  refine Da J J ?_;refine D_val 6 J J J J J J J J J (V_load Tk J J J (by simpa using gcells_at hcs1 4 _ J)) ?_;refine D_val 15 J J J J J J J J J (V_load Tk J J J (by simpa using gcells_at hcs1 5 _ J)) ?_;refine D_sole 9 J J (N_call 9 Tryz.call63 (hbk _ _ _ hdx hx) J J J J J J J J J J ?_)
  rintro v1 G1 ⟨rfl, rfl⟩ _
  refine D_val 10 J J J J J J J J J (V_addW J J) ?_;refine D_sole 18 J J (N_call 18 Tryz.call63 (hek _ _ _ hdx hy) J J J J J J J J J J ?_)
  rintro v1 G1 ⟨rfl, rfl⟩ _
  refine D_val 19 J J J J J J J J J (V_addW J J) ?_;refine D_sole 20 J J (N_assign Tk 20 J J J J J J J J J (by kernel_rfl) ?_)
  refine DD ?_;refine Va J J ?_;refine S_add J J J J (by omega) ?_;refine Va J J ?_;refine S_again (k + 1) (by omega) (by omega) J ⟨⟨_, J, J⟩, ⟨_, J, ?_⟩, ⟨_, J, J⟩, ⟨_, J, J⟩, trivial⟩ .nil
  simp only [denO]
  congr 2
  rw [List.take_succ_eq_append_getElem hkl, many_append, hs]
  simp only [many, if_pos h2, hmk, Stm.body, Stm.els, w64_l, w64_r]
  simp only [w64_l, w64_r, Int.add_assoc]
  simp only [Int.add_zero]
 ·refine S_retP Tryz.results63 J J XR ⟨?_, J⟩
  congr 2
  by_cases hd0 : 0 < deep
  ·have hk' : k = L.length := by
    rcases Nat.lt_or_ge k L.length with h1 | h1
    ·simp [hd0, h1] at h0
    ·omega
   rw [hk', List.take_length]
  ·rw [many_zero _ hd0, many_zero _ hd0]
mutual
theorem L2many_stm : ∀ (s : Stm), L2many s.body ∧ L2many s.els
 | .mk k a b n x y => ⟨L2many_all x, L2many_all y⟩
theorem L2many_at : ∀ (L : List Stm) (k : Nat) (hk : k < L.length), L2many L[k].body ∧ L2many L[k].els
 | [], k, hk => absurd hk (by simp)
 | s :: L, 0, _ => L2many_stm s
 | s :: L, k + 1, hk => L2many_at L k (by simpa using hk)
theorem L2many_all : ∀ (L : List Stm), L2many L
 | L => L2many_of L (L2many_at L)
end
def stmtsOk (L : List Stm) : Bool := listOk L 3 (-1) && decide (w64 (many L 3) ≤ 14)
theorem c_StmtsOk (L : List Stm) (v : Value) (G : PH) (hv : Sts G L v) : Pure Tryz.prog 32 [v] G fun v G' => v = .bool (stmtsOk L) ∧ G' = G := by
 obtain ⟨A, c, rfl, _⟩ := id hv
 have i3 : I64 3 := by unfold I64; omega
 refine Pure.intro Tryz.func32 Tryz.ntmps32 J J fun w => ?_; refine Va J J ?_;refine S_call Tryz.call62 (L2ok_all L _ _ _ _ i3 hv) J J J ?_;rintro v1 G1 ⟨rfl, rfl⟩ _
 refine Va J J ?_
 refine S_guard J J (fun h => ?_) (fun h => ?_) <;> refine Va J J ?_
 ·refine S_call Tryz.call63 (L2many_all L _ _ _ i3 hv) J J J ?_
  rintro v1 G1 ⟨rfl, rfl⟩ _
  refine Va J J ?_;refine S_retP Tryz.results32 J J XR ⟨?_, J⟩
  simp [stmtsOk, h]
 ·refine S_retP Tryz.results32 J J XR ⟨?_, J⟩
  simp [stmtsOk, h]
def progOk (p : List (List Stm)) : Bool := p.all stmtsOk && decide (1 ≤ p.length) && decide (p.length ≤ 3)
theorem c_ProgOk (p : List (List Stm)) (v : Value) (G : PH) (hv : Prg G p v) : Pure Tryz.prog 13 [v] G fun v G' => v = .bool (progOk p) ∧ G' = G := by
 obtain ⟨A, c, rfl, hn, hc1, hc2, hr⟩ := id hv
 refine Pure.intro Tryz.func13 Tryz.ntmps13 J J fun w => ?_; refine Va J J ?_;refine S_loop (α := Nat) (fun k => k ≤ p.length ∧ ∀ j (hj : j < p.length), j < k → stmtsOk p[j] = true) (fun k => p.length - k) []
  (fun k => [(3, .val (.int .i64 k)), (0, .val (.slice A p.length c))]) (fun _ => []) (fun _ => G) 0 ⟨Nat.zero_le _, fun j _ h => by omega⟩ rfl ⟨⟨_, rfl, rfl⟩, ⟨_, rfl, rfl⟩, trivial⟩ .nil ?_
 rintro k ⟨hk, hall⟩
 refine Va J J ?_
 refine S_condp J (fun h => ?_) (fun h => ?_) <;> refine Va J J ?_
 ·have hkl : k < p.length := by omega
  obtain ⟨ad, cs, rfl, hcs, v1, rfl, hv1⟩ := Sr_at hv hkl
  obtain ⟨A1, c1, rfl, _⟩ := id hv1
  refine S_index Tk J J J J J J (by omega) (by omega) ?_;refine Va J J ?_;refine S_load Tk J J J J J (by simpa using hcs.1) ?_;refine Va J J ?_;refine S_call Tryz.call32 (c_StmtsOk _ _ _ hv1) J J J ?_;rintro v1 G1 ⟨rfl, rfl⟩ _
  refine Va J J ?_
  refine S_cond J (fun h => ?_) (fun h => ?_) <;> refine Va J J ?_
  ·refine S_retP Tryz.results13 J J XR ⟨?_, J⟩
   have : p.all stmtsOk = false := by
    rw [List.all_eq_false]
    exact ⟨_, List.getElem_mem hkl, by simpa using h⟩
   simp [progOk, this]
  ·refine S_add J J J J (by omega) ?_
   refine Va J J ?_;refine S_again (k + 1) ⟨by omega, fun j hj hjk => ?_⟩ (by omega) J ⟨⟨_, J, J⟩, ⟨_, J, J⟩, trivial⟩ .nil
   rcases Nat.lt_or_ge j k with h' | h'
   ·exact hall j hj h'
   ·obtain rfl : j = k := by omega
    simpa using h
 ·have hall' : p.all stmtsOk = true := by
   rw [List.all_eq_true]
   intro s hs
   obtain ⟨j, hj, rfl⟩ := List.getElem_of_mem hs
   exact hall j hj (by omega)
  refine S_retP Tryz.results13 J J XR ⟨?_, J⟩
  simp only [progOk, hall', Bool.true_and]
  congr 2
  ·exact decide_eq_decide.2 (by omega)
  ·exact decide_eq_decide.2 (by omega)
end
section
attribute [local irreducible] X Pure Mod
def someV (v : Value) (G : PH) : Prop := ∃ l, Sts G l v ∧ Sh l ∧ stmtsOk l = true
theorem stmtsOk_nil : stmtsOk [] = true := by decide
theorem sts_cells {G : PH} {l : List Stm} {v : Value} (h : Sts G l v) : ∃ A c xs, v = .slice A l.length c ∧ xs.length = l.length * 6 ∧ (l.length = 0 ∨ ∃ a, A = some a ∧ gcells G a xs) ∧ Cs 6 (Stm.rep G) l xs := by
 obtain ⟨xs, hx, hc⟩ := Sr_Sx (fun s cs h => Stm.rep_len h) h
 obtain ⟨A, c, rfl, _, _, _, hl, hr⟩ := hx
 exact ⟨A, c, xs, J, hl, hr, hc⟩
theorem six {cs : List Value} (h : cs.length = 6) : ∃ c0 c1 c2 c3 c4 c5, cs = [c0, c1, c2, c3, c4, c5] := by
 match cs, h with
 | [a0, a1, a2, a3, a4, a5], _ => exact ⟨a0, a1, a2, a3, a4, a5, rfl⟩
theorem c_l2Some (b : Nat) (l : List Int) (sv : Value) (N : Nat) (G : PH) (hl : Byts G l sv) (hN : N + (1 + 6 * kD 3) ≤ 1000000000) : Drw 53 b sv [] N (1 + 6 * kD 3) G someV := by
 obtain ⟨A, c, rfl, hl1, _⟩ := id hl
 refine Mod.intro Tryz.func53 Tryz.ntmps53 J J fun w S => ?_;refine Va J J ?_;refine S_emptyO Tk 5 J J J J fun A0 => ?_;refine S_freezeR 5 J J (Nat.le_refl _) fun G1 hext1 _ _ _ => ?_
 have hout : Sts G1 [] (.slice A0 0 0) := ⟨A0, 0, rfl, by simp, Nat.le_refl _, by simp [maxLen], .inl rfl⟩
 refine Va J J ?_;refine S_sliceG Tk ZT_ok J J J J (by decide) (by decide) J J J J (fun _ => J) fun bq Gq hxq hcq => ?_;refine Va J J ?_;refine S_callM 1 Tryz.call46 (c_numL b [3, 4, 5, 6, 2, 0] (Byts_le (hext1.trans hxq).le hl) hcq J (Nat.le_refl _) (by decide) (by decide) (i64_small (by decide)) (by omega)) J J J J (fun _ => J) ?_;rintro v G' A' ⟨rfl, rfl, m, hmem, rfl⟩ _
 have hm : 0 ≤ m ∧ m ≤ 6 := by (simp only [List.mem_cons, List.not_mem_nil, or_false] at hmem); omega
 obtain ⟨m, rfl⟩ := Int.eq_ofNat_of_zero_le hm.1
 refine Va J J ?_;refine S_loop (α := Nat × Nat × Option Addr × Nat × List Stm × PH) (fun y => y.1 ≤ 6 ∧ y.2.1 + y.1 * kD 3 ≤ N + (1 + 6 * kD 3) ∧ PH.ext w.heap.size G y.2.2.2.2.2 ∧ Sts y.2.2.2.2.2 y.2.2.2.2.1 (.slice y.2.2.1 y.2.2.2.2.1.length y.2.2.2.1) ∧ Sh y.2.2.2.2.1 ∧ stmtsOk y.2.2.2.2.1 = true ∧ y.2.2.2.2.1.length + y.1 ≤ 6) (fun y => y.1) []
  (fun y => [(4, .val (.int .i64 (y.1 : Nat))), (3, .val (.slice y.2.2.1 y.2.2.2.2.1.length y.2.2.2.1)), (0, .val (.pointer (some ⟨b, 0, none⟩)))])
  (fun y => [.hp 1 (rdHP b (.slice A l.length c) y.2.1)]) (fun y => y.2.2.2.2.2) (m, N + 1, A0, 0, [], G') ⟨by simp only; omega, ?_, hext1.trans hxq, Sts_le hxq.le hout, Sh_nil, stmtsOk_nil, by simp only [List.length_nil]; omega⟩ rfl ?_ ?_ ?_
 ·have := Nat.mul_le_mul_right (kD 3) (show m ≤ 6 by omega)
  simp only
  omega
 ·exact ⟨⟨_, J, J⟩, ⟨_, J, J⟩, ⟨_, J, J⟩, trivial⟩
 ·exact .hp .nil
 rintro ⟨i, M, A1, c1, ls, G2⟩ ⟨hi, hM, hext, hst, hsh, hok, hlen⟩
 simp only at hi hM hext hst hsh hok hlen ⊢
 refine Va J J ?_
 refine S_condp J (fun h => ?_) (fun h => ?_) <;> refine Va J J ?_
 ·obtain ⟨j, rfl⟩ : ∃ j, i = j + 1 := ⟨i - 1, by omega⟩
  rw [Nat.succ_mul] at hM
  obtain ⟨A2, c2, xs, e, hxl, hxg, hcs⟩ := sts_cells hst
  cases e
  refine S_emptyO Tk 5 J J J J fun A3 => ?_;refine Va J J ?_;refine S_appO Tk 5 J J J J J J J J J J J (fun _ _ => J) (src_G hxl hxg) (Cs_one Stm.rep_one hcs) (by simp only; omega) (by simp only [maxLen]; omega) (Nat.le_refl _) fun A4 c4 => ?_;refine Va J J ?_;refine S_callM 1 Tryz.call75 ((c_l2Draws_all b l _ 3 (by omega)).1 M (-1) G2 (Byts_le hext.le hl) (by omega)) J J J J (fun _ => J) ?_;rintro v G3 A' ⟨rfl, s, cs, rfl, hrep, hss⟩ hext3
  have hone := Stm.rep_one s cs hrep
  obtain ⟨c0, c1', c2', c3', c4', c5', rfl⟩ := six (Stm.rep_len hrep)
  refine Va J J ?_;refine S_slice Tk ZT_ok J J J J (by decide) (by decide) J J J J fun b2 => ?_;refine Va J J ?_;refine S_app1 Tk 5 19 J J J J J J J J J J J J J J hone J (fun _ _ => J) (by omega) (Nat.le_refl _) fun A5 c5 => ?_;refine Va J J ?_;refine S_freezeR 5 J J (Nat.le_refl _) fun G4 hext4 hnc hcm hcl => ?_
  have hcs2 : Cs 6 (Stm.rep G4) (ls ++ [s]) ([] ++ xs ++ [c0, c1', c2', c3', c4', c5']) := Cs_append (Cs_mono (Stm.reps_le (hext3.trans hext4).le ls) (by simpa using hcs)) (Stm.rep_le hext4.le s _ hrep) rfl
  have hv : Sts G4 (ls ++ [s]) _ := frz hcs2 (by simp) (by omega) hnc hcm hcl
  have hsh2 : Sh (ls ++ [s]) := ⟨by simp; omega, shL_append.2 ⟨hsh.2, hss, trivial⟩⟩
  refine Va J J ?_;refine S_call Tryz.call32 (c_StmtsOk (ls ++ [s]) _ G4 hv) J J J ?_;rintro v G5 ⟨rfl, rfl⟩ _
  refine Va J J ?_
  have hxx := (hext.trans hext3).trans hext4
  refine S_cond J (fun h => ?_) (fun h => ?_) <;> refine Va J J ?_
  ·refine S_subI J J J J (by omega) ?_
   refine Va J J ?_;refine S_again (j, M + kD 3, A5, c5, ls ++ [s], G5) ⟨by simp only; omega, by simp only; omega, hxx, by simpa using hv, hsh2, h, by simp; omega⟩ (by simp only; omega) rfl ⟨⟨_, rfl, by simp [denO]⟩, ⟨_, rfl, by simp [denO]⟩, ⟨_, rfl, rfl⟩, trivial⟩ ?_;exact .drop (.hp .nil)
  ·refine S_subI J J J J (by omega) ?_
   refine Va J J ?_;refine S_again (j, M + kD 3, A1, c1, ls, G5) ⟨by simp only; omega, by simp only; omega, hxx, Sts_le (hext3.trans hext4).le hst, hsh, hok, by simp only; omega⟩ (by simp only; omega) rfl ⟨⟨_, rfl, by simp [denO]⟩, ⟨_, rfl, by simp [denO]⟩, ⟨_, rfl, rfl⟩, trivial⟩ ?_;exact .drop (.hp .nil)
 ·obtain rfl : i = 0 := by omega
  refine S_rdLe 1 (N + (1 + 6 * kD 3)) (by omega) J J ?_;exact S_retm 1 (Res.t1 Tryz.results53 J J) J hext ⟨J, ls, hst, hsh, hok⟩
def prgL (n : Nat) (xs : List Value) (G : PH) : Prop := ∃ p : List (List Stm), n = p.length ∧ 1 ≤ p.length ∧ p.length ≤ 3 ∧ Cs 1 (stsRep G) p xs ∧ ∀ l ∈ p, Sh l ∧ stmtsOk l = true
theorem stsRep_one {G : PH} (l : List Stm) (cs : List Value) (h : stsRep G l cs) : ∀ u ∈ cs, u.oneCell' = true := by
 obtain ⟨v, rfl, A, c, rfl, _⟩ := h
 intro u hu
 rw [List.mem_singleton.1 hu]; rfl
def kS : Nat := 1 + 6 * kD 3
theorem c_l2Prog (b : Nat) (l : List Int) (sv : Value) (N : Nat) (G : PH) (hl : Byts G l sv) (hN : N + (1 + 3 * kS) ≤ 1000000000) : DrwL 44 b sv [] N (1 + 3 * kS) G 40 1 prgL := by
 obtain ⟨A, c, rfl, hl1, _⟩ := id hl
 refine Mod.intro Tryz.func44 Tryz.ntmps44 J J fun w S => ?_;refine Va J J ?_;refine S_emptyO Tk 5 J J J J fun A0 => ?_;refine Va J J ?_;refine S_callM 1 Tryz.call22 (c_pick b l _ _ N G hl ⟨by omega, by omega⟩ (by omega)) J J J J (fun _ => J) ?_;rintro v G2 A' ⟨rfl, rfl, m, rfl, h0, h1⟩ _
 refine Va J J ?_;refine S_add J J J J (by omega) ?_;refine Va J J ?_;obtain ⟨m, rfl⟩ := Int.eq_ofNat_of_zero_le h0
 have hmm : m ≤ 2 := by omega
 refine S_loop (α := Nat × Nat × Option Addr × Nat × List Value × List (List Stm) × PH) (fun y => y.1 + y.2.2.2.2.2.1.length = m + 1 ∧ y.2.1 + y.1 * kS ≤ N + (1 + 3 * kS) ∧ PH.ext w.heap.size G2 y.2.2.2.2.2.2 ∧ Cs 1 (stsRep y.2.2.2.2.2.2) y.2.2.2.2.2.1 y.2.2.2.2.1 ∧ ∀ l ∈ y.2.2.2.2.2.1, Sh l ∧ stmtsOk l = true) (fun y => y.1) []
  (fun y => [(4, .val (.int .i64 (y.1 : Nat))), (3, .val (.slice y.2.2.1 y.2.2.2.2.2.1.length y.2.2.2.1)), (0, .val (.pointer (some ⟨b, 0, none⟩)))])
  (fun y => [.hp 5 (rowO w.heap.size 40 1 y.2.2.1 y.2.2.2.2.2.1.length y.2.2.2.1 y.2.2.2.2.1), .hp 1 (rdHP b (.slice A l.length c) y.2.1)]) (fun y => y.2.2.2.2.2.2) (m + 1, N + 1, A0, 0, [], [], G2) ⟨rfl, ?_, PH.ext.refl _ _, rfl, by simp⟩ rfl ?_ ?_ ?_
 ·have := Nat.mul_le_mul_right kS (show m + 1 ≤ 3 by omega)
  simp only
  omega
 ·exact ⟨⟨_, J, by simp [denO]; omega⟩, ⟨_, rfl, rfl⟩, ⟨_, rfl, rfl⟩, trivial⟩
 ·exact .hp (.hp .nil)
 rintro ⟨i, M, A1, c1, xs, ls, G1⟩ ⟨hi, hM, hext, hcs, hsh⟩
 simp only at hi hM hext hcs hsh ⊢
 refine Va J J ?_
 refine S_condp J (fun h => ?_) (fun h => ?_) <;> refine Va J J ?_
 ·obtain ⟨j, rfl⟩ : ∃ j, i = j + 1 := ⟨i - 1, by omega⟩
  rw [Nat.succ_mul] at hM
  refine S_callM 1 Tryz.call53 (c_l2Some b l _ M G1 (Byts_le hext.le hl) (by have hks : kS = 1 + 6 * kD 3 := J; omega)) rfl rfl rfl rfl (fun _ => rfl) ?_;rintro v G3 A' ⟨rfl, s, hst, hss, hok⟩ hext3
  obtain ⟨As, cS, rfl, _⟩ := id hst
  refine Va J J ?_;refine S_slice Tk ZT_ok J J J J (by decide) (by decide) J J J J fun b2 => ?_;refine Va J J ?_;refine S_app1 Tk 5 16 J J J J J J J J J J J J J J (by intro u hu; rw [List.mem_singleton.1 hu]; rfl) rfl (fun _ _ => rfl) (by omega) (Nat.le_refl _) fun A2 c2 => ?_;refine Va J J ?_;refine S_subI J J J J (by omega) ?_;refine Va J J ?_;refine S_again (j, M + kS, A2, c2, _, ls ++ [s], G3) ⟨by simp; omega, by simp only; omega, hext.trans hext3, Cs_append (Cs_mono (fun _ _ _ h => stsRep_le hext3.le h) hcs) ⟨_, rfl, hst⟩ rfl, ?_⟩ (by simp only; omega) rfl ⟨⟨_, rfl, by simp [denO]⟩, ⟨_, rfl, by simp [denO]⟩, ⟨_, rfl, rfl⟩, trivial⟩ ?_
  ·intro q hq
   rcases List.mem_append.1 hq with hq | hq
   ·exact hsh q hq
   ·rw [List.mem_singleton.1 hq]; exact ⟨hss, hok⟩
  simp only [List.length_append, List.length_singleton]
  exact .drop (.hp (.hp .nil))
 ·obtain rfl : i = 0 := by omega
  refine S_rdLe 1 (N + (1 + 3 * kS)) (by omega) J J ?_;refine S_pair 1 5 6 J J J J ?_;exact S_retm 6 (Res.t1 Tryz.results44 J J) J hext ⟨_, _, J, rd_covers _ _ _ _, J, _, _, _, _, _, J, J, ls, J, by omega, by omega, hcs, hsh⟩
end
section
attribute [local irreducible] X Pure Mod
def bentV (v : Value) (G : PH) : Prop := ∃ l, Sts G l v ∧ Sh l
theorem Sh_set {l : List Stm} {k : Nat} {s : Stm} (h : Sh l) (hs : Stm.short s) : Sh (l.set k s) := by
 refine ⟨by simpa using h.1, shL_iff.2 fun x hx => ?_⟩
 rcases List.mem_or_eq_of_mem_set hx with hx | rfl
 ·exact shL_iff.1 h.2 x hx
 ·exact hs
theorem c_l2Bent (b : Nat) (l : List Int) (sv : Value) (ls : List Stm) (lv : Value) (N : Nat) (G : PH) (hl : Byts G l sv) (hst : Sts G ls lv) (hsh : Sh ls) (hN : N + 3 ≤ 1000000000) : Drw 47 b sv [lv] N 3 G bentV := by
 obtain ⟨A, c, rfl, hl1, _⟩ := id hl
 obtain ⟨A2, c2, xs, rfl, hxl, hxg, hcs⟩ := sts_cells hst
 have hlen := hsh.1
 refine Mod.intro Tryz.func47 Tryz.ntmps47 J J fun w S => ?_;refine Va J J ?_;refine S_emptyO Tk 5 J J J J fun A0 => ?_;refine Va J J ?_;refine S_appO Tk 5 J J J J J J J J J J J (fun _ _ => J) (src_G hxl hxg) (Cs_one Stm.rep_one hcs) (by simp only; omega) (by simp only [maxLen]; omega) (Nat.le_refl _) fun A4 c4 => ?_
 rw [List.nil_append, Nat.zero_add]
 refine Va J J ?_
 refine S_condp J (fun h => ?_) (fun h => ?_) <;> refine Va J J ?_
 ·refine S_freezeR 5 J J (Nat.le_refl _) fun Gf hextf hncf hcmf hclf => ?_
  have hvf : Sts Gf _ _ := frz (Cs_mono (Stm.reps_le hextf.le _) hcs) rfl (by omega) hncf hcmf hclf
  refine S_rdLe 1 (N + 3) (by omega) J J ?_;exact S_retm 1 (Res.t1 Tryz.results47 J J) J hextf ⟨J, _, hvf, hsh⟩
 refine S_callM 1 Tryz.call22 (c_pick b l _ _ N G hl ⟨by omega, by omega⟩ (by omega)) J J J J (fun _ => J) ?_;rintro v G2 A' ⟨rfl, rfl, k, rfl, hk0, hk1⟩ _
 refine Va J J ?_;refine S_callM 1 Tryz.call22 (c_pick b l _ _ _ _ hl ⟨by omega, by omega⟩ (by omega)) J J J J (fun _ => J) ?_;rintro v G2 A' ⟨rfl, rfl, m, rfl, hm0, hm1⟩ _
 obtain ⟨k, rfl⟩ := Int.eq_ofNat_of_zero_le hk0
 have hkl : k < ls.length := by omega
 refine S_capO 5 J fun hnc4 hcm4 _ => ?_;refine S_someO 5 J (by omega) fun g off eA => ?_
 subst eA
 obtain ⟨cs, hcsd, hcsl, hrep, hset⟩ := Cs_at hcs hkl
 generalize hs : ls[k] = s at hrep
 have hss : Stm.short s := by rw [← hs]; exact shL_iff.1 hsh.2 _ (List.getElem_mem _)
 obtain ⟨q1, q2, q3, q4, q5, q6⟩ := s
 rw [Stm.short_mk] at hss
 obtain ⟨vx, vy, rfl, i1, i2, i3, i4, hx, hy⟩ := Stm.rep_iff.1 hrep
 refine Va J J ?_
 have hoff : ∀ f, f < 6 → k * 6 + f < xs.length := fun f hf => by omega
 have hto : ((k : Int).toNat : Nat) = k := by omega
 refine S_condp J (fun h => ?_) (fun h => ?_) <;> refine Va J J ?_
 ·(refine S_sliceG Tk ZT_ok J J J J (by decide) (by decide) J J J J (fun _ => J) fun bq Gq hxq hcq => ?_)
  refine Va J J ?_;refine S_callM 1 Tryz.call46 (c_numL b [0, 12, 13, -1, 9] (Byts_le hxq.le hl) hcq J (Nat.le_refl _) (by decide) (by decide) (i64_small (by decide)) (by omega)) J J J J (fun _ => J) ?_;rintro v G' A' ⟨rfl, rfl, m1, hmem1, rfl⟩ _
  have hi1 : I64 m1 := i64_small (l := [0, 12, 13, -1, 9]) (by decide) m1 hmem1
  refine Va J J ?_;refine S_index Tk J J J J J J (by omega) (by omega) ?_;refine Va J J ?_;refine S_storeO Tk 5 (o := k * 6 + 0) J J J (by simp [add_lit', Nat.add_assoc]) J J J J J (by omega) J ?_;refine Va J J ?_
  have hcs2 := hset 0 (.int .i64 m1) (.mk m1 q2 q3 q4 q5 q6) (by omega) (Stm.rep_iff.2 ⟨_, _, rfl, by assumption, by assumption, by assumption, by assumption, hx, hy⟩)
  have hcs3 := Cs_mono (Stm.reps_le hxq.le _) hcs2
  refine S_freezeR 5 J J (Nat.le_refl _) fun Gf hextf hncf hcmf hclf => ?_
  have hvf : Sts Gf _ _ := frz (Cs_mono (Stm.reps_le hextf.le _) hcs3) (by simp) (by omega) hncf hcmf hclf
  refine S_rdLe 1 (N + 3) (by omega) J J ?_;exact S_retm 1 (Res.t1 Tryz.results47 J J) J (hxq.trans hextf) ⟨J, _, hvf, Sh_set hsh (Stm.short_mk.2 hss)⟩
 refine S_condp J (fun h => ?_) (fun h => ?_) <;> refine Va J J ?_
 ·(refine S_sliceG Tk ZT_ok J J J J (by decide) (by decide) J J J J (fun _ => J) fun bq Gq hxq hcq => ?_)
  refine Va J J ?_;refine S_callM 1 Tryz.call46 (c_numL b [-1, 3, 2, 9223372036854775807] (Byts_le hxq.le hl) hcq J (Nat.le_refl _) (by decide) (by decide) (i64_small (by decide)) (by omega)) J J J J (fun _ => J) ?_;rintro v G' A' ⟨rfl, rfl, m1, hmem1, rfl⟩ _
  have hi1 : I64 m1 := i64_small (l := [-1, 3, 2, 9223372036854775807]) (by decide) m1 hmem1
  refine Va J J ?_;refine S_index Tk J J J J J J (by omega) (by omega) ?_;refine Va J J ?_;refine S_storeO Tk 5 (o := k * 6 + 1) J J J (by simp [add_lit', Nat.add_assoc]) J J J J J (by omega) J ?_;refine Va J J ?_
  have hcs2 := hset 1 (.int .i64 m1) (.mk q1 m1 q3 q4 q5 q6) (by omega) (Stm.rep_iff.2 ⟨_, _, rfl, by assumption, by assumption, by assumption, by assumption, hx, hy⟩)
  have hcs3 := Cs_mono (Stm.reps_le hxq.le _) hcs2
  refine S_freezeR 5 J J (Nat.le_refl _) fun Gf hextf hncf hcmf hclf => ?_
  have hvf : Sts Gf _ _ := frz (Cs_mono (Stm.reps_le hextf.le _) hcs3) (by simp) (by omega) hncf hcmf hclf
  refine S_rdLe 1 (N + 3) (by omega) J J ?_;exact S_retm 1 (Res.t1 Tryz.results47 J J) J (hxq.trans hextf) ⟨J, _, hvf, Sh_set hsh (Stm.short_mk.2 hss)⟩
 refine S_condp J (fun h => ?_) (fun h => ?_) <;> refine Va J J ?_
 ·(refine S_sliceG Tk ZT_ok J J J J (by decide) (by decide) J J J J (fun _ => J) fun bq Gq hxq hcq => ?_)
  refine Va J J ?_;refine S_callM 1 Tryz.call46 (c_numL b [-1, 3, 1] (Byts_le hxq.le hl) hcq J (Nat.le_refl _) (by decide) (by decide) (i64_small (by decide)) (by omega)) J J J J (fun _ => J) ?_;rintro v G' A' ⟨rfl, rfl, m1, hmem1, rfl⟩ _
  have hi1 : I64 m1 := i64_small (l := [-1, 3, 1]) (by decide) m1 hmem1
  refine Va J J ?_;refine S_index Tk J J J J J J (by omega) (by omega) ?_;refine Va J J ?_;refine S_storeO Tk 5 (o := k * 6 + 2) J J J (by simp [add_lit', Nat.add_assoc]) J J J J J (by omega) J ?_;refine Va J J ?_
  have hcs2 := hset 2 (.int .i64 m1) (.mk q1 q2 m1 q4 q5 q6) (by omega) (Stm.rep_iff.2 ⟨_, _, rfl, by assumption, by assumption, by assumption, by assumption, hx, hy⟩)
  have hcs3 := Cs_mono (Stm.reps_le hxq.le _) hcs2
  refine S_freezeR 5 J J (Nat.le_refl _) fun Gf hextf hncf hcmf hclf => ?_
  have hvf : Sts Gf _ _ := frz (Cs_mono (Stm.reps_le hextf.le _) hcs3) (by simp) (by omega) hncf hcmf hclf
  refine S_rdLe 1 (N + 3) (by omega) J J ?_;exact S_retm 1 (Res.t1 Tryz.results47 J J) J (hxq.trans hextf) ⟨J, _, hvf, Sh_set hsh (Stm.short_mk.2 hss)⟩
 refine S_condp J (fun h => ?_) (fun h => ?_) <;> refine Va J J ?_
 ·(refine S_sliceG Tk ZT_ok J J J J (by decide) (by decide) J J J J (fun _ => J) fun bq Gq hxq hcq => ?_)
  refine Va J J ?_;refine S_callM 1 Tryz.call46 (c_numL b [1000, 6, 1] (Byts_le hxq.le hl) hcq J (Nat.le_refl _) (by decide) (by decide) (i64_small (by decide)) (by omega)) J J J J (fun _ => J) ?_;rintro v G' A' ⟨rfl, rfl, m1, hmem1, rfl⟩ _
  have hi1 : I64 m1 := i64_small (l := [1000, 6, 1]) (by decide) m1 hmem1
  refine Va J J ?_;refine S_index Tk J J J J J J (by omega) (by omega) ?_;refine Va J J ?_;refine S_storeO Tk 5 (o := k * 6 + 3) J J J (by simp [add_lit', Nat.add_assoc]) J J J J J (by omega) J ?_;refine Va J J ?_
  have hcs2 := hset 3 (.int .i64 m1) (.mk q1 q2 q3 m1 q5 q6) (by omega) (Stm.rep_iff.2 ⟨_, _, rfl, by assumption, by assumption, by assumption, by assumption, hx, hy⟩)
  have hcs3 := Cs_mono (Stm.reps_le hxq.le _) hcs2
  refine S_freezeR 5 J J (Nat.le_refl _) fun Gf hextf hncf hcmf hclf => ?_
  have hvf : Sts Gf _ _ := frz (Cs_mono (Stm.reps_le hextf.le _) hcs3) (by simp) (by omega) hncf hcmf hclf
  refine S_rdLe 1 (N + 3) (by omega) J J ?_;exact S_retm 1 (Res.t1 Tryz.results47 J J) J (hxq.trans hextf) ⟨J, _, hvf, Sh_set hsh (Stm.short_mk.2 hss)⟩
 refine S_condp J (fun h => ?_) (fun h => ?_) <;> refine Va J J ?_
 ·refine S_sliceG Tk ZT_ok J J J J (by decide) (by decide) J J J J (fun _ => J) fun bq Gq hxq hcq => ?_
  refine Va J J ?_
  have hy1 : Sts Gq [.mk 11 0 0 0 [] []] (.slice (some ⟨bq, 0, none⟩) 1 1) := ⟨some ⟨bq, 0, none⟩, 1, rfl, by simp, by simp, by simp [maxLen], .inr ⟨_, rfl, ⟨_, hcq, Stm.rep_iff.2 ⟨_, _, rfl, ⟨by omega, by omega⟩, ⟨by omega, by omega⟩, ⟨by omega, by omega⟩, ⟨by omega, by omega⟩, Sr_nil rfl, Sr_nil rfl⟩⟩, trivial⟩⟩
  refine S_index Tk J J J J J J (by omega) (by omega) ?_;refine Va J J ?_;refine S_storeO Tk 5 (o := k * 6 + 5) J J J (by simp [add_lit', Nat.add_assoc]) J J J J J (by omega) J ?_;refine Va J J ?_
  have hcs2 := (Cs_at (Cs_mono (Stm.reps_le hxq.le _) hcs) hkl).choose_spec.2.2.2 5 (.slice (some ⟨bq, 0, none⟩) 1 1) (.mk q1 q2 q3 q4 q5 [.mk 11 0 0 0 [] []]) (by omega) (by
   rw [← (Cs_at (Cs_mono (Stm.reps_le hxq.le _) hcs) hkl).choose_spec.1, hcsd]
   exact Stm.rep_iff.2 ⟨_, _, J, i1, i2, i3, i4, Sts_le hxq.le hx, hy1⟩)
  refine S_freezeR 5 J J (Nat.le_refl _) fun Gf hextf hncf hcmf hclf => ?_
  have hvf : Sts Gf _ _ := frz (Cs_mono (Stm.reps_le hextf.le _) hcs2) (by simp) (by omega) hncf hcmf hclf
  refine S_rdLe 1 (N + 3) (by omega) J J ?_;exact S_retm 1 (Res.t1 Tryz.results47 J J) J (hxq.trans hextf) ⟨J, _, hvf, Sh_set hsh (Stm.short_mk.2 ⟨hss.1, by simp, Stm.short_mk.2 ⟨Sh_nil, Sh_nil⟩, trivial⟩)⟩
 refine S_condp J (fun h => ?_) (fun h => ?_) <;> refine Va J J ?_
 ·refine S_index Tk J J J J J J (by omega) (by omega) ?_
  refine Va J J ?_;refine S_valV J J J (V_loadRA Tk 5 J J (by simp [add_lit']) J hcsd J) ?_;refine Va J J ?_;refine S_sliceG Tk ZT_ok J J J J (by decide) (by decide) J J J J (fun _ => J) fun bq Gq hxq hcq => ?_;refine Va J J ?_
  have hy1 : Sts Gq [.mk q1 q2 q3 q4 q5 q6] (.slice (some ⟨bq, 0, none⟩) 1 1) := ⟨some ⟨bq, 0, none⟩, 1, rfl, by simp, by simp, by simp [maxLen], .inr ⟨_, rfl, ⟨_, hcq, Stm.rep_iff.2 ⟨_, _, rfl, i1, i2, i3, i4, Sts_le hxq.le hx, Sts_le hxq.le hy⟩⟩, trivial⟩⟩
  refine S_index Tk J J J J J J (by omega) (by omega) ?_;refine Va J J ?_;refine S_storeO Tk 5 (o := k * 6 + 4) J J J (by simp [add_lit', Nat.add_assoc]) J J J J J (by omega) J ?_;refine Va J J ?_
  have hcs2 := (Cs_at (Cs_mono (Stm.reps_le hxq.le _) hcs) hkl).choose_spec.2.2.2 4 (.slice (some ⟨bq, 0, none⟩) 1 1) (.mk q1 q2 q3 q4 [.mk q1 q2 q3 q4 q5 q6] q6) (by omega) (by
   rw [← (Cs_at (Cs_mono (Stm.reps_le hxq.le _) hcs) hkl).choose_spec.1, hcsd]
   exact Stm.rep_iff.2 ⟨_, _, J, i1, i2, i3, i4, hy1, Sts_le hxq.le hy⟩)
  refine S_freezeR 5 J J (Nat.le_refl _) fun Gf hextf hncf hcmf hclf => ?_
  have hvf : Sts Gf _ _ := frz (Cs_mono (Stm.reps_le hextf.le _) hcs2) (by simp) (by omega) hncf hcmf hclf
  refine S_rdLe 1 (N + 3) (by omega) J J ?_;exact S_retm 1 (Res.t1 Tryz.results47 J J) J (hxq.trans hextf) ⟨J, _, hvf, Sh_set hsh (Stm.short_mk.2 ⟨⟨by simp, Stm.short_mk.2 hss, trivial⟩, hss.2⟩)⟩
 refine S_condp J (fun h => ?_) (fun h => ?_) <;> refine Va J J ?_
 ·refine S_loop (α := Option Addr × Nat × List Value × List Stm) (fun y => Cs 6 (Stm.rep G2) y.2.2.2 y.2.2.1 ∧ Sh y.2.2.2) (fun y => 15 - y.2.2.2.length) []
   (fun y => [(5, .val (.slice y.1 y.2.2.2.length y.2.1))])
   (fun y => [.hp 5 (rowO w.heap.size 65 6 y.1 y.2.2.2.length y.2.1 y.2.2.1), .hp 1 (rdHP b (.slice A l.length c) (N + 1 + 1))]) (fun y => G2) (some ⟨g, off, none⟩, c4, xs, ls) ⟨hcs, hsh⟩ rfl ?_ ?_ ?_
  ·exact ⟨⟨_, J, J⟩, trivial⟩
  ·exact .hp (.hp .nil)
  rintro ⟨A5, c5, xs5, ls5⟩ ⟨hcs5, hsh5⟩
  simp only at hcs5 hsh5 ⊢
  have hlen5 := hsh5.1
  refine Va J J ?_
  refine S_condp J (fun h => ?_) (fun h => ?_) <;> refine Va J J ?_
  ·refine S_slice Tk ZT_ok J J J J (by decide) (by decide) J J J J fun b2 => ?_
   refine Va J J ?_
   refine S_app1 Tk 5 82 J J J J J J J J J J J J J J (by intro u hu; simp at hu; rcases hu with rfl | rfl | rfl | rfl | rfl | rfl <;> rfl) rfl (fun _ _ => rfl) (by omega) (Nat.le_refl _) fun A6 c6 => ?_
   refine Va J J ?_;refine S_again (A6, c6, _, ls5 ++ [.mk 11 0 0 0 [] []]) ⟨Cs_append hcs5 (Stm.rep_iff.2 ⟨_, _, J, ⟨by omega, by omega⟩, ⟨by omega, by omega⟩, ⟨by omega, by omega⟩, ⟨by omega, by omega⟩, Sr_nil J, Sr_nil J⟩) J, by simp only [List.length_append, List.length_singleton]; omega, shL_append.2 ⟨hsh5.2, Stm.short_mk.2 ⟨Sh_nil, Sh_nil⟩, trivial⟩⟩ (by simp; omega) rfl ⟨⟨_, rfl, by simp [denO]⟩, trivial⟩ ?_
   simp only [List.length_append, List.length_singleton]
   exact .drop (.hp (.hp .nil))
  ·refine S_freezeR 5 J J (Nat.le_refl _) fun Gf hextf hncf hcmf hclf => ?_
   have hvf : Sts Gf _ _ := frz (Cs_mono (Stm.reps_le hextf.le _) hcs5) rfl (by omega) hncf hcmf hclf
   refine S_rdLe 1 (N + 3) (by omega) J J ?_;exact S_retm 1 (Res.t1 Tryz.results47 J J) J hextf ⟨J, _, hvf, hsh5⟩
 ·refine S_freezeR 5 J J (Nat.le_refl _) fun Gf hextf hncf hcmf hclf => ?_
  have hvf : Sts Gf _ _ := frz (Cs_mono (Stm.reps_le hextf.le _) hcs) rfl (by omega) hncf hcmf hclf
  refine S_rdLe 1 (N + 3) (by omega) J J ?_;exact S_retm 1 (Res.t1 Tryz.results47 J J) J hextf ⟨J, _, hvf, hsh⟩
end
section
attribute [local irreducible] X Pure Mod
def okL (L : List Stm) : Prop := ∃ d r, listOk L d r = true
theorem okL_nil : okL [] := ⟨0, 0, rfl⟩
theorem stmtOk_parts {k a b n : Int} {x y : List Stm} {d r : Int} (h : stmtOk (.mk k a b n x y) d r = true) : okL x ∧ okL y ∧ (k = 3 → 0 ≤ b ∧ b < 3) ∧ (k = 4 → 0 ≤ a ∧ a < 3) ∧ (k = 9 ∨ k = 10 → 0 ≤ a ∧ a < 2) := by
 simp only [stmtOk] at h
 split at h
 ·cases h
 rename_i h0
 simp only [Bool.or_eq_true, Bool.and_eq_true, decide_eq_true_eq, not_or, not_and] at h0
 have hy : k ≠ 6 → y = [] := fun hk => List.eq_nil_of_length_eq_zero (by have := h0.1 hk; omega)
 split at h
 ·rename_i hk
  simp only [Bool.and_eq_true] at h
  refine ⟨⟨_, _, h.1.2⟩, ⟨_, _, h.2⟩, ?_, ?_, ?_⟩ <;> intro h3 <;> omega
 split at h
 ·rename_i hk
  simp only [Bool.and_eq_true] at h
  refine ⟨⟨_, _, h.2⟩, by rw [hy (by omega)]; exact okL_nil, ?_, ?_, ?_⟩ <;> intro h3 <;> omega
 ·simp only [Bool.and_eq_true, decide_eq_true_eq] at h
  obtain ⟨hx, hl⟩ := h
  rw [List.eq_nil_of_length_eq_zero hx, hy (by omega)]
  refine ⟨okL_nil, okL_nil, ?_, ?_, ?_⟩
  ·rintro rfl
   simp [leafOk] at hl
   omega
  ·rintro rfl
   simp [leafOk] at hl
   omega
  ·rintro (rfl | rfl) <;> (simp [leafOk] at hl; omega)
theorem newp_right {G G1 G2 : PH} (h : G1.le G2) : (newp G G1).le (newp G G2) := by
 intro b o hb
 unfold newp at hb ⊢
 split at hb
 ·cases hb
 ·exact h b o hb
theorem frzL {α : Type} {G G' Gx : PH} {sz : Nat} {rep : α → List Value → Prop} {L : List α} {A : Option Addr} {n c : Nat} {xs : List Value} (hle : (newp G G').le Gx) (hcs : Cs sz rep L xs) (hn : n = L.length) (hb : n ≤ 1000000000) (hnc : n ≤ c) (hcm : c ≤ maxLen) (hcl : n = 0 ∨ ∃ a, A = some a ∧ gcells (newp G G') a xs) : Sr Gx sz rep L (.slice A n c) := by
 subst hn
 refine Sx_Sr ⟨A, c, J, hb, hnc, hcm, Cs_length hcs, ?_⟩ J hcs
 rcases hcl with hcl | ⟨a, h1, h2⟩
 ·exact .inl hcl
 ·exact .inr ⟨a, h1, gcells_le hle h2⟩
def Tm (ow : List Int) (L : List Stm) : Prop := ∀ (room deep : Int) (v ov : Value) (G : PH), Sts G L v → Ints G ow ov → ow.length = 5 → 0 ≤ deep → deep ≤ 1000 → Sh L → okL L → Pure Tryz.prog 45 [v, ov, .int .i64 room, .int .i64 deep] G fun v' G' => bentV v' (newp G G')
theorem c_l6Tame_of (ow : List Int) (L : List Stm) (h0 : L ≠ [] → Tm ow []) (hb : ∀ k (hk : k < L.length), Tm ow L[k].body ∧ Tm ow L[k].els) : Tm ow L := by
 intro room deep v ov G hst how hol hd0 hd1 hsh hok
 obtain ⟨A, c, rfl, hl1, _⟩ := id hst
 obtain ⟨Ao, co, rfl, _⟩ := id how
 have hlen := hsh.1
 refine Pure.intro Tryz.func45 Tryz.ntmps45 J J fun w => ?_; refine Va J J ?_;refine S_emptyO Tk 5 J J J J fun A0 => ?_;refine Va J J ?_;refine S_loop (α := Nat × Option Addr × Nat × List Value × List Stm × PH) (fun y => y.2.2.2.2.1.length = y.1 ∧ y.1 ≤ L.length ∧ PH.ext w.heap.size G y.2.2.2.2.2 ∧ Cs 6 (Stm.rep (newp G y.2.2.2.2.2)) y.2.2.2.2.1 y.2.2.2.1 ∧ shL y.2.2.2.2.1) (fun y => L.length - y.1) []
  (fun y => [(10, .val (.int .i64 (y.1 : Nat))), (9, .val (.slice y.2.1 y.2.2.2.2.1.length y.2.2.1)), (0, .val (.slice A L.length c)), (1, .val (.slice Ao ow.length co)), (2, .val (.int .i64 room)), (3, .val (.int .i64 deep))])
  (fun y => [.hp 5 (rowO w.heap.size 65 6 y.2.1 y.2.2.2.2.1.length y.2.2.1 y.2.2.2.1)]) (fun y => y.2.2.2.2.2) (0, A0, 0, [], [], G) ⟨rfl, Nat.zero_le _, PH.ext.refl _ _, rfl, trivial⟩ rfl ?_ ?_ ?_
 ·exact ⟨⟨_, J, J⟩, ⟨_, J, J⟩, ⟨_, J, J⟩, ⟨_, J, J⟩, ⟨_, J, J⟩, ⟨_, J, J⟩, trivial⟩
 ·exact .hp .nil
 rintro ⟨i, A5, c5, xs5, ls5, G2⟩ ⟨hi, hil, hext, hcs5, hsh5⟩
 simp only at hi hil hext hcs5 hsh5 ⊢
 refine Va J J ?_
 refine S_cond J (fun h => ?_) (fun h => ?_) <;> refine Va J J ?_
 ·simp only [Bool.and_eq_true, decide_eq_true_eq] at h
  have hkl : i < L.length := by omega
  obtain ⟨ad, cs, rfl, hcs, hrep⟩ := Sr_at (Sts_le hext.le hst) hkl
  obtain ⟨hbx, hby⟩ := hb i hkl
  have hshk := shL_iff.1 hsh.2 _ (List.getElem_mem hkl)
  obtain ⟨dd, rr, hokL⟩ := hok
  have hokk : stmtOk L[i] dd rr = true := by
   rw [listOk_all, List.all_eq_true] at hokL
   exact hokL _ (List.getElem_mem hkl)
  have h00 := h0 (by rintro rfl; simp at hkl)
  generalize hs : L[i] = s at hrep hbx hby hshk hokk
  obtain ⟨q1, q2, q3, q4, q5, q6⟩ := s
  rw [Stm.short_mk] at hshk
  obtain ⟨vx, vy, rfl, i1, i2, i3, i4, hx, hy⟩ := Stm.rep_iff.1 hrep
  obtain ⟨ox, oy, hp3, hp4, hp9⟩ := stmtOk_parts hokk
  simp only [Stm.body, Stm.els] at hbx hby
  obtain ⟨Ax, cx, rfl, _⟩ := id hx
  obtain ⟨Ay, cy, rfl, _⟩ := id hy
  refine S_index Tk J J J J J J (by omega) (by omega) ?_;refine Va J J ?_;refine S_loadA Tk J J J J J (by simpa using hcs) ?_;refine Va J J ?_;refine AZ ZT_ok J J J J fun b11 => ?_;refine Va J J ?_
  by_cases e8 : q1 = 8
  ·subst e8
   repeat' (first
    | (refine GT J J J ?_; refine Va J J ?_)
    | (refine GF J J J ?_; refine Va J J ?_)
    | (refine RT J J ?_; refine Va J J ?_)
    | (refine RF J J ?_; refine Va J J ?_)
    | (refine RF J (decide_eq_false e8) ?_; refine Va J J ?_)
    | (refine GF J J (decide_eq_false e8) ?_; refine Va J J ?_)
    | (refine RF J (decide_eq_false e3) ?_; refine Va J J ?_)
    | (refine GF J J (decide_eq_false e3) ?_; refine Va J J ?_)
    | (refine RF J (decide_eq_false e4) ?_; refine Va J J ?_)
    | (refine GF J J (decide_eq_false e4) ?_; refine Va J J ?_)
    | (refine RF J (decide_eq_false e9) ?_; refine Va J J ?_)
    | (refine GF J J (decide_eq_false e9) ?_; refine Va J J ?_)
    | (refine RF J (decide_eq_false e10) ?_; refine Va J J ?_)
    | (refine GF J J (decide_eq_false e10) ?_; refine Va J J ?_)
    | fail)
   refine S_subI J J J J (by omega) ?_;refine Va J J ?_;refine S_call Tryz.call45 (hbx _ _ _ _ _ hx (Ints_le hext.le how) hol (by omega) (by omega) hshk.1 ox) J J J ?_;rintro v3 G3 ⟨X3, hv3, hs3⟩ hext3
   obtain ⟨A31, c31, rfl, _⟩ := id hv3
   refine Va J J ?_;refine S_subI J J J J (by omega) ?_;refine Va J J ?_;refine S_call Tryz.call45 (hby _ _ _ _ _ (Sts_le hext3.le hy) (Ints_le (hext.trans hext3).le how) hol (by omega) (by omega) hshk.2 oy) J J J ?_;rintro v4 G4 ⟨X4, hv4, hs4⟩ hext4
   obtain ⟨A41, c41, rfl, _⟩ := id hv4
   refine Va J J ?_;refine S_slice Tk ZT_ok J J J J (by decide) (by decide) J J J J fun b2 => ?_;refine Va J J ?_
   refine S_app1 Tk 5 103 J J J J J J J J J J J J J J (by intro u hu; simp at hu; rcases hu with rfl | rfl | rfl | rfl | rfl | rfl <;> rfl) rfl (fun _ _ => rfl) (by omega) (Nat.le_refl _) fun A6 c6 => ?_
   refine Va J J ?_;refine S_add J J J J (by omega) ?_;refine Va J J ?_;refine S_again (i + 1, A6, c6, _, ls5 ++ [.mk 8 q2 q3 q4 X3 X4], G4) ⟨by simp; omega, by simp only; omega, (hext.trans hext3).trans hext4, Cs_append (Cs_mono (Stm.reps_le (newp_right (hext3.trans hext4).le) _) hcs5) (Stm.rep_iff.2 ⟨_, _, rfl, by first | assumption | exact ⟨by omega, by omega⟩, by first | assumption | exact ⟨by omega, by omega⟩, by first | assumption | exact ⟨by omega, by omega⟩, by first | assumption | exact ⟨by omega, by omega⟩, Sts_le (PH.le.trans (newp_mono hext.le hext3.le) (newp_right hext4.le)) hv3, Sts_le (newp_mono (hext.trans hext3).le hext4.le) hv4⟩) rfl, shL_append.2 ⟨hsh5, Stm.short_mk.2 ⟨hs3, hs4⟩, trivial⟩⟩ (by simp only; omega) rfl ⟨⟨_, rfl, by simp [denO]⟩, ⟨_, rfl, by simp [denO]⟩, ⟨_, rfl, rfl⟩, ⟨_, rfl, rfl⟩, ⟨_, rfl, rfl⟩, ⟨_, rfl, rfl⟩, trivial⟩ ?_
   simp only [List.length_append, List.length_singleton]
   first
    | exact .drop (.hp .nil)
    | exact .drop (.drop (.hp .nil))
  by_cases e3 : q1 = 3
  ·subst e3
   repeat' (first
    | (refine GT J J J ?_; refine Va J J ?_)
    | (refine GF J J J ?_; refine Va J J ?_)
    | (refine RT J J ?_; refine Va J J ?_)
    | (refine RF J J ?_; refine Va J J ?_)
    | (refine RF J (decide_eq_false e8) ?_; refine Va J J ?_)
    | (refine GF J J (decide_eq_false e8) ?_; refine Va J J ?_)
    | (refine RF J (decide_eq_false e3) ?_; refine Va J J ?_)
    | (refine GF J J (decide_eq_false e3) ?_; refine Va J J ?_)
    | (refine RF J (decide_eq_false e4) ?_; refine Va J J ?_)
    | (refine GF J J (decide_eq_false e4) ?_; refine Va J J ?_)
    | (refine RF J (decide_eq_false e9) ?_; refine Va J J ?_)
    | (refine GF J J (decide_eq_false e9) ?_; refine Va J J ?_)
    | (refine RF J (decide_eq_false e10) ?_; refine Va J J ?_)
    | (refine GF J J (decide_eq_false e10) ?_; refine Va J J ?_)
    | fail)
   obtain ⟨ado, cso, eo, hcso, ⟨rfl, hio⟩⟩ := Sr_at (Ints_le hext.le how) (k := (q3).toNat) (by omega)
   cases eo
   refine S_index Tk J J J J J J (by omega) (by omega) ?_;refine Va J J ?_;refine S_load Tk J J J J J hcso.1 ?_;refine Va J J ?_
   refine S_cond J (fun h9 => ?_) (fun h9 => ?_) <;> refine Va J J ?_
   ·repeat' (first
     | (refine GT J J J ?_; refine Va J J ?_)
     | (refine GF J J J ?_; refine Va J J ?_)
     | (refine RT J J ?_; refine Va J J ?_)
     | (refine RF J J ?_; refine Va J J ?_)
     | (refine RF J (decide_eq_false e8) ?_; refine Va J J ?_)
     | (refine GF J J (decide_eq_false e8) ?_; refine Va J J ?_)
     | (refine RF J (decide_eq_false e3) ?_; refine Va J J ?_)
     | (refine GF J J (decide_eq_false e3) ?_; refine Va J J ?_)
     | (refine RF J (decide_eq_false e4) ?_; refine Va J J ?_)
     | (refine GF J J (decide_eq_false e4) ?_; refine Va J J ?_)
     | (refine RF J (decide_eq_false e9) ?_; refine Va J J ?_)
     | (refine GF J J (decide_eq_false e9) ?_; refine Va J J ?_)
     | (refine RF J (decide_eq_false e10) ?_; refine Va J J ?_)
     | (refine GF J J (decide_eq_false e10) ?_; refine Va J J ?_)
     | fail)
    refine S_subI J J J J (by omega) ?_;refine Va J J ?_;refine S_call Tryz.call45 (h00 _ _ _ _ _ (Sr_nil J) (Ints_le hext.le how) hol (by omega) (by omega) Sh_nil okL_nil) J J J ?_;rintro v3 G3 ⟨X3, hv3, hs3⟩ hext3
    obtain ⟨A31, c31, rfl, _⟩ := id hv3
    refine Va J J ?_;refine S_subI J J J J (by omega) ?_;refine Va J J ?_;refine S_call Tryz.call45 (h00 _ _ _ _ _ (Sts_le hext3.le (Sr_nil J)) (Ints_le (hext.trans hext3).le how) hol (by omega) (by omega) Sh_nil okL_nil) J J J ?_;rintro v4 G4 ⟨X4, hv4, hs4⟩ hext4
    obtain ⟨A41, c41, rfl, _⟩ := id hv4
    refine Va J J ?_;refine S_slice Tk ZT_ok J J J J (by decide) (by decide) J J J J fun b2 => ?_;refine Va J J ?_
    refine S_app1 Tk 5 103 J J J J J J J J J J J J J J (by intro u hu; simp at hu; rcases hu with rfl | rfl | rfl | rfl | rfl | rfl <;> rfl) rfl (fun _ _ => rfl) (by omega) (Nat.le_refl _) fun A6 c6 => ?_
    refine Va J J ?_;refine S_add J J J J (by omega) ?_;refine Va J J ?_;refine S_again (i + 1, A6, c6, _, ls5 ++ [.mk 1 q2 0 q3 X3 X4], G4) ⟨by simp; omega, by simp only; omega, (hext.trans hext3).trans hext4, Cs_append (Cs_mono (Stm.reps_le (newp_right (hext3.trans hext4).le) _) hcs5) (Stm.rep_iff.2 ⟨_, _, rfl, by first | assumption | exact ⟨by omega, by omega⟩, by first | assumption | exact ⟨by omega, by omega⟩, by first | assumption | exact ⟨by omega, by omega⟩, by first | assumption | exact ⟨by omega, by omega⟩, Sts_le (PH.le.trans (newp_mono hext.le hext3.le) (newp_right hext4.le)) hv3, Sts_le (newp_mono (hext.trans hext3).le hext4.le) hv4⟩) rfl, shL_append.2 ⟨hsh5, Stm.short_mk.2 ⟨hs3, hs4⟩, trivial⟩⟩ (by simp only; omega) rfl ⟨⟨_, rfl, by simp [denO]⟩, ⟨_, rfl, by simp [denO]⟩, ⟨_, rfl, rfl⟩, ⟨_, rfl, rfl⟩, ⟨_, rfl, rfl⟩, ⟨_, rfl, rfl⟩, trivial⟩ ?_
    simp only [List.length_append, List.length_singleton]
    first
     | exact .drop (.hp .nil)
     | exact .drop (.drop (.hp .nil))
   ·repeat' (first
     | (refine GT J J J ?_; refine Va J J ?_)
     | (refine GF J J J ?_; refine Va J J ?_)
     | (refine RT J J ?_; refine Va J J ?_)
     | (refine RF J J ?_; refine Va J J ?_)
     | (refine RF J (decide_eq_false e8) ?_; refine Va J J ?_)
     | (refine GF J J (decide_eq_false e8) ?_; refine Va J J ?_)
     | (refine RF J (decide_eq_false e3) ?_; refine Va J J ?_)
     | (refine GF J J (decide_eq_false e3) ?_; refine Va J J ?_)
     | (refine RF J (decide_eq_false e4) ?_; refine Va J J ?_)
     | (refine GF J J (decide_eq_false e4) ?_; refine Va J J ?_)
     | (refine RF J (decide_eq_false e9) ?_; refine Va J J ?_)
     | (refine GF J J (decide_eq_false e9) ?_; refine Va J J ?_)
     | (refine RF J (decide_eq_false e10) ?_; refine Va J J ?_)
     | (refine GF J J (decide_eq_false e10) ?_; refine Va J J ?_)
     | fail)
    refine S_subI J J J J (by omega) ?_;refine Va J J ?_;refine S_call Tryz.call45 (hbx _ _ _ _ _ hx (Ints_le hext.le how) hol (by omega) (by omega) hshk.1 ox) J J J ?_;rintro v3 G3 ⟨X3, hv3, hs3⟩ hext3
    obtain ⟨A31, c31, rfl, _⟩ := id hv3
    refine Va J J ?_;refine S_subI J J J J (by omega) ?_;refine Va J J ?_;refine S_call Tryz.call45 (hby _ _ _ _ _ (Sts_le hext3.le hy) (Ints_le (hext.trans hext3).le how) hol (by omega) (by omega) hshk.2 oy) J J J ?_;rintro v4 G4 ⟨X4, hv4, hs4⟩ hext4
    obtain ⟨A41, c41, rfl, _⟩ := id hv4
    refine Va J J ?_;refine S_slice Tk ZT_ok J J J J (by decide) (by decide) J J J J fun b2 => ?_;refine Va J J ?_
    refine S_app1 Tk 5 103 J J J J J J J J J J J J J J (by intro u hu; simp at hu; rcases hu with rfl | rfl | rfl | rfl | rfl | rfl <;> rfl) rfl (fun _ _ => rfl) (by omega) (Nat.le_refl _) fun A6 c6 => ?_
    refine Va J J ?_;refine S_add J J J J (by omega) ?_;refine Va J J ?_;refine S_again (i + 1, A6, c6, _, ls5 ++ [.mk 3 q2 q3 q4 X3 X4], G4) ⟨by simp; omega, by simp only; omega, (hext.trans hext3).trans hext4, Cs_append (Cs_mono (Stm.reps_le (newp_right (hext3.trans hext4).le) _) hcs5) (Stm.rep_iff.2 ⟨_, _, rfl, by first | assumption | exact ⟨by omega, by omega⟩, by first | assumption | exact ⟨by omega, by omega⟩, by first | assumption | exact ⟨by omega, by omega⟩, by first | assumption | exact ⟨by omega, by omega⟩, Sts_le (PH.le.trans (newp_mono hext.le hext3.le) (newp_right hext4.le)) hv3, Sts_le (newp_mono (hext.trans hext3).le hext4.le) hv4⟩) rfl, shL_append.2 ⟨hsh5, Stm.short_mk.2 ⟨hs3, hs4⟩, trivial⟩⟩ (by simp only; omega) rfl ⟨⟨_, rfl, by simp [denO]⟩, ⟨_, rfl, by simp [denO]⟩, ⟨_, rfl, rfl⟩, ⟨_, rfl, rfl⟩, ⟨_, rfl, rfl⟩, ⟨_, rfl, rfl⟩, trivial⟩ ?_
    simp only [List.length_append, List.length_singleton]
    first
     | exact .drop (.hp .nil)
     | exact .drop (.drop (.hp .nil))
  by_cases e4 : q1 = 4
  ·subst e4
   repeat' (first
    | (refine GT J J J ?_; refine Va J J ?_)
    | (refine GF J J J ?_; refine Va J J ?_)
    | (refine RT J J ?_; refine Va J J ?_)
    | (refine RF J J ?_; refine Va J J ?_)
    | (refine RF J (decide_eq_false e8) ?_; refine Va J J ?_)
    | (refine GF J J (decide_eq_false e8) ?_; refine Va J J ?_)
    | (refine RF J (decide_eq_false e3) ?_; refine Va J J ?_)
    | (refine GF J J (decide_eq_false e3) ?_; refine Va J J ?_)
    | (refine RF J (decide_eq_false e4) ?_; refine Va J J ?_)
    | (refine GF J J (decide_eq_false e4) ?_; refine Va J J ?_)
    | (refine RF J (decide_eq_false e9) ?_; refine Va J J ?_)
    | (refine GF J J (decide_eq_false e9) ?_; refine Va J J ?_)
    | (refine RF J (decide_eq_false e10) ?_; refine Va J J ?_)
    | (refine GF J J (decide_eq_false e10) ?_; refine Va J J ?_)
    | fail)
   obtain ⟨ado, cso, eo, hcso, ⟨rfl, hio⟩⟩ := Sr_at (Ints_le hext.le how) (k := (q2).toNat) (by omega)
   cases eo
   refine S_index Tk J J J J J J (by omega) (by omega) ?_;refine Va J J ?_;refine S_load Tk J J J J J hcso.1 ?_;refine Va J J ?_
   refine S_cond J (fun h9 => ?_) (fun h9 => ?_) <;> refine Va J J ?_
   ·repeat' (first
     | (refine GT J J J ?_; refine Va J J ?_)
     | (refine GF J J J ?_; refine Va J J ?_)
     | (refine RT J J ?_; refine Va J J ?_)
     | (refine RF J J ?_; refine Va J J ?_)
     | (refine RF J (decide_eq_false e8) ?_; refine Va J J ?_)
     | (refine GF J J (decide_eq_false e8) ?_; refine Va J J ?_)
     | (refine RF J (decide_eq_false e3) ?_; refine Va J J ?_)
     | (refine GF J J (decide_eq_false e3) ?_; refine Va J J ?_)
     | (refine RF J (decide_eq_false e4) ?_; refine Va J J ?_)
     | (refine GF J J (decide_eq_false e4) ?_; refine Va J J ?_)
     | (refine RF J (decide_eq_false e9) ?_; refine Va J J ?_)
     | (refine GF J J (decide_eq_false e9) ?_; refine Va J J ?_)
     | (refine RF J (decide_eq_false e10) ?_; refine Va J J ?_)
     | (refine GF J J (decide_eq_false e10) ?_; refine Va J J ?_)
     | fail)
    refine S_subI J J J J (by omega) ?_;refine Va J J ?_;refine S_call Tryz.call45 (h00 _ _ _ _ _ (Sr_nil J) (Ints_le hext.le how) hol (by omega) (by omega) Sh_nil okL_nil) J J J ?_;rintro v3 G3 ⟨X3, hv3, hs3⟩ hext3
    obtain ⟨A31, c31, rfl, _⟩ := id hv3
    refine Va J J ?_;refine S_subI J J J J (by omega) ?_;refine Va J J ?_;refine S_call Tryz.call45 (h00 _ _ _ _ _ (Sts_le hext3.le (Sr_nil J)) (Ints_le (hext.trans hext3).le how) hol (by omega) (by omega) Sh_nil okL_nil) J J J ?_;rintro v4 G4 ⟨X4, hv4, hs4⟩ hext4
    obtain ⟨A41, c41, rfl, _⟩ := id hv4
    refine Va J J ?_;refine S_slice Tk ZT_ok J J J J (by decide) (by decide) J J J J fun b2 => ?_;refine Va J J ?_
    refine S_app1 Tk 5 103 J J J J J J J J J J J J J J (by intro u hu; simp at hu; rcases hu with rfl | rfl | rfl | rfl | rfl | rfl <;> rfl) rfl (fun _ _ => rfl) (by omega) (Nat.le_refl _) fun A6 c6 => ?_
    refine Va J J ?_;refine S_add J J J J (by omega) ?_;refine Va J J ?_;refine S_again (i + 1, A6, c6, _, ls5 ++ [.mk 5 q3 0 0 X3 X4], G4) ⟨by simp; omega, by simp only; omega, (hext.trans hext3).trans hext4, Cs_append (Cs_mono (Stm.reps_le (newp_right (hext3.trans hext4).le) _) hcs5) (Stm.rep_iff.2 ⟨_, _, rfl, by first | assumption | exact ⟨by omega, by omega⟩, by first | assumption | exact ⟨by omega, by omega⟩, by first | assumption | exact ⟨by omega, by omega⟩, by first | assumption | exact ⟨by omega, by omega⟩, Sts_le (PH.le.trans (newp_mono hext.le hext3.le) (newp_right hext4.le)) hv3, Sts_le (newp_mono (hext.trans hext3).le hext4.le) hv4⟩) rfl, shL_append.2 ⟨hsh5, Stm.short_mk.2 ⟨hs3, hs4⟩, trivial⟩⟩ (by simp only; omega) rfl ⟨⟨_, rfl, by simp [denO]⟩, ⟨_, rfl, by simp [denO]⟩, ⟨_, rfl, rfl⟩, ⟨_, rfl, rfl⟩, ⟨_, rfl, rfl⟩, ⟨_, rfl, rfl⟩, trivial⟩ ?_
    simp only [List.length_append, List.length_singleton]
    first
     | exact .drop (.hp .nil)
     | exact .drop (.drop (.hp .nil))
   ·repeat' (first
     | (refine GT J J J ?_; refine Va J J ?_)
     | (refine GF J J J ?_; refine Va J J ?_)
     | (refine RT J J ?_; refine Va J J ?_)
     | (refine RF J J ?_; refine Va J J ?_)
     | (refine RF J (decide_eq_false e8) ?_; refine Va J J ?_)
     | (refine GF J J (decide_eq_false e8) ?_; refine Va J J ?_)
     | (refine RF J (decide_eq_false e3) ?_; refine Va J J ?_)
     | (refine GF J J (decide_eq_false e3) ?_; refine Va J J ?_)
     | (refine RF J (decide_eq_false e4) ?_; refine Va J J ?_)
     | (refine GF J J (decide_eq_false e4) ?_; refine Va J J ?_)
     | (refine RF J (decide_eq_false e9) ?_; refine Va J J ?_)
     | (refine GF J J (decide_eq_false e9) ?_; refine Va J J ?_)
     | (refine RF J (decide_eq_false e10) ?_; refine Va J J ?_)
     | (refine GF J J (decide_eq_false e10) ?_; refine Va J J ?_)
     | fail)
    refine S_subI J J J J (by omega) ?_;refine Va J J ?_;refine S_call Tryz.call45 (hbx _ _ _ _ _ hx (Ints_le hext.le how) hol (by omega) (by omega) hshk.1 ox) J J J ?_;rintro v3 G3 ⟨X3, hv3, hs3⟩ hext3
    obtain ⟨A31, c31, rfl, _⟩ := id hv3
    refine Va J J ?_;refine S_subI J J J J (by omega) ?_;refine Va J J ?_;refine S_call Tryz.call45 (hby _ _ _ _ _ (Sts_le hext3.le hy) (Ints_le (hext.trans hext3).le how) hol (by omega) (by omega) hshk.2 oy) J J J ?_;rintro v4 G4 ⟨X4, hv4, hs4⟩ hext4
    obtain ⟨A41, c41, rfl, _⟩ := id hv4
    refine Va J J ?_;refine S_slice Tk ZT_ok J J J J (by decide) (by decide) J J J J fun b2 => ?_;refine Va J J ?_
    refine S_app1 Tk 5 103 J J J J J J J J J J J J J J (by intro u hu; simp at hu; rcases hu with rfl | rfl | rfl | rfl | rfl | rfl <;> rfl) rfl (fun _ _ => rfl) (by omega) (Nat.le_refl _) fun A6 c6 => ?_
    refine Va J J ?_;refine S_add J J J J (by omega) ?_;refine Va J J ?_;refine S_again (i + 1, A6, c6, _, ls5 ++ [.mk 4 q2 q3 q4 X3 X4], G4) ⟨by simp; omega, by simp only; omega, (hext.trans hext3).trans hext4, Cs_append (Cs_mono (Stm.reps_le (newp_right (hext3.trans hext4).le) _) hcs5) (Stm.rep_iff.2 ⟨_, _, rfl, by first | assumption | exact ⟨by omega, by omega⟩, by first | assumption | exact ⟨by omega, by omega⟩, by first | assumption | exact ⟨by omega, by omega⟩, by first | assumption | exact ⟨by omega, by omega⟩, Sts_le (PH.le.trans (newp_mono hext.le hext3.le) (newp_right hext4.le)) hv3, Sts_le (newp_mono (hext.trans hext3).le hext4.le) hv4⟩) rfl, shL_append.2 ⟨hsh5, Stm.short_mk.2 ⟨hs3, hs4⟩, trivial⟩⟩ (by simp only; omega) rfl ⟨⟨_, rfl, by simp [denO]⟩, ⟨_, rfl, by simp [denO]⟩, ⟨_, rfl, rfl⟩, ⟨_, rfl, rfl⟩, ⟨_, rfl, rfl⟩, ⟨_, rfl, rfl⟩, trivial⟩ ?_
    simp only [List.length_append, List.length_singleton]
    first
     | exact .drop (.hp .nil)
     | exact .drop (.drop (.hp .nil))
  by_cases e9 : q1 = 9
  ·subst e9
   repeat' (first
    | (refine GT J J J ?_; refine Va J J ?_)
    | (refine GF J J J ?_; refine Va J J ?_)
    | (refine RT J J ?_; refine Va J J ?_)
    | (refine RF J J ?_; refine Va J J ?_)
    | (refine RF J (decide_eq_false e8) ?_; refine Va J J ?_)
    | (refine GF J J (decide_eq_false e8) ?_; refine Va J J ?_)
    | (refine RF J (decide_eq_false e3) ?_; refine Va J J ?_)
    | (refine GF J J (decide_eq_false e3) ?_; refine Va J J ?_)
    | (refine RF J (decide_eq_false e4) ?_; refine Va J J ?_)
    | (refine GF J J (decide_eq_false e4) ?_; refine Va J J ?_)
    | (refine RF J (decide_eq_false e9) ?_; refine Va J J ?_)
    | (refine GF J J (decide_eq_false e9) ?_; refine Va J J ?_)
    | (refine RF J (decide_eq_false e10) ?_; refine Va J J ?_)
    | (refine GF J J (decide_eq_false e10) ?_; refine Va J J ?_)
    | fail)
   refine S_add J J J J (by omega) ?_;refine Va J J ?_;obtain ⟨ado, cso, eo, hcso, ⟨rfl, hio⟩⟩ := Sr_at (Ints_le hext.le how) (k := (3 + q2).toNat) (by omega)
   cases eo
   refine S_index Tk J J J J J J (by omega) (by omega) ?_;refine Va J J ?_;refine S_load Tk J J J J J hcso.1 ?_;refine Va J J ?_
   refine S_cond J (fun h9 => ?_) (fun h9 => ?_) <;> refine Va J J ?_
   ·refine S_subI J J J J (by omega) ?_
    refine Va J J ?_;refine S_call Tryz.call45 (h00 _ _ _ _ _ (Sr_nil J) (Ints_le hext.le how) hol (by omega) (by omega) Sh_nil okL_nil) J J J ?_;rintro v3 G3 ⟨X3, hv3, hs3⟩ hext3
    obtain ⟨A31, c31, rfl, _⟩ := id hv3
    refine Va J J ?_;refine S_subI J J J J (by omega) ?_;refine Va J J ?_;refine S_call Tryz.call45 (h00 _ _ _ _ _ (Sts_le hext3.le (Sr_nil J)) (Ints_le (hext.trans hext3).le how) hol (by omega) (by omega) Sh_nil okL_nil) J J J ?_;rintro v4 G4 ⟨X4, hv4, hs4⟩ hext4
    obtain ⟨A41, c41, rfl, _⟩ := id hv4
    refine Va J J ?_;refine S_slice Tk ZT_ok J J J J (by decide) (by decide) J J J J fun b2 => ?_;refine Va J J ?_
    refine S_app1 Tk 5 103 J J J J J J J J J J J J J J (by intro u hu; simp at hu; rcases hu with rfl | rfl | rfl | rfl | rfl | rfl <;> rfl) rfl (fun _ _ => rfl) (by omega) (Nat.le_refl _) fun A6 c6 => ?_
    refine Va J J ?_;refine S_add J J J J (by omega) ?_;refine Va J J ?_;refine S_again (i + 1, A6, c6, _, ls5 ++ [.mk 11 0 0 0 X3 X4], G4) ⟨by simp; omega, by simp only; omega, (hext.trans hext3).trans hext4, Cs_append (Cs_mono (Stm.reps_le (newp_right (hext3.trans hext4).le) _) hcs5) (Stm.rep_iff.2 ⟨_, _, rfl, by first | assumption | exact ⟨by omega, by omega⟩, by first | assumption | exact ⟨by omega, by omega⟩, by first | assumption | exact ⟨by omega, by omega⟩, by first | assumption | exact ⟨by omega, by omega⟩, Sts_le (PH.le.trans (newp_mono hext.le hext3.le) (newp_right hext4.le)) hv3, Sts_le (newp_mono (hext.trans hext3).le hext4.le) hv4⟩) rfl, shL_append.2 ⟨hsh5, Stm.short_mk.2 ⟨hs3, hs4⟩, trivial⟩⟩ (by simp only; omega) rfl ⟨⟨_, rfl, by simp [denO]⟩, ⟨_, rfl, by simp [denO]⟩, ⟨_, rfl, rfl⟩, ⟨_, rfl, rfl⟩, ⟨_, rfl, rfl⟩, ⟨_, rfl, rfl⟩, trivial⟩ ?_
    simp only [List.length_append, List.length_singleton]
    first
     | exact .drop (.hp .nil)
     | exact .drop (.drop (.hp .nil))
   ·refine S_subI J J J J (by omega) ?_
    refine Va J J ?_;refine S_call Tryz.call45 (hbx _ _ _ _ _ hx (Ints_le hext.le how) hol (by omega) (by omega) hshk.1 ox) J J J ?_;rintro v3 G3 ⟨X3, hv3, hs3⟩ hext3
    obtain ⟨A31, c31, rfl, _⟩ := id hv3
    refine Va J J ?_;refine S_subI J J J J (by omega) ?_;refine Va J J ?_;refine S_call Tryz.call45 (hby _ _ _ _ _ (Sts_le hext3.le hy) (Ints_le (hext.trans hext3).le how) hol (by omega) (by omega) hshk.2 oy) J J J ?_;rintro v4 G4 ⟨X4, hv4, hs4⟩ hext4
    obtain ⟨A41, c41, rfl, _⟩ := id hv4
    refine Va J J ?_;refine S_slice Tk ZT_ok J J J J (by decide) (by decide) J J J J fun b2 => ?_;refine Va J J ?_
    refine S_app1 Tk 5 103 J J J J J J J J J J J J J J (by intro u hu; simp at hu; rcases hu with rfl | rfl | rfl | rfl | rfl | rfl <;> rfl) rfl (fun _ _ => rfl) (by omega) (Nat.le_refl _) fun A6 c6 => ?_
    refine Va J J ?_;refine S_add J J J J (by omega) ?_;refine Va J J ?_;refine S_again (i + 1, A6, c6, _, ls5 ++ [.mk 9 q2 q3 q4 X3 X4], G4) ⟨by simp; omega, by simp only; omega, (hext.trans hext3).trans hext4, Cs_append (Cs_mono (Stm.reps_le (newp_right (hext3.trans hext4).le) _) hcs5) (Stm.rep_iff.2 ⟨_, _, rfl, by first | assumption | exact ⟨by omega, by omega⟩, by first | assumption | exact ⟨by omega, by omega⟩, by first | assumption | exact ⟨by omega, by omega⟩, by first | assumption | exact ⟨by omega, by omega⟩, Sts_le (PH.le.trans (newp_mono hext.le hext3.le) (newp_right hext4.le)) hv3, Sts_le (newp_mono (hext.trans hext3).le hext4.le) hv4⟩) rfl, shL_append.2 ⟨hsh5, Stm.short_mk.2 ⟨hs3, hs4⟩, trivial⟩⟩ (by simp only; omega) rfl ⟨⟨_, rfl, by simp [denO]⟩, ⟨_, rfl, by simp [denO]⟩, ⟨_, rfl, rfl⟩, ⟨_, rfl, rfl⟩, ⟨_, rfl, rfl⟩, ⟨_, rfl, rfl⟩, trivial⟩ ?_
    simp only [List.length_append, List.length_singleton]
    first
     | exact .drop (.hp .nil)
     | exact .drop (.drop (.hp .nil))
  by_cases e10 : q1 = 10
  ·subst e10
   repeat' (first
    | (refine GT J J J ?_; refine Va J J ?_)
    | (refine GF J J J ?_; refine Va J J ?_)
    | (refine RT J J ?_; refine Va J J ?_)
    | (refine RF J J ?_; refine Va J J ?_)
    | (refine RF J (decide_eq_false e8) ?_; refine Va J J ?_)
    | (refine GF J J (decide_eq_false e8) ?_; refine Va J J ?_)
    | (refine RF J (decide_eq_false e3) ?_; refine Va J J ?_)
    | (refine GF J J (decide_eq_false e3) ?_; refine Va J J ?_)
    | (refine RF J (decide_eq_false e4) ?_; refine Va J J ?_)
    | (refine GF J J (decide_eq_false e4) ?_; refine Va J J ?_)
    | (refine RF J (decide_eq_false e9) ?_; refine Va J J ?_)
    | (refine GF J J (decide_eq_false e9) ?_; refine Va J J ?_)
    | (refine RF J (decide_eq_false e10) ?_; refine Va J J ?_)
    | (refine GF J J (decide_eq_false e10) ?_; refine Va J J ?_)
    | fail)
   refine S_add J J J J (by omega) ?_;refine Va J J ?_;obtain ⟨ado, cso, eo, hcso, ⟨rfl, hio⟩⟩ := Sr_at (Ints_le hext.le how) (k := (3 + q2).toNat) (by omega)
   cases eo
   refine S_index Tk J J J J J J (by omega) (by omega) ?_;refine Va J J ?_;refine S_load Tk J J J J J hcso.1 ?_;refine Va J J ?_
   refine S_cond J (fun h9 => ?_) (fun h9 => ?_) <;> refine Va J J ?_
   ·refine S_subI J J J J (by omega) ?_
    refine Va J J ?_;refine S_call Tryz.call45 (h00 _ _ _ _ _ (Sr_nil J) (Ints_le hext.le how) hol (by omega) (by omega) Sh_nil okL_nil) J J J ?_;rintro v3 G3 ⟨X3, hv3, hs3⟩ hext3
    obtain ⟨A31, c31, rfl, _⟩ := id hv3
    refine Va J J ?_;refine S_subI J J J J (by omega) ?_;refine Va J J ?_;refine S_call Tryz.call45 (h00 _ _ _ _ _ (Sts_le hext3.le (Sr_nil J)) (Ints_le (hext.trans hext3).le how) hol (by omega) (by omega) Sh_nil okL_nil) J J J ?_;rintro v4 G4 ⟨X4, hv4, hs4⟩ hext4
    obtain ⟨A41, c41, rfl, _⟩ := id hv4
    refine Va J J ?_;refine S_slice Tk ZT_ok J J J J (by decide) (by decide) J J J J fun b2 => ?_;refine Va J J ?_
    refine S_app1 Tk 5 103 J J J J J J J J J J J J J J (by intro u hu; simp at hu; rcases hu with rfl | rfl | rfl | rfl | rfl | rfl <;> rfl) rfl (fun _ _ => rfl) (by omega) (Nat.le_refl _) fun A6 c6 => ?_
    refine Va J J ?_;refine S_add J J J J (by omega) ?_;refine Va J J ?_;refine S_again (i + 1, A6, c6, _, ls5 ++ [.mk 11 0 0 0 X3 X4], G4) ⟨by simp; omega, by simp only; omega, (hext.trans hext3).trans hext4, Cs_append (Cs_mono (Stm.reps_le (newp_right (hext3.trans hext4).le) _) hcs5) (Stm.rep_iff.2 ⟨_, _, rfl, by first | assumption | exact ⟨by omega, by omega⟩, by first | assumption | exact ⟨by omega, by omega⟩, by first | assumption | exact ⟨by omega, by omega⟩, by first | assumption | exact ⟨by omega, by omega⟩, Sts_le (PH.le.trans (newp_mono hext.le hext3.le) (newp_right hext4.le)) hv3, Sts_le (newp_mono (hext.trans hext3).le hext4.le) hv4⟩) rfl, shL_append.2 ⟨hsh5, Stm.short_mk.2 ⟨hs3, hs4⟩, trivial⟩⟩ (by simp only; omega) rfl ⟨⟨_, rfl, by simp [denO]⟩, ⟨_, rfl, by simp [denO]⟩, ⟨_, rfl, rfl⟩, ⟨_, rfl, rfl⟩, ⟨_, rfl, rfl⟩, ⟨_, rfl, rfl⟩, trivial⟩ ?_
    simp only [List.length_append, List.length_singleton]
    first
     | exact .drop (.hp .nil)
     | exact .drop (.drop (.hp .nil))
   ·refine S_subI J J J J (by omega) ?_
    refine Va J J ?_;refine S_call Tryz.call45 (hbx _ _ _ _ _ hx (Ints_le hext.le how) hol (by omega) (by omega) hshk.1 ox) J J J ?_;rintro v3 G3 ⟨X3, hv3, hs3⟩ hext3
    obtain ⟨A31, c31, rfl, _⟩ := id hv3
    refine Va J J ?_;refine S_subI J J J J (by omega) ?_;refine Va J J ?_;refine S_call Tryz.call45 (hby _ _ _ _ _ (Sts_le hext3.le hy) (Ints_le (hext.trans hext3).le how) hol (by omega) (by omega) hshk.2 oy) J J J ?_;rintro v4 G4 ⟨X4, hv4, hs4⟩ hext4
    obtain ⟨A41, c41, rfl, _⟩ := id hv4
    refine Va J J ?_;refine S_slice Tk ZT_ok J J J J (by decide) (by decide) J J J J fun b2 => ?_;refine Va J J ?_
    refine S_app1 Tk 5 103 J J J J J J J J J J J J J J (by intro u hu; simp at hu; rcases hu with rfl | rfl | rfl | rfl | rfl | rfl <;> rfl) rfl (fun _ _ => rfl) (by omega) (Nat.le_refl _) fun A6 c6 => ?_
    refine Va J J ?_;refine S_add J J J J (by omega) ?_;refine Va J J ?_;refine S_again (i + 1, A6, c6, _, ls5 ++ [.mk 10 q2 q3 q4 X3 X4], G4) ⟨by simp; omega, by simp only; omega, (hext.trans hext3).trans hext4, Cs_append (Cs_mono (Stm.reps_le (newp_right (hext3.trans hext4).le) _) hcs5) (Stm.rep_iff.2 ⟨_, _, rfl, by first | assumption | exact ⟨by omega, by omega⟩, by first | assumption | exact ⟨by omega, by omega⟩, by first | assumption | exact ⟨by omega, by omega⟩, by first | assumption | exact ⟨by omega, by omega⟩, Sts_le (PH.le.trans (newp_mono hext.le hext3.le) (newp_right hext4.le)) hv3, Sts_le (newp_mono (hext.trans hext3).le hext4.le) hv4⟩) rfl, shL_append.2 ⟨hsh5, Stm.short_mk.2 ⟨hs3, hs4⟩, trivial⟩⟩ (by simp only; omega) rfl ⟨⟨_, rfl, by simp [denO]⟩, ⟨_, rfl, by simp [denO]⟩, ⟨_, rfl, rfl⟩, ⟨_, rfl, rfl⟩, ⟨_, rfl, rfl⟩, ⟨_, rfl, rfl⟩, trivial⟩ ?_
    simp only [List.length_append, List.length_singleton]
    first
     | exact .drop (.hp .nil)
     | exact .drop (.drop (.hp .nil))
  repeat' (first
   | (refine GT J J J ?_; refine Va J J ?_)
   | (refine GF J J J ?_; refine Va J J ?_)
   | (refine RT J J ?_; refine Va J J ?_)
   | (refine RF J J ?_; refine Va J J ?_)
   | (refine RF J (decide_eq_false e8) ?_; refine Va J J ?_)
   | (refine GF J J (decide_eq_false e8) ?_; refine Va J J ?_)
   | (refine RF J (decide_eq_false e3) ?_; refine Va J J ?_)
   | (refine GF J J (decide_eq_false e3) ?_; refine Va J J ?_)
   | (refine RF J (decide_eq_false e4) ?_; refine Va J J ?_)
   | (refine GF J J (decide_eq_false e4) ?_; refine Va J J ?_)
   | (refine RF J (decide_eq_false e9) ?_; refine Va J J ?_)
   | (refine GF J J (decide_eq_false e9) ?_; refine Va J J ?_)
   | (refine RF J (decide_eq_false e10) ?_; refine Va J J ?_)
   | (refine GF J J (decide_eq_false e10) ?_; refine Va J J ?_)
   | fail)
  refine GF J J (by simp [e9, e10]) ?_;refine Va J J ?_
  repeat' (first
   | (refine GT J J J ?_; refine Va J J ?_)
   | (refine GF J J J ?_; refine Va J J ?_)
   | (refine RT J J ?_; refine Va J J ?_)
   | (refine RF J J ?_; refine Va J J ?_)
   | (refine RF J (decide_eq_false e8) ?_; refine Va J J ?_)
   | (refine GF J J (decide_eq_false e8) ?_; refine Va J J ?_)
   | (refine RF J (decide_eq_false e3) ?_; refine Va J J ?_)
   | (refine GF J J (decide_eq_false e3) ?_; refine Va J J ?_)
   | (refine RF J (decide_eq_false e4) ?_; refine Va J J ?_)
   | (refine GF J J (decide_eq_false e4) ?_; refine Va J J ?_)
   | (refine RF J (decide_eq_false e9) ?_; refine Va J J ?_)
   | (refine GF J J (decide_eq_false e9) ?_; refine Va J J ?_)
   | (refine RF J (decide_eq_false e10) ?_; refine Va J J ?_)
   | (refine GF J J (decide_eq_false e10) ?_; refine Va J J ?_)
   | fail)
  refine S_subI J J J J (by omega) ?_;refine Va J J ?_;refine S_call Tryz.call45 (hbx _ _ _ _ _ hx (Ints_le hext.le how) hol (by omega) (by omega) hshk.1 ox) J J J ?_;rintro v3 G3 ⟨X3, hv3, hs3⟩ hext3
  obtain ⟨A31, c31, rfl, _⟩ := id hv3
  refine Va J J ?_;refine S_subI J J J J (by omega) ?_;refine Va J J ?_;refine S_call Tryz.call45 (hby _ _ _ _ _ (Sts_le hext3.le hy) (Ints_le (hext.trans hext3).le how) hol (by omega) (by omega) hshk.2 oy) J J J ?_;rintro v4 G4 ⟨X4, hv4, hs4⟩ hext4
  obtain ⟨A41, c41, rfl, _⟩ := id hv4
  refine Va J J ?_;refine S_slice Tk ZT_ok J J J J (by decide) (by decide) J J J J fun b2 => ?_;refine Va J J ?_
  refine S_app1 Tk 5 103 J J J J J J J J J J J J J J (by intro u hu; simp at hu; rcases hu with rfl | rfl | rfl | rfl | rfl | rfl <;> rfl) rfl (fun _ _ => rfl) (by omega) (Nat.le_refl _) fun A6 c6 => ?_
  refine Va J J ?_;refine S_add J J J J (by omega) ?_;refine Va J J ?_;refine S_again (i + 1, A6, c6, _, ls5 ++ [.mk q1 q2 q3 q4 X3 X4], G4) ⟨by simp; omega, by simp only; omega, (hext.trans hext3).trans hext4, Cs_append (Cs_mono (Stm.reps_le (newp_right (hext3.trans hext4).le) _) hcs5) (Stm.rep_iff.2 ⟨_, _, rfl, by first | assumption | exact ⟨by omega, by omega⟩, by first | assumption | exact ⟨by omega, by omega⟩, by first | assumption | exact ⟨by omega, by omega⟩, by first | assumption | exact ⟨by omega, by omega⟩, Sts_le (PH.le.trans (newp_mono hext.le hext3.le) (newp_right hext4.le)) hv3, Sts_le (newp_mono (hext.trans hext3).le hext4.le) hv4⟩) rfl, shL_append.2 ⟨hsh5, Stm.short_mk.2 ⟨hs3, hs4⟩, trivial⟩⟩ (by simp only; omega) rfl ⟨⟨_, rfl, by simp [denO]⟩, ⟨_, rfl, by simp [denO]⟩, ⟨_, rfl, rfl⟩, ⟨_, rfl, rfl⟩, ⟨_, rfl, rfl⟩, ⟨_, rfl, rfl⟩, trivial⟩ ?_
  simp only [List.length_append, List.length_singleton]
  first
   | exact .drop (.hp .nil)
   | exact .drop (.drop (.hp .nil))
 ·refine S_freezeR 5 J J (Nat.le_refl _) fun Gf hextf hncf hcmf hclf => ?_
  have hvf : Sts (newp G Gf) _ _ := frzL (newp_mono hext.le hextf.le) (Cs_mono (Stm.reps_le (newp_right hextf.le) _) hcs5) rfl (by omega) hncf hcmf hclf
  exact S_retp (Res.t1 Tryz.results45 J J) (hext.trans hextf) ⟨_, hvf, by omega, hsh5⟩
theorem Tm_nil (ow : List Int) : Tm ow [] := c_l6Tame_of ow [] (fun h => absurd rfl h) fun k hk => absurd hk (by simp)
mutual
theorem Tm_stm (ow : List Int) : ∀ (s : Stm), Tm ow s.body ∧ Tm ow s.els
 | .mk k a b n x y => ⟨Tm_all ow x, Tm_all ow y⟩
theorem Tm_at (ow : List Int) : ∀ (L : List Stm) (k : Nat) (hk : k < L.length), Tm ow L[k].body ∧ Tm ow L[k].els
 | [], k, hk => absurd hk (by simp)
 | s :: L, 0, _ => Tm_stm ow s
 | s :: L, k + 1, hk => Tm_at ow L k (by simpa using hk)
theorem Tm_all (ow : List Int) : ∀ (L : List Stm), Tm ow L
 | L => c_l6Tame_of ow L (fun _ => Tm_nil ow) fun k hk => Tm_at ow L k hk
end
end
section
def blkHP (b ty : Nat) (vs : List Value) : HP := packHP fun ι L => ι = [(900, b)] ∧ L = [.blk 900 ty (vL vs)]
theorem le_del {G G3 : PH} {b : Nat} {o : Obj} (h : (G.add b o).le G3) (hb : G b = none) : G.le (G3.del b) := by
 intro x o' hx
 unfold PH.del
 have hne : x ≠ b := by rintro rfl; rw [hb] at hx; cases hx
 rw [if_neg hne]
 refine h x o' ?_
 unfold PH.add
 rw [if_neg hne]; exact hx
theorem gcells_own {G : PH} {b ty : Nat} {vs : List Value} : gcells (G.add b (.cells vs.toArray ty (0, 0))) ⟨b, 0, none⟩ vs := by
 refine gcells_row (cur := vs.toArray) (e := ty) (fr := (0, 0)) (by simp [PH.add]) vs 0 ?_
 simp
theorem blkHP_holds {b ty : Nat} {vs : List Value} {w : World} {S : Nat → Prop} : (blkHP b ty vs).holds w S ↔ w.heap[b]? = some (.cells vs.toArray ty (0, 0)) ∧ ∀ x, S x ↔ x = b := by
 constructor
 ·rintro ⟨ι, L, Ss, ⟨rfl, rfl⟩, ho, hS⟩
  match Ss, ho with
  | [T], ⟨⟨c, us, h1, h2, h3, h4⟩, _⟩ =>
   simp only [lookI, if_true, Option.some.injEq] at h1
   subst h1
   rw [denL_vL] at h2; cases h2
   exact ⟨h3, fun x => by rw [hS x, ← h4 x]; simp⟩
 ·rintro ⟨h1, h2⟩
  exact ⟨_, _, [S], ⟨rfl, rfl⟩, ⟨⟨b, vs, by simp [lookI], denL_vL _ _, h1, h2⟩, by simp, trivial⟩, fun x => by simp⟩
theorem denL_spV {ι : Ids} (n : Nat) {cs l : List Cel} {sp us : List Value} (h : takeC n cs = some (l, vL sp)) (hd : denL ι l = some us) : denL ι cs = some (us ++ sp) := by
 rw [takeC_eq h, denL_app, hd, denL_vL]
theorem denL_put {ι : Ids} {o : Nat} {c : Cel} {v : Value} {cs cs' : List Cel} {us : List Value} (hp : putN o [c] cs = some cs') (hd : denL ι cs = some us) (hv : denC ι c = some v) : denL ι cs' = some (us.set o v) := by
 obtain ⟨rfl, hle⟩ := putN_eq hp
 have hl := denL_length hd
 have h1 : denL ι (cs.take o ++ [c] ++ cs.drop (o + [c].length)) = some (us.take o ++ [v] ++ us.drop (o + 1)) := denL_append (denL_append (denL_take hd o) (by simp [denL, hv])) (denL_drop hd _)
 rw [h1]
 congr 1
 simp at hle
 rw [List.set_eq_take_append_cons_drop, if_pos (by omega)]
 simp
section
variable {C : Ctx} {k : List It} {E : Env} {ι : Ids} {L : List Ent} {G : PH} {all : Array Oper} {l : List Oper}
theorem S_callIns (key o : Nat) {d f b ty : Nat} {xs : Array Operand} {ats : Array TypeId} {ty' : Nat} {pos : String} {af : Array Edge} {g : Option (Nat × Bool)} {vs us : List Value} {cs : List Cel} {Qp : PH → Value → Prop} {L1 : List Ent} {cs' : Value → List Cel} (hcf : ∀ args w, (callFunc f args).run C.P w = .ok (.enter f args) w)
  (hB : lookB key L = some (ty, cs)) (hj : lookI key ι = some b) (hd : denL ι cs = some us) (hc : Mod C.P f vs G (blkHP b ty us) fun _ G' A' => ∃ tv', Qp G' tv' ∧ A' = blkHP b ty (us.set o tv')) (hdel : delB key L = some L1) (hput : ∀ tv', putN o [.v tv'] cs = some (cs' tv'))
  (hg : guardOf all E g = .on) (hN : Nat.ble (d + 1) C.n = true) (hxs : evs ι E xs.toList = some vs)
  (hk : ∀ v G' tv', Qp G' tv' → PH.ext C.w0.heap.size G G' → X C (.ops all l :: k) ((d, .val v) :: E) ι (.blk key ty (cs' tv') :: L1) G') : X C (.ops all (⟨some d, .call ⟨.value (.func f), xs, ats⟩, ty', pos, af, g⟩ :: l) :: k) E ι L G := by
 intro a w h1 h2 h3 h4
 obtain ⟨Ss, ho, hS⟩ := h4.own
 obtain ⟨S, Ss', b', hb', hh, hSb, hm, ho', hT⟩ := owns_delB hd ho hB hdel
 rw [hj] at hb'; cases hb'
 have h4' : SatW C ι (.hp 0 (blkHP b ty us) :: L1) G w := by
  refine ⟨h4.os, h4.tape, h4.output, h4.size, h4.keep, h4.emb, S :: Ss', ⟨blkHP_holds.2 ⟨hh, hSb⟩, fun T hT' x hx hx' => (hT T hT').2 x hx' hx, ho'⟩, ?_⟩
  intro T hT' x hx
  rcases List.mem_cons.1 hT' with rfl | hT'
  ·exact hS T hm x hx
  ·exact hS T (hT T hT').1 x hx
 refine S_callM (L' := fun A' => .hp 0 A' :: L1) 0 hcf hc hg hN hxs (by simp [getH]) (fun A' => by simp [setH]) ?_ a w h1 h2 h3 h4'
 rintro v G' A' ⟨tv', hq, rfl⟩ hext a w h1 h2 h3 h4
 refine hk v G' tv' hq hext a w h1 h2 h3 ?_;obtain ⟨Ss, ho, hS⟩ := h4.own
 match Ss, ho with
 | T :: Ss, ⟨hA, hd', ho'⟩ =>
  obtain ⟨q1, q2⟩ := blkHP_holds.1 hA
  exact ⟨h4.os, h4.tape, h4.output, h4.size, h4.keep, h4.emb, T :: Ss, ⟨⟨b, _, hj, denL_put (hput tv') hd J, q1, q2⟩, hd', ho'⟩, hS⟩
end
end
end Go.Proofs.YtphbcboejmhaoaaGreat
