/- Walks of the program's functions, one after the other (part 4); without conditions of their own. -/
import Derived.Test.YtcbdilccmjpnbaaGreatDoorWDM2
import Derived.Test.YtcbdilccmjpnbaaGreatDoorWDM3
set_option linter.unusedVariables false
set_option linter.unusedSimpArgs false
set_option maxRecDepth 100000
set_option maxHeartbeats 4000000
open Go.RowKit
namespace Go.Proofs.YtcbdilccmjpnbaaGreatDoor
section
def intU (n : Int) (cs : List Value) : Prop := cs = [.int .i64 n]
abbrev IntsU (G : PH) (l : List Int) (v : Value) : Prop := Sr G 1 intU l v
theorem IntsU_le {G G' : PH} (hl : G.le G') {l : List Int} {v : Value} (h : IntsU G l v) : IntsU G' l v := Sr_mono hl (fun _ _ _ h => h) h
def sayU (x : Int × Int) (cs : List Value) : Prop := cs = [.int .i64 x.1, .int .i64 x.2]
abbrev SaysU (G : PH) (l : List (Int × Int)) (v : Value) : Prop := Sr G 2 sayU l v
def intsRep (G : PH) (l : List Int) (cs : List Value) : Prop := ∃ v, cs = [v] ∧ IntsU G l v
def prcRep (G : PH) (p : Prc) (cs : List Value) : Prop := ∃ vr vt, cs = [vr, vt, .int .i64 p.mode, .int .i64 p.on, .int .i64 p.room] ∧ IntsU G [p.r0, p.r1, p.r2] vr ∧ Sts G p.todo vt
theorem intsRep_le {G G' : PH} (hl : G.le G') {l : List Int} {cs : List Value} (h : intsRep G l cs) : intsRep G' l cs := let ⟨v, h1, h2⟩ := h; ⟨v, h1, IntsU_le hl h2⟩
theorem prcRep_le {G G' : PH} (hl : G.le G') {p : Prc} {cs : List Value} (h : prcRep G p cs) : prcRep G' p cs := let ⟨v, u, h1, h2, h3⟩ := h; ⟨v, u, h1, IntsU_le hl h2, Sts_le hl h3⟩
structure WGr (G : PH) (W : Wld) (vp vc vr vs vd : Value) : Prop where
 pr : Sr G 5 (prcRep G) W.procs vp
 ce : IntsU G [W.c0, W.c1, W.c2] vc
 ro : IntsU G [W.m0, W.m1] vr
 sg : Sr G 1 (intsRep G) [W.q0, W.q1] vs
 sd : SaysU G W.said vd
def WG (G : PH) (W : Wld) (v : Value) : Prop := ∃ vp vc vr vs vd, v = .agg #[vp, vc, vr, vs, vd] ∧ WGr G W vp vc vr vs vd
theorem WGr_le {G G' : PH} (hl : G.le G') {W : Wld} {vp vc vr vs vd : Value} (h : WGr G W vp vc vr vs vd) : WGr G' W vp vc vr vs vd :=
 ⟨Sr_mono hl (fun _ _ _ h => prcRep_le hl h) h.pr, IntsU_le hl h.ce, IntsU_le hl h.ro, Sr_mono hl (fun _ _ _ h => intsRep_le hl h) h.sg, Sr_mono hl (fun _ _ _ h => h) h.sd⟩
theorem WG_le {G G' : PH} (hl : G.le G') {W : Wld} {v : Value} (h : WG G W v) : WG G' W v := let ⟨a, b, c, d, e, h1, h2⟩ := h; ⟨a, b, c, d, e, h1, WGr_le hl h2⟩
section
variable {C : Ctx} {k : List It} {E : Env} {ι : Ids} {L : List Ent} {G : PH}
theorem SatW.frz {a : Act} {w : World} (h : SatW C ι L G w) {κ : Nat} {A : HP} {L' : List Ent} (hL : getH κ L = some A) (hL' : delH κ L = some L') (hS0 : ∀ b, ¬ C.S0 b) :
  ∃ S G', A.holds w S ∧ (∀ b, S b → G' b = w.heap[b]?) ∧ PH.ext C.w0.heap.size G G' ∧ SatW C ι L' G' w := by
 obtain ⟨Ss, ho, hS⟩ := h.own
 obtain ⟨S, Ss', hA, hm, ho', hT⟩ := owns_del ho hL hL'
 have hlt := A.lt w S hA
 classical
 refine ⟨S, fun b => if S b then w.heap[b]? else G b, hA, fun b hb => by simp [hb], ⟨fun b o hb => ?_, fun b o hb hn => ?_⟩, ⟨h.os, h.tape, h.output, h.size, h.keep, fun b o hb => ?_, Ss', ho', fun T hT' b hb => ⟨?_, (hS T (hT T hT').1 b hb).2⟩⟩⟩
 ·have : ¬ S b := fun hs => by rw [(hS S hm b hs).1] at hb; cases hb
  simp [this, hb]
 ·by_cases hs : S b
  ·rcases (hS S hm b hs).2 with h1 | h1
   ·exact absurd h1 (hS0 b)
   ·exact h1
  ·simp only [hs, if_false] at hb
   rw [hn] at hb; cases hb
 ·by_cases hs : S b
  ·simpa [hs] using hb
  ·simp only [hs, if_false] at hb
   exact h.emb b o hb
 ·have : ¬ S b := fun hs => (hT T hT').2 b hb hs
  simp [this, (hS T (hT T hT').1 b hb).1]
end
theorem blk_frz {ι : Ids} {w : World} {key ty : Nat} {cs : List Cel} {T S : Nat → Prop} {G' : PH} (h : Ent.holds ι w (.blk key ty cs) T) (hT : ∀ x, T x → S x) (hG : ∀ b, S b → G' b = w.heap[b]?) : ∃ b vs, lookI key ι = some b ∧ denL ι cs = some vs ∧ gcells G' ⟨b, 0, none⟩ vs := by
 obtain ⟨b, vs, h1, h2, h3, h4⟩ := h
 refine ⟨b, vs, h1, h2, ?_⟩
 have hb : G' b = some (.cells vs.toArray ty (0, 0)) := by rw [hG b (hT b ((h4 b).2 rfl)), h3]
 refine gcells_row (cur := vs.toArray) (e := ty) (fr := (0, 0)) hb vs 0 ?_
 simp
theorem row_frz {w : World} {base e sz n c : Nat} {A : Option Addr} {xs : List Value} {T S : Nat → Prop} {G' : PH} (h : (rowO base e sz A n c xs).holds w T) (hT : ∀ x, T x → S x) (hG : ∀ b, S b → G' b = w.heap[b]?) : n ≤ c ∧ c ≤ maxLen ∧ xs.length = n * sz ∧ (n = 0 ∨ ∃ a, A = some a ∧ gcells G' a xs) := by
 obtain ⟨h1, h2, h3, h4⟩ := h
 refine ⟨h3, h2, h1, ?_⟩
 rcases h4 with ⟨_, h4, _⟩ | ⟨g, off, cur, rfl, _, h5, _, h6, h7⟩
 ·exact .inl (by omega)
 ·exact .inr ⟨_, J, gcells_row (cur := cur) (e := e) (fr := (0, 0)) (by rw [hG g (hT g ((h7 g).2 J)), h5]) xs off h6⟩
theorem gcells_pre {G : PH} {ad : Addr} {xs ys : List Value} (h : gcells G ad (xs ++ ys)) : gcells G ad xs := (gcells_append h).1
theorem Cs_intU (l : List Int) : Cs 1 intU l (intC l) := by
 induction l with
 | nil => rfl
 | cons n l ih => exact ⟨[.int .i64 n], intC l, rfl, rfl, rfl, ih⟩
theorem Cs_sayU (l : List (Int × Int)) : Cs 2 sayU l (saidC l) := by
 induction l with
 | nil => rfl
 | cons x l ih => exact ⟨[.int .i64 x.1, .int .i64 x.2], saidC l, rfl, rfl, rfl, ih⟩
theorem intsU_blk {G : PH} {b n c : Nat} {l : List Int} {sp : List Value} (h : gcells G ⟨b, 0, none⟩ (intC l ++ sp)) (hn : n = l.length) (hb : n ≤ 1000000000) (hnc : n ≤ c) (hcm : c ≤ maxLen) : IntsU G l (.slice (some ⟨b, 0, none⟩) n c) :=
 Sx_Sr ⟨some ⟨b, 0, none⟩, c, rfl, hb, hnc, hcm, by rw [intC_length, hn]; omega, .inr ⟨_, rfl, gcells_pre h⟩⟩ hn (Cs_intU l)
theorem denL_intC {ι : Ids} {l : List Int} {sp vs : List Value} {cs : List Cel} (h : denL ι cs = some vs) (hc : cs = l.map vi ++ vL sp) : vs = intC l ++ sp := by
 subst hc
 induction l generalizing vs with
 | nil => simp [denL_vL] at h; simpa [intC] using h.symm
 | cons n l ih =>
  obtain ⟨v, r, rfl, h1, h2⟩ := denL_cons h
  simp only [vi, denC, Option.some.injEq] at h1
  subst h1
  rw [ih h2]; rfl
theorem frz_procs {ι : Ids} {w : World} {S : Nat → Prop} {G' : PH} {kg : Nat → Nat} {spg : Nat → List Value} {sp : List Value} (hG : ∀ b, S b → G' b = w.heap[b]?) (hk : ∀ i, 3 ≤ kg i ∧ kg i ≤ maxLen) : ∀ {ps : List Prc} {ts : List Value} {i : Nat} {vs : List Value} {Ss : List (Nat → Prop)} {ad : Addr},
  owns ι w (regEs spg i ps) Ss → (∀ T ∈ Ss, ∀ x, T x → S x) → denL ι (procCs kg sp i ps ts) = some vs → Tds G' ps ts → gcells G' ad vs → Rw G' 5 (prcRep G') ps ad := by
 intro ps
 induction ps with
 | nil => intros; trivial
 | cons p ps ih =>
  intro ts i vs Ss ad ho hT hd ht hg
  cases ts with
  | nil => exact absurd ht id
  | cons t ts =>
   cases Ss with
   | nil => simp [regEs, owns] at ho
   | cons T Ss =>
    obtain ⟨h1, _, h3⟩ := ho
    obtain ⟨b, us, hb, hus, hgb⟩ := blk_frz h1 (hT T (List.mem_cons_self ..)) hG
    have hus' := denL_intC (l := [p.r0, p.r1, p.r2]) (sp := spg i) hus rfl
    simp only [procCs] at hd
    obtain ⟨v1, r1, rfl, e1, d1⟩ := denL_cons hd
    obtain ⟨v2, r2, rfl, e2, d2⟩ := denL_cons d1
    obtain ⟨v3, r3, rfl, e3, d3⟩ := denL_cons d2
    obtain ⟨v4, r4, rfl, e4, d4⟩ := denL_cons d3
    obtain ⟨v5, r5, rfl, e5, d5⟩ := denL_cons d4
    simp only [denC, hb, vi, Option.some.injEq] at e1 e2 e3 e4 e5
    subst e1 e2 e3 e4 e5 hus'
    have hg2 : gcells G' ad ([.slice (some ⟨b, 0, none⟩) 3 (kg i), t, .int .i64 p.mode, .int .i64 p.on, .int .i64 p.room] ++ r5) := hg
    obtain ⟨q1, q2⟩ := gcells_append hg2
    exact ⟨⟨_, q1, _, _, rfl, intsU_blk hgb rfl (by simp) (hk i).1 (hk i).2, ht.1⟩, ih h3 (fun T hT' => hT T (List.mem_cons_of_mem _ hT')) d5 ht.2 q2⟩
theorem worldV_frz {cs ts : List Value} {W : Wld} {w : World} {S : Nat → Prop} {G G' : PH} (h : (worldV cs W ts).holds w S) (hG : ∀ b, S b → G' b = w.heap[b]?) (hle : G.le G') (ht : Tds G W.procs ts) (hn : W.procs.length ≤ 3) (hl : W.said.length ≤ 1000000000 ∧ W.q0.length ≤ 1000000000 ∧ W.q1.length ≤ 1000000000) : WG G' W (.agg cs.toArray) := by
 obtain ⟨ι, L, Ss, ⟨bp, bc, br, bs, bg, m, x, hbg, hm, hx, rfl, rfl, hcs⟩, ho, hSS⟩ := h
 obtain ⟨⟨k1, k2⟩, ⟨k3, k4⟩, ⟨k5, k6⟩, ⟨k7, k8⟩, k9⟩ := hm
 rw [WX.ok_eq hx] at ho hcs
 have hTS : ∀ T ∈ Ss, ∀ x, T x → S x := fun T hT x hx => (hSS x).2 ⟨T, hT, hx⟩
 match Ss, ho, hTS with
 | T1 :: T2 :: T3 :: T4 :: T5 :: T6 :: T7 :: Tr, ⟨h1, _, h2, _, h3, _, h4, _, h5, _, h6, _, h7, _, h8⟩, hTS =>
  obtain ⟨b1, vs1, e1, d1, g1⟩ := blk_frz h1 (hTS T1 (by simp)) hG
  obtain ⟨b2, vs2, e2, d2, g2⟩ := blk_frz h2 (hTS T2 (by simp)) hG
  obtain ⟨b3, vs3, e3, d3, g3⟩ := blk_frz h3 (hTS T3 (by simp)) hG
  obtain ⟨b4, vs4, e4, d4, g4⟩ := blk_frz h4 (hTS T4 (by simp)) hG
  obtain ⟨n5, c5, l5, g5⟩ := row_frz h5 (hTS T5 (by simp)) hG
  obtain ⟨n6, c6, l6, g6⟩ := row_frz h6 (hTS T6 (by simp)) hG
  obtain ⟨n7, c7, l7, g7⟩ := row_frz h7 (hTS T7 (by simp)) hG
  simp only [wIds, lookI, if_true, Option.some.injEq] at e1 e2 e3 e4
  simp at e1 e2 e3 e4
  subst e1 e2 e3 e4
  have d2' := denL_intC (l := [W.c0, W.c1, W.c2]) (sp := m.spc) d2 rfl
  have d3' := denL_intC (l := [W.m0, W.m1]) (sp := m.spr) d3 rfl
  subst d2' d3'
  have hcs' : cs = [.slice (some ⟨bp, 0, none⟩) W.procs.length m.kp, .slice (some ⟨bc, 0, none⟩) 3 m.kc, .slice (some ⟨br, 0, none⟩) 2 m.kr, .slice (some ⟨bs, 0, none⟩) 2 m.ks, .slice m.asd W.said.length m.ksd] := by
   have : denL (wIds bp bc br bs bg) (wCels W m (WX.of W)) = some [.slice (some ⟨bp, 0, none⟩) W.procs.length m.kp, .slice (some ⟨bc, 0, none⟩) 3 m.kc, .slice (some ⟨br, 0, none⟩) 2 m.kr, .slice (some ⟨bs, 0, none⟩) 2 m.ks, .slice m.asd W.said.length m.ksd] := rfl
   rw [hcs] at this
   exact Option.some.inj this
  subst hcs'
  refine ⟨_, _, _, _, _, J, ?_, intsU_blk g2 J (by simp) k3 k4, intsU_blk g3 J (by simp) k5 k6, ?_, ?_⟩
  ·refine ⟨_, _, J, by omega, k1, k2, .inr ⟨_, J, ?_⟩⟩
   exact frz_procs hG k9 h8 (fun T hT => hTS T (by simp [hT])) d1 (Tds_le hle ht) g1
  ·obtain ⟨u1, r1, rfl, f1, d5⟩ := denL_cons d4
   obtain ⟨u2, r2, rfl, f2, d6⟩ := denL_cons d5
   simp only [denC, Option.some.injEq] at f1 f2
   subst f1 f2
   have a1 : IntsU G' W.q0 (.slice m.aq0 W.q0.length m.kq0) := Sx_Sr ⟨_, _, rfl, hl.2.1, n6, c6, l6, g6⟩ rfl (Cs_intU _)
   have a2 : IntsU G' W.q1 (.slice m.aq1 W.q1.length m.kq1) := Sx_Sr ⟨_, _, rfl, hl.2.2, n7, c7, l7, g7⟩ rfl (Cs_intU _)
   refine ⟨_, _, J, by simp, k7, k8, .inr ⟨_, J, ⟨[_], (show gcells G' _ [_] from ⟨g4.1, trivial⟩), _, J, a1⟩, ⟨[_], (show gcells G' _ [_] from ⟨g4.2.1, trivial⟩), _, J, a2⟩, trivial⟩⟩
  ·exact Sx_Sr ⟨_, _, J, hl.1, n5, c5, l5, g5⟩ J (Cs_sayU _)
section
variable {C : Ctx} {k : List It} {E : Env} {ι : Ids} {L : List Ent} {G : PH}
theorem S_frzV (κ : Nat) {cs ts : List Value} {W : Wld} {L' : List Ent} (hL : getH κ L = some (worldV cs W ts)) (hL' : delH κ L = some L') (hS0 : ∀ b, ¬ C.S0 b) (ht : Tds G W.procs ts) (hn : W.procs.length ≤ 3) (hl : W.said.length ≤ 1000000000 ∧ W.q0.length ≤ 1000000000 ∧ W.q1.length ≤ 1000000000)
  (hk : ∀ G', PH.ext C.w0.heap.size G G' → WG G' W (.agg cs.toArray) → X C k E ι L' G') : X C k E ι L G := by
 intro a w h1 h2 h3 h4
 obtain ⟨S, G', hA, hG, hext, hsat⟩ := h4.frz (a := a) hL hL' hS0
 exact hk G' hext (worldV_frz hA hG hext.le ht hn hl) a w (h1.mono hext.le) h2 h3 hsat
end
def celNo (k : Nat) : Cel → Prop
 | .v _ => True
 | .p j _ => j ≠ k
 | .s j _ _ _ => j ≠ k
def entNo (k : Nat) : Ent → Prop
 | .blk j _ cs => j ≠ k ∧ ∀ c ∈ cs, celNo k c
 | .hp _ _ => True
theorem denC_no {k b : Nat} {ι : Ids} {c : Cel} (h : celNo k c) : denC ((k, b) :: ι) c = denC ι c := by
 cases c with
 | v x => rfl
 | p j o => simp only [denC, lookI]; rw [if_neg h]
 | s j o n m => simp only [denC, lookI]; rw [if_neg h]
theorem denL_no {k b : Nat} {ι : Ids} : ∀ {cs : List Cel}, (∀ c ∈ cs, celNo k c) → denL ((k, b) :: ι) cs = denL ι cs
 | [], _ => rfl
 | c :: cs, h => by
  simp only [denL, denC_no (h c (List.mem_cons_self ..)), denL_no (fun c hc => h c (List.mem_cons_of_mem _ hc))]
theorem owns_no {k b : Nat} {ι : Ids} {w : World} : ∀ {L : List Ent} {Ss : List (Nat → Prop)}, (∀ e ∈ L, entNo k e) → (owns ((k, b) :: ι) w L Ss ↔ owns ι w L Ss)
 | [], [], _ => Iff.rfl
 | [], _ :: _, _ => Iff.rfl
 | _ :: _, [], _ => Iff.rfl
 | e :: L, S :: Ss, h => by
  have he : Ent.holds ((k, b) :: ι) w e S ↔ Ent.holds ι w e S := by
   have := h e (List.mem_cons_self ..)
   cases e with
   | blk j ty cs => simp only [Ent.holds, lookI, denL_no this.2, if_neg this.1]
   | hp j A => exact Iff.rfl
  simp only [owns, he, owns_no (fun e he => h e (List.mem_cons_of_mem _ he))]
theorem vL_no {k : Nat} {l : List Value} : ∀ c ∈ vL l, celNo k c := by
 induction l with
 | nil => intro c hc; cases hc
 | cons v l ih => intro c hc; rcases List.mem_cons.1 hc with rfl | hc; trivial; exact ih c hc
theorem procCs_no {kg : Nat → Nat} {sp : List Value} : ∀ {ps : List Prc} {ts : List Value} {i : Nat}, ∀ c ∈ procCs kg sp i ps ts, celNo 1007 c
 | [], ts, i, c, hc => vL_no c (by cases ts <;> exact hc)
 | p :: ps, [], i, c, hc => vL_no c hc
 | p :: ps, t :: ts, i, c, hc => by
  simp only [procCs, List.mem_cons] at hc
  rcases hc with rfl | rfl | rfl | rfl | rfl | hc
  ·show 1010 + i ≠ 1007; omega
  ·trivial
  ·trivial
  ·trivial
  ·trivial
  ·exact procCs_no c hc
theorem regEs_no {spg : Nat → List Value} : ∀ {ps : List Prc} {i : Nat}, ∀ e ∈ regEs spg i ps, entNo 1007 e
 | [], _, e, he => by cases he
 | p :: ps, i, e, he => by
  rcases List.mem_cons.1 he with rfl | he
  ·refine ⟨by show 1010 + i ≠ 1007; omega, ?_⟩
   intro c hc
   simp only [List.mem_cons] at hc
   rcases hc with rfl | rfl | rfl | hc
   ·trivial
   ·trivial
   ·trivial
   ·exact vL_no c hc
  ·exact regEs_no e he
theorem wEnts_no {W : Wld} {ts : List Value} {m : WM} {x : WX} : ∀ e ∈ wEnts W ts m x, entNo 1007 e := by
 intro e he
 simp only [wEnts, List.mem_cons] at he
 rcases he with rfl | rfl | rfl | rfl | rfl | rfl | rfl | he
 ·exact ⟨by decide, procCs_no⟩
 ·refine ⟨by decide, ?_⟩
  intro c hc
  simp only [List.mem_cons] at hc
  rcases hc with rfl | rfl | rfl | hc
  ·trivial
  ·trivial
  ·trivial
  ·exact vL_no c hc
 ·refine ⟨by decide, ?_⟩
  intro c hc
  simp only [List.mem_cons] at hc
  rcases hc with rfl | rfl | hc
  ·trivial
  ·trivial
  ·exact vL_no c hc
 ·refine ⟨by decide, ?_⟩
  intro c hc
  simp only [List.mem_cons] at hc
  rcases hc with rfl | rfl | hc
  ·trivial
  ·trivial
  ·exact vL_no c hc
 ·trivial
 ·trivial
 ·trivial
 ·exact regEs_no e he
theorem wCels_no {W : Wld} {m : WM} {x : WX} : ∀ c ∈ wCels W m x, celNo 1007 c := by
 intro c hc
 simp only [wCels, List.mem_cons, List.not_mem_nil, or_false] at hc
 rcases hc with rfl | rfl | rfl | rfl | rfl
 ·show 1000 ≠ 1007; decide
 ·show 1001 ≠ 1007; decide
 ·show 1002 ≠ 1007; decide
 ·show 1003 ≠ 1007; decide
 ·trivial
section
variable {C : Ctx} {k : List It} {E : Env} {ι : Ids} {L : List Ent} {G : PH}
theorem S_V2P (key κ κ' : Nat) {b : Nat} {cs ts : List Value} {cels : List Cel} {W : Wld} {L1 L2 : List Ent} (hj : lookI key ι = some b) (hB : lookB key L = some (56, cels)) (hd : denL ι cels = some cs) (hL1 : delB key L = some L1) (hL : getH κ L1 = some (worldV cs W ts)) (hL2 : delH κ L1 = some L2)
  (hk : X C k E ι (.hp κ' (worldP b W ts) :: L2) G) : X C k E ι L G := by
 intro a w g1 g2 g3 g4
 obtain ⟨Ss, ho, hS⟩ := g4.own
 obtain ⟨S, Ss', b', hb', hh, hSb, hm, ho', hT⟩ := owns_delB hd ho hB hL1
 rw [hj] at hb'; cases hb'
 obtain ⟨U, Ss2, ⟨ι0, L0, Ss0, ⟨bp, bc, br, bs, bg, m, x, hbg, hmk, hx, rfl, rfl, hcs⟩, hown, hU⟩, hm2, ho2, hT2⟩ := owns_del ho' hL hL2
 refine hk a w g1 g2 g3 ⟨g4.os, g4.tape, g4.output, g4.size, g4.keep, g4.emb, (fun x => S x ∨ U x) :: Ss2, ⟨⟨_, _, S :: Ss0, ⟨bp, bc, br, bs, bg, m, x, hbg, hmk, hx, J, J⟩, ⟨⟨b, cs, by simp [lookI], by rw [denL_no wCels_no]; exact hcs, hh, hSb⟩, fun T hT' y hy hy' => ?_, (owns_no wEnts_no).2 hown⟩, fun y => ?_⟩, ?_, ho2⟩, ?_⟩
 ·exact (hT U hm2).2 y ((hU y).2 ⟨T, hT', hy'⟩) hy
 ·constructor
  ·rintro (h | h)
   ·exact ⟨S, List.mem_cons_self .., h⟩
   ·obtain ⟨T, hT', hy⟩ := (hU y).1 h
    exact ⟨T, List.mem_cons_of_mem _ hT', hy⟩
  ·rintro ⟨T, hT', hy⟩
   rcases List.mem_cons.1 hT' with rfl | hT'
   ·exact .inl hy
   ·exact .inr ((hU y).2 ⟨T, hT', hy⟩)
 ·rintro T hT' y (hy | hy) hy'
  ·exact (hT T (hT2 T hT').1).2 y hy' hy
  ·exact (hT2 T hT').2 y hy' hy
 ·intro T hT' y hy
  rcases List.mem_cons.1 hT' with rfl | hT'
  ·rcases hy with hy | hy
   ·exact hS S hm y hy
   ·exact hS U (hT U hm2).1 y hy
  ·exact hS T (hT T (hT2 T hT').1).1 y hy
theorem S_P2V (κ key κ' : Nat) {b : Nat} {ts : List Value} {W : Wld} {L1 : List Ent} (hL : getH κ L = some (worldP b W ts)) (hL1 : delH κ L = some L1) (hf : lookI key ι = none)
  (hk : ∀ cs, X C k E ((key, b) :: ι) (.blk key 56 (vL cs) :: .hp κ' (worldV cs W ts) :: L1) G) : X C k E ι L G := by
 intro a w g1 g2 g3 g4
 obtain ⟨Ss, ho, hS⟩ := g4.own
 obtain ⟨S, Ss', ⟨ι0, L0, Ss0, ⟨bp, bc, br, bs, bg, m, x, hbg, hmk, hx, rfl, rfl⟩, hown, hU⟩, hm, ho', hT⟩ := owns_del ho hL hL1
 cases Ss0 with
 | nil => exact absurd hown id
 | cons B Bs =>
  obtain ⟨⟨b', cs, hb', hd, hh, hB⟩, hdis, hown⟩ := hown
  simp only [lookI, if_true, Option.some.injEq] at hb'
  subst hb'
  rw [denL_no wCels_no] at hd
  rw [owns_no wEnts_no] at hown
  refine hk cs a w g1 g2 (g3.ids hf) ⟨g4.os, g4.tape, g4.output, g4.size, g4.keep, g4.emb, B :: (fun x => ∃ T ∈ Bs, T x) :: Ss', ⟨⟨b, cs, by simp [lookI], denL_vL _ _, hh, hB⟩, ?_, ⟨_, _, Bs, ⟨bp, bc, br, bs, bg, m, x, hbg, hmk, hx, rfl, rfl, hd⟩, hown, fun y => Iff.rfl⟩, ?_, owns_ids ho' hf⟩, ?_⟩
  ·intro T hT' y hy hy'
   rcases List.mem_cons.1 hT' with rfl | hT'
   ·obtain ⟨T, hT2, hy2⟩ := hy'
    exact hdis T hT2 y hy hy2
   ·exact (hT T hT').2 y hy' ((hU y).2 ⟨B, List.mem_cons_self .., hy⟩)
  ·rintro T hT' y ⟨T2, hT2, hy2⟩ hy'
   exact (hT T hT').2 y hy' ((hU y).2 ⟨T2, List.mem_cons_of_mem _ hT2, hy2⟩)
  ·intro T hT' y hy
   rcases List.mem_cons.1 hT' with rfl | hT'
   ·exact hS S hm y ((hU y).2 ⟨_, List.mem_cons_self .., hy⟩)
   rcases List.mem_cons.1 hT' with rfl | hT'
   ·obtain ⟨T2, hT2, hy2⟩ := hy
    exact hS S hm y ((hU y).2 ⟨T2, List.mem_cons_of_mem _ hT2, hy2⟩)
   ·exact hS T (hT T hT').1 y hy
end
end
section
attribute [local irreducible] X Pure Mod
def proc0 (l : List Stm) : Prc := ⟨0, 0, 0, l, 0, 0, -1⟩
def open0 (p : List (List Stm)) : Wld := ⟨p.map proc0, 0, 0, 0, 0, 0, [], [], []⟩
def wZero : Value := .agg #[.slice none 0 0, .slice none 0 0, .slice none 0 0, .slice none 0 0, .slice none 0 0]
def OPost (p : List (List Stm)) (W : Wld) (v : Value) (G' : PH) (A' : HP) : Prop := (progOk p = true ∧ ∃ cs ts, v = .agg cs.toArray ∧ A' = worldV cs W ts ∧ Tds G' W.procs ts) ∨ (progOk p = false ∧ v = wZero ∧ A' = emptyHP)
def procX : List (Nat × Value) → List Value
  | [] => []
  | (b, t) :: q => [.slice (some ⟨b, 0, none⟩) 3 3, t, .int .i64 0, .int .i64 0, .int .i64 (-1)] ++ procX q
theorem procX_snoc (q : List (Nat × Value)) (b : Nat) (t : Value) : procX (q ++ [(b, t)]) = procX q ++ [.slice (some ⟨b, 0, none⟩) 3 3, t, .int .i64 0, .int .i64 0, .int .i64 (-1)] := by
  induction q with
  | nil => simp [procX]
  | cons x q ih => obtain ⟨b', t'⟩ := x; simp [procX, ih]
def regsHP (q : List (Nat × Value)) : HP := starHP (q.reverse.map fun x => blkHP x.1 3 [.int .i64 0, .int .i64 0, .int .i64 0])
theorem regsHP_snoc (q : List (Nat × Value)) (b : Nat) (t : Value) : regsHP (q ++ [(b, t)]) = pairHP (blkHP b 3 [.int .i64 0, .int .i64 0, .int .i64 0]) (regsHP q) := by simp [regsHP, starHP]
def Qds (G : PH) : List (List Stm) → List (Nat × Value) → Prop
  | [], [] => True
  | l :: p, x :: q => Sts G l x.2 ∧ Qds G p q
  | _, _ => False
theorem Qds_le {G G' : PH} (hl : G.le G') : ∀ {p : List (List Stm)} {q : List (Nat × Value)}, Qds G p q → Qds G' p q
  | [], [], _ => trivial
  | _ :: _, _ :: _, h => ⟨Sts_le hl h.1, Qds_le hl h.2⟩
  | [], _ :: _, h => h
  | _ :: _, [], h => h
theorem Qds_snoc {G : PH} {l : List Stm} {x : Nat × Value} (hx : Sts G l x.2) : ∀ {p : List (List Stm)} {q : List (Nat × Value)}, Qds G p q → Qds G (p ++ [l]) (q ++ [x])
  | [], [], _ => ⟨hx, trivial⟩
  | _ :: p, _ :: q, h => ⟨h.1, Qds_snoc hx h.2⟩
  | [], _ :: _, h => absurd h id
  | _ :: _, [], h => absurd h id
theorem Qds_Tds {G : PH} : ∀ {p : List (List Stm)} {q : List (Nat × Value)}, Qds G p q → Tds G (p.map proc0) (q.map (·.2))
  | [], [], _ => trivial
  | _ :: p, _ :: q, h => ⟨h.1, Qds_Tds h.2⟩
  | [], _ :: _, h => absurd h id
  | _ :: _, [], h => absurd h id
theorem prg_at {G : PH} {p : List (List Stm)} {A : Option Addr} {n c : Nat} (h : Prg G p (.slice A n c)) {i : Nat} (hi : i < p.length) : ∃ ad v, A = some ad ∧ gcell G (ad.add (i * 1)) = some v ∧ Sts G p[i] v := by
  obtain ⟨ad, cs, rfl, h1, v, rfl, h2⟩ := Sr_at h hi
  exact ⟨ad, v, J, h1.1, h2⟩
def Off0 (A : Option Addr) : Prop := A = none ∨ ∃ g, A = some ⟨g, 0, none⟩
structure OS where
  i : Nat
  A : Option Addr
  c : Nat
  q : List (Nat × Value)
  G : PH
theorem mok0 {kp n : Nat} (h : n ≤ kp ∧ kp ≤ maxLen) : mOk kp 3 2 2 (fun _ => 3) n := ⟨h, by decide, by decide, by decide, fun _ => show 3 ≤ 3 ∧ 3 ≤ maxLen from by decide⟩
theorem c_l3Open (p : List (List Stm)) (pv : Value) (G : PH) (hp : PrgS G p pv) : Mod Tryz.prog 44 [pv] G emptyHP (OPost p (open0 p)) := by
  obtain ⟨hpp, hsh, hpl⟩ := id hp
  obtain ⟨A, c, rfl, hl1, _⟩ := id hpp
  refine Mod.intro Tryz.func44 Tryz.ntmps44 J J fun w S => ?_;refine Va J J ?_;refine AZ ZT_ok J J J J fun b2 => ?_;refine Va J J ?_;refine S_call Tryz.call20 (c_ProgOk p _ G hpp) J J J ?_;rintro v G5 ⟨rfl, rfl⟩ _
  refine Va J J ?_
  refine S_cond J (fun h => ?_) (fun h => ?_) <;> refine Va J J ?_
  · have hpo : progOk p = false := by simpa using h
    exact S_retm 1 (Res.c1 Tk Tryz.results44 J J) J XR (.inr ⟨hpo, J, J⟩)
  have hpo : progOk p = true := by simpa using h
  have hp13 : 1 ≤ p.length ∧ p.length ≤ 3 := by simp only [progOk, Bool.and_eq_true, decide_eq_true_eq] at hpo; exact ⟨hpo.1.2, hpo.2⟩
  refine S_cut (α := Nat × Nat × Nat × Nat × Option Addr) (fun _ => True) (fun y => [(2, b2), (3, y.1), (9, y.2.1), (10, y.2.2.1), (11, y.2.2.2.1)]) (fun y => [(0, .val (.slice A p.length c)), (2, .ptr 2 0), (3, .ptr 3 0)])
    (fun y => [.blk 2 56 (vL [.slice none 0 0, .slice none 0 0, .slice none 0 0, .slice none 0 0, .slice none 0 0]), .blk 3 56 [.v (.slice none 0 0), .s 9 0 3 3, .s 10 0 2 2, .s 11 0 2 2, .v (.slice y.2.2.2.2 0 0)], .blk 9 3 (vL [.int .i64 0, .int .i64 0, .int .i64 0]), .blk 10 3 (vL [.int .i64 0, .int .i64 0]), .blk 11 52 (vL [.slice none 0 0, .slice none 0 0]), .hp 12 (rowO w.heap.size 96 2 y.2.2.2.2 0 0 []), .hp 1 emptyHP]) (fun _ => G5) ?_ ?_
  ·
    refine Ds J J J ?_;refine Da J J ?_
    repeat' (first
      | exact trivial
      | (refine D_list J ?_)
      | refine And.intro ?_ ?_
      | (refine N_turn Tk _ J J J J fun back => ?_
         first
           | refine S_make Tk ZT_ok J J J J J J (by decide) (by decide) J J J fun bm => ?_
           | refine S_emptyO Tk 12 J J J J fun A12 => ?_
           | refine AZ ZT_ok J J J J fun ba => ?_
         refine back _ _ _ _ (by kernel_rfl) ?_
         clear back
         refine Da J J ?_)
      | fail)
    all_goals (refine N_store Tk 6 rfl rfl rfl rfl rfl rfl rfl rfl (by kernel_rfl) ?_)
    all_goals refine D_adv Tk (by decide) rfl rfl ?_
    all_goals (refine DD ?_)
    all_goals refine S_adv Tk rfl 1000 rfl ?_
    all_goals (refine S_pick [2, 3, 9, 10, 11, 12, 1] rfl ?_)
    all_goals exact S_meet (_, _, _, _, _) trivial rfl ⟨⟨_, rfl, rfl⟩, ⟨_, rfl, rfl⟩, ⟨_, rfl, rfl⟩, trivial⟩ (.blk rfl rfl (.blk rfl rfl (.blk rfl rfl (.blk rfl rfl (.blk rfl rfl (.hp (.hp .nil)))))))
  rintro ⟨b3, b9, b10, b11, A12⟩ _
  simp only
  refine S_nilO (base := w.heap.size) (e := 62) (size := 5) 20 ?_;refine S_newE 21 ?_;refine Va J J ?_;refine S_loop (α := OS) (fun y => y.i ≤ p.length ∧ y.q.length = y.i ∧ PH.ext w.heap.size G5 y.G ∧ Qds y.G (p.take y.i) y.q ∧ Off0 y.A ∧ ∀ x ∈ y.q, ∃ A n c, x.2 = .slice A n c) (fun y => p.length - y.i) [(2, b2), (3, b3), (9, b9), (10, b10), (11, b11)]
    (fun y => [(4, .val (.int .i64 (y.i : Nat))), (0, .val (.slice A p.length c)), (2, .ptr 2 0), (3, .ptr 3 0)])
    (fun y => [.hp 21 (regsHP y.q), .hp 20 (rowO w.heap.size 62 5 y.A y.q.length y.c (procX y.q)), .blk 2 56 (vL [.slice none 0 0, .slice none 0 0, .slice none 0 0, .slice none 0 0, .slice none 0 0]), .blk 3 56 [.v (.slice y.A y.q.length y.c), .s 9 0 3 3, .s 10 0 2 2, .s 11 0 2 2, .v (.slice A12 0 0)], .blk 9 3 (vL [.int .i64 0, .int .i64 0, .int .i64 0]), .blk 10 3 (vL [.int .i64 0, .int .i64 0]), .blk 11 52 (vL [.slice none 0 0, .slice none 0 0]), .hp 12 (rowO w.heap.size 96 2 A12 0 0 []), .hp 1 emptyHP]) (fun y => y.G) ⟨0, none, 0, [], G5⟩ ⟨Nat.zero_le _, rfl, PH.ext.refl _ _, trivial, .inl rfl, by simp⟩ rfl ?_ ?_ ?_
  · exact ⟨⟨_, J, J⟩, ⟨_, J, J⟩, ⟨_, J, J⟩, ⟨_, J, J⟩, trivial⟩
  · exact .hp (.hp (.blk J J (.blk J J (.blk J J (.blk J J (.blk J J (.hp (.hp .nil))))))))
  rintro ⟨i, A5, c5, q, G1⟩ ⟨hi, hq, hext, hqd, hoff, hqs⟩
  simp only at hi hq hext hqd hoff hqs ⊢
  refine Va J J ?_
  refine S_condp J (fun h5 => ?_) (fun h5 => ?_) <;> refine Va J J ?_
  · have hil : i < p.length := by omega
    obtain ⟨ad, lv, rfl, hcell, hlv⟩ := prg_at (Prg_le hext.le hpp) hil
    obtain ⟨Al, cl, xsl, rfl, hxl, hxg, hcs⟩ := sts_cells hlv
    have hll := (hsh _ (List.getElem_mem hil)).1
    refine S_cut (α := Nat × Option Addr × Nat × Option Addr × Nat) (fun y => Off0 y.2.2.2.1) (fun y => [(2, b2), (3, b3), (9, b9), (10, b10), (11, b11), (22, y.1)]) (fun y => [(4, .val (.int .i64 (i : Nat))), (0, .val (.slice (some ad) p.length c)), (2, .ptr 2 0), (3, .ptr 3 0)])
      (fun y => [.hp 21 (regsHP q), .hp 20 (rowO w.heap.size 62 5 y.2.2.2.1 (q.length + 1) y.2.2.2.2 (procX q ++ [.slice (some ⟨y.1, 0, none⟩) 3 3, .slice y.2.1 (0 + p[i].length) y.2.2.1, .int .i64 0, .int .i64 0, .int .i64 (-1)])), .hp 23 (rowO w.heap.size 83 6 y.2.1 (0 + p[i].length) y.2.2.1 ([] ++ xsl)), .blk 22 3 (vL [.int .i64 0, .int .i64 0, .int .i64 0]), .blk 2 56 (vL [.slice none 0 0, .slice none 0 0, .slice none 0 0, .slice none 0 0, .slice none 0 0]), .blk 3 56 [.v (.slice y.2.2.2.1 (q.length + 1) y.2.2.2.2), .s 9 0 3 3, .s 10 0 2 2, .s 11 0 2 2, .v (.slice A12 0 0)], .blk 9 3 (vL [.int .i64 0, .int .i64 0, .int .i64 0]), .blk 10 3 (vL [.int .i64 0, .int .i64 0]), .blk 11 52 (vL [.slice none 0 0, .slice none 0 0]), .hp 12 (rowO w.heap.size 96 2 A12 0 0 []), .hp 1 emptyHP]) (fun _ => G1) ?_ ?_
    ·
      refine Ds J J J ?_;refine Da J J ?_
      repeat' (first
        | exact trivial
        | (refine D_list J ?_)
        | refine And.intro ?_ ?_
        | (refine N_turn Tk _ J J J J fun back => ?_
           first
             | refine S_make Tk ZT_ok J J J J J J (by decide) (by decide) J J J fun bm => ?_
             | refine S_emptyO Tk 23 J J J J fun A12 => ?_
             | refine S_appO Tk 23 J J J J J J J J J J J (fun _ _ => J) (src_G hxl hxg) (Cs_one Stm.rep_one hcs) (by simp only; omega) (by simp only [maxLen]; omega) (Nat.le_refl _) fun A4 c4 => ?_
             | refine S_slice Tk ZT_ok J J J J (by decide) (by decide) J J J J fun b2 => ?_
             | refine S_app1z Tk 20 30 J J J J J J J J J J J J J J (by intro u hu; simp at hu; rcases hu with rfl | rfl | rfl | rfl | rfl <;> rfl) rfl (fun _ _ => rfl) (by omega) (Nat.le_refl _) fun A6 c6 h6 => ?_
             | refine S_index Tk J J J J J J (by omega) (by omega) ?_
             | refine S_load Tk J J J J J (by simpa using hcell) ?_
             | fail
           refine back _ _ _ _ (by kernel_rfl) ?_
           clear back
           refine Da J J ?_)
        | fail)
      all_goals (refine N_store Tk 13 rfl rfl rfl rfl rfl rfl rfl rfl (by kernel_rfl) ?_)
      all_goals refine D_adv Tk (by decide) rfl rfl ?_
      all_goals (refine DD ?_)
      all_goals refine S_adv Tk rfl 1000 rfl ?_
      all_goals (refine S_pick [21, 20, 23, 22, 2, 3, 9, 10, 11, 12, 1] rfl ?_)
      all_goals exact S_meet (_, _, _, _, _) (by rename_i h6; rcases h6 with h6 | h6; exact h6 ▸ hoff; exact .inr h6) J ⟨⟨_, J, J⟩, ⟨_, J, J⟩, ⟨_, J, J⟩, ⟨_, J, J⟩, trivial⟩ (.hp (.hp (.hp (.blk J J (.blk J J (.blk J J (.blk J J (.blk J J (.blk J J (.hp (.hp .nil)))))))))))
    rintro ⟨b22, A23, c23, A6, c6⟩ hoff6
    simp only at hoff6 ⊢
    refine S_freezeR 23 J J (Nat.le_refl _) fun G2 hext2 hnc hcm hcl => ?_
    have hv : Sts G2 p[i] (.slice A23 (0 + p[i].length) c23) := frz (Cs_mono (Stm.reps_le hext2.le _) (by simpa using hcs)) (by omega) (by omega) hnc hcm hcl
    refine S_Bhp 22 24 J J J J ?_;refine S_pair 24 21 25 J J J J ?_;refine Va J J ?_;refine S_add J J J J (by omega) ?_;refine Va J J ?_;refine S_again ⟨i + 1, A6, c6, q ++ [(b22, .slice A23 (0 + p[i].length) c23)], G2⟩ ⟨by simp only; omega, by simp; omega, hext.trans hext2, ?_, hoff6, ?_⟩ (by simp only; omega) rfl ⟨⟨_, rfl, by simp [denO]⟩, ⟨_, rfl, rfl⟩, ⟨_, rfl, rfl⟩, ⟨_, rfl, rfl⟩, trivial⟩ ?_
    · simp only
      rw [List.take_succ_eq_append_getElem hil]
      exact Qds_snoc hv (Qds_le hext2.le hqd)
    · intro x hx
      rcases List.mem_append.1 hx with hx | hx
      · exact hqs x hx
      · rw [List.mem_singleton.1 hx]; exact ⟨_, _, _, J⟩
    · simp only [regsHP_snoc, procX_snoc, List.length_append, List.length_singleton]
      exact .hp (.hp (.blk J J (.blk J J (.blk J J (.blk J J (.blk J J (.hp (.hp .nil))))))))
  · have hin : i = p.length := by omega
    subst hin
    rw [List.take_length] at hqd
    refine S_capO 20 J fun hnc5 hcm5 _ => ?_;refine S_someO 20 J (by omega) fun gp offp eA => ?_;obtain rfl : offp = 0 := by
      rcases hoff with h | ⟨g, h⟩
      · rw [h] at eA; cases eA
      · rw [h] at eA; cases eA; rfl
    subst eA
    refine S_rowB 20 20 J J J fun sp => ?_;refine S_nilO (base := 0) (e := 3) (size := 1) 30 ?_;refine S_nilO (base := 0) (e := 3) (size := 1) 31 ?_;refine S_base0 12 J J ?_
    rcases (by omega : p.length = 1 ∨ p.length = 2 ∨ p.length = 3) with h1 | h1 | h1
    · obtain ⟨l0, rfl⟩ := len1 h1
      obtain ⟨⟨g0, t0⟩, rfl⟩ := len1 (hq.trans h1)
      refine S_unpair 21 500 600 J J ?_;refine S_hpB 500 40 J J J ?_;exact RK [20, 9, 10, 11, 12, 30, 31, 40] (Res.c1 Tk Tryz.results44 rfl rfl) (.inl ⟨hpo, _, [t0], rfl, rfl, Qds_Tds hqd⟩) ⟨gp, b9, b10, b11, [g0], ⟨c5, sp, A12, 0, none, 0, none, 0, 3, [], 2, [], 2, [], fun _ => 3, fun _ => []⟩, ⟨0, [], 0, [], 0, []⟩, rfl, (mok0 ⟨by simpa [open0] using hnc5, hcm5⟩), ⟨⟨rfl, rfl⟩, ⟨rfl, rfl⟩, rfl, rfl⟩, rfl, rfl, rfl⟩ rfl (Bs 5 rfl rfl rfl rfl (.blk rfl rfl (.blk rfl rfl (.blk rfl rfl (.hp (.hp (.hp (.blk rfl rfl .nil)))))))) hext
    · obtain ⟨l0, l1, rfl⟩ := len2 h1
      obtain ⟨⟨g0, t0⟩, ⟨g1, t1⟩, rfl⟩ := len2 (hq.trans h1)
      refine S_unpair 21 501 601 J J ?_;refine S_hpB 501 41 J J J ?_;refine S_unpair 601 500 600 J J ?_;refine S_hpB 500 40 J J J ?_;exact RK [20, 9, 10, 11, 12, 30, 31, 40, 41] (Res.c1 Tk Tryz.results44 rfl rfl) (.inl ⟨hpo, _, [t0, t1], rfl, rfl, Qds_Tds hqd⟩) ⟨gp, b9, b10, b11, [g0, g1], ⟨c5, sp, A12, 0, none, 0, none, 0, 3, [], 2, [], 2, [], fun _ => 3, fun _ => []⟩, ⟨0, [], 0, [], 0, []⟩, rfl, (mok0 ⟨by simpa [open0] using hnc5, hcm5⟩), ⟨⟨rfl, rfl⟩, ⟨rfl, rfl⟩, rfl, rfl⟩, rfl, rfl, rfl⟩ rfl (Bs 10 rfl rfl rfl rfl (.blk rfl rfl (.blk rfl rfl (.blk rfl rfl (.hp (.hp (.hp (.blk rfl rfl (.blk rfl rfl .nil))))))))) hext
    · obtain ⟨l0, l1, l2, rfl⟩ := len3 h1
      obtain ⟨⟨g0, t0⟩, ⟨g1, t1⟩, ⟨g2, t2⟩, rfl⟩ := len3 (hq.trans h1)
      refine S_unpair 21 502 602 J J ?_;refine S_hpB 502 42 J J J ?_;refine S_unpair 602 501 601 J J ?_;refine S_hpB 501 41 J J J ?_;refine S_unpair 601 500 600 J J ?_;refine S_hpB 500 40 J J J ?_;exact RK [20, 9, 10, 11, 12, 30, 31, 40, 41, 42] (Res.c1 Tk Tryz.results44 rfl rfl) (.inl ⟨hpo, _, [t0, t1, t2], rfl, rfl, Qds_Tds hqd⟩) ⟨gp, b9, b10, b11, [g0, g1, g2], ⟨c5, sp, A12, 0, none, 0, none, 0, 3, [], 2, [], 2, [], fun _ => 3, fun _ => []⟩, ⟨0, [], 0, [], 0, []⟩, rfl, (mok0 ⟨by simpa [open0] using hnc5, hcm5⟩), ⟨⟨rfl, rfl⟩, ⟨rfl, rfl⟩, rfl, rfl⟩, rfl, rfl, rfl⟩ rfl (Bs 15 rfl rfl rfl rfl (.blk rfl rfl (.blk rfl rfl (.blk rfl rfl (.hp (.hp (.hp (.blk rfl rfl (.blk rfl rfl (.blk rfl rfl .nil)))))))))) hext
end
section
attribute [local irreducible] X Pure Mod
theorem Cs_intU_eq : ∀ {l : List Int} {xs : List Value}, Cs 1 intU l xs → xs = intC l
  | [], xs, h => h
  | n :: l, xs, h => by
    obtain ⟨cs, ys, rfl, _, rfl, h4⟩ := h
    rw [Cs_intU_eq h4]; rfl
theorem Cs_sayU_eq : ∀ {l : List (Int × Int)} {xs : List Value}, Cs 2 sayU l xs → xs = saidC l
  | [], xs, h => h
  | n :: l, xs, h => by
    obtain ⟨cs, ys, rfl, _, rfl, h4⟩ := h
    rw [Cs_sayU_eq h4]; rfl
theorem intsU_cells {G : PH} {l : List Int} {v : Value} (h : IntsU G l v) : ∃ A c, v = .slice A l.length c ∧ (intC l).length = l.length * 1 ∧ (l.length = 0 ∨ ∃ a, A = some a ∧ gcells G a (intC l)) := by
  obtain ⟨xs, hx, hc⟩ := Sr_Sx (rep := intU) (sz := 1) (fun n cs h => by rw [show cs = [.int .i64 n] from h]; rfl) h
  obtain rfl := Cs_intU_eq hc
  obtain ⟨A, c, rfl, _, _, _, hl, hr⟩ := hx
  exact ⟨A, c, J, hl, hr⟩
theorem saysU_cells {G : PH} {l : List (Int × Int)} {v : Value} (h : SaysU G l v) : ∃ A c, v = .slice A l.length c ∧ (saidC l).length = l.length * 2 ∧ (l.length = 0 ∨ ∃ a, A = some a ∧ gcells G a (saidC l)) := by
  obtain ⟨xs, hx, hc⟩ := Sr_Sx (rep := sayU) (sz := 2) (fun n cs h => by rw [show cs = [.int .i64 n.1, .int .i64 n.2] from h]; rfl) h
  obtain rfl := Cs_sayU_eq hc
  obtain ⟨A, c, rfl, _, _, _, hl, hr⟩ := hx
  exact ⟨A, c, J, hl, hr⟩
theorem intC1 (l : List Int) : ∀ u ∈ intC l, u.oneCell' = true := intC_one l
theorem off_app {A A' : Option Addr} (h : ∃ g, A = some ⟨g, 0, none⟩) (h' : A' = A ∨ ∃ g, A' = some ⟨g, 0, none⟩) : Off0 A' := by
  rcases h' with rfl | h'
  · exact .inr h
  · exact .inr h'
theorem off_app' {A A' : Option Addr} (h : Off0 A) (h' : A' = A ∨ ∃ g, A' = some ⟨g, 0, none⟩) : Off0 A' := by
  rcases h' with rfl | h'
  · exact h
  · exact .inr h'
structure QE where
  A : Option Addr
  c : Nat
  t : Value
  p : Prc
def procZ : List QE → List Value
  | [] => []
  | x :: q => [.slice x.A (0 + 3) x.c, x.t, .int .i64 x.p.mode, .int .i64 x.p.on, .int .i64 x.p.room] ++ procZ q
theorem procZ_snoc (q : List QE) (x : QE) : procZ (q ++ [x]) = procZ q ++ [.slice x.A (0 + 3) x.c, x.t, .int .i64 x.p.mode, .int .i64 x.p.on, .int .i64 x.p.room] := by
  induction q with
  | nil => simp [procZ]
  | cons y q ih => simp [procZ, ih]
def regsZ (base : Nat) (q : List QE) : HP := starHP (q.reverse.map fun x => rowO base 3 1 x.A (0 + 3) x.c ([] ++ intC [x.p.r0, x.p.r1, x.p.r2]))
theorem regsZ_snoc (base : Nat) (q : List QE) (x : QE) : regsZ base (q ++ [x]) = pairHP (rowO base 3 1 x.A (0 + 3) x.c ([] ++ intC [x.p.r0, x.p.r1, x.p.r2])) (regsZ base q) := by simp [regsZ, starHP]
def QOk (G : PH) (ps : List Prc) (q : List QE) : Prop := q.map (·.p) = ps ∧ ∀ x ∈ q, Sts G x.p.todo x.t ∧ Off0 x.A
theorem QOk_le {G G' : PH} (hl : G.le G') {ps : List Prc} {q : List QE} (h : QOk G ps q) : QOk G' ps q := ⟨h.1, fun x hx => ⟨Sts_le hl (h.2 x hx).1, (h.2 x hx).2⟩⟩
structure OC where
  i : Nat
  A : Option Addr
  c : Nat
  q : List QE
  G : PH
theorem off0_eq {A : Option Addr} (h : Off0 A) {g off : Nat} (e : A = some ⟨g, off, none⟩) : off = 0 := by
  rcases h with h | ⟨g', h⟩
  · rw [h] at e; cases e
  · rw [h] at e; cases e; rfl
def kg3 (a b c : Nat) : Nat → Nat
  | 0 => a
  | 1 => b
  | _ => c
def sp3 (a b c : List Value) : Nat → List Value
  | 0 => a
  | 1 => b
  | _ => c
theorem kg3_ok {a b c : Nat} (ha : 3 ≤ a ∧ a ≤ maxLen) (hb : 3 ≤ b ∧ b ≤ maxLen) (hc : 3 ≤ c ∧ c ≤ maxLen) : ∀ i, 3 ≤ kg3 a b c i ∧ kg3 a b c i ≤ maxLen
  | 0 => ha
  | 1 => hb
  | _ + 2 => hc
abbrev NPost (W : Wld) (v : Value) (G' : PH) (A' : HP) : Prop := ∃ cs ts, v = .agg cs.toArray ∧ A' = worldV cs W ts ∧ Tds G' W.procs ts
theorem c_l3Copy (W : Wld) (v : Value) (G : PH) (hW : WG G W v) (hn : 1 ≤ W.procs.length ∧ W.procs.length ≤ 3) (hl : W.said.length ≤ 1000000 ∧ W.q0.length ≤ 1000000 ∧ W.q1.length ≤ 1000000) (hT : ∀ p ∈ W.procs, p.todo.length ≤ 1000000) : Mod Tryz.prog 47 [v] G emptyHP (NPost W) := by
  obtain ⟨vp, vc, vr, vs, vd, rfl, hpr, hce, hro, hsg, hsd⟩ := hW
  obtain ⟨Ac, cc, rfl, xc1, xc2⟩ := intsU_cells hce
  obtain ⟨Ar, cr, rfl, xr1, xr2⟩ := intsU_cells hro
  obtain ⟨Ad, cd, rfl, xd1, xd2⟩ := saysU_cells hsd
  obtain ⟨Ap, cp, rfl, _⟩ := id hpr
  obtain ⟨As, cs', rfl, _⟩ := id hsg
  obtain ⟨ads, z0, eA, hz0, v0, rfl, hv0⟩ := Sr_at hsg (k := 0) (by simp)
  subst eA
  obtain ⟨ads', z1, eA, hz1, v1, rfl, hv1⟩ := Sr_at hsg (k := 1) (by simp)
  cases eA
  obtain ⟨A0, c0, rfl, x01, x02⟩ := intsU_cells hv0
  obtain ⟨A1, c1, rfl, x11, x12⟩ := intsU_cells hv1
  simp only [List.getElem_cons_zero, List.getElem_cons_succ] at hz0 hz1 x01 x02 x11 x12
  refine Mod.intro Tryz.func47 Tryz.ntmps47 J J fun w S => ?_;refine Va J J ?_;refine S_box J J J J J fun b1 => ?_;refine Va J J ?_;refine AZ ZT_ok J J J J fun b2 => ?_;refine Va J J ?_;refine S_cut (α := Nat × (Option Addr × Nat) × (Option Addr × Nat) × Option Addr × Nat) (fun y => Off0 y.2.1.1 ∧ Off0 y.2.2.1.1) (fun y => [(1, b1), (2, b2), (3, y.1)]) (fun y => [(1, .ptr 1 0), (2, .ptr 2 0), (3, .ptr 3 0)])
    (fun y => [.blk 1 56 (vL [.slice Ap W.procs.length cp, .slice Ac [W.c0, W.c1, W.c2].length cc, .slice Ar [W.m0, W.m1].length cr, .slice (some ads) [W.q0, W.q1].length cs', .slice Ad W.said.length cd]), .blk 2 56 (vL [.slice none 0 0, .slice none 0 0, .slice none 0 0, .slice none 0 0, .slice none 0 0]),
      .blk 3 56 [.v (.slice none 0 0), .v (.slice y.2.1.1 (0 + [W.c0, W.c1, W.c2].length) y.2.1.2), .v (.slice y.2.2.1.1 (0 + [W.m0, W.m1].length) y.2.2.1.2), .v (.slice none 0 0), .v (.slice y.2.2.2.1 (0 + W.said.length) y.2.2.2.2)],
      .hp 7 (rowO w.heap.size 3 1 y.2.1.1 (0 + [W.c0, W.c1, W.c2].length) y.2.1.2 ([] ++ intC [W.c0, W.c1, W.c2])), .hp 11 (rowO w.heap.size 3 1 y.2.2.1.1 (0 + [W.m0, W.m1].length) y.2.2.1.2 ([] ++ intC [W.m0, W.m1])), .hp 15 (rowO w.heap.size 96 2 y.2.2.2.1 (0 + W.said.length) y.2.2.2.2 ([] ++ saidC W.said)), .hp 1 emptyHP]) (fun _ => G) ?_ ?_
  ·
    refine Ds J J J ?_;refine Da J J ?_
    repeat' (first
      | exact trivial
      | (refine D_list J ?_)
      | refine And.intro ?_ ?_
      | (refine N_turn Tk 0 J J J J fun back => ?_
         refine S_emptyOz Tk 7 J J J J fun A7 h7 => ?_;refine back _ _ _ _ (by kernel_rfl) ?_
         clear back
         refine Da J J ?_)
      | (refine N_turn Tk 4 J J J J fun back => ?_
         refine S_emptyOz Tk 11 J J J J fun A11 h11 => ?_;refine back _ _ _ _ (by kernel_rfl) ?_
         clear back
         refine Da J J ?_)
      | (refine N_turn Tk 8 J J J J fun back => ?_
         refine S_emptyO Tk 15 J J J J fun A15 => ?_;refine back _ _ _ _ (by kernel_rfl) ?_
         clear back
         refine Da J J ?_)
      | (refine N_turn Tk 13 J J J J fun back => ?_
         refine AZ ZT_ok J J J J fun b3 => ?_;refine back _ _ _ _ (by kernel_rfl) ?_
         clear back
         refine Da J J ?_)
      | (refine N_turn Tk 3 J J J J fun back => ?_
         refine S_appOz Tk 7 J J J J J J J J J J J (fun _ _ => J) (src_G xc1 xc2) (intC1 _) (by simp) (by simp [maxLen]) (Nat.le_refl _) fun A7' c7 h7' => ?_;refine back _ _ _ _ (by kernel_rfl) ?_
         clear back
         refine Da J J ?_)
      | (refine N_turn Tk 7 J J J J fun back => ?_
         refine S_appOz Tk 11 J J J J J J J J J J J (fun _ _ => J) (src_G xr1 xr2) (intC1 _) (by simp) (by simp [maxLen]) (Nat.le_refl _) fun A11' c11 h11' => ?_;refine back _ _ _ _ (by kernel_rfl) ?_
         clear back
         refine Da J J ?_)
      | (refine N_turn Tk 11 J J J J fun back => ?_
         refine S_appO Tk 15 J J J J J J J J J J J (fun _ _ => J) (src_G xd1 xd2) (saidC_one _) (by simp only; omega) (by simp only [maxLen]; omega) (Nat.le_refl _) fun A15' c15 => ?_;refine back _ _ _ _ (by kernel_rfl) ?_
         clear back
         refine Da J J ?_)
      | fail)
    all_goals (refine N_store Tk 14 rfl rfl rfl rfl rfl rfl rfl rfl (by kernel_rfl) ?_)
    all_goals refine D_adv Tk (by decide) rfl rfl ?_
    all_goals (refine DD ?_)
    all_goals refine S_adv Tk rfl 1000 rfl ?_
    all_goals (refine S_pick [1, 2, 3, 7, 11, 15, 1] rfl ?_)
    all_goals exact S_meet (_, (_, _), (_, _), _, _) ⟨off_app h7 h7', off_app h11 h11'⟩ rfl ⟨⟨_, rfl, rfl⟩, ⟨_, rfl, rfl⟩, ⟨_, rfl, rfl⟩, trivial⟩ (.blk rfl rfl (.blk rfl rfl (.blk rfl rfl (.hp (.hp (.hp (.hp .nil)))))))
  rintro ⟨b3, ⟨A7, c7⟩, ⟨A11, c11⟩, A15, c15⟩ ⟨o7, o11⟩
  simp only at o7 o11 ⊢
  refine S_nilO (base := w.heap.size) (e := 52) (size := 1) 40 ?_;refine Va J J ?_;refine S_unroll 2 ?_;refine Va J J ?_
  have o0 : Off0 none := .inl rfl
  refine RT J J ?_;refine Va J J ?_;refine S_cut (α := (Option Addr × Nat) × Option Addr × Nat) (fun y => Off0 y.2.1) (fun y => [(1, b1), (2, b2), (3, b3)]) (fun y => [(4, .val (.int .i64 0)), (1, .ptr 1 0), (2, .ptr 2 0), (3, .ptr 3 0)])
    (fun y => [.blk 1 56 (vL [.slice Ap W.procs.length cp, .slice Ac [W.c0, W.c1, W.c2].length cc, .slice Ar [W.m0, W.m1].length cr, .slice (some ads) [W.q0, W.q1].length cs', .slice Ad W.said.length cd]), .blk 2 56 (vL [.slice none 0 0, .slice none 0 0, .slice none 0 0, .slice none 0 0, .slice none 0 0]),
      .blk 3 56 [.v (.slice none 0 0), .v (.slice A7 (0 + [W.c0, W.c1, W.c2].length) c7), .v (.slice A11 (0 + [W.m0, W.m1].length) c11), .v (.slice y.2.1 (0 + 1) y.2.2), .v (.slice A15 (0 + W.said.length) c15)],
      .hp 7 (rowO w.heap.size 3 1 A7 (0 + [W.c0, W.c1, W.c2].length) c7 ([] ++ intC [W.c0, W.c1, W.c2])), .hp 11 (rowO w.heap.size 3 1 A11 (0 + [W.m0, W.m1].length) c11 ([] ++ intC [W.m0, W.m1])), .hp 15 (rowO w.heap.size 96 2 A15 (0 + W.said.length) c15 ([] ++ saidC W.said)),
      .hp 40 (rowO w.heap.size 52 1 y.2.1 (0 + 1) y.2.2 ([] ++ [.slice y.1.1 (0 + W.q0.length) y.1.2])), .hp 41 (rowO w.heap.size 3 1 y.1.1 (0 + W.q0.length) y.1.2 ([] ++ intC W.q0))] ++ [.hp 1 emptyHP]) (fun _ => G) ?_ ?_
  · refine Ds J J J ?_
    refine Da J J ?_
    repeat' (first
      | exact trivial
      | (refine D_list J ?_)
      | refine And.intro ?_ ?_
      | (refine N_turn Tk 2 J J J J fun back => ?_
         refine S_emptyO Tk 41 J J J J fun A29 => ?_;refine back _ _ _ _ (by kernel_rfl) ?_
         clear back
         refine Da J J ?_)
      | (refine N_turn Tk 6 J J J J fun back => ?_
         refine S_index Tk J J J J J J (by simp) (by simp) ?_;refine back _ _ _ _ (by kernel_rfl) ?_
         clear back
         refine Da J J ?_)
      | (refine N_turn Tk 7 J J J J fun back => ?_
         refine S_load Tk J J J J J (by simpa using hz0.1) ?_;refine back _ _ _ _ (by kernel_rfl) ?_
         clear back
         refine Da J J ?_)
      | (refine N_turn Tk 8 J J J J fun back => ?_
         refine S_appO Tk 41 J J J J J J J J J J J (fun _ _ => J) (src_G x01 x02) (intC1 _) (by simp only; omega) (by simp only [maxLen]; omega) (Nat.le_refl _) fun A29' c29 => ?_;refine back _ _ _ _ (by kernel_rfl) ?_
         clear back
         refine Da J J ?_)
      | (refine N_turn Tk 9 J J J J fun back => ?_
         refine S_slice Tk ZT_ok J J J J (by decide) (by decide) J J J J fun b36 => ?_;refine back _ _ _ _ (by kernel_rfl) ?_
         clear back
         refine Da J J ?_)
      | (refine N_turn Tk 10 J J J J fun back => ?_
         refine S_app1z Tk 40 36 J J J J J J J J J J J J J J (by intro u hu; simp at hu; rcases hu with rfl; rfl) rfl (fun _ _ => rfl) (by omega) (Nat.le_refl _) fun A40 c40 h40 => ?_;refine back _ _ _ _ (by kernel_rfl) ?_
         clear back
         refine Da J J ?_)
      | fail)
    all_goals (refine N_store Tk 12 rfl rfl rfl rfl rfl rfl rfl rfl (by kernel_rfl) ?_)
    all_goals refine D_adv Tk (by decide) rfl rfl ?_
    all_goals (refine DD ?_)
    all_goals refine S_adv Tk rfl 1000 rfl ?_
    all_goals (refine S_pick [1, 2, 3, 7, 11, 15, 40, 41, 1] rfl ?_)
    all_goals exact S_meet ((_, _), _, _) (by rename_i h40; exact off_app' (by assumption) h40) J ⟨⟨_, J, J⟩, ⟨_, J, J⟩, ⟨_, J, J⟩, ⟨_, J, J⟩, trivial⟩ (.blk J J (.blk J J (.blk J J (.hp (.hp (.hp (.hp (.hp (.hp .nil)))))))))
  rintro ⟨⟨A41, c41⟩, A42, c42⟩ o42
  simp only at o42 ⊢
  refine Va J J ?_;refine S_add J J J J (by omega) ?_;refine Va J J ?_;refine S_next ?_;refine Va J J ?_;refine RT J J ?_;refine Va J J ?_;refine S_cut (α := (Option Addr × Nat) × Option Addr × Nat) (fun y => Off0 y.2.1) (fun y => [(1, b1), (2, b2), (3, b3)]) (fun y => [(4, .val (.int .i64 1)), (1, .ptr 1 0), (2, .ptr 2 0), (3, .ptr 3 0)])
    (fun y => [.blk 1 56 (vL [.slice Ap W.procs.length cp, .slice Ac [W.c0, W.c1, W.c2].length cc, .slice Ar [W.m0, W.m1].length cr, .slice (some ads) [W.q0, W.q1].length cs', .slice Ad W.said.length cd]), .blk 2 56 (vL [.slice none 0 0, .slice none 0 0, .slice none 0 0, .slice none 0 0, .slice none 0 0]),
      .blk 3 56 [.v (.slice none 0 0), .v (.slice A7 (0 + [W.c0, W.c1, W.c2].length) c7), .v (.slice A11 (0 + [W.m0, W.m1].length) c11), .v (.slice y.2.1 ((0 + 1) + 1) y.2.2), .v (.slice A15 (0 + W.said.length) c15)],
      .hp 7 (rowO w.heap.size 3 1 A7 (0 + [W.c0, W.c1, W.c2].length) c7 ([] ++ intC [W.c0, W.c1, W.c2])), .hp 11 (rowO w.heap.size 3 1 A11 (0 + [W.m0, W.m1].length) c11 ([] ++ intC [W.m0, W.m1])), .hp 15 (rowO w.heap.size 96 2 A15 (0 + W.said.length) c15 ([] ++ saidC W.said)),
      .hp 40 (rowO w.heap.size 52 1 y.2.1 ((0 + 1) + 1) y.2.2 (([] ++ [.slice A41 (0 + W.q0.length) c41]) ++ [.slice y.1.1 (0 + W.q1.length) y.1.2])), .hp 43 (rowO w.heap.size 3 1 y.1.1 (0 + W.q1.length) y.1.2 ([] ++ intC W.q1))] ++ [.hp 41 (rowO w.heap.size 3 1 A41 (0 + W.q0.length) c41 ([] ++ intC W.q0)), .hp 1 emptyHP]) (fun _ => G) ?_ ?_
  · refine Ds J J J ?_
    refine Da J J ?_
    repeat' (first
      | exact trivial
      | (refine D_list J ?_)
      | refine And.intro ?_ ?_
      | (refine N_turn Tk 2 J J J J fun back => ?_
         refine S_emptyO Tk 43 J J J J fun A29 => ?_;refine back _ _ _ _ (by kernel_rfl) ?_
         clear back
         refine Da J J ?_)
      | (refine N_turn Tk 6 J J J J fun back => ?_
         refine S_index Tk J J J J J J (by simp) (by simp) ?_;refine back _ _ _ _ (by kernel_rfl) ?_
         clear back
         refine Da J J ?_)
      | (refine N_turn Tk 7 J J J J fun back => ?_
         refine S_load Tk J J J J J (by simpa using hz1.1) ?_;refine back _ _ _ _ (by kernel_rfl) ?_
         clear back
         refine Da J J ?_)
      | (refine N_turn Tk 8 J J J J fun back => ?_
         refine S_appO Tk 43 J J J J J J J J J J J (fun _ _ => J) (src_G x11 x12) (intC1 _) (by simp only; omega) (by simp only [maxLen]; omega) (Nat.le_refl _) fun A29' c29 => ?_;refine back _ _ _ _ (by kernel_rfl) ?_
         clear back
         refine Da J J ?_)
      | (refine N_turn Tk 9 J J J J fun back => ?_
         refine S_slice Tk ZT_ok J J J J (by decide) (by decide) J J J J fun b36 => ?_;refine back _ _ _ _ (by kernel_rfl) ?_
         clear back
         refine Da J J ?_)
      | (refine N_turn Tk 10 J J J J fun back => ?_
         refine S_app1z Tk 40 36 J J J J J J J J J J J J J J (by intro u hu; simp at hu; rcases hu with rfl; rfl) rfl (fun _ _ => rfl) (by omega) (Nat.le_refl _) fun A40 c40 h40 => ?_;refine back _ _ _ _ (by kernel_rfl) ?_
         clear back
         refine Da J J ?_)
      | fail)
    all_goals (refine N_store Tk 12 rfl rfl rfl rfl rfl rfl rfl rfl (by kernel_rfl) ?_)
    all_goals refine D_adv Tk (by decide) rfl rfl ?_
    all_goals (refine DD ?_)
    all_goals refine S_adv Tk rfl 1000 rfl ?_
    all_goals (refine S_pick [1, 2, 3, 7, 11, 15, 40, 43, 41, 1] rfl ?_)
    all_goals exact S_meet ((_, _), _, _) (by rename_i h40; exact off_app' (by assumption) h40) J ⟨⟨_, J, J⟩, ⟨_, J, J⟩, ⟨_, J, J⟩, ⟨_, J, J⟩, trivial⟩ (.blk J J (.blk J J (.blk J J (.hp (.hp (.hp (.hp (.hp (.hp (.hp .nil))))))))))
  rintro ⟨⟨A43, c43⟩, A44, c44⟩ o44
  simp only at o44 ⊢
  refine Va J J ?_;refine S_add J J J J (by omega) ?_;refine Va J J ?_;refine S_next ?_;refine Va J J ?_;refine RF J J ?_;refine Va J J ?_;refine S_nilO (base := w.heap.size) (e := 62) (size := 5) 50 ?_;refine S_newE 51 ?_;refine S_loop (α := OC) (fun y => y.i ≤ W.procs.length ∧ y.q.length = y.i ∧ PH.ext w.heap.size G y.G ∧ QOk y.G (W.procs.take y.i) y.q ∧ Off0 y.A) (fun y => W.procs.length - y.i) [(1, b1), (2, b2), (3, b3)]
    (fun y => [(5, .val (.int .i64 (y.i : Nat))), (1, .ptr 1 0), (2, .ptr 2 0), (3, .ptr 3 0)])
    (fun y => [.hp 51 (regsZ w.heap.size y.q), .hp 50 (rowO w.heap.size 62 5 y.A y.q.length y.c (procZ y.q)),
      .blk 1 56 (vL [.slice Ap W.procs.length cp, .slice Ac [W.c0, W.c1, W.c2].length cc, .slice Ar [W.m0, W.m1].length cr, .slice (some ads) [W.q0, W.q1].length cs', .slice Ad W.said.length cd]), .blk 2 56 (vL [.slice none 0 0, .slice none 0 0, .slice none 0 0, .slice none 0 0, .slice none 0 0]),
      .blk 3 56 [.v (.slice y.A y.q.length y.c), .v (.slice A7 (0 + [W.c0, W.c1, W.c2].length) c7), .v (.slice A11 (0 + [W.m0, W.m1].length) c11), .v (.slice A44 (0 + 1 + 1) c44), .v (.slice A15 (0 + W.said.length) c15)],
      .hp 7 (rowO w.heap.size 3 1 A7 (0 + [W.c0, W.c1, W.c2].length) c7 ([] ++ intC [W.c0, W.c1, W.c2])), .hp 11 (rowO w.heap.size 3 1 A11 (0 + [W.m0, W.m1].length) c11 ([] ++ intC [W.m0, W.m1])), .hp 15 (rowO w.heap.size 96 2 A15 (0 + W.said.length) c15 ([] ++ saidC W.said)),
      .hp 40 (rowO w.heap.size 52 1 A44 (0 + 1 + 1) c44 ([] ++ [.slice A41 (0 + W.q0.length) c41] ++ [.slice A43 (0 + W.q1.length) c43])), .hp 43 (rowO w.heap.size 3 1 A43 (0 + W.q1.length) c43 ([] ++ intC W.q1)), .hp 41 (rowO w.heap.size 3 1 A41 (0 + W.q0.length) c41 ([] ++ intC W.q0)), .hp 1 emptyHP]) (fun y => y.G) ⟨0, none, 0, [], G⟩ ⟨Nat.zero_le _, rfl, PH.ext.refl _ _, ⟨rfl, by simp⟩, .inl rfl⟩ rfl ?_ ?_ ?_
  · exact ⟨⟨_, J, J⟩, ⟨_, J, J⟩, ⟨_, J, J⟩, ⟨_, J, J⟩, trivial⟩
  · exact .hp (.hp (.blk J J (.blk J J (.blk J J (.hp (.hp (.hp (.hp (.hp (.hp (.hp .nil)))))))))))
  rintro ⟨i, A5, c5, q, G1⟩ ⟨hi, hq, hext, hqd, hoff⟩
  simp only at hi hq hext hqd hoff ⊢
  refine Va J J ?_
  refine S_condp J (fun h5 => ?_) (fun h5 => ?_) <;> refine Va J J ?_
  · have hil : i < W.procs.length := by omega
    obtain ⟨ad, cs, rfl, hcs, vr1, vt1, rfl, hr1, ht1⟩ := Sr_at (Sr_mono hext.le (fun _ _ _ h => prcRep_le hext.le h) hpr) hil
    obtain ⟨Br, dr, rfl, y1, y2⟩ := intsU_cells hr1
    obtain ⟨Bt, dt, xt, rfl, hxl, hxg, hct⟩ := sts_cells ht1
    have htl := hT _ (List.getElem_mem hil)
    refine S_index Tk J J J J J J (by omega) (by omega) ?_;refine Va J J ?_;refine S_loadA Tk J J J J J (by simpa using hcs) ?_;refine Va J J ?_;refine AZ ZT_ok J J J J fun b6 => ?_;refine Va J J ?_;refine S_emptyOz Tk 52 J J J J fun A52 h52 => ?_;refine Va J J ?_;refine S_appOz Tk 52 J J J J J J J J J J J (fun _ _ => J) (src_G y1 y2) (intC1 _) (by simp) (by simp [maxLen]) (Nat.le_refl _) fun A53 c53 h53 => ?_
    refine Va J J ?_;refine S_emptyO Tk 56 J J J J fun A56 => ?_;refine Va J J ?_;refine S_appO Tk 56 J J J J J J J J J J J (fun _ _ => J) (src_G hxl hxg) (Cs_one Stm.rep_one hct) (by simp only; omega) (by simp only [maxLen]; omega) (Nat.le_refl _) fun A57 c57 => ?_;refine Va J J ?_;refine S_slice Tk ZT_ok J J J J (by decide) (by decide) J J J J fun b64 => ?_;refine Va J J ?_
    refine S_app1z Tk 50 64 J J J J J J J J J J J J J J (by intro u hu; simp at hu; rcases hu with rfl | rfl | rfl | rfl | rfl <;> rfl) rfl (fun _ _ => rfl) (by omega) (Nat.le_refl _) fun A6 c6 h6 => ?_
    refine Va J J ?_;refine S_add J J J J (by omega) ?_;refine Va J J ?_;refine S_freezeR 56 J J (Nat.le_refl _) fun G2 hext2 hnc hcm hcl => ?_
    have hv : Sts G2 W.procs[i].todo (.slice A57 (0 + W.procs[i].todo.length) c57) := frz (Cs_mono (Stm.reps_le hext2.le _) (by simpa using hct)) (by omega) (by omega) hnc hcm hcl
    refine S_pair 52 51 58 J J J J ?_;refine S_pick [58, 50, 1, 2, 3, 7, 11, 15, 40, 43, 41, 1] J ?_;refine S_again ⟨i + 1, A6, c6, q ++ [⟨A53, c53, .slice A57 (0 + W.procs[i].todo.length) c57, W.procs[i]⟩], G2⟩ ⟨by simp only; omega, by simp; omega, hext.trans hext2, ⟨?_, ?_⟩, off_app' hoff h6⟩ (by simp only; omega) rfl ⟨⟨_, rfl, by simp [denO]⟩, ⟨_, rfl, rfl⟩, ⟨_, rfl, rfl⟩, ⟨_, rfl, rfl⟩, trivial⟩ ?_
    · simp only
      rw [List.take_succ_eq_append_getElem hil, List.map_append, hqd.1]; rfl
    · intro x hx
      rcases List.mem_append.1 hx with hx | hx
      · exact (QOk_le hext2.le hqd).2 x hx
      · rw [List.mem_singleton.1 hx]; exact ⟨hv, off_app h52 h53⟩
    · simp only [regsZ_snoc, procZ_snoc, List.length_append, List.length_singleton]
      exact .hp (.hp (.blk J J (.blk J J (.blk J J (.hp (.hp (.hp (.hp (.hp (.hp (.hp .nil)))))))))))
  · have hin : i = W.procs.length := by omega
    subst hin
    rw [List.take_length] at hqd
    refine S_capO 50 J fun hnP hmP _ => ?_;refine S_someO 50 J (by (try simp at hnP); (try simp only); omega) fun gP oP eA => ?_;obtain rfl : oP = 0 := off0_eq (hoff) eA
    subst eA
    refine S_rowB 50 74 J J J fun spP => ?_;refine S_capO 7 J fun hnC hmC _ => ?_;refine S_someO 7 J (by (try simp at hnC); (try simp only); omega) fun gC oC eA => ?_;obtain rfl : oC = 0 := off0_eq (o7) eA
    subst eA
    refine S_rowB 7 71 J J J fun spC => ?_;refine S_capO 11 J fun hnR hmR _ => ?_;refine S_someO 11 J (by (try simp at hnR); (try simp only); omega) fun gR oR eA => ?_;obtain rfl : oR = 0 := off0_eq (o11) eA
    subst eA
    refine S_rowB 11 72 J J J fun spR => ?_;refine S_capO 40 J fun hnS hmS _ => ?_;refine S_someO 40 J (by (try simp at hnS); (try simp only); omega) fun gS oS eA => ?_;obtain rfl : oS = 0 := off0_eq (o44) eA
    subst eA
    refine S_rowB 40 73 J J J fun spS => ?_;refine S_base0 15 J J ?_;refine S_base0 41 J J ?_;refine S_base0 43 J J ?_;obtain ⟨hqd1, hqd2⟩ := hqd
    obtain ⟨ps, w1, w2, w3, w4, w5, w6, w7, w8⟩ := W
    simp only at hq hqd1 hn hnP
    subst hqd1
    rcases (by rw [List.length_map] at hn; omega : q.length = 1 ∨ q.length = 2 ∨ q.length = 3) with h1 | h1 | h1
    · obtain ⟨⟨Aa, ca, ta, pa⟩, rfl⟩ := len1 h1
      refine S_unpair 51 500 600 J J ?_;refine S_capO 500 J fun hna hma _ => ?_;refine S_someO 500 J (by (try simp at hna); (try simp only); omega) fun ga oa eA => ?_;obtain rfl : oa = 0 := off0_eq ((hqd2 ⟨Aa, ca, ta, pa⟩ (by simp)).2) eA
      subst eA
      refine S_rowB 500 60 J J J fun spa => ?_
      simp only at hna hma
      exact RK [74, 71, 72, 73, 15, 41, 43, 60] (Res.c1 Tk Tryz.results47 J J) ⟨_, [ta], J, J, ⟨(hqd2 _ (List.mem_cons_self ..)).1, trivial⟩⟩ ⟨gP, gC, gR, gS, [ga], ⟨c5, spP, A15, c15, A41, c41, A43, c43, c7, spC, c11, spR, c44, spS, kg3 ca 3 3, sp3 spa [] []⟩, ⟨0 + w8.length, [] ++ saidC w8, 0 + w6.length, [] ++ intC w6, 0 + w7.length, [] ++ intC w7⟩, J, ⟨⟨by simpa using hnP, hmP⟩, ⟨by simpa using hnC, hmC⟩, ⟨by simpa using hnR, hmR⟩, ⟨by simpa using hnS, hmS⟩, kg3_ok ⟨by simpa using hna, hma⟩ ⟨by decide, by decide⟩ ⟨by decide, by decide⟩⟩, ⟨⟨by simp, by simp⟩, ⟨by simp, by simp⟩, by simp, by simp⟩, J, J, J⟩ J (Wsub 5 J J J J J J J J J J J J J J J J (Bs 3 J J J J .nil)) hext
    · obtain ⟨⟨Aa, ca, ta, pa⟩, ⟨Ab, cb, tb, pb⟩, rfl⟩ := len2 h1
      refine S_unpair 51 501 601 J J ?_;refine S_capO 501 J fun hnb hmb _ => ?_;refine S_someO 501 J (by (try simp at hnb); (try simp only); omega) fun gb ob eA => ?_;obtain rfl : ob = 0 := off0_eq ((hqd2 ⟨Ab, cb, tb, pb⟩ (by simp)).2) eA
      subst eA
      refine S_rowB 501 61 J J J fun spb => ?_
      simp only at hnb hmb
      refine S_unpair 601 500 600 J J ?_;refine S_capO 500 J fun hna hma _ => ?_;refine S_someO 500 J (by (try simp at hna); (try simp only); omega) fun ga oa eA => ?_;obtain rfl : oa = 0 := off0_eq ((hqd2 ⟨Aa, ca, ta, pa⟩ (by simp)).2) eA
      subst eA
      refine S_rowB 500 60 J J J fun spa => ?_
      simp only at hna hma
      exact RK [74, 71, 72, 73, 15, 41, 43, 60, 61] (Res.c1 Tk Tryz.results47 J J) ⟨_, [ta, tb], J, J, ⟨(hqd2 _ (List.mem_cons_self ..)).1, ⟨(hqd2 _ (List.mem_cons_of_mem _ (List.mem_cons_self ..))).1, trivial⟩⟩⟩ ⟨gP, gC, gR, gS, [ga, gb], ⟨c5, spP, A15, c15, A41, c41, A43, c43, c7, spC, c11, spR, c44, spS, kg3 ca cb 3, sp3 spa spb []⟩, ⟨0 + w8.length, [] ++ saidC w8, 0 + w6.length, [] ++ intC w6, 0 + w7.length, [] ++ intC w7⟩, J, ⟨⟨by simpa using hnP, hmP⟩, ⟨by simpa using hnC, hmC⟩, ⟨by simpa using hnR, hmR⟩, ⟨by simpa using hnS, hmS⟩, kg3_ok ⟨by simpa using hna, hma⟩ ⟨by simpa using hnb, hmb⟩ ⟨by decide, by decide⟩⟩, ⟨⟨by simp, by simp⟩, ⟨by simp, by simp⟩, by simp, by simp⟩, J, J, J⟩ J (Wsub 10 J J J J J J J J J J J J J J J J (Bs 3 J J J J (Bs 3 J J J J .nil))) hext
    · obtain ⟨⟨Aa, ca, ta, pa⟩, ⟨Ab, cb, tb, pb⟩, ⟨Ad, cd, td, pd⟩, rfl⟩ := len3 h1
      refine S_unpair 51 502 602 J J ?_;refine S_capO 502 J fun hnd hmd _ => ?_;refine S_someO 502 J (by (try simp at hnd); (try simp only); omega) fun gd od eA => ?_;obtain rfl : od = 0 := off0_eq ((hqd2 ⟨Ad, cd, td, pd⟩ (by simp)).2) eA
      subst eA
      refine S_rowB 502 62 J J J fun spd => ?_
      simp only at hnd hmd
      refine S_unpair 602 501 601 J J ?_;refine S_capO 501 J fun hnb hmb _ => ?_;refine S_someO 501 J (by (try simp at hnb); (try simp only); omega) fun gb ob eA => ?_;obtain rfl : ob = 0 := off0_eq ((hqd2 ⟨Ab, cb, tb, pb⟩ (by simp)).2) eA
      subst eA
      refine S_rowB 501 61 J J J fun spb => ?_
      simp only at hnb hmb
      refine S_unpair 601 500 600 J J ?_;refine S_capO 500 J fun hna hma _ => ?_;refine S_someO 500 J (by (try simp at hna); (try simp only); omega) fun ga oa eA => ?_;obtain rfl : oa = 0 := off0_eq ((hqd2 ⟨Aa, ca, ta, pa⟩ (by simp)).2) eA
      subst eA
      refine S_rowB 500 60 J J J fun spa => ?_
      simp only at hna hma
      exact RK [74, 71, 72, 73, 15, 41, 43, 60, 61, 62] (Res.c1 Tk Tryz.results47 J J) ⟨_, [ta, tb, td], J, J, ⟨(hqd2 _ (List.mem_cons_self ..)).1, ⟨(hqd2 _ (List.mem_cons_of_mem _ (List.mem_cons_self ..))).1, ⟨(hqd2 _ (List.mem_cons_of_mem _ (List.mem_cons_of_mem _ (List.mem_cons_self ..)))).1, trivial⟩⟩⟩⟩ ⟨gP, gC, gR, gS, [ga, gb, gd], ⟨c5, spP, A15, c15, A41, c41, A43, c43, c7, spC, c11, spR, c44, spS, kg3 ca cb cd, sp3 spa spb spd⟩, ⟨0 + w8.length, [] ++ saidC w8, 0 + w6.length, [] ++ intC w6, 0 + w7.length, [] ++ intC w7⟩, J, ⟨⟨by simpa using hnP, hmP⟩, ⟨by simpa using hnC, hmC⟩, ⟨by simpa using hnR, hmR⟩, ⟨by simpa using hnS, hmS⟩, kg3_ok ⟨by simpa using hna, hma⟩ ⟨by simpa using hnb, hmb⟩ ⟨by simpa using hnd, hmd⟩⟩, ⟨⟨by simp, by simp⟩, ⟨by simp, by simp⟩, by simp, by simp⟩, J, J, J⟩ J (Wsub 15 J J J J J J J J J J J J J J J J (Bs 3 J J J J (Bs 3 J J J J (Bs 3 J J J J .nil)))) hext
end
section
attribute [local irreducible] X Pure Mod
theorem shape {G : PH} {ps : List Prc} {ts : List Value} (h1 : 1 ≤ ps.length) (h3 : ps.length ≤ 3) (ht : Tds G ps ts) :
  (∃ p0 A0 c0, ps = [p0] ∧ ts = [.slice A0 p0.todo.length c0] ∧ Sts G p0.todo (.slice A0 p0.todo.length c0)) ∨
  (∃ p0 A0 c0 p1 A1 c1, ps = [p0, p1] ∧ ts = [.slice A0 p0.todo.length c0, .slice A1 p1.todo.length c1] ∧ Sts G p0.todo (.slice A0 p0.todo.length c0) ∧ Sts G p1.todo (.slice A1 p1.todo.length c1)) ∨
  (∃ p0 A0 c0 p1 A1 c1 p2 A2 c2, ps = [p0, p1, p2] ∧ ts = [.slice A0 p0.todo.length c0, .slice A1 p1.todo.length c1, .slice A2 p2.todo.length c2] ∧ Sts G p0.todo (.slice A0 p0.todo.length c0) ∧ Sts G p1.todo (.slice A1 p1.todo.length c1) ∧ Sts G p2.todo (.slice A2 p2.todo.length c2)) := by
 have one : ∀ {p : Prc} {v : Value}, Sts G p.todo v → ∃ A c, v = .slice A p.todo.length c := fun h => ⟨h.choose, h.choose_spec.choose, h.choose_spec.choose_spec.1⟩
 match ps, ts, ht, h1, h3 with
 | [p0], [v0], h, _, _ =>
  obtain ⟨A0, c0, rfl⟩ := one h.1
  exact .inl ⟨p0, A0, c0, J, J, h.1⟩
 | [p0, p1], [v0, v1], h, _, _ =>
  obtain ⟨A0, c0, rfl⟩ := one h.1
  obtain ⟨A1, c1, rfl⟩ := one h.2.1
  exact .inr (.inl ⟨p0, A0, c0, p1, A1, c1, J, J, h.1, h.2.1⟩)
 | [p0, p1, p2], [v0, v1, v2], h, _, _ =>
  obtain ⟨A0, c0, rfl⟩ := one h.1
  obtain ⟨A1, c1, rfl⟩ := one h.2.1
  obtain ⟨A2, c2, rfl⟩ := one h.2.2.1
  exact .inr (.inr ⟨p0, A0, c0, p1, A1, c1, p2, A2, c2, J, J, h.1, h.2.1, h.2.2.1⟩)
 | _ :: _ :: _ :: _ :: _, _, _, _, h3 => simp at h3
 | [], _, _, h1, _ => simp at h1
def codeP (W : Wld) (p : Prc) : Int :=
 if p.mode = 1 then 2
 else if p.mode = 2 then (if W.rm p.room = 0 then 0 else 2)
 else match p.todo with
  | [] => 1
  | s :: _ => if s.kind = 8 then (if W.rm s.a = 0 then 0 else 2) else 0
def codeOf (W : Wld) (who : Int) : Int :=
 if who < 0 ∨ (W.procs.length : Int) ≤ who then 3 else match W.procs[who.toNat]? with
  | some p => codeP W p
  | none => 3
def HeadOk (p : Prc) : Prop := (p.mode = 2 → p.room = 0 ∨ p.room = 1) ∧ ∀ s r, p.todo = s :: r → s.kind = 8 → s.a = 0 ∨ s.a = 1
theorem Sts_head {G : PH} {s : Stm} {r : List Stm} {A : Option Addr} {n c : Nat} (h : Sts G (s :: r) (.slice A n c)) :
  ∃ ad vx vy, A = some ad ∧ gcells G ad [.int .i64 s.kind, .int .i64 s.a, .int .i64 s.b, .int .i64 s.n, vx, vy] ∧ Sts G s.body vx ∧ Sts G s.els vy ∧ I64 s.kind ∧ I64 s.a ∧ I64 s.b ∧ I64 s.n := by
 obtain ⟨ad, cs, rfl, h1, h2⟩ := Sr_at h (k := 0) (by simp)
 rw [show (0 : Nat) * 6 = 0 from rfl, add_zero'] at h1
 obtain ⟨k, a, b, n, x, y⟩ := s
 obtain ⟨vx, vy, rfl, i1, i2, i3, i4, hx, hy⟩ := Stm.rep_iff.1 h2
 exact ⟨ad, vx, vy, J, h1, hx, hy, i1, i2, i3, i4⟩
end
section
attribute [local irreducible] X Pure Mod
def outP (p : Prc) : Prc := { p with todo := cpL p.todo 4 }
def Wld.out (W : Wld) : Wld := { W with procs := W.procs.map outP }
structure Fin3 (W : Wld) : Prop where
 n1 : 1 ≤ W.procs.length
 n3 : W.procs.length ≤ 3
 sd : W.said.length ≤ 1000000
 q0 : W.q0.length ≤ 1000000
 q1 : W.q1.length ≤ 1000000
 td : ∀ p ∈ W.procs, p.todo.length ≤ 1000000
theorem c_l3Out (W : Wld) (v : Value) (G : PH) (hW : WG G W v) (hF : Fin3 W) : Mod Tryz.prog 30 [v] G emptyHP (NPost W.out) := by
 have hW0 := hW
 obtain ⟨vp, vc, vr, vs, vd, rfl, hpr, hce, hro, hsg, hsd⟩ := hW
 obtain ⟨Ap, cp, rfl, _⟩ := id hpr
 obtain ⟨ps, w1, w2, w3, w4, w5, w6, w7, w8⟩ := W
 have hn1 := hF.n1
 have hn3 := hF.n3
 simp only at hn1 hn3 hpr hsg hsd
 refine Mod.intro Tryz.func30 Tryz.ntmps30 J J fun w S => ?_;refine Va J J ?_;refine S_box J J J J J fun b1 => ?_;refine Va J J ?_;refine AZ ZT_ok J J J J fun b2 => ?_;refine Va J J ?_;refine RF J (by simp; intro h; simp [h] at hn1) ?_;refine Va J J ?_;refine S_callN 20 Tryz.call47 (c_l3Copy _ _ G hW0 ⟨hn1, hn3⟩ ⟨hF.sd, hF.q0, hF.q1⟩ hF.td) J J J ?_;rintro v1 G1 A1 ⟨cs, ts, rfl, rfl, htd⟩ hext1
 refine S_newHP 20 J J ?_;refine S_csV 20 J ?_;rintro bp bc br bs kp asd ksd kc kr ks rfl
 refine Va J J ?_;refine AZ ZT_ok J J J J fun b3 => ?_;refine Va J J ?_;refine S_V2P 3 20 21 J J J J J J ?_;refine S_reE 3 (.val (.pointer (some ⟨b3, 0, none⟩))) J J ?_
 rcases shape hn1 hn3 htd with ⟨p0, A0, c0, rfl, rfl, s0⟩ | ⟨p0, A0, c0, p1, A1, c1, rfl, rfl, s0, s1⟩ | ⟨p0, A0, c0, p1, A1, c1, p2, A2, c2, rfl, rfl, s0, s1, s2⟩
 ·refine OpP 21 3 J J J J fun bp bc br bs bg kp sp asd ksd aq0 kq0 aq1 kq1 kc spc kr spr ks sps kg spg hbg hmk => ?_; obtain ⟨g0, rfl⟩ := len1 hbg; clear hbg; refine NM J J ?_; dsimp only [wEnts, wCels, procCs, regEs, WX.of, vi]
  refine S_unroll 1 ?_;refine Va J J ?_;refine RT J J ?_;refine Va J J ?_;refine Ds J J J ?_;refine Da J J ?_;refine D_sole 9 J J (N_call 9 Tryz.call60 (Cp_all _ 4 _ _ s0 (by omega)) J J J J J J J J J J ?_)
  rintro v9 G9 hv0 hx0
  obtain ⟨A9, c9, rfl, _⟩ := id hv0
  refine Da J J ?_;refine Ns 12 J J J J J J J J J ?_;refine DD ?_;refine Va J J ?_;refine S_add J J J J (by omega) ?_;refine Va J J ?_;refine S_next ?_;refine Va J J ?_;refine RF J J ?_;refine Va J J ?_;exact RK (wKeys 1) (Res.c1 Tk Tryz.results30 J J) ⟨_, [_], J, J, hv0, trivial⟩ (Wvp [_] kg spg J ‹_› J J J J J J J J J) J (Wsub 5 J J J J J J J J J J J J J J J J (Bs 3 J J J J .nil)) (hext1.trans hx0)
 ·refine OpP 21 3 J J J J fun bp bc br bs bg kp sp asd ksd aq0 kq0 aq1 kq1 kc spc kr spr ks sps kg spg hbg hmk => ?_; obtain ⟨g0, g1, rfl⟩ := len2 hbg; clear hbg; refine NM J J ?_; dsimp only [wEnts, wCels, procCs, regEs, WX.of, vi]
  refine S_unroll 2 ?_;refine Va J J ?_;refine RT J J ?_;refine Va J J ?_;refine Ds J J J ?_;refine Da J J ?_;refine D_sole 9 J J (N_call 9 Tryz.call60 (Cp_all _ 4 _ _ s0 (by omega)) J J J J J J J J J J ?_)
  rintro v9 G9 hv0 hx0
  obtain ⟨A9, c9, rfl, _⟩ := id hv0
  refine Da J J ?_;refine Ns 12 J J J J J J J J J ?_;refine DD ?_;refine Va J J ?_;refine S_add J J J J (by omega) ?_;refine Va J J ?_;refine S_next ?_;refine Va J J ?_;refine RT J J ?_;refine Va J J ?_;refine Ds J J J ?_;refine Da J J ?_;refine D_sole 9 J J (N_call 9 Tryz.call60 (Cp_all _ 4 _ _ (Sts_le hx0.le s1) (by omega)) J J J J J J J J J J ?_)
  rintro v9 G10 hv1 hx1
  obtain ⟨A9, c9, rfl, _⟩ := id hv1
  refine Da J J ?_;refine Ns 12 J J J J J J J J J ?_;refine DD ?_;refine Va J J ?_;refine S_add J J J J (by omega) ?_;refine Va J J ?_;refine S_next ?_;refine Va J J ?_;refine RF J J ?_;refine Va J J ?_;exact RK (wKeys 2) (Res.c1 Tk Tryz.results30 J J) ⟨_, [_, _], J, J, Sts_le hx1.le hv0, hv1, trivial⟩ (Wvp [_, _] kg spg J ‹_› J J J J J J J J J) J (Wsub 10 J J J J J J J J J J J J J J J J (Bs 3 J J J J (Bs 3 J J J J .nil))) ((hext1.trans hx0).trans hx1)
 ·refine OpP 21 3 J J J J fun bp bc br bs bg kp sp asd ksd aq0 kq0 aq1 kq1 kc spc kr spr ks sps kg spg hbg hmk => ?_; obtain ⟨g0, g1, g2, rfl⟩ := len3 hbg; clear hbg; refine NM J J ?_; dsimp only [wEnts, wCels, procCs, regEs, WX.of, vi]
  refine S_unroll 3 ?_;refine Va J J ?_;refine RT J J ?_;refine Va J J ?_;refine Ds J J J ?_;refine Da J J ?_;refine D_sole 9 J J (N_call 9 Tryz.call60 (Cp_all _ 4 _ _ s0 (by omega)) J J J J J J J J J J ?_)
  rintro v9 G9 hv0 hx0
  obtain ⟨A9, c9, rfl, _⟩ := id hv0
  refine Da J J ?_;refine Ns 12 J J J J J J J J J ?_;refine DD ?_;refine Va J J ?_;refine S_add J J J J (by omega) ?_;refine Va J J ?_;refine S_next ?_;refine Va J J ?_;refine RT J J ?_;refine Va J J ?_;refine Ds J J J ?_;refine Da J J ?_;refine D_sole 9 J J (N_call 9 Tryz.call60 (Cp_all _ 4 _ _ (Sts_le hx0.le s1) (by omega)) J J J J J J J J J J ?_)
  rintro v9 G10 hv1 hx1
  obtain ⟨A9, c9, rfl, _⟩ := id hv1
  refine Da J J ?_;refine Ns 12 J J J J J J J J J ?_;refine DD ?_;refine Va J J ?_;refine S_add J J J J (by omega) ?_;refine Va J J ?_;refine S_next ?_;refine Va J J ?_;refine RT J J ?_;refine Va J J ?_;refine Ds J J J ?_;refine Da J J ?_;refine D_sole 9 J J (N_call 9 Tryz.call60 (Cp_all _ 4 _ _ (Sts_le (hx0.le.trans hx1.le) s2) (by omega)) J J J J J J J J J J ?_)
  rintro v9 G11 hv2 hx2
  obtain ⟨A9, c9, rfl, _⟩ := id hv2
  refine Da J J ?_;refine Ns 12 J J J J J J J J J ?_;refine DD ?_;refine Va J J ?_;refine S_add J J J J (by omega) ?_;refine Va J J ?_;refine S_next ?_;refine Va J J ?_;refine RF J J ?_;refine Va J J ?_;exact RK (wKeys 3) (Res.c1 Tk Tryz.results30 J J) ⟨_, [_, _, _], J, J, Sts_le (hx1.le.trans hx2.le) hv0, Sts_le hx2.le hv1, hv2, trivial⟩ (Wvp [_, _, _] kg spg J ‹_› J J J J J J J J J) J (Wsub 15 J J J J J J J J J J J J J J J J (Bs 3 J J J J (Bs 3 J J J J (Bs 3 J J J J .nil)))) (((hext1.trans hx0).trans hx1).trans hx2)
end
section
attribute [local irreducible] X Pure Mod
theorem c_CloneInt (v : Value) (n : Nat) (xs : List Value) (G : PH) (h : Sx G 1 v n xs) (h1 : ∀ u ∈ xs, u.oneCell' = true) : Pure Tryz.prog 61 [v] G fun v' G' => Sx (newp G G') 1 v' n xs := by
 obtain ⟨A, c, rfl, hn, hnc, hcm, hlen, hrow⟩ := h
 refine Pure.intro Tryz.func61 Tryz.ntmps61 J J fun w => ?_; refine Va J J ?_
 cases A with
 | none =>
  refine S_valV J J J (V_eqNil Tk J J) ?_;refine Va J J ?_;refine RT J J ?_;refine Va J J ?_;refine S_retp (Res.t1 Tryz.results61 J J) XR ⟨none, 0, ?_, by omega, ?_, by simp [maxLen], hlen, ?_⟩
  ·rcases hrow with rfl | ⟨a, h, _⟩
   ·rfl
   ·cases h
  ·rcases hrow with rfl | ⟨a, h, _⟩
   ·exact Nat.le_refl _
   ·cases h
  ·rcases hrow with rfl | ⟨a, h, _⟩
   ·exact .inl J
   ·cases h
 | some a =>
  refine S_valV J J J (V_eqNil Tk J J) ?_;refine Va J J ?_;refine RF J J ?_;refine Va J J ?_;refine S_emptyO Tk 5 J J J J fun A => ?_;refine Va J J ?_;refine S_appO Tk 5 J J J J J J J J J J J (fun _ _ => J) (src_G hlen (by
   rcases hrow with h | ⟨a', h, h2⟩
   ·exact .inl h
   ·exact .inr ⟨a', h, h2⟩)) h1 (by simp only; omega) (by simp only [maxLen]; omega) (Nat.le_refl _) fun A' c' => ?_
  refine Va J J ?_;refine S_freezeR 5 J J (Nat.le_refl _) fun G' hext hnc' hcm' hcells => ?_;refine S_retp (Res.t1 Tryz.results61 J J) hext ⟨A', c', by simp [denO], hn, by simpa using hnc', hcm', hlen, ?_⟩
  simpa using hcells
theorem c_CloneIntN (v : Value) (n : Nat) (xs : List Value) (G : PH) (h : Sx G 1 v n xs) (h1 : ∀ u ∈ xs, u.oneCell' = true) : Mod Tryz.prog 61 [v] G emptyHP fun v' G' A' => ∃ A c base, v' = .slice A n c ∧ G' = G ∧ A' = rowO base 3 1 A n c xs := by
 obtain ⟨A, c, rfl, hn, hnc, hcm, hlen, hrow⟩ := h
 refine Mod.intro Tryz.func61 Tryz.ntmps61 J J fun w S => ?_;refine Va J J ?_
 cases A with
 | none =>
  obtain rfl : n = 0 := by rcases hrow with h | ⟨a, h, _⟩; exact h; cases h
  obtain rfl : xs = [] := List.eq_nil_of_length_eq_zero (by simpa using hlen)
  refine S_valV J J J (V_eqNil Tk J J) ?_;refine Va J J ?_;refine RT J J ?_;refine Va J J ?_;refine S_nilO 5 (base := w.heap.size) (e := 3) (size := 1) ?_;exact S_retm 5 (Res.t1 Tryz.results61 J J) J XR ⟨none, 0, _, J, J, J⟩
 | some a =>
  refine S_valV J J J (V_eqNil Tk J J) ?_;refine Va J J ?_;refine RF J J ?_;refine Va J J ?_;refine S_emptyO Tk 5 J J J J fun A => ?_;refine Va J J ?_;refine S_appO Tk 5 J J J J J J J J J J J (fun _ _ => J) (src_G hlen (by
   rcases hrow with h | ⟨a', h, h2⟩
   ·exact .inl h
   ·exact .inr ⟨a', h, h2⟩)) h1 (by simp only; omega) (by simp only [maxLen]; omega) (Nat.le_refl _) fun A' c' => ?_
  refine Va J J ?_;refine S_retm 5 (Res.t1 Tryz.results61 J J) J XR ⟨A', c', w.heap.size, ?_, J, ?_⟩
  ·simp
  ·simp; rfl
theorem c_CloneStmN (v : Value) (n : Nat) (xs : List Value) (G : PH) (h : Sx G 6 v n xs) (h1 : ∀ u ∈ xs, u.oneCell' = true) : Mod Tryz.prog 165 [v] G emptyHP fun v' G' A' => ∃ A c base, v' = .slice A n c ∧ G' = G ∧ A' = rowO base 83 6 A n c xs := by
 obtain ⟨A, c, rfl, hn, hnc, hcm, hlen, hrow⟩ := h
 refine Mod.intro Tryz.func165 Tryz.ntmps165 J J fun w S => ?_;refine Va J J ?_
 cases A with
 | none =>
  obtain rfl : n = 0 := by rcases hrow with h | ⟨a, h, _⟩; exact h; cases h
  obtain rfl : xs = [] := List.eq_nil_of_length_eq_zero (by simpa using hlen)
  refine S_valV J J J (V_eqNil Tk J J) ?_;refine Va J J ?_;refine RT J J ?_;refine Va J J ?_;refine S_nilO 5 (base := w.heap.size) (e := 83) (size := 6) ?_;exact S_retm 5 (Res.t1 Tryz.results165 J J) J XR ⟨none, 0, _, J, J, J⟩
 | some a =>
  refine S_valV J J J (V_eqNil Tk J J) ?_;refine Va J J ?_;refine RF J J ?_;refine Va J J ?_;refine S_emptyO Tk 5 J J J J fun A => ?_;refine Va J J ?_;refine S_appO Tk 5 J J J J J J J J J J J (fun _ _ => J) (src_G hlen (by
   rcases hrow with h | ⟨a', h, h2⟩
   ·exact .inl h
   ·exact .inr ⟨a', h, h2⟩)) h1 (by simp only; omega) (by simp only [maxLen]; omega) (Nat.le_refl _) fun A' c' => ?_
  refine Va J J ?_;refine S_retm 5 (Res.t1 Tryz.results165 J J) J XR ⟨A', c', w.heap.size, ?_, J, ?_⟩
  ·simp
  ·simp; rfl
theorem c_Grow (n : Nat) (G : PH) (hn : n ≤ 3000000000) : Mod Tryz.prog 163 [.slice none 0 0, .int .i64 n] G emptyHP fun v G' A' => ∃ A c base, v = .slice A 0 c ∧ G' = G ∧ n ≤ c ∧ A' = rowO base 83 6 A 0 c [] := by
 refine Mod.intro Tryz.func163 Tryz.ntmps163 J J fun w S => ?_;refine Va J J ?_;refine RF J (by simp) ?_;refine Va J J ?_;refine S_valV J J J (V_cap Tk J J) ?_;refine Va J J ?_;refine S_subI J J J J (by omega) ?_;refine S_subI J J J J (by omega) ?_;refine Va J J ?_
 by_cases h0 : n = 0
 ·subst h0
  refine RF J J ?_;refine Va J J ?_;refine S_nilO 5 (base := w.heap.size) (e := 83) (size := 6) ?_;exact S_retm 5 (Res.t1 Tryz.results163 J J) J XR ⟨none, 0, w.heap.size, J, J, Nat.le_refl _, J⟩
 ·refine RT J (by simp; omega) ?_
  refine Va J J ?_;refine S_valV J J J (V_cap Tk J J) ?_;refine S_valV J J J (V_slice0 Tk J J J J) ?_;refine Va J J ?_
  refine S_growNil Tk 5 (n := n) J J J J J u_int J J J (by show some _ = some _; congr 3 <;> omega) (by omega) (by simp only [maxLen]; omega) (by simp only; omega) fun A c hc => ?_
  refine Va J J ?_;refine S_valV J J J (V_slice0 Tk J J J J) ?_;refine Va J J ?_;exact S_retm 5 (Res.t1 Tryz.results163 J J) J XR ⟨A, c, w.heap.size, J, J, hc, J⟩
theorem c_Concat (v v1 v2 : Value) (n1 n2 : Nat) (xs1 xs2 : List Value) (G : PH) (h : Sx G 1 v 2 [v1, v2]) (h1 : Sx G 6 v1 n1 xs1) (h2 : Sx G 6 v2 n2 xs2) (o1 : ∀ u ∈ xs1, u.oneCell' = true) (o2 : ∀ u ∈ xs2, u.oneCell' = true) (hsum : n1 + n2 ≤ 1000000000) :
  Pure Tryz.prog 162 [v] G fun v' G' => Sx (newp G G') 6 v' (n1 + n2) (xs1 ++ xs2) := by
 obtain ⟨A, c, rfl, hn, hnc, hcm, hlen, hrow⟩ := h
 obtain ⟨A1, c1, rfl, hn1, hnc1, hcm1, hlen1, hrow1⟩ := h1
 obtain ⟨A2, c2, rfl, hn2, hnc2, hcm2, hlen2, hrow2⟩ := h2
 obtain ⟨ad, rfl, hcells⟩ : ∃ ad, A = some ad ∧ gcells G ad [.slice A1 n1 c1, .slice A2 n2 c2] := by
  rcases hrow with h | h
  ·omega
  ·exact h
 refine Pure.intro Tryz.func162 Tryz.ntmps162 J J fun w => ?_; refine Va J J ?_;refine S_unroll 2 ?_;refine Va J J ?_;refine RT J J ?_;refine Va J J ?_;refine S_index Tk J J J J J J (by omega) (by omega) ?_;refine S_load Tk J J J J J (by simpa [add_zero'] using hcells.1) ?_;refine Va J J ?_;refine S_add J J J J (by omega) ?_;refine Va J J ?_;refine RF J (by simp) ?_;refine Va J J ?_;refine S_add J J J J (by omega) ?_
 refine Va J J ?_;refine S_next ?_;refine Va J J ?_;refine RT J J ?_;refine Va J J ?_;refine S_index Tk J J J J J J (by omega) (by omega) ?_;refine S_load Tk J J J J J (by simpa using hcells.2.1) ?_;refine Va J J ?_;refine S_add J J J J (by omega) ?_;refine Va J J ?_;refine RF J (by simp; omega) ?_;refine Va J J ?_;refine S_add J J J J (by omega) ?_;refine Va J J ?_;refine S_next ?_;refine Va J J ?_
 refine RF J J ?_;refine Va J J ?_;refine S_newE 7 ?_;refine S_callM 7 Tryz.call163 (c_Grow (n1 + n2) _ (by omega)) J J (by show some [Value.slice none 0 0, Value.int .i64 (0 + (n1 : Int) + n2)] = _; rw [show ((0 : Int) + n1 + n2) = ((n1 + n2 : Nat) : Int) by omega]) rfl (fun _ => rfl) ?_;rintro v' G' A' ⟨A, cg, base, rfl, rfl, hcg, rfl⟩ hext
 refine S_rebase 7 (fun _ h => h) J J ?_;refine Va J J ?_;refine S_unroll 2 ?_;refine Va J J ?_;refine RT J J ?_;refine Va J J ?_;refine S_index Tk J J J J J J (by omega) (by omega) ?_;refine S_load Tk J J J J J (by simpa [add_zero'] using hcells.1) ?_;refine Va J J ?_;refine S_appO Tk 7 J J J J J J J J J J J (fun _ _ => J) (src_G hlen1 hrow1) o1 (by simp only; omega) (by simp only [maxLen]; omega) (Nat.le_refl _) fun A1' c1' => ?_
 refine Va J J ?_;refine S_add J J J J (by omega) ?_;refine Va J J ?_;refine S_next ?_;refine Va J J ?_;refine RT J J ?_;refine Va J J ?_;refine S_index Tk J J J J J J (by omega) (by omega) ?_;refine S_load Tk J J J J J (by simpa using hcells.2.1) ?_;refine Va J J ?_;refine S_appO Tk 7 J J J J J J J J J J J (fun _ _ => J) (src_G hlen2 hrow2) o2 (by simp only; omega) (by simp only [maxLen]; omega) (Nat.le_refl _) fun A2' c2' => ?_
 refine Va J J ?_;refine S_add J J J J (by omega) ?_;refine Va J J ?_;refine S_next ?_;refine Va J J ?_;refine RF J J ?_;refine Va J J ?_;refine S_freezeR 7 J J (Nat.le_refl _) fun G' hext' hnc' hcm' hcl => ?_;refine S_retp (Res.t1 Tryz.results162 J J) hext' ⟨A2', c2', by simp, hsum, by simpa using hnc', hcm', by rw [List.length_append, hlen1, hlen2, Nat.add_mul], ?_⟩
 simpa using hcl
end
section
attribute [local irreducible] X Pure Mod
theorem c_copyStmts_of (L : List Stm) (hb : ∀ k (hk : k < L.length) v G, Sts G L[k].body v → Pure Tryz.prog 63 [v] G fun v' G' => Sts G' L[k].body v') (he : ∀ k (hk : k < L.length) v G, Sts G L[k].els v → Pure Tryz.prog 63 [v] G fun v' G' => Sts G' L[k].els v')
  (v : Value) (G : PH) (hL : Sts G L v) : Pure Tryz.prog 63 [v] G fun v' G' => Sts G' L v' := by
 obtain ⟨A, c, rfl, hn, hc1, hc2, hr⟩ := id hL
 refine Pure.intro Tryz.func63 Tryz.ntmps63 J J fun w => ?_;refine S_row0 (base := w.heap.size) (e := 83) (size := 6) 3 ?_;refine Va J J ?_;refine S_loop (α := Nat × PH × Value × List Value) (fun x => x.1 ≤ L.length ∧ PH.ext w.heap.size G x.2.1 ∧ Cs 6 (Stm.rep x.2.1) (L.take x.1) x.2.2.2) (fun x => L.length - x.1) []
  (fun x => [(8, .val (.int .i64 x.1)), (6, .val (.slice A L.length c)), (7, .val (.int .i64 L.length)), (3, .val x.2.2.1)]) (fun x => [.hp 3 (rowHP w.heap.size 83 6 x.2.2.1 x.1 x.2.2.2)]) (fun x => x.2.1) (0, G, .slice none 0 0, []) ⟨Nat.zero_le _, PH.ext.refl _ _, rfl⟩ rfl
  ⟨⟨_, rfl, rfl⟩, ⟨_, rfl, rfl⟩, ⟨_, rfl, rfl⟩, ⟨_, rfl, rfl⟩, trivial⟩ (.hp .nil) ?_
 rintro ⟨k, G1, out, xs⟩ ⟨hk, hext, hcs⟩
 simp only at hk hext hcs ⊢
 refine Va J J ?_
 refine S_condp J (fun h => ?_) (fun h => ?_) <;> refine Va J J ?_
 ·have hkl : k < L.length := by omega
  obtain ⟨ad, cs, rfl, hcs1, hrep⟩ := Sr_at (Sts_le hext.le hL) hkl
  have hbk := hb k hkl
  have hek := he k hkl
  rcases hs : L[k] with ⟨q1, q2, q3, q4, x, y⟩
  rw [hs] at hrep hbk hek
  obtain ⟨vx, vy, rfl, i1, i2, i3, i4, hx, hy⟩ := Stm.rep_iff.1 hrep
  obtain ⟨Ax, cx, rfl, _⟩ := id hx
  obtain ⟨Ay, cy, rfl, _⟩ := id hy
  refine S_index Tk J J J J J J (by omega) (by omega) ?_;refine Va J J ?_;refine S_loadA Tk J J J J J (by simpa using hcs1) ?_;refine Va J J ?_;refine AZ ZT_ok J J J J fun b => ?_;refine Va J J ?_;refine Ds J J J ?_;refine Da J J ?_;refine D_sole 2 J J (N_call 2 Tryz.call63 (hbk _ _ hx) J J J J J J J J J J ?_)
  rintro vb G2 hvb hext2
  obtain ⟨Ab, cb, rfl, _⟩ := id hvb
  refine Da J J ?_;refine D_sole 5 J J (N_call 5 Tryz.call63 (hek _ _ (Sts_le hext2.le hy)) J J J J J J J J J J ?_)
  rintro ve G3 hve hext3
  obtain ⟨Ae, ce, rfl, _⟩ := id hve
  refine Da J J ?_;refine Ns 7 J J J J J J J J J ?_;refine Da J J ?_;refine Ns 9 J J J J J J J J J ?_;refine DD ?_;refine Va J J ?_;refine S_slice Tk ZT_ok J J J J (by decide) (by decide) J J J J fun b2 => ?_;refine S_app Tk ZT_ok 3 22 J J J J J J J J J J J J J J J (fun _ => J) (by simp only; omega) (by unfold maxLen; omega) (Nat.le_refl _) fun g cap hcap => ?_;refine Va J J ?_;refine S_add J J J J (by omega) ?_
  refine Va J J ?_
  have hle : G1.le G3 := hext2.le.trans hext3.le
  refine S_again (k + 1, G3, _, _) ⟨by simp only; omega, (hext.trans hext2).trans hext3, ?_⟩ (by simp only; omega) rfl ⟨⟨_, rfl, rfl⟩, ⟨_, rfl, rfl⟩, ⟨_, rfl, rfl⟩, ⟨_, rfl, rfl⟩, trivial⟩ (.drop (.drop (.hp .nil)))
  simp only
  rw [List.take_succ_eq_append_getElem hkl]
  refine Cs_append (Cs_mono (fun s _ cs h => Stm.rep_le hle s cs h) hcs) ?_ J
  rw [hs]
  exact Stm.rep_iff.2 ⟨_, _, J, i1, i2, i3, i4, Sts_le hext3.le hvb, hve⟩
 ·refine S_freeze 3 J J (Nat.le_refl _) fun G' hext' hv => ?_
  have hkL : k = L.length := by omega
  refine S_retP Tryz.results63 J J (hext.trans hext') ?_
  rw [hkL, List.take_length] at hcs
  exact Sr_of (Cs_mono (fun s _ cs h => Stm.rep_le hext'.le s cs h) hcs) hkL hn (by decide) hv
mutual
theorem c_copyStm : ∀ (s : Stm), (∀ v G, Sts G s.body v → Pure Tryz.prog 63 [v] G fun v' G' => Sts G' s.body v') ∧ (∀ v G, Sts G s.els v → Pure Tryz.prog 63 [v] G fun v' G' => Sts G' s.els v')
 | .mk k a b n x y => ⟨fun v G h => c_copyStmts x v G h, fun v G h => c_copyStmts y v G h⟩
theorem c_copyAll : ∀ (L : List Stm), ∀ k (hk : k < L.length), (∀ v G, Sts G L[k].body v → Pure Tryz.prog 63 [v] G fun v' G' => Sts G' L[k].body v') ∧ (∀ v G, Sts G L[k].els v → Pure Tryz.prog 63 [v] G fun v' G' => Sts G' L[k].els v')
 | [], k, hk => absurd hk (by simp)
 | s :: L, 0, _ => c_copyStm s
 | s :: L, k + 1, hk => c_copyAll L k (by simpa using hk)
theorem c_copyStmts : ∀ (L : List Stm) (v : Value) (G : PH), Sts G L v → Pure Tryz.prog 63 [v] G fun v' G' => Sts G' L v'
 | L, v, G, h => c_copyStmts_of L (fun k hk v G h => (c_copyAll L k hk).1 v G h) (fun k hk v G h => (c_copyAll L k hk).2 v G h) v G h
end
end
section
attribute [local irreducible] X Pure Mod
theorem c_CloneU (l : List Int) (v : Value) (G : PH) (h : IntsU G l v) : Pure Tryz.prog 61 [v] G fun v' G' => IntsU G' l v' := by
  obtain ⟨xs, hx, hc⟩ := Sr_Sx (rep := intU) (sz := 1) (fun n cs h => by rw [show cs = [.int .i64 n] from h]; rfl) h
  obtain rfl := Cs_intU_eq hc
  refine (c_CloneInt v _ _ G hx (intC1 _)).mono fun v' G' _ h' => ?_;obtain ⟨A, c, rfl, h2, h3, h4, h5, h6⟩ := h'
  refine Sx_Sr ⟨A, c, J, h2, h3, h4, h5, ?_⟩ J hc
  rcases h6 with h6 | ⟨a, h6, h7⟩
  · exact .inl h6
  · exact .inr ⟨a, h6, gcells_le (newp_le _ _) h7⟩
theorem c_CloneSay (v : Value) (n : Nat) (xs : List Value) (G : PH) (h : Sx G 2 v n xs) (h1 : ∀ u ∈ xs, u.oneCell' = true) : Pure Tryz.prog 62 [v] G fun v' G' => Sx (newp G G') 2 v' n xs := by
  obtain ⟨A, c, rfl, hn, hnc, hcm, hlen, hrow⟩ := h
  refine Pure.intro Tryz.func62 Tryz.ntmps62 J J fun w => ?_; refine Va J J ?_
  cases A with
  | none =>
    refine S_valV J J J (V_eqNil Tk J J) ?_;refine Va J J ?_;refine RT J J ?_;refine Va J J ?_;refine S_retp (Res.t1 Tryz.results62 J J) XR ⟨none, 0, ?_, by omega, ?_, by simp [maxLen], hlen, ?_⟩
    · rcases hrow with rfl | ⟨a, h, _⟩
      · rfl
      · cases h
    · rcases hrow with rfl | ⟨a, h, _⟩
      · exact Nat.le_refl _
      · cases h
    · rcases hrow with rfl | ⟨a, h, _⟩
      · exact .inl J
      · cases h
  | some a =>
    refine S_valV J J J (V_eqNil Tk J J) ?_;refine Va J J ?_;refine RF J J ?_;refine Va J J ?_;refine S_emptyO Tk 5 J J J J fun A => ?_;refine Va J J ?_;refine S_appO Tk 5 J J J J J J J J J J J (fun _ _ => J) (src_G hlen (by
      rcases hrow with h | ⟨a', h, h2⟩
      · exact .inl h
      · exact .inr ⟨a', h, h2⟩)) h1 (by simp only; omega) (by simp only [maxLen]; omega) (Nat.le_refl _) fun A' c' => ?_
    refine Va J J ?_;refine S_freezeR 5 J J (Nat.le_refl _) fun G' hext hnc' hcm' hcells => ?_;refine S_retp (Res.t1 Tryz.results62 J J) hext ⟨A', c', by simp [denO], hn, by simpa using hnc', hcm', hlen, ?_⟩
    simpa using hcells
theorem c_CloneSU (l : List (Int × Int)) (v : Value) (G : PH) (h : SaysU G l v) : Pure Tryz.prog 62 [v] G fun v' G' => SaysU G' l v' := by
  obtain ⟨xs, hx, hc⟩ := Sr_Sx (rep := sayU) (sz := 2) (fun n cs h => by rw [show cs = [.int .i64 n.1, .int .i64 n.2] from h]; rfl) h
  obtain rfl := Cs_sayU_eq hc
  refine (c_CloneSay v _ _ G hx (saidC_one _)).mono fun v' G' _ h' => ?_;obtain ⟨A, c, rfl, h2, h3, h4, h5, h6⟩ := h'
  refine Sx_Sr ⟨A, c, J, h2, h3, h4, h5, ?_⟩ J hc
  rcases h6 with h6 | ⟨a, h6, h7⟩
  · exact .inl h6
  · exact .inr ⟨a, h6, gcells_le (newp_le _ _) h7⟩
structure CY where
  b3 : Nat
  Ac : Option Addr
  cc : Nat
  Ar : Option Addr
  cr : Nat
  Ad : Option Addr
  cd : Nat
  G : PH
structure CL where
  i : Nat
  A : Option Addr
  c : Nat
  xs : List Value
  G : PH
theorem c_wcopy (W : Wld) (v : Value) (G : PH) (hW : WG G W v) (hn : W.procs.length ≤ 3) : Pure Tryz.prog 31 [v] G fun v' G' => WG G' W v' := by
  obtain ⟨vp, vc, vr, vs, vd, rfl, hpr, hce, hro, hsg, hsd⟩ := hW
  obtain ⟨Ac, cc, rfl, _⟩ := id hce
  obtain ⟨Ar, cr, rfl, _⟩ := id hro
  obtain ⟨Ad, cd, rfl, _⟩ := id hsd
  obtain ⟨Ap, cp, rfl, _⟩ := id hpr
  obtain ⟨As, cs', rfl, _⟩ := id hsg
  refine Pure.intro Tryz.func31 Tryz.ntmps31 J J fun w => ?_; refine Va J J ?_;refine S_box J J J J J fun b1 => ?_;refine Va J J ?_;refine AZ ZT_ok J J J J fun b2 => ?_;refine Va J J ?_;refine S_cut (α := CY) (fun y => PH.ext w.heap.size G y.G ∧ IntsU y.G [W.c0, W.c1, W.c2] (.slice y.Ac 3 y.cc) ∧ IntsU y.G [W.m0, W.m1] (.slice y.Ar 2 y.cr) ∧ SaysU y.G W.said (.slice y.Ad W.said.length y.cd)) (fun y => [(1, b1), (2, b2), (3, y.b3)]) (fun y => [(1, .ptr 1 0), (2, .ptr 2 0), (3, .ptr 3 0)])
    (fun y => [.blk 1 56 (vL [.slice Ap W.procs.length cp, .slice Ac [W.c0, W.c1, W.c2].length cc, .slice Ar [W.m0, W.m1].length cr, .slice As [W.q0, W.q1].length cs', .slice Ad W.said.length cd]), .blk 2 56 (vL [.slice none 0 0, .slice none 0 0, .slice none 0 0, .slice none 0 0, .slice none 0 0]),
      .blk 3 56 (vL [.slice none 0 0, .slice y.Ac 3 y.cc, .slice y.Ar 2 y.cr, .slice none 0 0, .slice y.Ad W.said.length y.cd])]) (fun y => y.G) ?_ ?_
  · refine Ds J J J ?_
    refine Da J J ?_
    repeat' (first
      | exact trivial
      | (refine D_list J ?_)
      | refine And.intro ?_ ?_
      | (refine N_call 2 Tryz.call61 (c_CloneU _ _ _ hce) J J J J J J J J J J ?_
         rintro v2 G2 hv2 hext2
         obtain ⟨A2, c2, rfl, _⟩ := id hv2
         refine Da J J ?_)
      | (refine N_call 5 Tryz.call61 (c_CloneU _ _ _ (IntsU_le hext2.le hro)) J J J J J J J J J J ?_
         rintro v5 G5 hv5 hext5
         obtain ⟨A5, c5, rfl, _⟩ := id hv5
         refine Da J J ?_)
      | (refine N_call 8 Tryz.call62 (c_CloneSU _ _ _ (Sr_mono (hext2.le.trans hext5.le) (fun _ _ _ h => h) hsd)) J J J J J J J J J J ?_
         rintro v8 G8 hv8 hext8
         obtain ⟨A8, c8, rfl, _⟩ := id hv8
         refine Da J J ?_)
      | (refine N_turn Tk 10 J J J J fun back => ?_
         refine AZ ZT_ok J J J J fun b3 => ?_;refine back _ _ _ _ (by kernel_rfl) ?_
         clear back
         refine Da J J ?_)
      | fail)
    all_goals (refine N_store Tk 11 rfl rfl rfl rfl rfl rfl rfl rfl (by kernel_rfl) ?_)
    all_goals refine D_adv Tk (by decide) rfl rfl ?_
    all_goals (refine DD ?_)
    all_goals refine S_adv Tk rfl 1000 rfl ?_
    all_goals (refine S_pick [1, 2, 3] rfl ?_)
    all_goals exact S_meet ⟨_, _, _, _, _, _, _, _⟩ ⟨(hext2.trans hext5).trans hext8, IntsU_le (hext5.trans hext8).le hv2, IntsU_le hext8.le hv5, hv8⟩ rfl ⟨⟨_, rfl, rfl⟩, ⟨_, rfl, rfl⟩, ⟨_, rfl, rfl⟩, trivial⟩ (.blk rfl rfl (.blk rfl rfl (.blk rfl rfl .nil)))
  rintro ⟨b3, A2, c2, A5, c5, A8, c8, G0⟩ ⟨hext0, hv2, hv5, hv8⟩
  simp only at hext0 hv2 hv5 hv8 ⊢
  refine S_nilO (base := w.heap.size) (e := 62) (size := 5) 20 ?_;refine Va J J ?_;refine S_loop (α := CL) (fun y => y.i ≤ W.procs.length ∧ PH.ext w.heap.size G0 y.G ∧ Cs 5 (prcRep y.G) (W.procs.take y.i) y.xs) (fun y => W.procs.length - y.i) [(1, b1), (2, b2), (3, b3)]
    (fun y => [(21, .val (.int .i64 (y.i : Nat))), (19, .val (.slice Ap W.procs.length cp)), (20, .val (.int .i64 (W.procs.length : Nat))), (1, .ptr 1 0), (2, .ptr 2 0), (3, .ptr 3 0)])
    (fun y => [.hp 20 (rowO w.heap.size 62 5 y.A y.i y.c y.xs), .blk 1 56 (vL [.slice Ap W.procs.length cp, .slice Ac [W.c0, W.c1, W.c2].length cc, .slice Ar [W.m0, W.m1].length cr, .slice As [W.q0, W.q1].length cs', .slice Ad W.said.length cd]), .blk 2 56 (vL [.slice none 0 0, .slice none 0 0, .slice none 0 0, .slice none 0 0, .slice none 0 0]),
      .blk 3 56 (vL [.slice y.A y.i y.c, .slice A2 3 c2, .slice A5 2 c5, .slice none 0 0, .slice A8 W.said.length c8])]) (fun y => y.G) ⟨0, none, 0, [], G0⟩ ⟨Nat.zero_le _, PH.ext.refl _ _, rfl⟩ rfl ?_ ?_ ?_
  · exact ⟨⟨_, J, J⟩, ⟨_, J, J⟩, ⟨_, J, J⟩, ⟨_, J, J⟩, ⟨_, J, J⟩, ⟨_, J, J⟩, trivial⟩
  · exact .hp (.blk J J (.blk J J (.blk J J .nil)))
  rintro ⟨i, A20, c20, xs, G1⟩ ⟨hi, hext, hcs⟩
  simp only at hi hext hcs ⊢
  refine Va J J ?_
  refine S_condp J (fun h => ?_) (fun h => ?_) <;> refine Va J J ?_
  · have hil : i < W.procs.length := by omega
    obtain ⟨ad, ys, rfl, hys, vr, vt, rfl, hvr, hvt⟩ := Sr_at (Sr_mono (hext0.trans hext).le (fun _ _ _ h => prcRep_le (hext0.trans hext).le h) hpr) hil
    obtain ⟨Ar3, cr3, rfl, _⟩ := id hvr
    obtain ⟨At3, ct3, rfl, _⟩ := id hvt
    refine S_index Tk J J J J J J (by omega) (by omega) ?_;refine Va J J ?_;refine S_loadA Tk J J J J J (by simpa using hys) ?_;refine Va J J ?_;refine AZ ZT_ok J J J J fun b5 => ?_;refine Va J J ?_;refine Ds J J J ?_;refine Da J J ?_;refine D_sole 2 J J (N_call 2 Tryz.call61 (c_CloneU _ _ _ hvr) J J J J J J J J J J ?_)
    rintro vb G2 hvb hext2
    obtain ⟨Ab, cb, rfl, _⟩ := id hvb
    refine Da J J ?_;refine D_sole 5 J J (N_call 5 Tryz.call63 (c_copyStmts _ _ _ (Sts_le hext2.le hvt)) J J J J J J J J J J ?_)
    rintro ve G3 hve hext3
    obtain ⟨Ae, ce, rfl, _⟩ := id hve
    refine Da J J ?_;refine Ns 7 J J J J J J J J J ?_;refine Da J J ?_;refine Ns 9 J J J J J J J J J ?_;refine DD ?_;refine Va J J ?_;refine S_slice Tk ZT_ok J J J J (by decide) (by decide) J J J J fun b36 => ?_;refine Va J J ?_
    refine S_app1 Tk 20 36 J J J J J J J J J J J J J J (by intro u hu; simp at hu; rcases hu with rfl | rfl | rfl | rfl | rfl <;> rfl) rfl (fun _ _ => rfl) (by omega) (Nat.le_refl _) fun A6 c6 => ?_
    refine Va J J ?_;refine S_add J J J J (by omega) ?_;refine Va J J ?_
    have hle := hext2.le.trans hext3.le
    refine S_again ⟨i + 1, A6, c6, xs ++ [.slice Ab [W.procs[i].r0, W.procs[i].r1, W.procs[i].r2].length cb, .slice Ae W.procs[i].todo.length ce, .int .i64 W.procs[i].mode, .int .i64 W.procs[i].on, .int .i64 W.procs[i].room], G3⟩ ⟨by simp only; omega, (hext.trans hext2).trans hext3, ?_⟩ (by simp only; omega) rfl ⟨⟨_, rfl, by simp [denO]⟩, ⟨_, rfl, rfl⟩, ⟨_, rfl, rfl⟩, ⟨_, rfl, rfl⟩, ⟨_, rfl, rfl⟩, ⟨_, rfl, rfl⟩, trivial⟩ ?_
    rotate_left
    · first | exact .drop (.hp (.blk J J (.blk J J (.blk J J .nil)))) | exact .drop (.drop (.hp (.blk J J (.blk J J (.blk J J .nil))))) | exact .hp (.blk J J (.blk J J (.blk J J .nil))) | fail
    simp only
    rw [List.take_succ_eq_append_getElem hil]
    exact Cs_append (Cs_mono (fun s _ cs h => prcRep_le hle h) hcs) ⟨_, _, J, IntsU_le hext3.le hvb, hve⟩ J
  have hin : i = W.procs.length := by omega
  subst hin
  rw [List.take_length] at hcs
  refine S_freezeR 20 J J (Nat.le_refl _) fun Gp hextp hncp hcmp hclp => ?_
  have hvp : Sr Gp 5 (prcRep Gp) W.procs _ := frz (Cs_mono (fun s _ cs h => prcRep_le hextp.le h) hcs) rfl (by omega) hncp hcmp hclp
  refine S_nilO (base := w.heap.size) (e := 52) (size := 1) 40 ?_;refine Va J J ?_;refine S_loop (α := CL) (fun y => y.i ≤ [W.q0, W.q1].length ∧ PH.ext w.heap.size Gp y.G ∧ Cs 1 (intsRep y.G) ([W.q0, W.q1].take y.i) y.xs) (fun y => [W.q0, W.q1].length - y.i) [(1, b1), (2, b2), (3, b3)]
    (fun y => [(43, .val (.int .i64 (y.i : Nat))), (41, .val (.slice As [W.q0, W.q1].length cs')), (42, .val (.int .i64 ([W.q0, W.q1].length : Nat))), (1, .ptr 1 0), (2, .ptr 2 0), (3, .ptr 3 0)])
    (fun y => [.hp 40 (rowO w.heap.size 52 1 y.A y.i y.c y.xs), .blk 2 56 (vL [.slice none 0 0, .slice none 0 0, .slice none 0 0, .slice none 0 0, .slice none 0 0]),
      .blk 3 56 (vL [.slice A20 W.procs.length c20, .slice A2 3 c2, .slice A5 2 c5, .slice y.A y.i y.c, .slice A8 W.said.length c8])]) (fun y => y.G) ⟨0, none, 0, [], Gp⟩ ⟨Nat.zero_le _, PH.ext.refl _ _, rfl⟩ rfl ?_ ?_ ?_
  · exact ⟨⟨_, J, J⟩, ⟨_, J, J⟩, ⟨_, J, J⟩, ⟨_, J, J⟩, ⟨_, J, J⟩, ⟨_, J, J⟩, trivial⟩
  · exact .hp (.drop (.blk J J (.blk J J .nil)))
  rintro ⟨i, A40, c40, xs4, G4⟩ ⟨hi, hext4, hcs4⟩
  simp only at hi hext4 hcs4 ⊢
  refine Va J J ?_
  refine S_condp J (fun h7 => ?_) (fun h7 => ?_) <;> refine Va J J ?_
  · have hil : i < [W.q0, W.q1].length := by omega
    have hle4 := ((hext0.trans hext).trans (hextp.trans hext4)).le
    obtain ⟨ad, ys, rfl, hys, vq, rfl, hvq⟩ := Sr_at (Sr_mono hle4 (fun _ _ _ h => intsRep_le hle4 h) hsg) hil
    obtain ⟨Aq, cq, rfl, _⟩ := id hvq
    refine S_index Tk J J J J J J (by omega) (by omega) ?_;refine Va J J ?_;refine S_load Tk J J J J J (by simpa using hys.1) ?_;refine Va J J ?_;refine Ds J J J ?_;refine Da J J ?_;refine D_sole 3 J J (N_call 3 Tryz.call61 (c_CloneU _ _ _ hvq) J J J J J J J J J J ?_)
    rintro vb G6 hvb hext6
    obtain ⟨Ab, cb, rfl, _⟩ := id hvb
    refine Da J J ?_;refine Nt 4 J J J J J J fun back => ?_;refine S_slice Tk ZT_ok J J J J (by decide) (by decide) J J J J fun b51 => ?_;refine back _ _ _ _ (by kernel_rfl) ?_; clear back
    refine Da J J ?_;refine Nt 5 J J J J J J fun back => ?_;refine S_app1 Tk 40 51 J J J J J J J J J J J J J J (by intro u hu; simp at hu; rcases hu with rfl; rfl) rfl (fun _ _ => rfl) (by omega) (Nat.le_refl _) fun A6 c6 => ?_;refine back _ _ _ _ (by kernel_rfl) ?_; clear back
    refine Da J J ?_;refine Ns 7 J J J J J J J J J ?_;refine DD ?_;refine Va J J ?_;refine S_add J J J J (by simp at hil; omega) ?_;refine Va J J ?_;refine S_again ⟨i + 1, A6, c6, xs4 ++ [.slice Ab ([W.q0, W.q1][i]).length cb], G6⟩ ⟨by simp only; omega, hext4.trans hext6, ?_⟩ (by simp only; omega) rfl ⟨⟨_, rfl, by simp [denO]⟩, ⟨_, rfl, rfl⟩, ⟨_, rfl, rfl⟩, ⟨_, rfl, rfl⟩, ⟨_, rfl, rfl⟩, ⟨_, rfl, rfl⟩, trivial⟩ ?_
    rotate_left
    · first | exact .drop (.hp (.blk J J (.blk J J .nil))) | exact .hp (.blk J J (.blk J J .nil)) | exact .drop (.drop (.hp (.blk J J (.blk J J .nil)))) | fail
    simp only
    rw [List.take_succ_eq_append_getElem hil]
    exact Cs_append (Cs_mono (fun s _ cs h => intsRep_le hext6.le h) hcs4) ⟨_, J, hvb⟩ J
  · have hin : i = [W.q0, W.q1].length := by omega
    subst hin
    rw [List.take_length] at hcs4
    refine S_freezeR 40 J J (Nat.le_refl _) fun Gf hextf hncf hcmf hclf => ?_
    have hvf : Sr Gf 1 (intsRep Gf) [W.q0, W.q1] _ := frz (Cs_mono (fun s _ cs h => intsRep_le hextf.le h) hcs4) rfl (by simp) hncf hcmf hclf
    have hle := hext4.le.trans hextf.le
    have hle2 := hext.le.trans (hextp.le.trans hle)
    exact S_retp (Res.c1 Tk Tryz.results31 rfl rfl) (((hext0.trans hext).trans (hextp.trans hext4)).trans hextf) ⟨_, _, _, _, _, rfl, Sr_mono hle (fun _ _ _ h => prcRep_le hle h) hvp, IntsU_le hle2 hv2, IntsU_le hle2 hv5, hvf, Sr_mono hle2 (fun _ _ _ h => h) hv8⟩
end
section
def Sl0 (G : PH) (row : Addr → Prop) (n : Nat) (v : Value) : Prop :=
 ∃ A c, v = .slice A n c ∧ n ≤ c ∧ c ≤ maxLen ∧ (n = 0 ∨ ∃ ad, A = some ad ∧ row ad)
mutual
/-- the six cells of a statement that came in -/
def Stm.rep0 (G : PH) : Stm → List Value → Prop
 | .mk k a b n x y, cs => ∃ vx vy, cs = [.int .i64 k, .int .i64 a, .int .i64 b, .int .i64 n, vx, vy] ∧ I64 k ∧ I64 a ∧ I64 b ∧ I64 n ∧ Sl0 G (Stm.row0 G x) x.length vx ∧ Sl0 G (Stm.row0 G y) y.length vy
def Stm.row0 (G : PH) : List Stm → Addr → Prop
 | [], _ => True
 | s :: r, ad => (∃ cs, gcells G ad cs ∧ Stm.rep0 G s cs) ∧ Stm.row0 G r (ad.add 6)
end
def Sr0 {α : Type} (G : PH) (sz : Nat) (rep : α → List Value → Prop) (L : List α) (v : Value) : Prop := Sl0 G (Rw G sz rep L) L.length v
theorem Sr0_at {α : Type} {G : PH} {sz : Nat} {rep : α → List Value → Prop} {L : List α} {A : Option Addr} {n c : Nat} (h : Sr0 G sz rep L (.slice A n c)) {k : Nat} (hk : k < L.length) : ∃ ad cs, A = some ad ∧ gcells G (ad.add (k * sz)) cs ∧ rep L[k] cs := by
 obtain ⟨A', c', e, _, _, h5⟩ := h
 cases e
 rcases h5 with h5 | ⟨ad, rfl, h6⟩
 ·omega
 ·obtain ⟨cs, h7, h8⟩ := Rw_at h6 hk
  exact ⟨ad, cs, J, h7, h8⟩
theorem Stm.row0_eq {G : PH} : ∀ (L : List Stm) (ad : Addr), Stm.row0 G L ad ↔ Rw G 6 (Stm.rep0 G) L ad
 | [], _ => by simp [Stm.row0, Rw]
 | s :: L, ad => by simp only [Stm.row0, Rw, Stm.row0_eq L]
abbrev Sts0 (G : PH) (L : List Stm) (v : Value) : Prop := Sr0 G 6 (Stm.rep0 G) L v
theorem Stm.rep0_iff {G : PH} {k a b n : Int} {x y : List Stm} {cs : List Value} : Stm.rep0 G (.mk k a b n x y) cs ↔ ∃ vx vy, cs = [.int .i64 k, .int .i64 a, .int .i64 b, .int .i64 n, vx, vy] ∧ I64 k ∧ I64 a ∧ I64 b ∧ I64 n ∧ Sts0 G x vx ∧ Sts0 G y vy := by
 have e : ∀ L : List Stm, Stm.row0 G L = Rw G 6 (Stm.rep0 G) L := fun L => funext fun ad => propext (Stm.row0_eq L ad)
 simp only [Stm.rep0, Sr0, e]
def stsRep0 (G : PH) (L : List Stm) (cs : List Value) : Prop := ∃ v, cs = [v] ∧ Sts0 G L v
abbrev Prg0 (G : PH) (p : List (List Stm)) (v : Value) : Prop := Sr0 G 1 (stsRep0 G) p v
mutual
/-- how many statements lie within -/
def Stm.cnt : Stm → Nat
 | .mk _ _ _ _ x y => cntL x + cntL y
def cntL : List Stm → Nat
 | [] => 0
 | s :: r => 1 + Stm.cnt s + cntL r
end
theorem len_cnt : ∀ L : List Stm, L.length ≤ cntL L
 | [] => by simp [cntL]
 | s :: r => by have := len_cnt r; simp only [cntL, List.length_cons]; omega
theorem cnt_mk (k a b n : Int) (x y : List Stm) : (Stm.mk k a b n x y).cnt = cntL x + cntL y := by simp [Stm.cnt]
def cntP : List (List Stm) → Nat
 | [] => 0
 | l :: r => 1 + cntL l + cntP r
theorem len_cntP : ∀ p : List (List Stm), p.length ≤ cntP p
 | [] => by simp [cntP]
 | s :: r => by have := len_cntP r; simp only [cntP, List.length_cons]; omega
theorem cntP_mem : ∀ {p : List (List Stm)} {l : List Stm}, l ∈ p → cntL l ≤ cntP p
 | s :: r, l, h => by
  rcases List.mem_cons.1 h with rfl | h
  ·simp only [cntP]; omega
  ·have := cntP_mem h; simp only [cntP]; omega
mutual
theorem sh_cntS : ∀ (s : Stm), s.cnt ≤ 1048576 → Stm.short s
 | .mk _ _ _ _ x y, h => by
  have h' : cntL x + cntL y ≤ 1048576 := by simpa [Stm.cnt] using h
  have hx := len_cnt x
  have hy := len_cnt y
  have a1 := sh_cntL x (by omega)
  have a2 := sh_cntL y (by omega)
  simp only [Stm.short]
  exact ⟨⟨by omega, a1⟩, by omega, a2⟩
theorem sh_cntL : ∀ (L : List Stm), cntL L ≤ 1048576 → shL L
 | [], _ => trivial
 | s :: r, h => by
  simp only [cntL] at h
  exact ⟨sh_cntS s (by omega), sh_cntL r (by omega)⟩
end
theorem Sh_cnt {L : List Stm} (h : cntL L ≤ 1048576) : Sh L := ⟨by have := len_cnt L; omega, sh_cntL L h⟩
theorem sts0_conv {G : PH} {L : List Stm} {v : Value} (hc : L.length ≤ 1048576) (hR : ∀ s ∈ L, ∀ cs, Stm.rep0 G s cs → Stm.rep G s cs) (h : Sts0 G L v) : Sts G L v := by
 obtain ⟨A, c, h1, h2, h3, h4⟩ := h
 refine ⟨A, c, h1, by omega, h2, h3, ?_⟩
 rcases h4 with h4 | ⟨ad, h4, h5⟩
 ·exact .inl h4
 ·exact .inr ⟨ad, h4, Rw_mono (PH.le.refl _) hR h5⟩
mutual
theorem rep0_okS {G : PH} : ∀ (s : Stm) (cs : List Value), s.cnt ≤ 1048576 → Stm.rep0 G s cs → Stm.rep G s cs
 | .mk k a b n x y, cs, hc, h => by
  have h' : cntL x + cntL y ≤ 1048576 := by simpa [Stm.cnt] using hc
  have hx := len_cnt x
  have hy := len_cnt y
  obtain ⟨vx, vy, e, h1, h2, h3, h4, h5, h6⟩ := Stm.rep0_iff.1 h
  exact Stm.rep_iff.2 ⟨vx, vy, e, h1, h2, h3, h4, sts0_conv (by omega) (rep0_okR x (by omega)) h5, sts0_conv (by omega) (rep0_okR y (by omega)) h6⟩
theorem rep0_okR {G : PH} : ∀ (L : List Stm), cntL L ≤ 1048576 → ∀ s ∈ L, ∀ cs, Stm.rep0 G s cs → Stm.rep G s cs
 | [], _, s, hs, _, _ => by cases hs
 | t :: L, hc, s, hs, cs, h => by
  simp only [cntL] at hc
  rcases List.mem_cons.1 hs with e | hs'
  ·rw [e] at h ⊢; exact rep0_okS t cs (by omega) h
  ·exact rep0_okR L (by omega) s hs' cs h
end
theorem rep0_okL {G : PH} {L : List Stm} {v : Value} (hc : cntL L ≤ 1048576) (h : Sts0 G L v) : Sts G L v :=
 sts0_conv (by have := len_cnt L; omega) (rep0_okR L hc) h
theorem prg0_ok {G : PH} {p : List (List Stm)} {v : Value} (hc : cntP p ≤ 1048576) (h : Prg0 G p v) : Prg G p v := by
 have hl := len_cntP p
 obtain ⟨A, c, h1, h2, h3, h4⟩ := h
 refine ⟨A, c, h1, by omega, h2, h3, ?_⟩
 rcases h4 with h4 | ⟨ad, h4, h5⟩
 ·exact .inl h4
 ·refine .inr ⟨ad, h4, Rw_mono (PH.le.refl _) (fun l hl cs h => ?_) h5⟩
  obtain ⟨u, h6, h7⟩ := h
  have := cntP_mem hl
  exact ⟨u, h6, rep0_okL (by omega) h7⟩
def szR (c : Nat) (l : Int) : Int := if (c : Int) ≤ l then l - c else -1
theorem szR_add (c d : Nat) (l : Int) : szR (c + d) l = if szR c l < 0 then -1 else szR d (szR c l) := by
 unfold szR
 split <;> split <;> (try split) <;> omega
end
section
section
variable {C : Ctx} {k : List It} {E : Env} {ι : Ids} {L : List Ent} {G : PH} {all : Array Oper} {l : List Oper}
def over (o : Nat) (cs xs : List Value) : List Value := xs.take o ++ cs ++ xs.drop (o + cs.length)
theorem over_len {o : Nat} {cs xs : List Value} (h : o + cs.length ≤ xs.length) : (over o cs xs).length = xs.length := by
 unfold over; simp; omega
theorem over_mid {o off m : Nat} {cs cur xs : List Value} (hx : (cur.drop off).take m = xs) (hm : xs.length = m) (hfit : o + cs.length ≤ m) :
  ((over (off + o) cs cur).drop off).take m = over o cs xs := by
 have hc : off + m ≤ cur.length ∨ m = 0 := by
  have := congrArg List.length hx
  simp only [List.length_take, List.length_drop] at this
  omega
 rcases hc with hc | hm0
 ·apply List.ext_getElem?
  intro i
  subst hx
  unfold over
  simp only [List.getElem?_take, List.getElem?_drop, List.getElem?_append, List.length_take, List.length_drop, List.length_append]
  by_cases h1 : i < m
  ·rw [if_pos h1]
   by_cases h2 : i < o
   ·rw [if_pos (by omega), if_pos (by omega), if_pos (by omega), if_pos (by omega), if_pos (by omega), if_pos (by omega), if_pos (by omega)]
   ·by_cases h3 : i < o + cs.length
    ·rw [if_pos (by omega), if_neg (by omega), if_pos (by omega), if_neg (by omega)]
     congr 1; omega
    ·rw [if_neg (by omega), if_neg (by omega), if_pos (by omega)]
     congr 1; omega
  ·rw [if_neg h1]
   rw [if_neg (by omega)]
   rw [if_neg (by omega)]
 ·have : cs = [] := List.eq_nil_of_length_eq_zero (by omega)
  subst this
  have : xs = [] := List.eq_nil_of_length_eq_zero (by omega)
  subst this
  simp [over, hm0]
theorem S_storeOA {T : Tab} (hT : tabOk C.P T) (κ : Nat) {base e sz t m : Nat} {os : List Nat} {x y : Operand} {s : Sym} {gb off o n c ty : Nat} {cs : List Value} {xs : List Value} {L' : List Ent} {pos : String} {af : Array Edge} {g : Option (Nat × Bool)} {ad : Addr}
  (hL : getH κ L = some (rowO base e sz (some ⟨gb, off, none⟩) n c xs)) (hL' : setH κ (rowO base e sz (some ⟨gb, off, none⟩) n c (over o cs xs)) L = some L')
  (hx : ev E x = some (.val (.pointer (some ad)))) (had : ad = ⟨gb, off + o, none⟩) (hy : ev E y = some s) (hys : denO ι s = some (.agg cs.toArray)) (hone : ∀ u ∈ cs, u.oneCell' = true) (ht : lookT t T = some ⟨.agg, m, os⟩) (hl : cs.length = m) (hm1 : Nat.ble 1 m = true) (ho : o + m ≤ xs.length) (hg : guardOf all E g = .on)
  (hk : X C (.ops all l :: k) E ι L' G) : X C (.ops all (⟨none, .store t x y, ty, pos, af, g⟩ :: l) :: k) E ι L G := by
 intro a w h1 h2 h3 h4
 have hm2 := Nat.le_of_ble_eq_true hm1
 obtain ⟨S, hA, hSG, hturn⟩ := h4.turn hL
 obtain ⟨q1, q2, q3, q4⟩ := hA
 rcases q4 with ⟨q, _⟩ | ⟨g', off', cur, q, q0, q5, q6, q7, q8⟩
 ·cases q
 cases q
 have ex := ev_sound h3 hx
 have ey := ev_sound h3 hy
 subst had
 rw [hys] at ey
 simp only [denO, Option.some.injEq] at ex ey
 have hfit : off + o + cs.length ≤ cur.toList.length := by
  have h6 : xs.length ≤ cur.toList.length - off := by
   have := congrArg List.length q7
   simp only [List.length_take, List.length_drop] at this
   omega
  omega
 obtain ⟨w', hr, hh', hoth, e1, e2, e3, e4⟩ := run_storeCells_blk (P := C.P) (w := w) (b := gb) (o := off + o) (ty := e) (cs := cur.toList) (vs := cs) (by simpa using q5) hfit hone
 have hrun : (execOp a.eval ⟨none, .store t x y, ty, pos, af, g⟩).run C.P w = .ok .skip w' := by
  have hcells : (a.eval y).cells = cs.toArray := by
   rw [← ey]; rfl
  simp only [execOp, ← ex]
  simp [Instr.storeAt, Instr.sureAddr, storeVar, tyOk_size (hT _ _ ht), hcells, hl, hr]
 refine wpE_skipv (guardOf_on h3 hg) (by rintro c h; cases h) hrun ?_;refine hk _ _ h1 h2 h3 ?_;refine hturn _ _ G w' S hL' ?_ (fun b o' hb => ?_) XR (fun b hb => ⟨hSG b hb, .inl hb⟩) e1 e2 e3 (by rw [e4]; exact Nat.le_refl _) fun b _ hn => hoth b fun h => hn ((q8 b).2 h)
 ·refine ⟨by rw [over_len (by omega)]; exact q1, q2, q3, .inr ⟨gb, off, _, J, q0, hh', ?_, ?_, q8⟩⟩
  ·simp at hfit ⊢; omega
  ·rw [over_len (by omega)]
   simp only [List.toList_toArray]
   exact over_mid q7 J (by omega)
 ·rw [hoth b (by rintro rfl; have := hSG _ ((q8 _).2 rfl); rw [this] at hb; cases hb)]
  exact h4.emb b o' hb
end
end
section
attribute [local irreducible] X Pure Mod
theorem over_app {o m : Nat} {cs ds zs : List Value} (hd : ds.length = o) (hz : zs.length = cs.length) : over o cs (ds ++ repL (m + 1) zs) = ds ++ cs ++ repL m zs := by
 subst hd
 unfold over
 rw [List.take_left, repL, ← hz, ← List.append_assoc ds zs, ← List.length_append, List.drop_left]
theorem set_app {o m : Nat} {v z : Value} {ds : List Value} (hd : ds.length = o) : (ds ++ repL (m + 1) [z]).set o v = ds ++ [v] ++ repL m [z] := by
 subst hd
 rw [List.set_append_right _ _ (Nat.le_refl _), Nat.sub_self, repL]
 simp
def zStm : List Value := [.int .i64 0, .int .i64 0, .int .i64 0, .int .i64 0, .slice none 0 0, .slice none 0 0]
def ToS (s : Stm) : Prop := ∀ (cs : List Value) (G : PH), s.cnt ≤ 1048576 → Stm.rep G s cs → Pure Tryz.prog 49 [.agg cs.toArray] G fun v' G' => ∃ cs', v' = .agg cs'.toArray ∧ Stm.rep G' s cs'
def ToL (L : List Stm) : Prop := ∀ (v : Value) (G : PH), cntL L ≤ 1048576 → Sts G L v → Pure Tryz.prog 22 [v] G fun v' G' => Sts G' L v'
theorem c_toStmt (s : Stm) (hx : ToL s.body) (hy : ToL s.els) : ToS s := by
 intro cs G hc hrep
 obtain ⟨k, a, b, n, x, y⟩ := s
 obtain ⟨vx, vy, rfl, hk, ha, hb, hn, hvx, hvy⟩ := Stm.rep_iff.1 hrep
 simp only [Stm.body, Stm.els] at hx hy
 rw [cnt_mk] at hc
 have hcx := hx _ G (by omega) hvx
 obtain ⟨Ax, cx, rfl, _⟩ := id hvx
 obtain ⟨Ay, cy, rfl, _⟩ := id hvy
 refine Pure.intro Tryz.func49 Tryz.ntmps49 J J fun w => ?_; refine Va J J ?_;refine S_box J J J J J fun b1 => ?_;refine Va J J ?_;refine AZ ZT_ok J J J J fun b2 => ?_;refine Va J J ?_;refine AZ ZT_ok J J J J fun b3 => ?_;refine Va J J ?_;refine S_call Tryz.call22 hcx J J J ?_;rintro v1 G1 hv1 hext1
 obtain ⟨A1, c1, rfl, _⟩ := id hv1
 refine Va J J ?_;refine S_call Tryz.call22 (hy _ G1 (by omega) (Sts_le hext1.le hvy)) J J J ?_;rintro v2 G2 hv2 hext2
 obtain ⟨A2, c2, rfl, _⟩ := id hv2
 refine Va J J ?_;exact S_retp (Res.c1 Tk Tryz.results49 J J) (hext1.trans hext2) ⟨[_, _, _, _, _, _], J, Stm.rep_iff.2 ⟨_, _, J, hk, ha, hb, hn, Sts_le hext2.le hv1, hv2⟩⟩
theorem c_toStmtS (L : List Stm) (hs : ∀ k (hk : k < L.length), ToS L[k]) : ToL L := by
 intro v G hc hv
 have hln := len_cnt L
 obtain ⟨A, c, rfl, _⟩ := id hv
 refine Pure.intro Tryz.func22 Tryz.ntmps22 J J fun w => ?_; refine Va J J ?_;refine S_make Tk ZT_ok J J J J J J (by show 80 * L.length ≤ _; omega) (by omega) rfl rfl rfl fun bm => ?_;refine Va J J ?_;refine S_blkO 7 70 (base := w.heap.size) (n := L.length) (c := L.length) (o := 0) (sz := 6) (xs := repL L.length zStm) rfl rfl (denL_vL _ _) rfl (.inr (.inr ⟨rfl, fun _ h => h⟩)) (by rw [List.drop_zero]; exact List.take_of_length_le (by rw [repL_length]; exact Nat.le_refl _)) (repL_length _ _) (Nat.le_refl _) (by simp [maxLen]; omega) (by rw [repL_length]; simp) ?_
 refine S_loop (α := Nat × List Value × PH) (fun y => y.1 ≤ L.length ∧ PH.ext w.heap.size G y.2.2 ∧ Cs 6 (Stm.rep y.2.2) (L.take y.1) y.2.1) (fun y => L.length - y.1) []
  (fun y => [(4, .val (.int .i64 (y.1 : Nat))), (3, .val (.slice (some ⟨bm, 0, none⟩) L.length L.length)), (0, .val (.slice A L.length c))])
  (fun y => [.hp 70 (rowO w.heap.size 83 6 (some ⟨bm, 0, none⟩) L.length L.length (y.2.1 ++ repL (L.length - y.1) zStm))]) (fun y => y.2.2) (0, [], G) ⟨Nat.zero_le _, PH.ext.refl _ _, rfl⟩ rfl ⟨⟨_, rfl, rfl⟩, ⟨_, rfl, rfl⟩, ⟨_, rfl, rfl⟩, trivial⟩ (.hp .nil) ?_
 rintro ⟨k, ds, G1⟩ ⟨hk, hext, hcs⟩
 simp only at hk hext hcs ⊢
 refine Va J J ?_
 refine S_condp J (fun h5 => ?_) (fun h5 => ?_) <;> refine Va J J ?_
 ·have hkl : k < L.length := by omega
  obtain ⟨m, hm⟩ : ∃ m, L.length - k = m + 1 := ⟨L.length - k - 1, by omega⟩
  rw [hm]
  obtain ⟨ad, cs, rfl, hcell, hrep⟩ := Sr_at (Sts_le hext.le hv) hkl
  have hdl := Cs_length hcs
  rw [List.length_take, Nat.min_eq_left hk] at hdl
  have hck : L[k].cnt ≤ 1048576 := by
   have : ∀ (L : List Stm) (k : Nat) (hk : k < L.length), L[k].cnt ≤ cntL L := by
    intro L
    induction L with
    | nil => intro k hk; simp at hk
    | cons s r ih =>
     intro k hk
     cases k with
     | zero => simp only [cntL, List.getElem_cons_zero]; omega
     | succ k => have := ih k (by simpa using hk); simp only [cntL, List.getElem_cons_succ]; omega
   have := this L k hkl
   omega
  refine S_index Tk J J J J J J (by omega) (by omega) ?_;refine Va J J ?_;refine S_loadA Tk J J J J (Stm.rep_len hrep) hcell ?_;refine Va J J ?_;refine S_call Tryz.call49 (hs k hkl cs G1 hck hrep) J J J ?_;rintro v1 G2 ⟨cs1, rfl, hrep1⟩ hext2
  have hl1 := Stm.rep_len hrep1
  refine Va J J ?_;refine S_index Tk J J J J J J (by omega) (by omega) ?_;refine Va J J ?_;refine S_storeOA Tk 70 (o := k * 6) J J J (by simp [add_lit']) J J (Stm.rep_one _ _ hrep1) J hl1 J (by rw [List.length_append, hdl, repL_length]; show _ ≤ _ + (m + 1) * 6; omega) rfl ?_
  rw [over_app hdl (by rw [hl1]; rfl)]
  refine Va J J ?_;refine S_add J J J J (by omega) ?_;refine Va J J ?_;refine S_again (k + 1, ds ++ cs1, G2) ⟨by simp only; omega, hext.trans hext2, ?_⟩ (by simp only; omega) rfl ⟨⟨_, rfl, by simp [denO]⟩, ⟨_, rfl, rfl⟩, ⟨_, rfl, rfl⟩, trivial⟩ ?_
  ·simp only
   rw [List.take_succ_eq_append_getElem hkl]
   exact Cs_append (Cs_mono (fun s _ cs h => Stm.rep_le hext2.le s cs h) hcs) hrep1 hl1
  ·simp only [show L.length - (k + 1) = m by omega]
   exact .hp .nil
 ·have e0 : k = L.length := by omega
  subst e0
  rw [Nat.sub_self, repL, List.append_nil, List.take_length] at *
  refine S_freezeR 70 J J (Nat.le_refl _) fun Gf hextf hncf hcmf hclf => ?_;refine S_retp (Res.t1 Tryz.results22 J J) (hext.trans hextf) ?_;exact frz (Cs_mono (Stm.reps_le hextf.le _) hcs) J (by omega) hncf hcmf hclf
theorem ToL_of (L : List Stm) (h : ∀ k (hk : k < L.length), ToL L[k].body ∧ ToL L[k].els) : ToL L :=
 c_toStmtS L fun k hk => c_toStmt _ (h k hk).1 (h k hk).2
mutual
theorem ToL_stm : ∀ (s : Stm), ToL s.body ∧ ToL s.els
 | .mk k a b n x y => ⟨ToL_all x, ToL_all y⟩
theorem ToL_at : ∀ (L : List Stm) (k : Nat) (hk : k < L.length), ToL L[k].body ∧ ToL L[k].els
 | [], k, hk => absurd hk (by simp)
 | s :: L, 0, _ => ToL_stm s
 | s :: L, k + 1, hk => ToL_at L k (by simpa using hk)
theorem ToL_all : ∀ (L : List Stm), ToL L
 | L => ToL_of L (ToL_at L)
end
theorem c_toSS (p : List (List Stm)) (v : Value) (G : PH) (hv : Prg G p v) (hc : cntP p ≤ 1048576) : Pure Tryz.prog 8 [v] G fun v' G' => Prg G' p v' := by
 have hln := len_cntP p
 obtain ⟨A, c, rfl, _⟩ := id hv
 refine Pure.intro Tryz.func8 Tryz.ntmps8 J J fun w => ?_; refine Va J J ?_;refine S_make Tk ZT_ok J J J J J J (by show 24 * p.length ≤ _; omega) (by omega) rfl rfl rfl fun bm => ?_;refine Va J J ?_;refine S_blkO 7 70 (base := w.heap.size) (n := p.length) (c := p.length) (o := 0) (sz := 1) (xs := repL p.length [.slice none 0 0]) rfl rfl (denL_vL _ _) rfl (.inr (.inr ⟨rfl, fun _ h => h⟩)) (by rw [List.drop_zero]; exact List.take_of_length_le (by rw [repL_length]; exact Nat.le_refl _)) (repL_length _ _) (Nat.le_refl _) (by simp [maxLen]; omega) (by rw [repL_length]; simp) ?_
 refine S_loop (α := Nat × List Value × PH) (fun y => y.1 ≤ p.length ∧ PH.ext w.heap.size G y.2.2 ∧ Cs 1 (stsRep y.2.2) (p.take y.1) y.2.1) (fun y => p.length - y.1) []
  (fun y => [(4, .val (.int .i64 (y.1 : Nat))), (3, .val (.slice (some ⟨bm, 0, none⟩) p.length p.length)), (0, .val (.slice A p.length c))])
  (fun y => [.hp 70 (rowO w.heap.size 41 1 (some ⟨bm, 0, none⟩) p.length p.length (y.2.1 ++ repL (p.length - y.1) [.slice none 0 0]))]) (fun y => y.2.2) (0, [], G) ⟨Nat.zero_le _, PH.ext.refl _ _, rfl⟩ rfl ⟨⟨_, rfl, rfl⟩, ⟨_, rfl, rfl⟩, ⟨_, rfl, rfl⟩, trivial⟩ (.hp .nil) ?_
 rintro ⟨k, ds, G1⟩ ⟨hk, hext, hcs⟩
 simp only at hk hext hcs ⊢
 refine Va J J ?_
 refine S_condp J (fun h5 => ?_) (fun h5 => ?_) <;> refine Va J J ?_
 ·have hkl : k < p.length := by omega
  obtain ⟨m, hm⟩ : ∃ m, p.length - k = m + 1 := ⟨p.length - k - 1, by omega⟩
  rw [hm]
  obtain ⟨ad, cs, rfl, hcell, u, rfl, hu⟩ := Sr_at (Prg_le hext.le hv) hkl
  have hdl := Cs_length hcs
  rw [List.length_take, Nat.min_eq_left hk] at hdl
  have hck := cntP_mem (List.getElem_mem hkl)
  have hpk := List.take_succ_eq_append_getElem hkl
  have hto := ToL_all p[k] u G1 (by omega) hu
  generalize p[k] = q at hpk hto hu hck
  obtain ⟨A1, c1, rfl, _⟩ := id hu
  refine S_index Tk J J J J J J (by omega) (by omega) ?_;refine Va J J ?_;refine S_load Tk J J J J J (by simpa [add_zero'] using gcells_at hcell 0 _ J) ?_;refine Va J J ?_;refine S_call Tryz.call22 hto J J J ?_;rintro v1 G2 hv1 hext2
  obtain ⟨A2, c2, rfl, _⟩ := id hv1
  refine Va J J ?_;refine S_index Tk J J J J J J (by omega) (by omega) ?_;refine Va J J ?_;refine S_storeO Tk 70 (o := k) J J J (by simp [add_lit']) J J J J J (by rw [List.length_append, hdl, repL_length]; show _ < _ + (m + 1) * 1; omega) rfl ?_
  rw [set_app (by rw [hdl, Nat.mul_one])]
  refine Va J J ?_;refine S_add J J J J (by omega) ?_;refine Va J J ?_;refine S_again (k + 1, ds ++ [.slice A2 q.length c2], G2) ⟨by simp only; omega, hext.trans hext2, ?_⟩ (by simp only; omega) rfl ⟨⟨_, rfl, by simp [denO]⟩, ⟨_, rfl, rfl⟩, ⟨_, rfl, rfl⟩, trivial⟩ ?_
  ·simp only
   rw [hpk]
   exact Cs_append (Cs_mono (fun s _ cs h => stsRep_le hext2.le h) hcs) ⟨_, J, hv1⟩ J
  ·simp only [show p.length - (k + 1) = m by omega]
   exact .hp .nil
 ·have e0 : k = p.length := by omega
  subst e0
  rw [Nat.sub_self, repL, List.append_nil, List.take_length] at *
  refine S_freezeR 70 J J (Nat.le_refl _) fun Gf hextf hncf hcmf hclf => ?_;refine S_retp (Res.t1 Tryz.results8 J J) (hext.trans hextf) ?_;exact frz (Cs_mono (fun _ _ _ h => stsRep_le hextf.le h) hcs) J (by omega) hncf hcmf hclf
end
end Go.Proofs.YtcbdilccmjpnbaaGreatDoor
