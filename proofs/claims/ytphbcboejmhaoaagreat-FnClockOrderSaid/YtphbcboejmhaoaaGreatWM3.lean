/- Walks of the program's functions, one after the other (part 3); without conditions of their own. -/
import Derived.Test.YtphbcboejmhaoaaGreatWM2
import Derived.Lib.AppendZeros
set_option linter.unusedVariables false
set_option linter.unusedSimpArgs false
set_option maxRecDepth 100000
set_option maxHeartbeats 4000000
open Go.RowKit
namespace Go.Proofs.YtphbcboejmhaoaaGreat
section
def rowO (base e size : Nat) (A : Option Addr) (n c : Nat) (xs : List Value) : HP where
 holds w S := xs.length = n * size ∧ c ≤ maxLen ∧ n ≤ c ∧ ((A = none ∧ c = 0 ∧ ∀ b, ¬ S b) ∨ ∃ g off cur, A = some ⟨g, off, none⟩ ∧ base ≤ g ∧ w.heap[g]? = some (.cells cur e (0, 0)) ∧ off + c * size ≤ cur.size ∧ (cur.toList.drop off).take xs.length = xs ∧ ∀ b, S b ↔ b = g)
 loc w w' S h hs := by
  obtain ⟨h1, h2, h3, h4⟩ := h
  refine ⟨h1, h2, h3, ?_⟩
  rcases h4 with h4 | ⟨g, off, cur, q1, q0, q2, q3, q4, q5⟩
  ·exact .inl h4
  ·exact .inr ⟨g, off, cur, q1, q0, by rw [hs g ((q5 g).2 J)]; exact q2, q3, q4, q5⟩
 lt w S h b hb := by
  obtain ⟨h1, h2, h3, h4⟩ := h
  rcases h4 with h4 | ⟨g, off, cur, q1, q0, q2, q3, q4, q5⟩
  ·exact absurd hb (h4.2.2 b)
  ·rw [(q5 b).1 hb]; exact (Array.getElem?_eq_some_iff.1 q2).1
theorem add_lit' (g off n : Nat) : (⟨g, off, none⟩ : Addr).add n = ⟨g, off + n, none⟩ := by unfold Addr.add; split <;> simp_all
theorem cells_at {w : World} {g off e : Nat} {cur : Array Value} {xs : List Value} (hg : w.heap[g]? = some (.cells cur e (0, 0))) (ht : (cur.toList.drop off).take xs.length = xs) : ∀ j u, xs[j]? = some u → w.cell? ((⟨g, off, none⟩ : Addr).add j) = some u := by
 intro j u hj
 rw [add_lit']
 simp only [World.cell?, hg]
 rw [← ht] at hj
 rw [List.getElem?_take] at hj
 split at hj
 ·simpa using hj
 ·cases hj
def SrcOk (w : World) (sz : Nat) (v : Value) (m : Nat) (news : List Value) : Prop :=
 news.length = m * sz ∧ ∃ A c, v = .slice A m c ∧ (m = 0 ∨ ∃ a, A = some a ∧ ∀ j u, news[j]? = some u → w.cell? (a.add j) = some u)
theorem run_appendO {P : Program} (w : World) (base t ty e : Nat) (i : TypeInfo) (z : Value) (sz : Nat) (ht : P.underlying t = some (.slice e)) (hi : P.info? e = some i) (hz : i.zero = some z) (hsz : i.size = sz) (hzs : z.cells.size = sz) (hpos : 0 < sz)
  {A : Option Addr} {n c : Nat} {xs : List Value} {S : Nat → Prop} (hA : (rowO base e sz A n c xs).holds w S) {v : Value} {m : Nat} {news : List Value} (hs : SrcOk w sz v m news) (h1 : ∀ u ∈ news, u.oneCell' = true)
  (h63 : n + m ≤ maxLen) (hby : (n + m) * i.bytes ≤ 140737488355328) (hbase : base ≤ w.heap.size) :
  ∃ A' c' w' S', (Builtin.append_ #[t, t] ty #[.slice A n c, v]).run P w = .ok (.slice A' (n + m) c') w' ∧ (rowO base e sz A' (n + m) c' (xs ++ news)).holds w' S' ∧ (∀ b, S' b → S b ∨ b = w.heap.size) ∧
   w'.os = w.os ∧ w'.tape = w.tape ∧ w'.output = w.output ∧ w.heap.size ≤ w'.heap.size ∧ (∀ b, b < w.heap.size → ¬ S b → w'.heap[b]? = w.heap[b]?) ∧ (A' = A ∨ ∃ g, A' = some ⟨g, 0, none⟩) := by
 obtain ⟨hl, A2, c2, rfl, hsrc⟩ := hs
 obtain ⟨hxl, hcm, hnc, hcase⟩ := hA
 have hsmall : n + m ≤ 9223372036854775807 := by simp only [maxLen] at h63; omega
 rcases hsrc with rfl | ⟨a, rfl, hnews⟩
 ·-- nothing is appended
  have hn : news = [] := List.eq_nil_of_length_eq_zero (by simpa using hl)
  subst hn
  refine ⟨A, c, w, S, ?_, by simp only [Nat.add_zero, List.append_nil]; exact ⟨hxl, hcm, hnc, hcase⟩, fun b hb => .inl hb, rfl, rfl, rfl, Nat.le_refl _, fun _ _ _ => rfl, .inl rfl⟩
  have hf : ∀ w, (Builtin.firstCells i.size 0 (.slice A2 0 c2)).run P w = .ok #[] w := by
   intro w
   cases A2 with
   | none => exact run_firstCells_none (P := P) w i.size 0 0 c2
   | some a => exact run_firstCells_some (P := P) w i.size 0 a 0 c2 [] (by simp) (by simp)
  rcases hcase with ⟨rfl, rfl, _⟩ | ⟨g, off, cur, rfl, _, hg, hfit, _, _⟩
  ·obtain rfl : n = 0 := by omega
   simp [Builtin.append_, run_underlying ht, sizeOf, typeInfo, hi, Builtin.lenOf, hf]
  ·have hst : ∀ a, (storeCells a []).run P w = .ok () w := fun a => by simp [storeCells]
   simp [Builtin.append_, run_underlying ht, sizeOf, typeInfo, hi, Builtin.lenOf, hnc, hf, hst]
 ·subst hsz
  by_cases hm : m = 0
  ·subst hm
   have hn : news = [] := List.eq_nil_of_length_eq_zero (by simpa using hl)
   subst hn
   refine ⟨A, c, w, S, ?_, by simp only [Nat.add_zero, List.append_nil]; exact ⟨hxl, hcm, hnc, hcase⟩, fun b hb => .inl hb, rfl, rfl, rfl, Nat.le_refl _, fun _ _ _ => rfl, .inl rfl⟩
   have hf : ∀ w, (Builtin.firstCells i.size 0 (.slice (some a) 0 c2)).run P w = .ok #[] w := fun w => run_firstCells_some (P := P) w i.size 0 a 0 c2 [] (by simp) (by simp)
   rcases hcase with ⟨rfl, rfl, _⟩ | ⟨g, off, cur, rfl, _, hg, hfit, _, _⟩
   ·obtain rfl : n = 0 := by omega
    simp [Builtin.append_, run_underlying ht, sizeOf, typeInfo, hi, Builtin.lenOf, hf]
   ·have hst : ∀ a, (storeCells a []).run P w = .ok () w := fun a => by simp [storeCells]
    simp [Builtin.append_, run_underlying ht, sizeOf, typeInfo, hi, Builtin.lenOf, hnc, hf, hst]
  ·have grown : ∀ (old : Nat), (rowO base e i.size (some ⟨w.heap.size, 0, none⟩) (n + m) (grownCap w (n + m) old e) (xs ++ news)).holds (w.drew.alloc (.cells (xs.toArray ++ news.toArray ++ Builtin.zeroCells z.cells (grownCap w (n + m) old e - (n + m))) e)) (fun b => b = w.heap.size) := by
    intro old
    have hge := grownCap_ge w (n + m) old e
    have hcm' : grownCap w (n + m) old e ≤ maxLen := grownCap_le_maxLen w (n + m) old e h63
    refine ⟨by rw [List.length_append, hxl, hl, Nat.add_mul], hcm', hge, .inr ⟨_, 0, _, rfl, hbase, heap_alloc_new w.drew _, ?_, ?_, fun b => Iff.rfl⟩⟩
    ·simp only [Array.size_append, List.size_toArray, size_zeroCells, hzs, hxl, hl, ← Nat.add_mul]
     rw [Nat.zero_add]
     exact Nat.mul_le_mul_right _ (by omega)
    ·simp only [Array.toList_append, List.drop_zero]
     exact List.take_left
   have hold : ∀ old b, b < w.heap.size → (w.drew.alloc (.cells (xs.toArray ++ news.toArray ++ Builtin.zeroCells z.cells (grownCap w (n + m) old e - (n + m))) e)).heap[b]? = w.heap[b]? := fun old b hb => heap_alloc_old w.drew _ hb
   rcases hcase with ⟨rfl, rfl, hS⟩ | ⟨g, off, cur, rfl, hbg, hg, hfit, htake, hS⟩
   ·obtain rfl : n = 0 := by omega
    have hx : xs = [] := List.eq_nil_of_length_eq_zero (by simpa using hxl)
    subst hx
    have hr := run_append_nil (P := P) w t ty e i z ht hi hz a m c2 news hl hnews (by omega) (by omega) (by have hb := hby; simp only [Nat.zero_add] at hb; omega)
    have hgr := grown 0
    simp only [Nat.zero_add, List.nil_append, Array.empty_append] at hgr ⊢
    have hold0 := hold 0
    simp only [Nat.zero_add, List.nil_append, Array.empty_append] at hold0
    exact ⟨_, _, _, _, hr, hgr, fun b hb => .inr hb, rfl, rfl, rfl, by simp, fun b hb _ => hold0 b hb, .inr ⟨_, rfl⟩⟩
   ·by_cases hroom : n + m ≤ c
    ·have hf := run_firstCells_some (P := P) w i.size m a m c2 news hl hnews
     have hlen : off + n * i.size + news.length ≤ cur.size := by
      rw [hl, Nat.add_assoc, ← Nat.add_mul]
      exact Nat.le_trans (Nat.add_le_add_left (Nat.mul_le_mul_right _ hroom) _) hfit
     have hst := run_storeCells_at P g (off + n * i.size) e news 0 cur w hg (by simpa using hlen) h1
     simp only [Nat.add_zero] at hst
     refine ⟨some ⟨g, off, none⟩, c, w.setRow g (cur.toList.take (off + n * i.size) ++ news ++ cur.toList.drop (off + n * i.size + news.length)).toArray, S, ?_, ⟨by rw [List.length_append, hxl, hl, Nat.add_mul], hcm, hroom, .inr ⟨g, off, _, rfl, hbg, setRow_heap w g cur _ e _ hg, ?_, ?_, hS⟩⟩, fun b hb => .inl hb, rfl, rfl, rfl, by simp, fun b _ hb => setRow_other w g b _ (fun e => hb ((hS b).2 e)), .inl rfl⟩
     ·simp [Builtin.append_, run_underlying ht, sizeOf, typeInfo, hi, Builtin.lenOf, hroom, hf, add_lit', hst]
     ·simp only [List.size_toArray, List.length_append, List.length_take, List.length_drop, Array.length_toList]
      omega
     ·have hlc : off + n * i.size ≤ cur.toList.length := by rw [Array.length_toList]; omega
      have e1 : List.take (off + n * i.size) cur.toList = List.take off cur.toList ++ xs := by
       rw [List.take_add, ← hxl, htake]
      show (List.drop off (List.take (off + n * i.size) cur.toList ++ news ++ List.drop (off + n * i.size + news.length) cur.toList)).take (xs ++ news).length = xs ++ news
      rw [e1]
      have hoff : (List.take off cur.toList).length = off := by rw [List.length_take]; omega
      rw [List.append_assoc, List.append_assoc]
      have hd : List.drop off (List.take off cur.toList ++ (xs ++ (news ++ List.drop (off + n * i.size + news.length) cur.toList))) = xs ++ (news ++ List.drop (off + n * i.size + news.length) cur.toList) := by
       have := List.drop_left (l₁ := List.take off cur.toList) (l₂ := xs ++ (news ++ List.drop (off + n * i.size + news.length) cur.toList))
       rw [hoff] at this
       exact this
      rw [hd, ← List.append_assoc]
      exact List.take_left
    ·have holds : ∀ j u, xs[j]? = some u → w.cell? ((⟨g, off, none⟩ : Addr).add j) = some u := cells_at hg htake
     have hr := run_append_grow (P := P) w t ty e i z ht hi hz ⟨g, off, none⟩ n c xs hxl holds a m c2 news hl hnews (by omega) (by omega) (growslice_fits (by omega) hby)
     exact ⟨_, _, _, _, hr, grown c, fun b hb => .inr hb, rfl, rfl, rfl, by simp, fun b hb _ => hold c b hb, .inr ⟨_, rfl⟩⟩
section
variable {C : Ctx} {k : List It} {E : Env} {ι : Ids} {L : List Ent} {G : PH} {all : Array Oper} {l : List Oper}
theorem S_appOz {T : Tab} (hT : tabOk C.P T) (κ : Nat) {d t e sz' sz : Nat} {os os' : List Nat} {tk : TK} {zi : ZI} {s x : Operand} {sx : Sym} {ty : Nat} {pos : String} {af : Array Edge} {g : Option (Nat × Bool)} {base : Nat} {A : Option Addr} {vx : Value} {n m c : Nat} {xs news : List Value} {L' : Option Addr → Nat → List Ent}
  (ht : lookT t T = some ⟨.slc e, sz', os'⟩) (he : lookT e T = some ⟨tk, sz, os⟩) (hz : lookZ e T.zs = some zi) (hzs : zi.zs.length = sz) (hsz : Nat.ble 1 sz = true)
  (hg : guardOf all E g = .on) (hN : Nat.ble (d + 1) C.n = true) (hs : ev E s = some (.val (.slice A n c))) (hx : ev E x = some sx) (hdx : denO ι sx = some vx)
  (hL : getH κ L = some (rowO base e sz A n c xs)) (hL' : ∀ A' c', setH κ (rowO base e sz A' (n + m) c' (xs ++ news)) L = some (L' A' c'))
  (hsrc : ∀ w, SatW C ι L G w → SrcOk w sz vx m news) (h1 : ∀ u ∈ news, u.oneCell' = true) (hby : (n + m) * zi.b ≤ 140737488355328) (h63 : n + m ≤ maxLen) (hbase : base ≤ C.w0.heap.size)
  (hk : ∀ A' c', (A' = A ∨ ∃ g, A' = some ⟨g, 0, none⟩) → X C (.ops all l :: k) ((d, .val (.slice A' (n + m) c')) :: E) ι (L' A' c') G) : X C (.ops all (⟨some d, .call ⟨.builtin .append, #[s, x], #[t, t]⟩, ty, pos, af, g⟩ :: l) :: k) E ι L G := by
 intro a w g1 g2 g3 g4
 have hdn : d < a.tmps.size := by rw [g2]; exact Nat.le_of_ble_eq_true hN
 have es := ev_sound g3 hs
 have ex := ev_sound g3 hx
 rw [hdx] at ex
 simp only [denO, Option.some.injEq] at es ex
 have hu := tyOk_slice (hT _ _ ht) rfl
 obtain ⟨dsc, inf, _, hi, _, hsize, _⟩ := tyOk_parts (hT _ _ he)
 obtain ⟨inf', vz, hi', hv, hb, hc, _⟩ := viewZ_eq (hT.z _ _ hz)
 rw [hi] at hi'; cases hi'
 obtain ⟨S2, hA, hS2G, hturn⟩ := g4.turn hL
 obtain ⟨A', c', w', S', hr, hA', hS', q1, q2, q3, q4, q5, q6⟩ := run_appendO (P := C.P) w base t ty e inf vz sz hu hi hv hsize (by rw [hc]; simpa using hzs) (Nat.le_of_ble_eq_true hsz) hA (hsrc w g4) h1 h63 (by rw [hb]; exact hby) (Nat.le_trans hbase g4.size)
 have hrun : (execOp a.eval ⟨some d, .call ⟨.builtin .append, #[s, x], #[t, t]⟩, ty, pos, af, g⟩).run C.P w = .ok (.value (.slice A' (n + m) c')) w' := by
  simp only [execOp, resolve, invoke, List.map_toArray, List.map_cons, List.map_nil, ← es, ← ex]
  simp [builtin, hr]
 refine wpE_val (guardOf_on g3 hg) (by intro c h; cases h) hrun ?_;refine hk A' c' q6 _ _ g1 (by simp [Act.put, g2]) (g3.put hdn J) ?_
 have hGlt : ∀ b o, G b = some o → b < w.heap.size := fun b o hb => (Array.getElem?_eq_some_iff.1 (g4.emb b o hb)).1
 refine hturn _ _ G w' S' (hL' A' c') hA' ?_ XR ?_ q1 q2 q3 q4 q5
 ·intro b o hb
  rw [q5 b (hGlt b o hb) (fun h => by rw [hS2G b h] at hb; cases hb)]
  exact g4.emb b o hb
 ·intro b hb
  rcases hS' b hb with h | h
  ·exact ⟨hS2G b h, .inl h⟩
  ·subst h
   refine ⟨?_, .inr (Nat.le_refl _)⟩
   cases hq : G w.heap.size with
   | none => rfl
   | some o => have := hGlt _ _ hq; omega
theorem S_appO {T : Tab} (hT : tabOk C.P T) (κ : Nat) {d t e sz' sz : Nat} {os os' : List Nat} {tk : TK} {zi : ZI} {s x : Operand} {sx : Sym} {ty : Nat} {pos : String} {af : Array Edge} {g : Option (Nat × Bool)} {base : Nat} {A : Option Addr} {vx : Value} {n m c : Nat} {xs news : List Value} {L' : Option Addr → Nat → List Ent}
  (ht : lookT t T = some ⟨.slc e, sz', os'⟩) (he : lookT e T = some ⟨tk, sz, os⟩) (hz : lookZ e T.zs = some zi) (hzs : zi.zs.length = sz) (hsz : Nat.ble 1 sz = true)
  (hg : guardOf all E g = .on) (hN : Nat.ble (d + 1) C.n = true) (hs : ev E s = some (.val (.slice A n c))) (hx : ev E x = some sx) (hdx : denO ι sx = some vx)
  (hL : getH κ L = some (rowO base e sz A n c xs)) (hL' : ∀ A' c', setH κ (rowO base e sz A' (n + m) c' (xs ++ news)) L = some (L' A' c'))
  (hsrc : ∀ w, SatW C ι L G w → SrcOk w sz vx m news) (h1 : ∀ u ∈ news, u.oneCell' = true) (hby : (n + m) * zi.b ≤ 140737488355328) (h63 : n + m ≤ maxLen) (hbase : base ≤ C.w0.heap.size)
  (hk : ∀ A' c', X C (.ops all l :: k) ((d, .val (.slice A' (n + m) c')) :: E) ι (L' A' c') G) : X C (.ops all (⟨some d, .call ⟨.builtin .append, #[s, x], #[t, t]⟩, ty, pos, af, g⟩ :: l) :: k) E ι L G :=
 S_appOz hT κ ht he hz hzs hsz hg hN hs hx hdx hL hL' hsrc h1 hby h63 hbase fun A' c' _ => hk A' c'
theorem src_blk (j : Nat) {o ty b m c sz : Nat} {ns : List Cel} {cs : List Value} (hB : lookB j L = some (ty, ns)) (hd : denL ι ns = some cs) (hb : lookI j ι = some b) {news : List Value} (hn : (cs.drop o).take (m * sz) = news) (hl : news.length = m * sz) :
  ∀ w, SatW C ι L G w → SrcOk w sz (.slice (some ⟨b, o, none⟩) m c) m news := by
 intro w hw
 refine ⟨hl, some ⟨b, o, none⟩, c, J, .inr ⟨_, J, ?_⟩⟩
 obtain ⟨Ss, ho, _⟩ := hw.own
 obtain ⟨b', vs, hb', hdv, hh⟩ := owns_blk ho hB
 rw [hb] at hb'; cases hb'
 rw [hd] at hdv; cases hdv
 refine cells_at hh ?_
 rw [hl]; simpa using hn
theorem src_G {A : Option Addr} {m c sz : Nat} {news : List Value} (hl : news.length = m * sz) (h : m = 0 ∨ ∃ a, A = some a ∧ gcells G a news) : ∀ w, SatW C ι L G w → SrcOk w sz (.slice A m c) m news := by
 intro w hw
 refine ⟨hl, A, c, J, ?_⟩
 rcases h with h | ⟨a, h1, h2⟩
 ·exact .inl h
 ·exact .inr ⟨a, h1, fun j u hj => gcell_emb hw.emb (gcells_at h2 j u hj)⟩
theorem src_row (κ : Nat) {base e sz : Nat} {A : Option Addr} {m c : Nat} {news : List Value} (hL : getH κ L = some (rowO base e sz A m c news)) : ∀ w, SatW C ι L G w → SrcOk w sz (.slice A m c) m news := by
 intro w hw
 obtain ⟨Ss, ho, _⟩ := hw.own
 obtain ⟨S, ⟨h1, h2, h3, h4⟩, _⟩ := owns_split ho hL
 refine ⟨h1, A, c, J, ?_⟩
 rcases h4 with ⟨_, h4, _⟩ | ⟨g, off, cur, rfl, _, q2, q3, q4, q5⟩
 ·exact .inl (by omega)
 ·exact .inr ⟨_, J, cells_at q2 q4⟩
theorem S_nilO (κ : Nat) {base e size : Nat} (hx : X C k E ι (.hp κ (rowO base e size none 0 0 []) :: L) G) : X C k E ι L G := by
 intro a w h1 h2 h3 h4
 refine hx a w h1 h2 h3 ?_;obtain ⟨Ss, ho, hS⟩ := h4.own
 refine ⟨h4.os, h4.tape, h4.output, h4.size, h4.keep, h4.emb, (fun _ => False) :: Ss, ⟨⟨by simp, by simp [maxLen], Nat.le_refl _, .inl ⟨rfl, rfl, fun _ h => h⟩⟩, fun T _ b hb => hb.elim, ho⟩, ?_⟩
 intro T hT b hb
 rcases List.mem_cons.1 hT with rfl | hT
 ·exact hb.elim
 ·exact hS T hT b hb
theorem S_emptyOz {T : Tab} (hT : tabOk C.P T) (κ : Nat) {d t e sz sz' : Nat} {os os' : List Nat} {tk : TK} {ty : Nat} {pos : String} {af : Array Edge} {g : Option (Nat × Bool)} (ht : lookT t T = some ⟨.slc e, sz', os'⟩) (he : lookT e T = some ⟨tk, sz, os⟩)
  (hg : guardOf all E g = .on) (hN : Nat.ble (d + 1) C.n = true)
  (hk : ∀ A, (∃ g, A = some ⟨g, 0, none⟩) → X C (.ops all l :: k) ((d, .val (.slice A 0 0)) :: E) ι (.hp κ (rowO C.w0.heap.size e sz A 0 0 []) :: L) G) : X C (.ops all (⟨some d, .buildSlice t 0 #[], ty, pos, af, g⟩ :: l) :: k) E ι L G := by
 intro a w h1 h2 h3 h4
 have hus := tyOk_slice (hT _ _ ht) rfl
 have hrun : (execOp a.eval ⟨some d, .buildSlice t 0 #[], ty, pos, af, g⟩).run C.P w = .ok (.value (.slice (some ⟨w.heap.size, 0, none⟩) 0 0)) (w.alloc (.cells #[] e)) := by
  simp only [execOp]
  have hr0 : Array.range 0 = #[] := by apply Array.toList_inj.1; simp
  simp [Instr.buildSlice, run_underlying hus, tyOk_size (hT _ _ he), Instr.fill, newRow, hr0]
 refine wpE_val (guardOf_on h3 hg) (by intro c h; cases h) hrun ?_
 have hdn : d < a.tmps.size := by rw [h2]; exact Nat.le_of_ble_eq_true hN
 refine hk _ ⟨_, J⟩ _ _ h1 (by simp [Act.put, h2]) (h3.put hdn J) ?_;obtain ⟨Ss, ho, hS⟩ := (h4.allocH κ (.cells #[] e)).own
 have hal := h4.allocH κ (.cells #[] e)
 cases Ss with
 | nil => simp [owns] at ho
 | cons S Ss =>
  obtain ⟨hA, hd, hr⟩ := ho
  exact ⟨hal.os, hal.tape, hal.output, hal.size, hal.keep, hal.emb, S :: Ss, ⟨⟨by simp, by simp [maxLen], Nat.le_refl _, .inr ⟨_, 0, #[], J, h4.size, hA.1, by simp, by simp, hA.2⟩⟩, hd, hr⟩, hS⟩
theorem S_emptyO {T : Tab} (hT : tabOk C.P T) (κ : Nat) {d t e sz sz' : Nat} {os os' : List Nat} {tk : TK} {ty : Nat} {pos : String} {af : Array Edge} {g : Option (Nat × Bool)} (ht : lookT t T = some ⟨.slc e, sz', os'⟩) (he : lookT e T = some ⟨tk, sz, os⟩)
  (hg : guardOf all E g = .on) (hN : Nat.ble (d + 1) C.n = true)
  (hk : ∀ A, X C (.ops all l :: k) ((d, .val (.slice A 0 0)) :: E) ι (.hp κ (rowO C.w0.heap.size e sz A 0 0 []) :: L) G) : X C (.ops all (⟨some d, .buildSlice t 0 #[], ty, pos, af, g⟩ :: l) :: k) E ι L G :=
 S_emptyOz hT κ ht he hg hN fun A _ => hk A
theorem S_someO (κ : Nat) {base e sz : Nat} {A : Option Addr} {n c : Nat} {xs : List Value} (hL : getH κ L = some (rowO base e sz A n c xs)) (hn : 0 < c) (hk : ∀ g off, A = some ⟨g, off, none⟩ → X C k E ι L G) : X C k E ι L G := by
 intro a w h1 h2 h3 h4
 obtain ⟨Ss, ho, _⟩ := h4.own
 obtain ⟨S, ⟨q1, q2, q3, q4⟩, _⟩ := owns_split ho hL
 rcases q4 with ⟨_, q4, _⟩ | ⟨g, off, cur, rfl, _⟩
 ·omega
 ·exact hk g off J a w h1 h2 h3 h4
theorem S_capO (κ : Nat) {base e sz : Nat} {A : Option Addr} {n c : Nat} {xs : List Value} (hL : getH κ L = some (rowO base e sz A n c xs)) (hk : n ≤ c → c ≤ maxLen → xs.length = n * sz → X C k E ι L G) : X C k E ι L G := by
 intro a w h1 h2 h3 h4
 obtain ⟨Ss, ho, _⟩ := h4.own
 obtain ⟨S, ⟨q1, q2, q3, q4⟩, _⟩ := owns_split ho hL
 exact hk q3 q2 q1 a w h1 h2 h3 h4
end
theorem V_loadR {C : Ctx} {ι : Ids} {E : Env} {L : List Ent} {G : PH} {d : Option Nat} {ty : Nat} {pos : String} {af : Array Edge} {g : Option (Nat × Bool)} {T : Tab} (hT : tabOk C.P T) (κ : Nat) {t : Nat} {i : TyI} {x : Operand} {gb off o : Nat} {v : Value} {base e sz : Nat} {n c : Nat} {xs : List Value}
  (hL : getH κ L = some (rowO base e sz (some ⟨gb, off, none⟩) n c xs)) (hx : ev E x = some (.val (.pointer (some ⟨gb, off + o, none⟩)))) (ht : lookT t T = some i) (hk0 : i.k.isAgg = false) (hc : xs[o]? = some v) : Vl C ι E L G ⟨d, .load t x, ty, pos, af, g⟩ v := by
 intro a w hE hw
 obtain ⟨Ss, ho, _⟩ := hw.own
 obtain ⟨S, ⟨q1, q2, q3, q4⟩, _⟩ := owns_split ho hL
 have ex := ev_sound hE hx
 simp only [denO, Option.some.injEq] at ex
 rcases q4 with ⟨q4, _⟩ | ⟨g', off', cur, q, _, q5, q6, q7, q8⟩
 ·cases q4
 ·cases q
  have := cells_at q5 q7 o v hc
  rw [add_lit'] at this
  simp only [execOp, ← ex]
  simp [Instr.loadAt, loadVar, Instr.sureAddr, tyOk_agg (hT _ _ ht), hk0, this]
def PH.del (G : PH) (g : Nat) : PH := fun b => if b = g then none else G b
def newp (G G' : PH) : PH := fun b => match G b with
 | some _ => none
 | none => G' b
theorem newp_le (G G' : PH) : (newp G G').le G' := by
 intro b o h
 unfold newp at h
 split at h
 ·cases h
 ·exact h
theorem newp_add_le {G G' : PH} {g : Nat} {o : Obj} : (newp (G.add g o) G').le (G'.del g) := by
 intro b o' h
 unfold newp at h
 split at h
 ·cases h
 ·rename_i hn
  unfold PH.del
  rw [if_neg (by rintro rfl; simp [PH.add] at hn)]
  exact h
theorem newp_mono {G G1 G2 : PH} (h : G.le G1) (h12 : G1.le G2) : (newp G1 G2).le (newp G G2) := by
 intro b o hb
 unfold newp at hb ⊢
 split at hb
 ·cases hb
 ·rename_i hn
  split
  ·rename_i x hx; rw [h b x hx] at hn; cases hn
  ·exact hb
theorem PH.ext.del {B : Nat} {G G2 : PH} {g : Nat} {o : Obj} (hg : G g = none) (h : PH.ext B (G.add g o) G2) : PH.ext B G (G2.del g) := by
 refine ⟨fun b o' hb => ?_, fun b o' hb hn => ?_⟩
 ·unfold PH.del
  rw [if_neg (by rintro rfl; rw [hg] at hb; cases hb)]
  refine h.le b o' ?_
  unfold PH.add
  rw [if_neg (by rintro rfl; rw [hg] at hb; cases hb)]
  exact hb
 ·unfold PH.del at hb
  split at hb
  ·cases hb
  ·rename_i hne
   refine h.new b o' hb ?_
   unfold PH.add
   rw [if_neg hne]; exact hn
theorem PH.del_add {G : PH} {g : Nat} {o : Obj} (h : G g = none) : (G.add g o).del g = G := by
 funext b
 unfold PH.del PH.add
 by_cases e : b = g
 ·subst e; simp [h]
 ·simp [e]
section
variable {C : Ctx} {k : List It} {E : Env} {ι : Ids} {L : List Ent} {G : PH}
theorem SatW.lend {a : Act} {w : World} {L' : List Ent} {b : Nat} {o : Obj} {S : Nat → Prop} {Ss Ss' : List (Nat → Prop)} (h : SatW C ι L G w) (ho : owns ι w L Ss) (hS : ∀ S ∈ Ss, ∀ b, S b → G b = none ∧ (C.S0 b ∨ C.w0.heap.size ≤ b)) (hh : w.heap[b]? = some o) (hSb : ∀ x, S x ↔ x = b) (hm : S ∈ Ss) (ho' : owns ι w L' Ss') (hT : ∀ T ∈ Ss', T ∈ Ss ∧ ∀ x, T x → ¬ S x) :
  G b = none ∧ (C.S0 b ∨ C.w0.heap.size ≤ b) ∧ SatW C ι L' (G.add b o) w := by
 have hGb := hS S hm b ((hSb b).2 rfl)
 refine ⟨hGb.1, hGb.2, h.os, h.tape, h.output, h.size, h.keep, ?_, Ss', ho', ?_⟩
 ·intro x o' hx
  unfold PH.add at hx
  split at hx
  ·rename_i e; subst e; cases hx; exact hh
  ·exact h.emb x o' hx
 ·intro T hT' x hx
  obtain ⟨h1, h2⟩ := hT T hT'
  obtain ⟨h3, h4⟩ := hS T h1 x hx
  refine ⟨?_, h4⟩
  unfold PH.add
  rw [if_neg (fun e => h2 x hx ((hSb x).2 e))]
  exact h3
theorem le_add {G : PH} {b : Nat} {o : Obj} (h : G b = none) : G.le (G.add b o) := by
 intro x o' hx
 unfold PH.add
 rw [if_neg (by rintro rfl; rw [h] at hx; cases hx)]
 exact hx
theorem S_lendB (key : Nat) {b ty : Nat} {cs : List Cel} {vs : List Value} {L' : List Ent} (hj : lookI key ι = some b) (hB : lookB key L = some (ty, cs)) (hd : denL ι cs = some vs) (hL' : delB key L = some L')
  (hk : G b = none → (C.S0 b ∨ C.w0.heap.size ≤ b) → X C k E ι L' (G.add b (.cells vs.toArray ty (0, 0)))) : X C k E ι L G := by
 intro a w g1 g2 g3 g4
 obtain ⟨Ss, ho, hS⟩ := g4.own
 obtain ⟨S, Ss', b', hb', hh, hSb, hm, ho', hT⟩ := owns_delB hd ho hB hL'
 rw [hj] at hb'; cases hb'
 obtain ⟨h0, h1, h2⟩ := SatW.lend (a := a) g4 ho hS hh hSb hm ho' hT
 exact hk h0 h1 a w (g1.mono (le_add h0)) g2 g3 h2
theorem SatW.back {w : World} {b : Nat} {o : Obj} (h : SatW C ι L G w) (hG : G b = some o) (hb : C.S0 b ∨ C.w0.heap.size ≤ b) {e : Ent} (he : ∀ S : Nat → Prop, (∀ x, S x ↔ x = b) → e.holds ι w S) : SatW C ι (e :: L) (G.del b) w := by
 obtain ⟨Ss, ho, hS⟩ := h.own
 refine ⟨h.os, h.tape, h.output, h.size, h.keep, fun x o' hx => ?_, (fun x => x = b) :: Ss, ⟨he _ fun x => Iff.rfl, ?_, ho⟩, ?_⟩
 ·unfold PH.del at hx
  split at hx
  ·cases hx
  ·exact h.emb x o' hx
 ·rintro T hT x rfl hx
  have := (hS T hT _ hx).1; rw [hG] at this; cases this
 ·intro T hT x hx
  rcases List.mem_cons.1 hT with rfl | hT
  ·subst hx
   exact ⟨by simp [PH.del], hb⟩
  ·obtain ⟨h1, h2⟩ := hS T hT x hx
   refine ⟨?_, h2⟩
   unfold PH.del
   split
   ·rfl
   ·exact h1
theorem DfsOk.del {ds : List Deferred} (h : DfsOk C G ds) {b : Nat} {vs : Array Value} {ty : Nat} {fr : Nat × Nat} (hG : G b = some (.cells vs ty fr)) : DfsOk C (G.del b) ds := by
 unfold DfsOk at h ⊢
 split at h
 ·exact h
 ·obtain ⟨Ds, h1, h2, h3⟩ := h
  refine ⟨Ds, h1, h2, fun D hD => ⟨(h3 D hD).1, ?_⟩⟩
  unfold PH.del
  rw [if_neg (by rintro rfl; rw [(h3 _ hD).2] at hG; cases hG)]
  exact (h3 D hD).2
theorem S_backB (key : Nat) {b ty : Nat} (cs : List Cel) {vs : List Value} (hG : G b = some (.cells vs.toArray ty (0, 0))) (hj : lookI key ι = some b) (hd : denL ι cs = some vs) (hb : C.S0 b ∨ C.w0.heap.size ≤ b)
  (hk : X C k E ι (.blk key ty cs :: L) (G.del b)) : X C k E ι L G := by
 intro a w g1 g2 g3 g4
 exact hk a w (g1.del hG) g2 g3 (g4.back hG hb fun S hS => ⟨b, vs, hj, hd, g4.emb _ _ hG, hS⟩)
theorem S_lendO (κ : Nat) {base e sz : Nat} {A : Option Addr} {n c : Nat} {xs : List Value} {L' : List Ent} (hL : getH κ L = some (rowO base e sz A n c xs)) (hL' : delH κ L = some L')
  (h0 : A = none → n = 0 → c = 0 → xs = [] → X C k E ι L' G)
  (hk : ∀ g off cur, A = some ⟨g, off, none⟩ → base ≤ g → n ≤ c → c ≤ maxLen → xs.length = n * sz → off + c * sz ≤ cur.size → (cur.toList.drop off).take xs.length = xs → G g = none → (C.S0 g ∨ C.w0.heap.size ≤ g) → gcells (G.add g (.cells cur e (0, 0))) ⟨g, off, none⟩ xs → X C k E ι L' (G.add g (.cells cur e (0, 0)))) : X C k E ι L G := by
 intro a w g1 g2 g3 g4
 obtain ⟨Ss, ho, hS⟩ := g4.own
 obtain ⟨S, Ss', hA, hm, ho', hT⟩ := owns_del ho hL hL'
 obtain ⟨q1, q2, q3, q4⟩ := hA
 rcases q4 with ⟨rfl, rfl, q4⟩ | ⟨g, off, cur, rfl, q0, q5, q6, q7, q8⟩
 ·obtain rfl : n = 0 := by omega
  exact h0 J J J (List.eq_nil_of_length_eq_zero (by simpa using q1)) a w g1 g2 g3 ⟨g4.os, g4.tape, g4.output, g4.size, g4.keep, g4.emb, Ss', ho', fun T hT' => hS T (hT T hT').1⟩
 ·obtain ⟨h0, h1, h2⟩ := SatW.lend (a := a) g4 ho hS q5 q8 hm ho' hT
  exact hk g off cur J q0 q3 q2 q1 q6 q7 h0 h1 (gcells_row (cur := cur) (e := e) (fr := (0, 0)) (by simp [PH.add]) xs off q7) a w (g1.mono (le_add h0)) g2 g3 h2
theorem S_backO (κ : Nat) {base e sz g off : Nat} {n c : Nat} {xs : List Value} {cur : Array Value} (hG : G g = some (.cells cur e (0, 0))) (hb : C.S0 g ∨ C.w0.heap.size ≤ g) (hbase : base ≤ g) (h1 : n ≤ c) (h2 : c ≤ maxLen) (h3 : xs.length = n * sz) (h4 : off + c * sz ≤ cur.size) (h5 : (cur.toList.drop off).take xs.length = xs)
  (hk : X C k E ι (.hp κ (rowO base e sz (some ⟨g, off, none⟩) n c xs) :: L) (G.del g)) : X C k E ι L G := by
 intro a w g1 g2 g3 g4
 exact hk a w (g1.del hG) g2 g3 (g4.back hG hb fun S hS => ⟨h3, h2, h1, .inr ⟨g, off, cur, J, hbase, g4.emb _ _ hG, h4, h5, hS⟩⟩)
theorem S_freezeR (κ : Nat) {base e sz : Nat} {A : Option Addr} {n c : Nat} {xs : List Value} {L' : List Ent} (hL : getH κ L = some (rowO base e sz A n c xs)) (hL' : delH κ L = some L') (hb0 : C.w0.heap.size ≤ base)
  (hk : ∀ G', PH.ext C.w0.heap.size G G' → n ≤ c → c ≤ maxLen → (n = 0 ∨ ∃ a, A = some a ∧ gcells (newp G G') a xs) → X C k E ι L' G') : X C k E ι L G := by
 refine S_lendO κ hL hL' (fun hA hn hc hx => ?_) (fun g off cur hA hbg hnc hcm hl hfit ht hG hb hcells => ?_)
 ·exact hk G XR (by omega) (by rw [hc]; simp [maxLen]) (.inl hn)
 ·refine hk _ ⟨le_add hG, fun b o hbo hn => ?_⟩ hnc hcm (.inr ⟨_, hA, ?_⟩)
  ·unfold PH.add at hbo
   split at hbo
   ·rename_i e'; subst e'; omega
   ·rw [hn] at hbo; cases hbo
  ·refine gcells_row (cur := cur) (e := e) (fr := (0, 0)) ?_ xs off ht
   simp [newp, hG, PH.add]
theorem S_blkO (key κ : Nat) {base b e sz n c o : Nat} {cs : List Cel} {vs xs : List Value} {L' : List Ent} (hj : lookI key ι = some b) (hB : lookB key L = some (e, cs)) (hd : denL ι cs = some vs) (hL' : delB key L = some L') (hbase : base ≤ b ∨ base = 0 ∨ (base = C.w0.heap.size ∧ ∀ x, ¬ C.S0 x))
  (hx : (vs.drop o).take (n * sz) = xs) (hl : xs.length = n * sz) (hnc : n ≤ c) (hcm : c ≤ maxLen) (hfit : o + c * sz ≤ vs.length)
  (hk : X C k E ι (.hp κ (rowO base e sz (some ⟨b, o, none⟩) n c xs) :: L') G) : X C k E ι L G := by
 intro a w g1 g2 g3 g4
 obtain ⟨Ss, ho, hS⟩ := g4.own
 obtain ⟨S, Ss', b', hb', hh, hSb, hm, ho', hT⟩ := owns_delB hd ho hB hL'
 rw [hj] at hb'; cases hb'
 have hbb : base ≤ b := by
  rcases hbase with h | h | ⟨h, h'⟩
  ·exact h
  ·omega
  ·rcases (hS S hm b ((hSb b).2 rfl)).2 with h2 | h2
   ·exact absurd h2 (h' b)
   ·omega
 refine hk a w g1 g2 g3 ⟨g4.os, g4.tape, g4.output, g4.size, g4.keep, g4.emb, S :: Ss', ⟨⟨hl, hcm, hnc, .inr ⟨b, o, vs.toArray, J, hbb, hh, by simpa using hfit, by rw [hl]; simpa using hx, hSb⟩⟩, fun T hT' x hx hx' => (hT T hT').2 x hx' hx, ho'⟩, ?_⟩
 intro T hT' x hx
 rcases List.mem_cons.1 hT' with rfl | hT'
 ·exact hS T hm x hx
 ·exact hS T (hT T hT').1 x hx
theorem S_rowB (κ key : Nat) {base e sz : Nat} {g : Nat} {n c : Nat} {xs : List Value} {L' : List Ent} (hL : getH κ L = some (rowO base e sz (some ⟨g, 0, none⟩) n c xs)) (hL' : delH κ L = some L') (hf : lookI key ι = none)
  (hk : ∀ sp, X C k E ((key, g) :: ι) (.blk key e (vL (xs ++ sp)) :: L') G) : X C k E ι L G := by
 intro a w g1 g2 g3 g4
 obtain ⟨Ss, ho, hS⟩ := g4.own
 obtain ⟨S, Ss', hA, hm, ho', hT⟩ := owns_del ho hL hL'
 obtain ⟨q1, q2, q3, q4⟩ := hA
 rcases q4 with ⟨q, _⟩ | ⟨g', off, cur, q, q0, q5, q6, q7, q8⟩
 ·cases q
 ·cases q
  have hcur : cur.toList = xs ++ cur.toList.drop xs.length := by
   rw [List.drop_zero] at q7
   conv => lhs; rw [← List.take_append_drop xs.length cur.toList, q7]
  refine hk (cur.toList.drop xs.length) a w g1 g2 (g3.ids hf) ⟨g4.os, g4.tape, g4.output, g4.size, g4.keep, g4.emb, S :: Ss', ⟨⟨g, cur.toList, by simp [lookI], ?_, by simpa using q5, q8⟩, fun T hT' x hx hx' => (hT T hT').2 x hx' hx, owns_ids ho' hf⟩, ?_⟩
  ·rw [← hcur]; exact denL_vL _ _
  ·intro T hT' x hx
   rcases List.mem_cons.1 hT' with rfl | hT'
   ·exact hS T hm x hx
   ·exact hS T (hT T hT').1 x hx
theorem S_tailO {all : Array Oper} {l : List Oper} {T : Tab} (hT : tabOk C.P T) (κ : Nat) {d t e sz' sz : Nat} {os os' : List Nat} {tk : TK} {s : Operand} {ty : Nat} {pos : String} {af : Array Edge} {g : Option (Nat × Bool)} {base : Nat} {A : Option Addr} {n c : Nat} {xs : List Value} {L' : Option Addr → List Ent}
  (ht : lookT t T = some ⟨.slc e, sz', os'⟩) (he : lookT e T = some ⟨tk, sz, os⟩) (hg : guardOf all E g = .on) (hN : Nat.ble (d + 1) C.n = true) (hs : ev E s = some (.val (.slice A (n + 1) c)))
  (hL : getH κ L = some (rowO base e sz A (n + 1) c xs)) (hL' : ∀ A', setH κ (rowO base e sz A' n (c - 1) (xs.drop sz)) L = some (L' A'))
  (hk : ∀ A', X C (.ops all l :: k) ((d, .val (.slice A' n (c - 1))) :: E) ι (L' A') G) : X C (.ops all (⟨some d, .slice t s (some (.const (.int .i64 1))) none none, ty, pos, af, g⟩ :: l) :: k) E ι L G := by
 intro a w g1 g2 g3 g4
 have hdn : d < a.tmps.size := by rw [g2]; exact Nat.le_of_ble_eq_true hN
 have es := ev_sound g3 hs
 simp only [denO, Option.some.injEq] at es
 have hu := tyOk_slice (hT _ _ ht) rfl
 obtain ⟨S2, hA, hS2G, hturn⟩ := g4.turn hL
 obtain ⟨q1, q2, q3, q4⟩ := hA
 rcases q4 with ⟨_, q4, _⟩ | ⟨gb, off, cur, rfl, q0, q5, q6, q7, q8⟩
 ·omega
 obtain ⟨A', hA'⟩ : ∃ A' : Option Addr, A' = (if c = 1 then some ⟨gb, off, none⟩ else some ⟨gb, off + 1 * sz, none⟩) := ⟨_, rfl⟩
 have hrun : (execOp a.eval ⟨some d, .slice t s (some (.const (.int .i64 1))) none none, ty, pos, af, g⟩).run C.P w = .ok (.value (.slice A' n (c - 1))) w := by
  simp only [execOp, Option.map_some, Option.map_none, ← es]
  have : a.eval (.const (.int .i64 1)) = .int .i64 1 := rfl
  rw [this]
  have h1 : (1 : Int) ≤ (n : Int) + 1 := by omega
  simp only [Instr.sliceAt, Sem.run_bind, run_underlying hu, Result.andThen_ok]
  simp [Instr.slice, run_underlying hu, Instr.sliceBounds, Instr.sliceBound, asIntOf, tyOk_size (hT _ _ he), h1, hA', add_lit', eq_comm]
 refine wpE_val (guardOf_on g3 hg) (by intro c h; cases h) hrun ?_;refine hk A' _ _ g1 (by simp [Act.put, g2]) (g3.put hdn J) ?_
 have hlen : xs.length = n * sz + sz := by rw [q1, Nat.succ_mul]
 refine hturn _ _ G w S2 (hL' A') ⟨by rw [List.length_drop, hlen]; omega, by omega, by omega, .inr ?_⟩ g4.emb XR (fun b hb => ⟨hS2G b hb, .inl hb⟩) rfl rfl rfl (Nat.le_refl _) fun _ _ _ => rfl
 have hc1 : 1 ≤ c := by omega
 by_cases hc : c = 1
 ·subst hc
  obtain rfl : n = 0 := by omega
  have hd0 : xs.drop sz = [] := by rw [List.drop_eq_nil_iff]; omega
  refine ⟨gb, off, cur, by rw [hA', if_pos J], q0, q5, by omega, by rw [hd0]; simp, q8⟩
 ·refine ⟨gb, off + 1 * sz, cur, by rw [hA', if_neg hc], q0, q5, ?_, ?_, q8⟩
  ·have : c * sz = (c - 1) * sz + sz := by rw [← Nat.succ_mul]; congr 1; omega
   omega
  ·have h2 : (List.drop (off + 1 * sz) cur.toList) = (cur.toList.drop off).drop sz := by rw [List.drop_drop]; congr 1; omega
   rw [h2, List.length_drop]
   conv => rhs; rw [← q7]
   rw [List.drop_take]
end
end
section
def Res (C : Ctx) (fn : Func) (E : Env) (ι : Ids) (L : List Ent) (G : PH) (v : Value) : Prop := ∀ a w, AgE ι E a → SatW C ι L G w → (results fn a.tmps).run C.P w = .ok v w
section
variable {C : Ctx} {fn : Func} {E : Env} {ι : Ids} {L : List Ent} {G : PH} {T : Tab}
theorem res_load (hT : tabOk C.P T) {t ty : Nat} {s : Sym} {v : Value} (h : pureOp T E L (.load ty (.tmp t)) = some s) (hv : denO ι s = some v) {a : Act} {w : World} (hE : AgE ι E a) (hw : SatW C ι L G w) : ∃ ad, a.tmps[t]?.getD undef = .pointer (some ad) ∧ (loadVar ty ad).run C.P w = .ok v w := by
 obtain ⟨Ss, ho, _⟩ := hw.own
 obtain ⟨v', hv', hr⟩ := pureOp_sound hT hE ho h none 0 "" #[] none
 rw [hv] at hv'; cases hv'
 have hp : ∃ ad, a.eval (.tmp t) = .pointer (some ad) := by
  simp only [pureOp] at h
  split at h
  ·rename_i k o hx
   have ex := ev_sound hE hx
   simp only [denO] at ex
   split at ex
   ·simp only [Option.some.injEq] at ex; exact ⟨_, ex.symm⟩
   ·cases ex
  ·cases h
 obtain ⟨ad, had⟩ := hp
 refine ⟨ad, by rw [← Array.getD_eq_getD_getElem?]; exact had, ?_⟩
 simp only [execOp, had] at hr
 simp [Instr.loadAt, Instr.sureAddr] at hr
 cases hq : (loadVar ty ad).run C.P w with
 | ok u w' => rw [hq] at hr; simpa using hr
 | halt x w' => rw [hq] at hr; simp at hr
theorem res_tmp {t : Nat} {s : Sym} {v : Value} (hl : look t E = some s) (hv : denO ι s = some v) {a : Act} (hE : AgE ι E a) : a.tmps[t]?.getD undef = v := by
 obtain ⟨u, hu, ht⟩ := hE t s hl
 rw [hv] at hu; cases hu
 simp [ht]
theorem Res.t0 (hr : fn.results = #[]) : Res C fn E ι L G (.tuple #[]) := fun a w _ _ => by simp [results, hr]
theorem Res.t1 {t : Nat} {s : Sym} {v : Value} (hr : fn.results = #[.tmp t]) (hl : look t E = some s) (hv : denO ι s = some v) : Res C fn E ι L G v := fun a w hE _ => by
 simp [results, hr, res_tmp hl hv hE]
theorem Res.t2 {t t' : Nat} {s s' : Sym} {v v' : Value} (hr : fn.results = #[.tmp t, .tmp t']) (hl : look t E = some s) (hv : denO ι s = some v) (hl' : look t' E = some s') (hv' : denO ι s' = some v') : Res C fn E ι L G (.tuple #[v, v']) := fun a w hE _ => by
 simp [results, hr, res_tmp hl hv hE, res_tmp hl' hv' hE]
theorem Res.c1 (hT : tabOk C.P T) {t ty : Nat} {s : Sym} {v : Value} (hr : fn.results = #[.cell t ty]) (h : pureOp T E L (.load ty (.tmp t)) = some s) (hv : denO ι s = some v) : Res C fn E ι L G v := fun a w hE hw => by
 obtain ⟨ad, h0, h1⟩ := res_load hT h hv hE hw
 simp [results, hr, asAddr, h0, h1]
theorem Res.c2 (hT : tabOk C.P T) {t ty t' : Nat} {s s' : Sym} {v v' : Value} (hr : fn.results = #[.cell t ty, .tmp t']) (h : pureOp T E L (.load ty (.tmp t)) = some s) (hv : denO ι s = some v) (hl' : look t' E = some s') (hv' : denO ι s' = some v') : Res C fn E ι L G (.tuple #[v, v']) := fun a w hE hw => by
 obtain ⟨ad, h0, h1⟩ := res_load hT h hv hE hw
 simp [results, hr, asAddr, h0, h1, res_tmp hl' hv' hE]
theorem Res.c3 (hT : tabOk C.P T) {t ty t' t'' : Nat} {s s' s'' : Sym} {v v' v'' : Value} (hr : fn.results = #[.cell t ty, .tmp t', .tmp t'']) (h : pureOp T E L (.load ty (.tmp t)) = some s) (hv : denO ι s = some v) (hl' : look t' E = some s') (hv' : denO ι s' = some v')
  (hl'' : look t'' E = some s'') (hv'' : denO ι s'' = some v'') : Res C fn E ι L G (.tuple #[v, v', v'']) := fun a w hE hw => by
 obtain ⟨ad, h0, h1⟩ := res_load hT h hv hE hw
 simp [results, hr, asAddr, h0, h1, res_tmp hl' hv' hE, res_tmp hl'' hv'' hE]
end
section
variable {P : Program} {fn : Func} {R : Ending → World → Prop} {n : Nat} {G0 G : PH} {w0 : World} {S0 : Nat → Prop} {k : List It} {E : Env} {ι : Ids} {L : List Ent} {v : Value}
theorem S_retR {C : Ctx} (hQ : C.Q = bodyPost C.P fn R ∧ C.ms = false) (hr : Res C fn E ι L G v) (h : ∀ w, SatW C ι L G w → R (.returned v) w) : X C (.code .ret :: k) E ι L G := by
 intro a w h1 h2 h3 h4
 refine wpE_ret (wpE_out k ?_)
 rw [hQ.1]
 exact ⟨h1.eq hQ.2, v, hr a w h3 h4, h w h4⟩
theorem S_endR {C : Ctx} (hQ : C.Q = bodyPost C.P fn R ∧ C.ms = false) (hr : Res C fn E ι L G v) (h : ∀ w, SatW C ι L G w → R (.returned v) w) : X C [] E ι L G := by
 intro a w h1 h2 h3 h4
 show C.Q .normal a w
 rw [hQ.1]
 exact ⟨h1.eq hQ.2, v, hr a w h3 h4, h w h4⟩
theorem S_retp {Post : Value → PH → Prop} (hr : Res (PC P n fn G0 Post w0) fn E ι L G v) (hx : PH.ext w0.heap.size G0 G) (hp : Post v G) : X (PC P n fn G0 Post w0) (.code .ret :: k) E ι L G :=
 S_retR ⟨rfl, rfl⟩ hr fun w hw => hw.pureR hx hp
theorem S_endp {Post : Value → PH → Prop} (hr : Res (PC P n fn G0 Post w0) fn E ι L G v) (hx : PH.ext w0.heap.size G0 G) (hp : Post v G) : X (PC P n fn G0 Post w0) [] E ι L G :=
 S_endR ⟨rfl, rfl⟩ hr fun w hw => hw.pureR hx hp
theorem S_retm (κ : Nat) {Post : Value → PH → HP → Prop} {A' : HP} (hr : Res (MC P n fn G0 Post w0 S0) fn E ι L G v) (hL : getH κ L = some A') (hx : PH.ext w0.heap.size G0 G) (hp : Post v G A') : X (MC P n fn G0 Post w0 S0) (.code .ret :: k) E ι L G :=
 S_retR ⟨rfl, rfl⟩ hr fun w hw => hw.modR hL hx hp
theorem S_endm (κ : Nat) {Post : Value → PH → HP → Prop} {A' : HP} (hr : Res (MC P n fn G0 Post w0 S0) fn E ι L G v) (hL : getH κ L = some A') (hx : PH.ext w0.heap.size G0 G) (hp : Post v G A') : X (MC P n fn G0 Post w0 S0) [] E ι L G :=
 S_endR ⟨rfl, rfl⟩ hr fun w hw => hw.modR hL hx hp
end
section
variable {P : Program} {fn : Func} {n : Nat} {G0 G : PH} {Post : Value → PH → HP → Prop} {w0 : World} {S0 : Nat → Prop} {k : List It} {E : Env} {ι ι1 : Ids} {L L1 L2 Ls : List Ent} {v : Value} {p : Ids → List Ent → Prop}
theorem SatW.packed {C : Ctx} {w : World} (κ : Nat) (h4 : SatW C ι L G w) (ks : List Nat) (hL : pickE ks L = some (L1, L2)) (hs : subL ι ι1 L1 Ls) (hp : p ι1 Ls) : SatW C ι (.hp κ (packHP p) :: L2) G w := by
 obtain ⟨Ss, ho, hS⟩ := h4.own
 obtain ⟨Sx, Sr, g1, g2, g3, g4⟩ := pickE_sound hL ho
 obtain ⟨Ss', ho', hsub⟩ := subL_sound hs g1
 refine ⟨h4.os, h4.tape, h4.output, h4.size, h4.keep, h4.emb, (fun x => ∃ T ∈ Ss', T x) :: Sr, ⟨⟨ι1, Ls, Ss', hp, ho', fun x => Iff.rfl⟩, ?_, g2⟩, ?_⟩
 ·rintro T hT b ⟨U, hU, hb⟩ hb'
  exact g3 U (hsub U hU) T hT b hb hb'
 ·intro T hT b hb
  rcases List.mem_cons.1 hT with rfl | hT
  ·obtain ⟨U, hU, hb⟩ := hb
   exact hS U ((g4 U).1 (.inl (hsub U hU))) b hb
  ·exact hS T ((g4 T).1 (.inr hT)) b hb
theorem RK (ks : List Nat) (hr : Res (MC P n fn G0 Post w0 S0) fn E ι L G v) (hp : Post v G (packHP p)) (hpp : p ι1 Ls) (hL : pickE ks L = some (L1, L2)) (hs : subL ι ι1 L1 Ls) (hx : PH.ext w0.heap.size G0 G) : X (MC P n fn G0 Post w0 S0) (.code .ret :: k) E ι L G :=
 S_retR ⟨rfl, rfl⟩ hr fun w hw => (hw.packed 0 ks hL hs hpp).modR (κ := 0) rfl hx hp
theorem EK (ks : List Nat) (hr : Res (MC P n fn G0 Post w0 S0) fn E ι L G v) (hp : Post v G (packHP p)) (hpp : p ι1 Ls) (hL : pickE ks L = some (L1, L2)) (hs : subL ι ι1 L1 Ls) (hx : PH.ext w0.heap.size G0 G) : X (MC P n fn G0 Post w0 S0) [] E ι L G :=
 S_endR ⟨rfl, rfl⟩ hr fun w hw => (hw.packed 0 ks hL hs hpp).modR (κ := 0) rfl hx hp
end
section
variable {C : Ctx} {k : List It} {E : Env} {ι ι1 : Ids} {L L1 L2 Ls : List Ent} {G : PH} {all : Array Oper} {l : List Oper} {p : Ids → List Ent → Prop}
theorem S_callPk (κ : Nat) (ks : List Nat) {d f : Nat} {xs : Array Operand} {ats : Array TypeId} {ty : Nat} {pos : String} {af : Array Edge} {g : Option (Nat × Bool)} {vs : List Value} {Post : Value → PH → HP → Prop} (hcf : ∀ args w, (callFunc f args).run C.P w = .ok (.enter f args) w)
  (hc : Mod C.P f vs G (packHP p) Post) (hpp : p ι1 Ls) (hL : pickE ks L = some (L1, L2)) (hs : subL ι ι1 L1 Ls) (hg : guardOf all E g = .on) (hN : Nat.ble (d + 1) C.n = true) (hxs : evs ι E xs.toList = some vs)
  (hk : ∀ v G' A', Post v G' A' → PH.ext C.w0.heap.size G G' → X C (.ops all l :: k) ((d, .val v) :: E) ι (.hp κ A' :: L2) G') : X C (.ops all (⟨some d, .call ⟨.value (.func f), xs, ats⟩, ty, pos, af, g⟩ :: l) :: k) E ι L G :=
 S_pack κ ks hL hs hpp (S_callM (L' := fun A' => .hp κ A' :: L2) κ hcf hc hg hN hxs (by simp [getH]) (fun A' => by simp [setH]) hk)
theorem S_invokePk (κ : Nat) (ks : List Nat) {d f t : Nat} {x : Operand} {name : String} {rv : Value} {xs : Array Operand} {ats : Array TypeId} {ty : Nat} {pos : String} {af : Array Edge} {g : Option (Nat × Bool)} {vs : List Value} {Post : Value → PH → HP → Prop}
  (hcm : ∀ args w, (callMethod (.iface t rv) name args).run C.P w = .ok (.enter f (#[rv] ++ args)) w) (hc : Mod C.P f (rv :: vs) G (packHP p) Post) (hpp : p ι1 Ls) (hL : pickE ks L = some (L1, L2)) (hs : subL ι ι1 L1 Ls) (hx : ev E x = some (.val (.iface t rv)))
  (hg : guardOf all E g = .on) (hN : Nat.ble (d + 1) C.n = true) (hxs : evs ι E xs.toList = some vs)
  (hk : ∀ v G' A', Post v G' A' → PH.ext C.w0.heap.size G G' → X C (.ops all l :: k) ((d, .val v) :: E) ι (.hp κ A' :: L2) G') : X C (.ops all (⟨some d, .call ⟨.invoke x name, xs, ats⟩, ty, pos, af, g⟩ :: l) :: k) E ι L G :=
 S_pack κ ks hL hs hpp (S_invokeM (L' := fun A' => .hp κ A' :: L2) κ hx hcm hc hg hN hxs (by simp [getH]) (fun A' => by simp [setH]) hk)
end
theorem len1 {α : Type} {l : List α} (h : l.length = 1) : ∃ a, l = [a] := by
 match l, h with
 | [a], _ => exact ⟨a, rfl⟩
theorem len2 {α : Type} {l : List α} (h : l.length = 2) : ∃ a b, l = [a, b] := by
 match l, h with
 | [a, b], _ => exact ⟨a, b, rfl⟩
theorem len3 {α : Type} {l : List α} (h : l.length = 3) : ∃ a b c, l = [a, b, c] := by
 match l, h with
 | [a, b, c], _ => exact ⟨a, b, c, rfl⟩
end
section
structure Prc where
 r0 : Int
 r1 : Int
 r2 : Int
 todo : List Stm
 mode : Int
 on : Int
 room : Int
structure Wld where
 procs : List Prc
 c0 : Int
 c1 : Int
 c2 : Int
 m0 : Int
 m1 : Int
 q0 : List Int
 q1 : List Int
 said : List (Int × Int)
def updL {α : Type} (f : α → α) : Nat → List α → List α
 | _, [] => []
 | 0, x :: l => f x :: l
 | n + 1, x :: l => x :: updL f n l
def Prc.get (p : Prc) (k : Int) : Int := if k = 0 then p.r0 else if k = 1 then p.r1 else p.r2
def Prc.set (p : Prc) (k v : Int) : Prc := if k = 0 then { p with r0 := v } else if k = 1 then { p with r1 := v } else { p with r2 := v }
def Wld.cell (W : Wld) (k : Int) : Int := if k = 0 then W.c0 else if k = 1 then W.c1 else W.c2
def Wld.setCell (W : Wld) (k v : Int) : Wld := if k = 0 then { W with c0 := v } else if k = 1 then { W with c1 := v } else { W with c2 := v }
def Wld.rm (W : Wld) (k : Int) : Int := if k = 0 then W.m0 else W.m1
def Wld.setRm (W : Wld) (k v : Int) : Wld := if k = 0 then { W with m0 := v } else { W with m1 := v }
def Wld.que (W : Wld) (k : Int) : List Int := if k = 0 then W.q0 else W.q1
def Wld.setQue (W : Wld) (k : Int) (q : List Int) : Wld := if k = 0 then { W with q0 := q } else { W with q1 := q }
def Wld.upd (W : Wld) (i : Nat) (f : Prc → Prc) : Wld := { W with procs := updL f i W.procs }
structure WM where
 kp : Nat
 sp : List Value
 asd : Option Addr
 ksd : Nat
 aq0 : Option Addr
 kq0 : Nat
 aq1 : Option Addr
 kq1 : Nat
 kc : Nat
 spc : List Value
 kr : Nat
 spr : List Value
 ks : Nat
 sps : List Value
 kg : Nat → Nat
 spg : Nat → List Value
def mOk (kp kc kr ks : Nat) (kg : Nat → Nat) (n : Nat) : Prop := (n ≤ kp ∧ kp ≤ maxLen) ∧ (3 ≤ kc ∧ kc ≤ maxLen) ∧ (2 ≤ kr ∧ kr ≤ maxLen) ∧ (2 ≤ ks ∧ ks ≤ maxLen) ∧ ∀ i, 3 ≤ kg i ∧ kg i ≤ maxLen
def WM.ok (m : WM) (n : Nat) : Prop := mOk m.kp m.kc m.kr m.ks m.kg n
structure WX where
 ns : Nat
 xs : List Value
 n0 : Nat
 y0 : List Value
 n1 : Nat
 y1 : List Value
def vi (n : Int) : Cel := .v (.int .i64 n)
def intC : List Int → List Value
 | [] => []
 | n :: l => .int .i64 n :: intC l
def saidC : List (Int × Int) → List Value
 | [] => []
 | (a, b) :: l => .int .i64 a :: .int .i64 b :: saidC l
def procCs (kg : Nat → Nat) (sp : List Value) : Nat → List Prc → List Value → List Cel
 | i, p :: ps, t :: ts => .s (1010 + i) 0 3 (kg i) :: .v t :: vi p.mode :: vi p.on :: vi p.room :: procCs kg sp (i + 1) ps ts
 | _, _, _ => vL sp
def regEs (spg : Nat → List Value) : Nat → List Prc → List Ent
 | _, [] => []
 | i, p :: ps => .blk (1010 + i) 3 (vi p.r0 :: vi p.r1 :: vi p.r2 :: vL (spg i)) :: regEs spg (i + 1) ps
def WX.of (W : Wld) : WX := ⟨W.said.length, saidC W.said, W.q0.length, intC W.q0, W.q1.length, intC W.q1⟩
def WX.ok (x : WX) (W : Wld) : Prop := (x.ns = W.said.length ∧ x.xs = saidC W.said) ∧ (x.n0 = W.q0.length ∧ x.y0 = intC W.q0) ∧ x.n1 = W.q1.length ∧ x.y1 = intC W.q1
theorem WX.ok_eq {x : WX} {W : Wld} (h : x.ok W) : x = WX.of W := by
 obtain ⟨a, b, c, d, e, f⟩ := x
 obtain ⟨⟨h1, h2⟩, ⟨h3, h4⟩, h5, h6⟩ := h
 simp only at h1 h2 h3 h4 h5 h6
 subst h1 h2 h3 h4 h5 h6
 rfl
def wEnts (W : Wld) (ts : List Value) (m : WM) (x : WX) : List Ent :=
 .blk 1000 101 (procCs m.kg m.sp 0 W.procs ts) :: .blk 1001 3 (vi W.c0 :: vi W.c1 :: vi W.c2 :: vL m.spc) :: .blk 1002 3 (vi W.m0 :: vi W.m1 :: vL m.spr) ::
 .blk 1003 24 (.v (.slice m.aq0 x.n0 m.kq0) :: .v (.slice m.aq1 x.n1 m.kq1) :: vL m.sps) ::
 .hp 1004 (rowO 0 123 2 m.asd x.ns m.ksd x.xs) :: .hp 1005 (rowO 0 3 1 m.aq0 x.n0 m.kq0 x.y0) :: .hp 1006 (rowO 0 3 1 m.aq1 x.n1 m.kq1 x.y1) :: regEs m.spg 0 W.procs
def wCels (W : Wld) (m : WM) (x : WX) : List Cel := [.s 1000 0 W.procs.length m.kp, .s 1001 0 3 m.kc, .s 1002 0 2 m.kr, .s 1003 0 2 m.ks, .v (.slice m.asd x.ns m.ksd)]
def regIds : Nat → List Nat → Ids
 | _, [] => []
 | i, b :: bs => (1010 + i, b) :: regIds (i + 1) bs
def wIds (bp bc br bs : Nat) (bg : List Nat) : Ids := (1000, bp) :: (1001, bc) :: (1002, br) :: (1003, bs) :: regIds 0 bg
def regKeys : Nat → Nat → List Nat
 | _, 0 => []
 | i, n + 1 => (1010 + i) :: regKeys (i + 1) n
theorem regIds_keys : ∀ (i : Nat) (bg : List Nat), (regIds i bg).map (·.1) = regKeys i bg.length
 | _, [] => rfl
 | i, b :: bs => by simp [regIds, regKeys, regIds_keys (i + 1) bs]
def WVp (cs : List Value) (W : Wld) (ts : List Value) : Ids → List Ent → Prop := fun ι L => ∃ bp bc br bs bg m x, bg.length = W.procs.length ∧ m.ok W.procs.length ∧ x.ok W ∧ ι = wIds bp bc br bs bg ∧ L = wEnts W ts m x ∧ denL (wIds bp bc br bs bg) (wCels W m x) = some cs
def worldV (cs : List Value) (W : Wld) (ts : List Value) : HP := packHP (WVp cs W ts)
def WPp (b : Nat) (W : Wld) (ts : List Value) : Ids → List Ent → Prop := fun ι L => ∃ bp bc br bs bg m x, bg.length = W.procs.length ∧ m.ok W.procs.length ∧ x.ok W ∧ ι = (1007, b) :: wIds bp bc br bs bg ∧ L = .blk 1007 56 (wCels W m x) :: wEnts W ts m x
def worldP (b : Nat) (W : Wld) (ts : List Value) : HP := packHP (WPp b W ts)
def wKeys (n : Nat) : List Nat := 1000 :: 1001 :: 1002 :: 1003 :: 1004 :: 1005 :: 1006 :: regKeys 0 n
def iKeys (n : Nat) : List Nat := 1000 :: 1001 :: 1002 :: 1003 :: regKeys 0 n
def takeC : Nat → List Cel → Option (List Cel × List Cel)
 | 0, l => some ([], l)
 | n + 1, c :: l => match takeC n l with
  | some (x, r) => some (c :: x, r)
  | none => none
 | _ + 1, [] => none
theorem takeC_eq : ∀ {n : Nat} {l x r : List Cel}, takeC n l = some (x, r) → l = x ++ r
 | 0, l, x, r, h => by cases h; rfl
 | n + 1, [], x, r, h => by cases h
 | n + 1, c :: l, x, r, h => by
  simp only [takeC] at h
  split at h
  ·rename_i y q hq; cases h; rw [takeC_eq hq]; rfl
  ·cases h
theorem denL_app {ι : Ids} (l l' : List Cel) : denL ι (l ++ l') = match denL ι l with
  | some vs => (match denL ι l' with | some vs' => some (vs ++ vs') | none => none)
  | none => none := by
 induction l with
 | nil => simp only [List.nil_append, denL]; cases denL ι l' <;> rfl
 | cons c l ih =>
  simp only [List.cons_append, denL, ih]
  cases denC ι c with
  | none => rfl
  | some v => cases denL ι l with
   | none => rfl
   | some vs => cases denL ι l' <;> rfl
theorem denL_sp {ι ι' : Ids} (n : Nat) {cs cs' l l' : List Cel} {sp : List Value} (h : takeC n cs = some (l, vL sp)) (h' : takeC n cs' = some (l', vL sp)) (hd : denL ι l = denL ι' l') : denL ι cs = denL ι' cs' := by
 rw [takeC_eq h, takeC_eq h', denL_app, denL_app, hd, denL_vL, denL_vL]
section
variable {C : Ctx} {k : List It} {E : Env} {ι : Ids} {L : List Ent} {G : PH} {W : Wld} {ts : List Value} {L' L1 L2 : List Ent} {cs : List Value}
theorem S_openV (κ d : Nat) (hL : getH κ L = some (worldV cs W ts)) (hL' : delH κ L = some L') (hf : freshB (iKeys W.procs.length) ι = true) (hE : look d E = some (.val (.agg cs.toArray)))
  (hk : ∀ bp bc br bs bg m, bg.length = W.procs.length → m.ok W.procs.length → cs = [.slice (some ⟨bp, 0, none⟩) W.procs.length m.kp, .slice (some ⟨bc, 0, none⟩) 3 m.kc, .slice (some ⟨br, 0, none⟩) 2 m.kr, .slice (some ⟨bs, 0, none⟩) 2 m.ks, .slice m.asd W.said.length m.ksd] → X C k ((d, .agg (wCels W m (WX.of W))) :: E) (wIds bp bc br bs bg ++ ι) (wEnts W ts m (WX.of W) ++ L') G) : X C k E ι L G := by
 refine S_unpack κ (iKeys W.procs.length) hL hL' ?_ hf ?_
 ·rintro ι0 L0 ⟨bp, bc, br, bs, bg, m, x, hl, hmk, hx, rfl, rfl, _⟩
  simp [wIds, iKeys, regIds_keys, hl]
 ·rintro ι0 L0 ⟨bp, bc, br, bs, bg, m, x, hl, hmk, hx, rfl, rfl, hcs⟩
  rw [WX.ok_eq hx] at hcs ⊢
  refine S_reE d (.agg (wCels W m (WX.of W))) hE ?_ (hk bp bc br bs bg m hl hmk ?_)
  ·simp only [denO]
   rw [denL_le (IdsLe.left _ ι) hcs]
  have : denL (wIds bp bc br bs bg) (wCels W m (WX.of W)) = some [.slice (some ⟨bp, 0, none⟩) W.procs.length m.kp, .slice (some ⟨bc, 0, none⟩) 3 m.kc, .slice (some ⟨br, 0, none⟩) 2 m.kr, .slice (some ⟨bs, 0, none⟩) 2 m.ks, .slice m.asd W.said.length m.ksd] := rfl
  rw [hcs] at this
  exact Option.some.inj this
theorem S_csV (κ : Nat) (hL : getH κ L = some (worldV cs W ts)) (hk : ∀ bp bc br bs kp asd ksd kc kr ks, cs = [.slice (some ⟨bp, 0, none⟩) W.procs.length kp, .slice (some ⟨bc, 0, none⟩) 3 kc, .slice (some ⟨br, 0, none⟩) 2 kr, .slice (some ⟨bs, 0, none⟩) 2 ks, .slice asd W.said.length ksd] → X C k E ι L G) : X C k E ι L G := by
 intro a w h1 h2 h3 h4
 obtain ⟨Ss, ho, _⟩ := h4.own
 obtain ⟨S, ⟨ι0, L0, Ss0, ⟨bp, bc, br, bs, bg, m, x, hl, hmk, hx, rfl, rfl, hcs⟩, _⟩, _⟩ := owns_split ho hL
 rw [WX.ok_eq hx] at hcs
 have : denL (wIds bp bc br bs bg) (wCels W m (WX.of W)) = some [.slice (some ⟨bp, 0, none⟩) W.procs.length m.kp, .slice (some ⟨bc, 0, none⟩) 3 m.kc, .slice (some ⟨br, 0, none⟩) 2 m.kr, .slice (some ⟨bs, 0, none⟩) 2 m.ks, .slice m.asd W.said.length m.ksd] := rfl
 rw [hcs] at this
 exact hk bp bc br bs m.kp m.asd m.ksd m.kc m.kr m.ks (Option.some.inj this) a w h1 h2 h3 h4
theorem S_openP (κ d : Nat) {b : Nat} (hL : getH κ L = some (worldP b W ts)) (hL' : delH κ L = some L') (hf : freshB (1007 :: iKeys W.procs.length) ι = true) (hE : look d E = some (.val (.pointer (some ⟨b, 0, none⟩))))
  (hk : ∀ bp bc br bs bg m, bg.length = W.procs.length → m.ok W.procs.length → X C k ((d, .ptr 1007 0) :: E) ((1007, b) :: wIds bp bc br bs bg ++ ι) (.blk 1007 56 (wCels W m (WX.of W)) :: wEnts W ts m (WX.of W) ++ L') G) : X C k E ι L G := by
 refine S_unpack κ (1007 :: iKeys W.procs.length) hL hL' ?_ hf ?_
 ·rintro ι0 L0 ⟨bp, bc, br, bs, bg, m, x, hl, hmk, hx, rfl, rfl⟩
  simp [wIds, iKeys, regIds_keys, hl]
 ·rintro ι0 L0 ⟨bp, bc, br, bs, bg, m, x, hl, hmk, hx, rfl, rfl⟩
  rw [WX.ok_eq hx]
  refine S_reE d (.ptr 1007 0) hE ?_ (hk bp bc br bs bg m hl hmk)
  simp [denO, lookI]
end
def Tds (G : PH) : List Prc → List Value → Prop
 | [], [] => True
 | p :: ps, v :: vs => Sts G p.todo v ∧ Tds G ps vs
 | _, _ => False
theorem Tds_le {G G' : PH} (hl : G.le G') : ∀ {ps : List Prc} {vs : List Value}, Tds G ps vs → Tds G' ps vs
 | [], [], h => h
 | p :: ps, v :: vs, h => ⟨Sts_le hl h.1, Tds_le hl h.2⟩
 | [], _ :: _, h => h
 | _ :: _, [], h => h
theorem intC_length : ∀ l : List Int, (intC l).length = l.length
 | [] => rfl
 | _ :: l => by simp [intC, intC_length l]
theorem intC_append : ∀ l l' : List Int, intC (l ++ l') = intC l ++ intC l'
 | [], _ => rfl
 | n :: l, l' => by simp [intC, intC_append l l']
theorem saidC_append : ∀ l l' : List (Int × Int), saidC (l ++ l') = saidC l ++ saidC l'
 | [], _ => rfl
 | (a, b) :: l, l' => by simp [saidC, saidC_append l l']
theorem Bs {ι ι' : Ids} {k k' t : Nat} {L L' : List Ent} (n : Nat) {cs cs' l l' : List Cel} {sp : List Value} (h0 : lookI k ι = lookI k' ι') (h : takeC n cs = some (l, vL sp)) (h' : takeC n cs' = some (l', vL sp)) (hd : denL ι l = denL ι' l') (r : subL ι ι' L L') : subL ι ι' (.blk k t cs :: L) (.blk k' t cs' :: L') := .blk h0 (denL_sp n h h' hd) r
theorem Wsub {ι ι' : Ids} {L L' : List Ent} (n : Nat) {k1 k2 k3 k4 j1 j2 j3 j4 t1 t2 t3 t4 p1 p2 p3 q1 q2 q3 : Nat} {A1 A2 A3 : HP} {c1 d1 l1 m1 c2 d2 l2 m2 c3 d3 l3 m3 c4 d4 l4 m4 : List Cel} {s1 s2 s3 s4 : List Value} (a1 : lookI k1 ι = lookI j1 ι') (b1 : takeC n c1 = some (l1, vL s1)) (e1 : takeC n d1 = some (m1, vL s1)) (f1 : denL ι l1 = denL ι' m1) (a2 : lookI k2 ι = lookI j2 ι') (b2 : takeC 3 c2 = some (l2, vL s2)) (e2 : takeC 3 d2 = some (m2, vL s2)) (f2 : denL ι l2 = denL ι' m2) (a3 : lookI k3 ι = lookI j3 ι') (b3 : takeC 2 c3 = some (l3, vL s3)) (e3 : takeC 2 d3 = some (m3, vL s3)) (f3 : denL ι l3 = denL ι' m3) (a4 : lookI k4 ι = lookI j4 ι') (b4 : takeC 2 c4 = some (l4, vL s4)) (e4 : takeC 2 d4 = some (m4, vL s4)) (f4 : denL ι l4 = denL ι' m4) (r : subL ι ι' L L') : subL ι ι' (.blk k1 t1 c1 :: .blk k2 t2 c2 :: .blk k3 t3 c3 :: .blk k4 t4 c4 :: .hp p1 A1 :: .hp p2 A2 :: .hp p3 A3 :: L) (.blk j1 t1 d1 :: .blk j2 t2 d2 :: .blk j3 t3 d3 :: .blk j4 t4 d4 :: .hp q1 A1 :: .hp q2 A2 :: .hp q3 A3 :: L') := Bs n a1 b1 e1 f1 (Bs 3 a2 b2 e2 f2 (Bs 2 a3 b3 e3 f3 (Bs 2 a4 b4 e4 f4 (.hp (.hp (.hp r))))))
theorem Wpp {b : Nat} {W : Wld} {ts : List Value} {ι : Ids} {L : List Ent} {bp bc br bs : Nat} (bg : List Nat) {kp : Nat} {sp : List Value} {asd : Option Addr} {ksd : Nat} {aq0 : Option Addr} {kq0 : Nat} {aq1 : Option Addr} {kq1 kc : Nat} {spc : List Value} {kr : Nat} {spr : List Value} {ks : Nat} {sps : List Value} (kg : Nat → Nat) (spg : Nat → List Value) {ns : Nat} {xs : List Value} {n0 : Nat} {y0 : List Value} {n1 : Nat} {y1 : List Value} (h1 : bg.length = W.procs.length) (h2 : mOk kp kc kr ks kg W.procs.length) (h3 : ns = W.said.length) (h4 : xs = saidC W.said) (h5 : n0 = W.q0.length) (h6 : y0 = intC W.q0) (h7 : n1 = W.q1.length) (h8 : y1 = intC W.q1) (h9 : ι = (1007, b) :: wIds bp bc br bs bg) (h10 : L = .blk 1007 56 (wCels W ⟨kp, sp, asd, ksd, aq0, kq0, aq1, kq1, kc, spc, kr, spr, ks, sps, kg, spg⟩ ⟨ns, xs, n0, y0, n1, y1⟩) :: wEnts W ts ⟨kp, sp, asd, ksd, aq0, kq0, aq1, kq1, kc, spc, kr, spr, ks, sps, kg, spg⟩ ⟨ns, xs, n0, y0, n1, y1⟩) : WPp b W ts ι L := ⟨bp, bc, br, bs, bg, ⟨kp, sp, asd, ksd, aq0, kq0, aq1, kq1, kc, spc, kr, spr, ks, sps, kg, spg⟩, ⟨ns, xs, n0, y0, n1, y1⟩, h1, h2, ⟨⟨h3, h4⟩, ⟨h5, h6⟩, h7, h8⟩, h9, h10⟩
theorem Wvp {cs ts : List Value} {W : Wld} {ι : Ids} {L : List Ent} {bp bc br bs : Nat} (bg : List Nat) {kp : Nat} {sp : List Value} {asd : Option Addr} {ksd : Nat} {aq0 : Option Addr} {kq0 : Nat} {aq1 : Option Addr} {kq1 kc : Nat} {spc : List Value} {kr : Nat} {spr : List Value} {ks : Nat} {sps : List Value} (kg : Nat → Nat) (spg : Nat → List Value) {ns : Nat} {xs : List Value} {n0 : Nat} {y0 : List Value} {n1 : Nat} {y1 : List Value} (h1 : bg.length = W.procs.length) (h2 : mOk kp kc kr ks kg W.procs.length) (h3 : ns = W.said.length) (h4 : xs = saidC W.said) (h5 : n0 = W.q0.length) (h6 : y0 = intC W.q0) (h7 : n1 = W.q1.length) (h8 : y1 = intC W.q1) (h9 : ι = wIds bp bc br bs bg) (h10 : L = wEnts W ts ⟨kp, sp, asd, ksd, aq0, kq0, aq1, kq1, kc, spc, kr, spr, ks, sps, kg, spg⟩ ⟨ns, xs, n0, y0, n1, y1⟩) (h11 : denL (wIds bp bc br bs bg) (wCels W ⟨kp, sp, asd, ksd, aq0, kq0, aq1, kq1, kc, spc, kr, spr, ks, sps, kg, spg⟩ ⟨ns, xs, n0, y0, n1, y1⟩) = some cs) : WVp cs W ts ι L := ⟨bp, bc, br, bs, bg, ⟨kp, sp, asd, ksd, aq0, kq0, aq1, kq1, kc, spc, kr, spr, ks, sps, kg, spg⟩, ⟨ns, xs, n0, y0, n1, y1⟩, h1, h2, ⟨⟨h3, h4⟩, ⟨h5, h6⟩, h7, h8⟩, h9, h10, h11⟩
section
variable {C : Ctx} {k : List It} {E : Env} {ι : Ids} {L : List Ent} {G : PH} {W : Wld} {ts : List Value} {L' L1 L2 : List Ent} {cs : List Value}
theorem OvV (κ d : Nat) (hL : getH κ L = some (worldV cs W ts)) (hL' : delH κ L = some L') (hf : freshB (iKeys W.procs.length) ι = true) (hE : look d E = some (.val (.agg cs.toArray))) (hk : ∀ bp bc br bs bg kp sp asd ksd aq0 kq0 aq1 kq1 kc spc kr spr ks sps kg spg, bg.length = W.procs.length → mOk kp kc kr ks kg W.procs.length → cs = [.slice (some ⟨bp, 0, none⟩) W.procs.length kp, .slice (some ⟨bc, 0, none⟩) 3 kc, .slice (some ⟨br, 0, none⟩) 2 kr, .slice (some ⟨bs, 0, none⟩) 2 ks, .slice asd W.said.length ksd] → X C k ((d, .agg (wCels W ⟨kp, sp, asd, ksd, aq0, kq0, aq1, kq1, kc, spc, kr, spr, ks, sps, kg, spg⟩ (WX.of W))) :: E) (wIds bp bc br bs bg ++ ι) (wEnts W ts ⟨kp, sp, asd, ksd, aq0, kq0, aq1, kq1, kc, spc, kr, spr, ks, sps, kg, spg⟩ (WX.of W) ++ L') G) : X C k E ι L G := S_openV κ d hL hL' hf hE fun bp bc br bs bg m h1 h2 h3 => hk bp bc br bs bg m.kp m.sp m.asd m.ksd m.aq0 m.kq0 m.aq1 m.kq1 m.kc m.spc m.kr m.spr m.ks m.sps m.kg m.spg h1 h2 h3
theorem OpP (κ d : Nat) {b : Nat} (hL : getH κ L = some (worldP b W ts)) (hL' : delH κ L = some L') (hf : freshB (1007 :: iKeys W.procs.length) ι = true) (hE : look d E = some (.val (.pointer (some ⟨b, 0, none⟩)))) (hk : ∀ bp bc br bs bg kp sp asd ksd aq0 kq0 aq1 kq1 kc spc kr spr ks sps kg spg, bg.length = W.procs.length → mOk kp kc kr ks kg W.procs.length → X C k ((d, .ptr 1007 0) :: E) ((1007, b) :: wIds bp bc br bs bg ++ ι) (.blk 1007 56 (wCels W ⟨kp, sp, asd, ksd, aq0, kq0, aq1, kq1, kc, spc, kr, spr, ks, sps, kg, spg⟩ (WX.of W)) :: wEnts W ts ⟨kp, sp, asd, ksd, aq0, kq0, aq1, kq1, kc, spc, kr, spr, ks, sps, kg, spg⟩ (WX.of W) ++ L') G) : X C k E ι L G := S_openP κ d hL hL' hf hE fun bp bc br bs bg m h1 h2 => hk bp bc br bs bg m.kp m.sp m.asd m.ksd m.aq0 m.kq0 m.aq1 m.kq1 m.kc m.spc m.kr m.spr m.ks m.sps m.kg m.spg h1 h2
end
end
section
theorem run_eqNil {P : Program} (w : World) {t e : TypeId} (A : Option Addr) (n c : Nat) (ht : P.underlying t = some (.slice e)) : (binOp .eql t (.slice A n c) (.slice none 0 0)).run P w = .ok (.bool A.isNone) w := by
 have h : ∀ d : Nat, (Op.equalIn (d + 1) t (.slice A n c) (.slice none 0 0)).run P w = .ok A.isNone w := fun d => by
  cases A <;> simp [Op.equalIn, run_underlying ht]
 simp only [binOp]
 simp [Op.equal, Op.maxDepth, h 9999]
section
variable {C : Ctx} {E : Env} {ι : Ids} {L : List Ent} {G : PH} {d : Option Nat} {ty : Nat} {pos : String} {af : Array Edge} {g : Option (Nat × Bool)}
theorem V_eqNil {T : Tab} (hT : tabOk C.P T) {t t' e sz : Nat} {os : List Nat} {x : Operand} {A : Option Addr} {n c : Nat} (ht : lookT t T = some ⟨.slc e, sz, os⟩) (hx : ev E x = some (.val (.slice A n c))) : Vl C ι E L G ⟨d, .binOp .eql t x (.const (.slice none 0 0)) t', ty, pos, af, g⟩ (.bool A.isNone) := by
 intro a w hE hw
 have ex := ev_sound hE hx
 simp only [denO, Option.some.injEq] at ex
 have ey : a.eval (.const (.slice none 0 0)) = .slice none 0 0 := rfl
 have hr := run_eqNil (P := C.P) w A n c (tyOk_slice (hT _ _ ht) rfl)
 simp only [execOp, ← ex, ey]
 simp [eqGuard, hr]
theorem V_cap {T : Tab} (hT : tabOk C.P T) {t e sz : Nat} {os : List Nat} {x : Operand} {A : Option Addr} {n c : Nat} (ht : lookT t T = some ⟨.slc e, sz, os⟩) (hx : ev E x = some (.val (.slice A n c))) : Vl C ι E L G ⟨d, .call ⟨.builtin .cap, #[x], #[t]⟩, ty, pos, af, g⟩ (.int .i64 c) := by
 intro a w hE hw
 have ex := ev_sound hE hx
 simp only [denO, Option.some.injEq] at ex
 have hu := tyOk_slice (hT _ _ ht) rfl
 simp only [execOp, resolve, invoke, List.map_toArray, List.map_cons, List.map_nil, ← ex]
 simp [go_sem, Builtin.cap_, run_underlying hu, goInt]
theorem V_max {t t' : Nat} {x y : Operand} {p q : Int} (hx : ev E x = some (.val (.int .i64 p))) (hy : ev E y = some (.val (.int .i64 q))) : Vl C ι E L G ⟨d, .call ⟨.builtin .max, #[x, y], #[t, t']⟩, ty, pos, af, g⟩ (.int .i64 (max p q)) := by
 intro a w hE hw
 have ex := ev_sound hE hx
 have ey := ev_sound hE hy
 simp only [denO, Option.some.injEq] at ex ey
 simp only [execOp, resolve, invoke, List.map_toArray, List.map_cons, List.map_nil, ← ex, ← ey]
 have : (if q > p then q else p) = max p q := by split <;> omega
 simp [builtin, Builtin.max_, Builtin.max2, this]
theorem V_min {t t' : Nat} {x y : Operand} {p q : Int} (hx : ev E x = some (.val (.int .i64 p))) (hy : ev E y = some (.val (.int .i64 q))) : Vl C ι E L G ⟨d, .call ⟨.builtin .min, #[x, y], #[t, t']⟩, ty, pos, af, g⟩ (.int .i64 (min p q)) := by
 intro a w hE hw
 have ex := ev_sound hE hx
 have ey := ev_sound hE hy
 simp only [denO, Option.some.injEq] at ex ey
 simp only [execOp, resolve, invoke, List.map_toArray, List.map_cons, List.map_nil, ← ex, ← ey]
 have : (if q < p then q else p) = min p q := by split <;> omega
 simp [builtin, Builtin.min_, Builtin.min2, this]
theorem V_iface {t : Nat} {x : Operand} {s : Sym} {v : Value} (hu : (match C.P.underlying t with | some (.struct _) => true | _ => false) = true) (hx : ev E x = some s) (hv : denO ι s = some v) : Vl C ι E L G ⟨d, .makeInterface t x, ty, pos, af, g⟩ (.iface t v) := by
 intro a w hE hw
 have ex := ev_sound hE hx
 rw [hv] at ex; cases ex
 split at hu
 ·rename_i fs hq
  simp only [execOp]
  simp [Instr.makeInterface, run_underlying hq]
 ·cases hu
theorem V_build0 {t : Nat} (hb : C.P.built t [] = some #[]) : Vl C ι E L G ⟨d, .build t #[], ty, pos, af, g⟩ (.agg #[]) := by
 intro a w hE hw
 simp only [execOp]
 simp [run_build w t #[] _ hb]
theorem V_builtC {t : Nat} {parts : Array (Nat × Operand)} {vs : List (Nat × Value)} {cs : Array Value} (hp : parts.toList.map (fun x => (x.1, ev E x.2)) = vs.map (fun x => (x.1, some (Sym.val x.2)))) (hb : C.P.built t vs = some cs) : Vl C ι E L G ⟨d, .build t parts, ty, pos, af, g⟩ (.agg cs) := by
 intro a w hE hw
 have hq : (parts.map fun (i, x) => (i, a.eval x)).toList = vs := by
  rw [Array.toList_map]
  generalize parts.toList = l at hp
  clear hb
  induction l generalizing vs with
  | nil => cases vs with
   | nil => rfl
   | cons => simp at hp
  | cons y l ih =>
   cases vs with
   | nil => simp at hp
   | cons z vs =>
    simp only [List.map_cons, List.cons.injEq, Prod.mk.injEq] at hp
    obtain ⟨⟨h1, h2⟩, h3⟩ := hp
    have e := ev_sound hE h2
    simp only [denO, Option.some.injEq] at e
    rw [List.map_cons, ih h3]
    obtain ⟨i, y⟩ := y
    obtain ⟨j, z⟩ := z
    simp only at h1 e
    subst h1
    show (_, a.eval y) :: vs = _
    rw [← e]
 simp only [execOp]
 simp [run_build w t _ _ (by rw [hq]; exact hb)]
theorem V_slice0 {T : Tab} (hT : tabOk C.P T) {t e sz sz' : Nat} {os os' : List Nat} {tk : TK} {x y : Operand} {A : Option Addr} {n c : Nat} (ht : lookT t T = some ⟨.slc e, sz', os'⟩) (he : lookT e T = some ⟨tk, sz, os⟩) (hx : ev E x = some (.val (.slice A n c))) (hy : ev E y = some (.val (.int .i64 0))) :
  Vl C ι E L G ⟨d, .slice t x none (some y) none, ty, pos, af, g⟩ (.slice A 0 c) := by
 intro a w hE hw
 have ex := ev_sound hE hx
 have ey := ev_sound hE hy
 simp only [denO, Option.some.injEq] at ex ey
 have hu := tyOk_slice (hT _ _ ht) rfl
 simp only [execOp, ← ex, Option.map_some, Option.map_none, ← ey]
 simp only [Instr.sliceAt, Sem.run_bind, run_underlying hu, Result.andThen_ok]
 simp [Instr.slice, run_underlying hu, Instr.sliceBounds, Instr.sliceBound, asIntOf, tyOk_size (hT _ _ he)]
 cases A <;> simp [Addr.add]
theorem V_slice1 {T : Tab} (hT : tabOk C.P T) {t e sz sz' : Nat} {os os' : List Nat} {tk : TK} {x : Operand} {A : Option Addr} {n c : Nat} (ht : lookT t T = some ⟨.slc e, sz', os'⟩) (he : lookT e T = some ⟨tk, sz, os⟩) (hx : ev E x = some (.val (.slice A (n + 1) c))) :
  Vl C ι E L G ⟨d, .slice t x (some (.const (.int .i64 1))) none none, ty, pos, af, g⟩ (.slice (if c = 1 then A else A.map (·.add (1 * sz))) n (c - 1)) := by
 intro a w hE hw
 have ex := ev_sound hE hx
 simp only [denO, Option.some.injEq] at ex
 have hu := tyOk_slice (hT _ _ ht) rfl
 simp only [execOp, Option.map_some, Option.map_none, ← ex]
 have : a.eval (.const (.int .i64 1)) = .int .i64 1 := rfl
 rw [this]
 have h1 : (1 : Int) ≤ (n : Int) + 1 := by omega
 simp only [Instr.sliceAt, Sem.run_bind, run_underlying hu, Result.andThen_ok]
 simp [Instr.slice, run_underlying hu, Instr.sliceBounds, Instr.sliceBound, asIntOf, tyOk_size (hT _ _ he), h1]
theorem V_field {T : Tab} (hT : tabOk C.P T) {t m o : Nat} {os : List Nat} {x : Operand} {f : Nat} {cs : Array Value} {v : Value} (ht : lookT t T = some ⟨.agg, m, os⟩) (hx : ev E x = some (.val (.agg cs))) (ho : nthO f os = some o) (hc : nthN o cs.toList = some v)
  (hft : (match C.P.underlying t with | some (.struct fs) => (match fs[f]? with | some fd => (match C.P.underlying fd.type with | some (.int _) => true | _ => false) | _ => false) | _ => false) = true) : Vl C ι E L G ⟨d, .field t x f, ty, pos, af, g⟩ v := by
 intro a w hE hw
 have ex := ev_sound hE hx
 simp only [denO, Option.some.injEq] at ex
 split at hft
 ·rename_i fs hfs
  split at hft
  ·rename_i fd hfd
   split at hft
   ·rename_i k hk
    obtain ⟨dsc, inf, hu, hi, hkk, hsz, hoffs, _⟩ := tyOk_parts (hT _ _ ht)
    rw [hfs] at hu; cases hu
    simp only [offsOk, Bool.and_eq_true, beq_iff_eq] at hoffs
    have hd' := nthO_eq ho
    rw [← hoffs.1, List.getElem?_map] at hd'
    obtain ⟨fd', hfd', hoff⟩ := Option.map_eq_some_iff.1 hd'
    rw [Array.getElem?_toList, hfd] at hfd'
    cases hfd'
    have hcv := nthN_eq hc
    rw [Array.getElem?_toList] at hcv
    have hfd'' : fs.toList[f]? = some fd := by simpa using hfd
    simp only [execOp, ← ex]
    simp [Instr.field, run_underlying hfs, hfd, asAgg, part, isAgg, run_underlying hk, hoff, hcv]
   ·cases hft
  ·cases hft
 ·cases hft
end
theorem S_growNil {C : Ctx} {k : List It} {E : Env} {ι : Ids} {L : List Ent} {G : PH} {all : Array Oper} {l : List Oper} {T : Tab} (hT : tabOk C.P T) (κ : Nat) {d t tn e sz' sz : Nat} {os os' : List Nat} {tk : TK} {zi : ZI} {s x : Operand} {ty : Nat} {pos : String} {af : Array Edge} {g : Option (Nat × Bool)} {n : Nat} {kn : IntKind}
  (ht : lookT t T = some ⟨.slc e, sz', os'⟩) (he : lookT e T = some ⟨tk, sz, os⟩) (hz : lookZ e T.zs = some zi) (hzs : zi.zs.length = sz) (hsz : Nat.ble 1 sz = true) (htn : C.P.underlying tn = some (.int kn))
  (hg : guardOf all E g = .on) (hN : Nat.ble (d + 1) C.n = true) (hs : ev E s = some (.val (.slice none 0 0))) (hx : ev E x = some (.val (.int .i64 n))) (h0 : 0 < n) (h63 : n ≤ maxLen) (hby : n * zi.b ≤ 281474976710656)
  (hk : ∀ A c, n ≤ c → X C (.ops all l :: k) ((d, .val (.slice A n c)) :: E) ι (.hp κ (rowO C.w0.heap.size e sz A 0 c []) :: L) G) : X C (.ops all (⟨some d, .call ⟨.builtin .append, #[s, x], #[t, tn]⟩, ty, pos, af, g⟩ :: l) :: k) E ι L G := by
 intro a w h1 h2 h3 h4
 have hdn : d < a.tmps.size := by rw [h2]; exact Nat.le_of_ble_eq_true hN
 have es := ev_sound h3 hs
 have ex := ev_sound h3 hx
 simp only [denO, Option.some.injEq] at es ex
 have hu := tyOk_slice (hT _ _ ht) rfl
 obtain ⟨dsc, inf, _, hi, _, hsize, _⟩ := tyOk_parts (hT _ _ he)
 obtain ⟨inf', vz, hi', hv, hb, hc, _⟩ := viewZ_eq (hT.z _ _ hz)
 rw [hi] at hi'; cases hi'
 simp only at hsize
 have hsp : 0 < sz := Nat.le_of_ble_eq_true hsz
 have hr := Go.Lib.run_append_nil_zeros (P := C.P) w t tn ty e inf vz .i64 kn hu htn hi hv n h0 (by omega) (by simp only [maxLen] at h63; omega) (by rw [hb]; exact hby)
 have hrun : (execOp a.eval ⟨some d, .call ⟨.builtin .append, #[s, x], #[t, tn]⟩, ty, pos, af, g⟩).run C.P w = .ok (.value (.slice (some ⟨w.heap.size, 0, none⟩) n (grownCap w n 0 e))) (w.drew.alloc (.cells (Builtin.zeroCells vz.cells n ++ Builtin.zeroCells vz.cells (grownCap w n 0 e - n)) e)) := by
  simp only [execOp, resolve, invoke, List.map_toArray, List.map_cons, List.map_nil, ← es, ← ex]
  simp [builtin, hr]
 have hge := grownCap_ge w n 0 e
 have hcm := grownCap_le_maxLen w n 0 e h63
 refine wpE_val (guardOf_on h3 hg) (by intro c h; cases h) hrun ?_;refine hk _ _ hge _ _ h1 (by simp [Act.put, h2]) (h3.put hdn J) ?_
 have h4' : SatW C ι L G w.drew := ⟨h4.os, h4.tape, h4.output, h4.size, h4.keep, h4.emb, by
  obtain ⟨Ss, ho, hS⟩ := h4.own
  exact ⟨Ss, owns_far ho (fun _ => False) (fun _ _ => J) (fun _ _ _ _ h => h), hS⟩⟩
 have hal := h4'.allocH κ (.cells (Builtin.zeroCells vz.cells n ++ Builtin.zeroCells vz.cells (grownCap w n 0 e - n)) e)
 obtain ⟨Ss, ho, hS⟩ := hal.own
 cases Ss with
 | nil => simp [owns] at ho
 | cons S Ss =>
  obtain ⟨hA, hd, hr⟩ := ho
  refine ⟨hal.os, hal.tape, hal.output, hal.size, hal.keep, hal.emb, S :: Ss, ⟨⟨by simp, hcm, Nat.zero_le _, .inr ⟨_, 0, _, J, h4.size, hA.1, ?_, by simp, hA.2⟩⟩, hd, hr⟩, hS⟩
  simp only [Array.size_append, size_zeroCells, hc, ← Nat.add_mul, List.size_toArray, hzs]
  rw [Nat.zero_add]
  exact Nat.mul_le_mul_right _ (by omega)
def emptyHP : HP := packHP fun ι L => ι = [] ∧ L = []
theorem S_newE {C : Ctx} {k : List It} {E : Env} {ι : Ids} {L : List Ent} {G : PH} (κ : Nat) (hx : X C k E ι (.hp κ emptyHP :: L) G) : X C k E ι L G := by
 refine S_pack (ι1 := []) (L1 := []) (L2 := L) (Ls := []) κ [] J .nil ⟨J, J⟩ hx
theorem S_rebase {C : Ctx} {k : List It} {E : Env} {ι : Ids} {L : List Ent} {G : PH} (κ : Nat) {base e sz : Nat} {A : Option Addr} {n c : Nat} {xs : List Value} {L' : List Ent} (hS0 : ∀ b, ¬ C.S0 b) (hL : getH κ L = some (rowO base e sz A n c xs)) (hL' : setH κ (rowO C.w0.heap.size e sz A n c xs) L = some L') (hx : X C k E ι L' G) : X C k E ι L G := by
 intro a w h1 h2 h3 h4
 refine hx a w h1 h2 h3 ?_;obtain ⟨S, hA, hSG, hturn⟩ := h4.turn hL
 obtain ⟨Ss, ho, hS⟩ := h4.own
 obtain ⟨S2, hA2, hm2, _⟩ := owns_split ho hL
 refine hturn _ _ G w S hL' ?_ h4.emb XR (fun b hb => ⟨hSG b hb, .inl hb⟩) J J J (Nat.le_refl _) fun _ _ _ => J
 obtain ⟨q1, q2, q3, q4⟩ := hA
 refine ⟨q1, q2, q3, ?_⟩
 rcases q4 with q4 | ⟨g, off, cur, rfl, q0, q5, q6, q7, q8⟩
 ·exact .inl q4
 ·refine .inr ⟨g, off, cur, J, ?_, q5, q6, q7, q8⟩
  obtain ⟨r1, r2, r3, r4⟩ := hA2
  rcases r4 with ⟨r4, _⟩ | ⟨g', off', cur', r, r0, r5, r6, r7, r8⟩
  ·cases r4
  ·cases r
   rcases (hS S2 hm2 _ ((r8 _).2 rfl)).2 with h | h
   ·exact absurd h (hS0 _)
   ·exact h
theorem S_base0 {C : Ctx} {k : List It} {E : Env} {ι : Ids} {L : List Ent} {G : PH} (κ : Nat) {base e sz : Nat} {A : Option Addr} {n c : Nat} {xs : List Value} {L' : List Ent} (hL : getH κ L = some (rowO base e sz A n c xs)) (hL' : setH κ (rowO 0 e sz A n c xs) L = some L') (hx : X C k E ι L' G) : X C k E ι L G := by
 intro a w h1 h2 h3 h4
 refine hx a w h1 h2 h3 ?_;obtain ⟨S, hA, hSG, hturn⟩ := h4.turn hL
 refine hturn _ _ G w S hL' ?_ h4.emb XR (fun b hb => ⟨hSG b hb, .inl hb⟩) J J J (Nat.le_refl _) fun _ _ _ => J
 obtain ⟨q1, q2, q3, q4⟩ := hA
 refine ⟨q1, q2, q3, ?_⟩
 rcases q4 with q4 | ⟨g, off, cur, rfl, q0, q5, q6, q7, q8⟩
 ·exact .inl q4
 ·exact .inr ⟨g, off, cur, J, Nat.zero_le _, q5, q6, q7, q8⟩
def newHP (B : Nat) (A : HP) : HP where
 holds w S := A.holds w S ∧ ∀ b, S b → B ≤ b
 loc w w' S h hs := ⟨A.loc w w' S h.1 hs, h.2⟩
 lt w S h := A.lt w S h.1
theorem emptyHP_none {w : World} {S : Nat → Prop} (h : emptyHP.holds w S) : ∀ b, ¬ S b := by
 obtain ⟨ι, L, Ss, ⟨rfl, rfl⟩, ho, hS⟩ := h
 intro b hb
 obtain ⟨T, hT, _⟩ := (hS b).1 hb
 cases Ss with
 | nil => cases hT
 | cons => simp [owns] at ho
theorem emptyHP_holds (w : World) : emptyHP.holds w (fun _ => False) := ⟨[], [], [], ⟨rfl, rfl⟩, trivial, fun x => ⟨fun h => h.elim, fun ⟨T, hT, _⟩ => by cases hT⟩⟩
theorem S_callN {C : Ctx} {k : List It} {E : Env} {ι : Ids} {L : List Ent} {G : PH} {all : Array Oper} {l : List Oper} (κ : Nat) {d f : Nat} {xs : Array Operand} {ats : Array TypeId} {ty : Nat} {pos : String} {af : Array Edge} {g : Option (Nat × Bool)} {vs : List Value} {Post : Value → PH → HP → Prop} (hcf : ∀ args w, (callFunc f args).run C.P w = .ok (.enter f args) w)
  (hc : Mod C.P f vs G emptyHP Post) (hg : guardOf all E g = .on) (hN : Nat.ble (d + 1) C.n = true) (hxs : evs ι E xs.toList = some vs)
  (hk : ∀ v G' A', Post v G' A' → PH.ext C.w0.heap.size G G' → X C (.ops all l :: k) ((d, .val v) :: E) ι (.hp κ (newHP C.w0.heap.size A') :: L) G') : X C (.ops all (⟨some d, .call ⟨.value (.func f), xs, ats⟩, ty, pos, af, g⟩ :: l) :: k) E ι L G := by
 intro a w h1 h2 h3 h4
 have hdn : d < a.tmps.size := by rw [h2]; exact Nat.le_of_ble_eq_true hN
 have hcc := hc w (fun _ => False) h4.emb (emptyHP_holds w) (fun _ h => h.elim)
 refine wpE_call (f := f) (cap := #[]) (vs := vs) (guardOf_on h3 hg) J (evs_sound h3 hxs) hcf (R := fun v w' => ∃ G' A', Post v G' A' ∧ PH.ext C.w0.heap.size G G' ∧ SatW C ι (.hp κ (newHP C.w0.heap.size A') :: L) G' w') ?_ ?_
 ·simp only [List.append_nil, List.toList_toArray]
  refine hcc.mono ?_;rintro e w' ⟨v, G', A', S', rfl, hp, hA', hext, hemb, hS', e1, e2, e3, e4, hkeep⟩
  refine ⟨v, J, G', A', hp, hext.mono h4.size, ?_⟩
  obtain ⟨Ss, ho, hS⟩ := h4.own
  have hlt := owns_lt ho
  have hge : ∀ b, S' b → w.heap.size ≤ b := fun b hb => (hS' b hb).2.resolve_left id
  have hk' : ∀ b, b < w.heap.size → w'.heap[b]? = w.heap[b]? := fun b hb => hkeep b hb id
  refine ⟨e1.trans h4.os, e2.trans h4.tape, e3.trans h4.output, Nat.le_trans h4.size e4, fun b hb hn => ?_, hemb, S' :: Ss, ⟨⟨hA', fun b hb => Nat.le_trans h4.size (hge b hb)⟩, fun T hT b hb hb' => ?_, owns_far ho (fun b => w.heap.size ≤ b) (fun x hx => hk' x (by omega)) (fun T hT x hx => by have := hlt T hT x hx; omega)⟩, ?_⟩
  ·have := h4.size
   rw [hk' b (by omega)]; exact h4.keep b hb hn
  ·have := hlt T hT b hb'; have := hge b hb; omega
  ·intro T hT b hb
   rcases List.mem_cons.1 hT with rfl | hT
   ·exact ⟨(hS' b hb).1, .inr (Nat.le_trans h4.size (hge b hb))⟩
   ·refine ⟨?_, (hS T hT b hb).2⟩
    cases hq : G' b with
    | none => rfl
    | some o => have := hext.new b o hq (hS T hT b hb).1; have := hlt T hT b hb; omega
 ·rintro v w' ⟨G', A', hp, hext, hsat⟩
  exact hk v G' A' hp hext _ _ (h1.mono hext.le) (by simp [Act.put, h2]) (h3.put hdn J) hsat
theorem S_newRow {C : Ctx} {k : List It} {E : Env} {ι : Ids} {L : List Ent} {G : PH} (κ : Nat) {B base e sz : Nat} {A : Option Addr} {n c : Nat} {xs : List Value} {L' : List Ent} (hL : getH κ L = some (newHP B (rowO base e sz A n c xs))) (hL' : setH κ (rowO B e sz A n c xs) L = some L') (hx : X C k E ι L' G) : X C k E ι L G := by
 intro a w h1 h2 h3 h4
 refine hx a w h1 h2 h3 ?_;obtain ⟨S, ⟨hA, hB⟩, hSG, hturn⟩ := h4.turn hL
 refine hturn _ _ G w S hL' ?_ h4.emb XR (fun b hb => ⟨hSG b hb, .inl hb⟩) J J J (Nat.le_refl _) fun _ _ _ => J
 obtain ⟨q1, q2, q3, q4⟩ := hA
 refine ⟨q1, q2, q3, ?_⟩
 rcases q4 with q4 | ⟨g, off, cur, rfl, q0, q5, q6, q7, q8⟩
 ·exact .inl q4
 ·exact .inr ⟨g, off, cur, J, hB g ((q8 g).2 J), q5, q6, q7, q8⟩
end
section
def Sx (G : PH) (sz : Nat) (v : Value) (n : Nat) (xs : List Value) : Prop :=
 ∃ A c, v = .slice A n c ∧ n ≤ 1000000000 ∧ n ≤ c ∧ c ≤ maxLen ∧ xs.length = n * sz ∧ (n = 0 ∨ ∃ a, A = some a ∧ gcells G a xs)
theorem Sx_le {G G' : PH} (hl : G.le G') {sz n : Nat} {v : Value} {xs : List Value} (h : Sx G sz v n xs) : Sx G' sz v n xs := by
 obtain ⟨A, c, h1, h2, h3, h4, h5, h6⟩ := h
 refine ⟨A, c, h1, h2, h3, h4, h5, ?_⟩
 rcases h6 with h6 | ⟨a, h6, h7⟩
 ·exact .inl h6
 ·exact .inr ⟨a, h6, gcells_le hl h7⟩
section
variable {α : Type} {G : PH} {sz : Nat} {rep : α → List Value → Prop}
theorem gcells_app {ad : Addr} : ∀ {cs ys : List Value}, gcells G ad cs → gcells G (ad.add cs.length) ys → gcells G ad (cs ++ ys) := by
 intro cs
 induction cs generalizing ad with
 | nil => intro ys _ h; rw [List.length_nil, add_zero'] at h; exact h
 | cons c cs ih =>
  intro ys h h'
  refine ⟨h.1, ih h.2 ?_⟩
  rw [add_add', Nat.add_comm]; exact h'
theorem Rw_cells (hr : ∀ x cs, rep x cs → cs.length = sz) : ∀ {L : List α} {ad : Addr}, Rw G sz rep L ad → ∃ xs, gcells G ad xs ∧ Cs sz rep L xs := by
 intro L
 induction L with
 | nil => intro ad _; exact ⟨[], trivial, J⟩
 | cons x L ih =>
  rintro ad ⟨⟨cs, h1, h2⟩, h3⟩
  obtain ⟨ys, h4, h5⟩ := ih h3
  have hl := hr x cs h2
  exact ⟨cs ++ ys, gcells_app h1 (by rw [hl]; exact h4), cs, ys, J, hl, h2, h5⟩
theorem Cs_exists (hr : ∀ x cs, rep x cs → cs.length = sz) {L : List α} (h : L = []) : ∃ xs, Cs sz rep L xs := ⟨[], by subst h; rfl⟩
theorem Sr_Sx (hr : ∀ x cs, rep x cs → cs.length = sz) {L : List α} {v : Value} (h : Sr G sz rep L v) : ∃ xs, Sx G sz v L.length xs ∧ Cs sz rep L xs := by
 obtain ⟨A, c, h1, h2, h3, h4, h5⟩ := h
 by_cases hn : L.length = 0
 ·have : L = [] := List.eq_nil_of_length_eq_zero hn
  subst this
  exact ⟨[], ⟨A, c, h1, h2, h3, h4, by simp, .inl J⟩, J⟩
 ·rcases h5 with h5 | ⟨ad, h5, h6⟩
  ·exact absurd h5 hn
  ·obtain ⟨xs, h7, h8⟩ := Rw_cells hr h6
   exact ⟨xs, ⟨A, c, h1, h2, h3, h4, Cs_length h8, .inr ⟨ad, h5, h7⟩⟩, h8⟩
theorem Sx_Sr {L : List α} {v : Value} {n : Nat} {xs : List Value} (h : Sx G sz v n xs) (hn : n = L.length) (hc : Cs sz rep L xs) : Sr G sz rep L v := by
 subst hn
 obtain ⟨A, c, h1, h2, h3, h4, h5, h6⟩ := h
 refine ⟨A, c, h1, h2, h3, h4, ?_⟩
 rcases h6 with h6 | ⟨a, h6, h7⟩
 ·exact .inl h6
 ·exact .inr ⟨a, h6, Rw_of hc h7⟩
theorem Cs_one {L : List α} {xs : List Value} (h1 : ∀ x cs, rep x cs → ∀ u ∈ cs, u.oneCell' = true) (h : Cs sz rep L xs) : ∀ u ∈ xs, u.oneCell' = true := by
 induction L generalizing xs with
 | nil => cases h; intro u hu; cases hu
 | cons x L ih =>
  obtain ⟨cs, ys, rfl, _, h3, h4⟩ := h
  intro u hu
  rcases List.mem_append.1 hu with hu | hu
  ·exact h1 x cs h3 u hu
  ·exact ih h4 u hu
theorem Cs_append2 {L L' : List α} {xs ys : List Value} (h : Cs sz rep L xs) (h' : Cs sz rep L' ys) : Cs sz rep (L ++ L') (xs ++ ys) := by
 induction L generalizing xs with
 | nil => cases h; exact h'
 | cons x L ih =>
  obtain ⟨cs, zs, rfl, h2, h3, h4⟩ := h
  exact ⟨cs, zs ++ ys, by simp, h2, h3, ih h4⟩
end
theorem Stm.rep_one {G : PH} (s : Stm) (cs : List Value) (h : Stm.rep G s cs) : ∀ u ∈ cs, u.oneCell' = true := by
 cases s
 obtain ⟨vx, vy, rfl, _, _, _, _, ⟨Ax, cx, rfl, _⟩, ⟨Ay, cy, rfl, _⟩⟩ := Stm.rep_iff.1 h
 intro u hu
 simp at hu
 rcases hu with rfl | rfl | rfl | rfl | rfl | rfl <;> rfl
theorem intRep_len (n : Int) (cs : List Value) (h : intRep n cs) : cs.length = 1 := by rw [h.1]; rfl
theorem intRep_one (n : Int) (cs : List Value) (h : intRep n cs) : ∀ u ∈ cs, u.oneCell' = true := by rw [h.1]; intro u hu; simp at hu; subst hu; rfl
theorem Ints_Sx {G : PH} {l : List Int} {v : Value} (h : Ints G l v) : Sx G 1 v l.length (intC l) ∧ ∀ n ∈ l, I64 n := by
 obtain ⟨xs, h1, h2⟩ := Sr_Sx intRep_len h
 have : xs = intC l ∧ ∀ n ∈ l, I64 n := by
  clear h1 h
  induction l generalizing xs with
  | nil => cases h2; exact ⟨J, by simp⟩
  | cons n l ih =>
   obtain ⟨cs, ys, rfl, _, ⟨rfl, hi⟩, h4⟩ := h2
   obtain ⟨rfl, h5⟩ := ih _ h4
   exact ⟨J, by simpa using ⟨hi, h5⟩⟩
 exact ⟨this.1 ▸ h1, this.2⟩
theorem Sx_Ints {G : PH} {l : List Int} {v : Value} {n : Nat} (h : Sx G 1 v n (intC l)) (hn : n = l.length) (hi : ∀ n ∈ l, I64 n) : Ints G l v := by
 refine Sx_Sr h hn ?_
 clear h hn
 induction l with
 | nil => rfl
 | cons n l ih => exact ⟨[.int .i64 n], intC l, rfl, rfl, ⟨rfl, hi n (List.mem_cons_self ..)⟩, ih fun m hm => hi m (List.mem_cons_of_mem _ hm)⟩
theorem intC_one (l : List Int) : ∀ u ∈ intC l, u.oneCell' = true := by
 induction l with
 | nil => intro u hu; cases hu
 | cons n l ih => intro u hu; rcases List.mem_cons.1 hu with rfl | hu; rfl; exact ih u hu
theorem saidC_one (l : List (Int × Int)) : ∀ u ∈ saidC l, u.oneCell' = true := by
 induction l with
 | nil => intro u hu; cases hu
 | cons n l ih =>
  obtain ⟨a, b⟩ := n
  intro u hu
  simp only [saidC, List.mem_cons] at hu
  rcases hu with rfl | rfl | hu
  ·rfl
  ·rfl
  ·exact ih u hu
theorem saidC_length : ∀ l : List (Int × Int), (saidC l).length = l.length * 2
 | [] => rfl
 | (a, b) :: l => by simp [saidC, saidC_length l]; omega
def sayRep (x : Int × Int) (cs : List Value) : Prop := cs = [.int .i64 x.1, .int .i64 x.2] ∧ I64 x.1 ∧ I64 x.2
abbrev Says (G : PH) (l : List (Int × Int)) (v : Value) : Prop := Sr G 2 sayRep l v
theorem Says_le {G G' : PH} (hl : G.le G') {l : List (Int × Int)} {v : Value} (h : Says G l v) : Says G' l v := Sr_mono hl (fun _ _ _ h => h) h
theorem Sx_Says {G : PH} {l : List (Int × Int)} {v : Value} {n : Nat} (h : Sx G 2 v n (saidC l)) (hn : n = l.length) (hi : ∀ x ∈ l, I64 x.1 ∧ I64 x.2) : Says G l v := by
 refine Sx_Sr h hn ?_
 clear h hn
 induction l with
 | nil => rfl
 | cons x l ih => exact ⟨[.int .i64 x.1, .int .i64 x.2], saidC l, rfl, rfl, ⟨rfl, hi x (List.mem_cons_self ..)⟩, ih fun m hm => hi m (List.mem_cons_of_mem _ hm)⟩
theorem saidC_snoc (l : List (Int × Int)) (a b : Int) : saidC l ++ [.int .i64 a, .int .i64 b] = saidC (l ++ [(a, b)]) := by simp [saidC_append, saidC]
theorem intC_snoc (l : List Int) (a : Int) : intC l ++ [.int .i64 a] = intC (l ++ [a]) := by simp [intC_append, intC]
section
variable {C : Ctx} {k : List It} {E : Env} {ι : Ids} {L : List Ent} {G : PH} {all : Array Oper} {l : List Oper}
theorem S_appSaid {T : Tab} (hT : tabOk C.P T) (κ j : Nat) {d t e sz' : Nat} {os os' : List Nat} {tk : TK} {zi : ZI} {s x : Operand} {ty ty' : Nat} {pos : String} {af : Array Edge} {g : Option (Nat × Bool)} {A : Option Addr} {c b : Nat} {sd : List (Int × Int)} {p q : Int} {cs : List Cel} {L' : Option Addr → Nat → List Ent}
  (ht : lookT t T = some ⟨.slc e, sz', os'⟩) (he : lookT e T = some ⟨tk, 2, os⟩) (hz : lookZ e T.zs = some zi) (hzs : zi.zs.length = 2) (hzb : zi.b = 16)
  (hg : guardOf all E g = .on) (hN : Nat.ble (d + 1) C.n = true) (hs : ev E s = some (.val (.slice A sd.length c))) (hx : ev E x = some (.slc j 0 1 1)) (hj : lookI j ι = some b) (hB : lookB j L = some (ty', cs)) (hcs : denL ι cs = some [.int .i64 p, .int .i64 q])
  (hL : getH κ L = some (rowO 0 e 2 A sd.length c (saidC sd))) (hL' : ∀ A' c', setH κ (rowO 0 e 2 A' (sd ++ [(p, q)]).length c' (saidC (sd ++ [(p, q)]))) L = some (L' A' c')) (hlen : sd.length ≤ 1000000)
  (hk : ∀ A' c', X C (.ops all l :: k) ((d, .val (.slice A' (sd ++ [(p, q)]).length c')) :: E) ι (L' A' c') G) : X C (.ops all (⟨some d, .call ⟨.builtin .append, #[s, x], #[t, t]⟩, ty, pos, af, g⟩ :: l) :: k) E ι L G := by
 refine S_appO hT κ (news := [.int .i64 p, .int .i64 q]) (m := 1) ht he hz hzs J hg hN hs hx (by rw [denO, hj]) hL (L' := L') (fun A' c' => ?_) (src_blk j hB hcs hj J J) (by intro u hu; simp at hu; rcases hu with rfl | rfl <;> rfl) (by rw [hzb]; omega) (by simp only [maxLen]; omega) (Nat.zero_le _) fun A' c' => ?_
 ·rw [saidC_snoc, ← hL' A' c']; simp
 ·have := hk A' c'; rwa [List.length_append] at this
theorem S_appInt {T : Tab} (hT : tabOk C.P T) (κ j : Nat) {base d t e sz' : Nat} {os os' : List Nat} {tk : TK} {zi : ZI} {s x : Operand} {ty ty' : Nat} {pos : String} {af : Array Edge} {g : Option (Nat × Bool)} {A : Option Addr} {c b : Nat} {sd : List Int} {p : Int} {cs : List Cel} {L' : Option Addr → Nat → List Ent}
  (ht : lookT t T = some ⟨.slc e, sz', os'⟩) (he : lookT e T = some ⟨tk, 1, os⟩) (hz : lookZ e T.zs = some zi) (hzs : zi.zs.length = 1) (hzb : zi.b = 8)
  (hg : guardOf all E g = .on) (hN : Nat.ble (d + 1) C.n = true) (hs : ev E s = some (.val (.slice A sd.length c))) (hx : ev E x = some (.slc j 0 1 1)) (hj : lookI j ι = some b) (hB : lookB j L = some (ty', cs)) (hcs : denL ι cs = some [.int .i64 p])
  (hL : getH κ L = some (rowO base e 1 A sd.length c (intC sd))) (hL' : ∀ A' c', setH κ (rowO base e 1 A' (sd ++ [p]).length c' (intC (sd ++ [p]))) L = some (L' A' c')) (hlen : sd.length ≤ 1000000) (hbase : base ≤ C.w0.heap.size)
  (hk : ∀ A' c', X C (.ops all l :: k) ((d, .val (.slice A' (sd ++ [p]).length c')) :: E) ι (L' A' c') G) : X C (.ops all (⟨some d, .call ⟨.builtin .append, #[s, x], #[t, t]⟩, ty, pos, af, g⟩ :: l) :: k) E ι L G := by
 refine S_appO hT κ (news := [.int .i64 p]) (m := 1) ht he hz hzs J hg hN hs hx (by rw [denO, hj]) hL (L' := L') (fun A' c' => ?_) (src_blk j hB hcs hj J J) (by intro u hu; simp at hu; rcases hu with rfl; rfl) (by rw [hzb]; omega) (by simp only [maxLen]; omega) hbase fun A' c' => ?_
 ·rw [intC_snoc, ← hL' A' c']; simp
 ·have := hk A' c'; rwa [List.length_append] at this
end
end
section
attribute [local irreducible] X Pure Mod
section
variable {C : Ctx} {ι : Ids} {E : Env} {L : List Ent} {G : PH} {d : Option Nat} {ty : Nat} {pos : String} {af : Array Edge} {g : Option (Nat × Bool)}
theorem V_rem {x y : Operand} {t t' : Nat} {p q : Int} (hx : ev E x = some (.val (.int .i64 p))) (hy : ev E y = some (.val (.int .i64 q))) (hp : 0 ≤ p) (hq : 0 < q) : Vl C ι E L G ⟨d, .binOp .rem t x y t', ty, pos, af, g⟩ (.int .i64 (p % q)) := by
 intro a w hE _
 have ex := ev_sound hE hx
 have ey := ev_sound hE hy
 simp only [denO, Option.some.injEq] at ex ey
 simp only [execOp, ← ex, ← ey]
 have hne : ¬ q = 0 := by omega
 simp [eqGuard, binOp, Op.intDiv, hne, Int.tmod_eq_emod_of_nonneg hp]
theorem V_quo {x y : Operand} {t t' : Nat} {p q : Int} (hx : ev E x = some (.val (.int .i64 p))) (hy : ev E y = some (.val (.int .i64 q))) (hp : 0 ≤ p) (hp' : p ≤ 9223372036854775807) (hq : 0 < q) : Vl C ι E L G ⟨d, .binOp .quo t x y t', ty, pos, af, g⟩ (.int .i64 (p / q)) := by
 intro a w hE _
 have ex := ev_sound hE hx
 have ey := ev_sound hE hy
 simp only [denO, Option.some.injEq] at ex ey
 simp only [execOp, ← ex, ← ey]
 have hne : ¬ q = 0 := by omega
 have h1 : 0 ≤ p / q := Int.ediv_nonneg hp (by omega)
 have h2 : p / q ≤ p := Int.ediv_le_self _ hp
 have hwr : IntKind.i64.wrap (p / q) = p / q := by rw [IntKind.wrap_i64]; omega
 simp [eqGuard, binOp, Op.intDiv, hne, Int.tdiv_eq_ediv_of_nonneg hp, hwr]
theorem V_xor {x y : Operand} {t t' : Nat} {p q : Int} (hx : ev E x = some (.val (.int .i64 p))) (hy : ev E y = some (.val (.int .i64 q))) (hp : 0 ≤ p ∧ p ≤ 9223372036854775807) (hq : 0 ≤ q ∧ q ≤ 9223372036854775807) : Vl C ι E L G ⟨d, .binOp .xor t x y t', ty, pos, af, g⟩ (.int .i64 ((p.toNat ^^^ q.toNat : Nat) : Int)) := by
 intro a w hE _
 have ex := ev_sound hE hx
 have ey := ev_sound hE hy
 simp only [denO, Option.some.injEq] at ex ey
 simp only [execOp, ← ex, ← ey]
 obtain ⟨m, rfl⟩ := Int.eq_ofNat_of_zero_le hp.1
 obtain ⟨n, rfl⟩ := Int.eq_ofNat_of_zero_le hq.1
 have hm : m < 2 ^ 63 := by omega
 have hn : n < 2 ^ 63 := by omega
 have hx := Nat.xor_lt_two_pow hm hn
 have e1 : (BitVec.ofInt 64 (m : Int) ^^^ BitVec.ofInt 64 (n : Int)).toNat = m ^^^ n := by
  rw [BitVec.ofInt_natCast, BitVec.ofInt_natCast, BitVec.toNat_xor, BitVec.toNat_ofNat, BitVec.toNat_ofNat, Nat.mod_eq_of_lt (by omega), Nat.mod_eq_of_lt (by omega)]
 have hwr : IntKind.i64.wrap ((m ^^^ n : Nat) : Int) = ((m ^^^ n : Nat) : Int) := by rw [IntKind.wrap_i64]; omega
 have e2 : IntKind.i64.wrap ((BitVec.ofInt IntKind.i64.bits (m : Int) ^^^ BitVec.ofInt IntKind.i64.bits (n : Int)).toNat : Int) = ((m ^^^ n : Nat) : Int) := by
  show IntKind.i64.wrap ((BitVec.ofInt 64 (m : Int) ^^^ BitVec.ofInt 64 (n : Int)).toNat : Int) = _
  rw [e1, hwr]
 simp only [Int.toNat_natCast]
 simp [eqGuard, binOp, Op.intBits]
 exact e2
theorem V_conv {x : Operand} {t t' : Nat} {k k' : IntKind} {p : Int} (hx : ev E x = some (.val (.int k p))) (hu : C.P.underlying t = some (.int k)) (hu' : C.P.underlying t' = some (.int k')) (hp : k'.wrap p = p) : Vl C ι E L G ⟨d, .convert t t' x, ty, pos, af, g⟩ (.int k' p) := by
 intro a w hE _
 have ex := ev_sound hE hx
 simp only [denO, Option.some.injEq] at ex
 simp only [execOp, ← ex]
 simp [convert, run_underlying hu, run_underlying hu', Conv.intToInt, hp]
end
end
section
attribute [local irreducible] X Pure Mod
def numOk (n : Int) : Bool := decide (-999 ≤ n) && decide (n ≤ 999)
theorem c_NumOk (n : Int) (G : PH) : Pure Tryz.prog 89 [.int .i64 n] G fun v G' => v = .bool (numOk n) ∧ G' = G := by
 refine Pure.intro Tryz.func89 Tryz.ntmps89 J J fun w => ?_;refine Va J J ?_;exact S_retP Tryz.results89 J J XR ⟨J, J⟩
def leafOk (k a b n room : Int) : Bool :=
 let reg := decide (0 ≤ a) && decide (a < 3)
 let two := decide (0 ≤ b) && decide (b < 3)
 if k = 1 then reg && decide (b = 0) && numOk n
 else if k = 2 then reg && two && decide (1 ≤ n) && decide (n ≤ 5)
 else if k = 3 then reg && decide (0 ≤ b) && decide (b < 3) && decide (n = 0)
 else if k = 4 then decide (0 ≤ a) && decide (a < 3) && two && decide (n = 0)
 else if k = 5 then reg && decide (b = 0) && decide (n = 0)
 else if k = 9 then decide (0 ≤ room) && decide (0 ≤ a) && decide (a < 2) && decide (b = 0) && decide (n = 0)
 else if k = 10 then decide (0 ≤ a) && decide (a < 2) && decide (b = 0) && decide (n = 0)
 else if k = 11 then decide (a = 0) && decide (b = 0) && decide (n = 0)
 else false
theorem c_l2Leaf (k a b n room : Int) (vx vy : Value) (G : PH) : Pure Tryz.prog 88 [.agg #[.int .i64 k, .int .i64 a, .int .i64 b, .int .i64 n, vx, vy], .int .i64 room] G fun v G' => v = .bool (leafOk k a b n room) ∧ G' = G := by
 refine Pure.intro Tryz.func88 Tryz.ntmps88 J J fun w => ?_;refine Va J J ?_
 repeat' (first
  | (refine S_condp J (fun h => ?_) (fun h => ?_) <;> refine Va J J ?_)
  | (refine S_box J J J J J fun b => ?_; refine Va J J ?_)
  | (refine S_guard J J (fun h => ?_) (fun h => ?_) <;> refine Va J J ?_)
  | (refine S_call Tryz.call89 (c_NumOk _ _) J J J ?_; rintro v G' ⟨rfl, rfl⟩ _; refine Va J J ?_)
  | (refine S_retP Tryz.results88 J J XR ⟨?_, J⟩))
 all_goals simp_all [leafOk]
end
section
attribute [local irreducible] X Pure Mod
theorem c_iNumOk (n : Int) (G : PH) : Pure Tryz.prog 99 [.int .i64 n] G fun v G' => v = .bool (numOk n) ∧ G' = G := by
 refine Pure.intro Tryz.func99 Tryz.ntmps99 J J fun w => ?_; refine Va J J ?_;exact S_retP Tryz.results99 J J XR ⟨J, J⟩
def opOk (n : Int) : Bool := decide (1 ≤ n) && decide (n ≤ 5)
theorem c_isOp (n : Int) (G : PH) : Pure Tryz.prog 100 [.int .i64 n] G fun v G' => v = .bool (opOk n) ∧ G' = G := by
 refine Pure.intro Tryz.func100 Tryz.ntmps100 J J fun w => ?_; refine Va J J ?_;exact S_retP Tryz.results100 J J XR ⟨J, J⟩
def fitsB (n l : Int) : Bool := decide (n = 0) || (decide (0 < n) && decide (n < l))
theorem c_fits (n l : Int) (G : PH) : Pure Tryz.prog 97 [.int .i64 n, .int .i64 l] G fun v G' => v = .bool (fitsB n l) ∧ G' = G := by
 refine Pure.intro Tryz.func97 Tryz.ntmps97 J J fun w => ?_; refine Va J J ?_
 repeat' (first
  | (refine S_condp J (fun h => ?_) (fun h => ?_) <;> refine Va J J ?_) | (refine S_cond J (fun h => ?_) (fun h => ?_) <;> refine Va J J ?_) | (refine S_box J J J J J fun b => ?_; refine Va J J ?_) | (refine AZ ZT_ok J J J J fun b => ?_; refine Va J J ?_) | (refine S_guardp J J (fun h => ?_) (fun h => ?_) <;> refine Va J J ?_) | (refine S_guard J J (fun h => ?_) (fun h => ?_) <;> refine Va J J ?_)
  | (refine S_retP Tryz.results97 J J XR ⟨?_, J⟩))
 all_goals (try simp_all [fitsB])
 all_goals (try omega)
def numberOkB (k n : Int) : Bool := if k = 1 then numOk n else if k = 2 then opOk n else decide (n = 0)
theorem c_numberOk (k a b n : Int) (vx vy : Value) (G : PH) : Pure Tryz.prog 98 [.agg #[.int .i64 k, .int .i64 a, .int .i64 b, .int .i64 n, vx, vy]] G fun v G' => v = .bool (numberOkB k n) ∧ G' = G := by
 refine Pure.intro Tryz.func98 Tryz.ntmps98 J J fun w => ?_; refine Va J J ?_
 repeat' (first
  | (refine S_condp J (fun h => ?_) (fun h => ?_) <;> refine Va J J ?_) | (refine S_cond J (fun h => ?_) (fun h => ?_) <;> refine Va J J ?_) | (refine S_box J J J J J fun b => ?_; refine Va J J ?_) | (refine AZ ZT_ok J J J J fun b => ?_; refine Va J J ?_) | (refine S_guardp J J (fun h => ?_) (fun h => ?_) <;> refine Va J J ?_) | (refine S_guard J J (fun h => ?_) (fun h => ?_) <;> refine Va J J ?_)
  | (refine S_call Tryz.call99 (c_iNumOk _ _) J J J ?_; rintro v G' ⟨rfl, rfl⟩ _; refine Va J J ?_)
  | (refine S_call Tryz.call100 (c_isOp _ _) J J J ?_; rintro v G' ⟨rfl, rfl⟩ _; refine Va J J ?_)
  | (refine S_retP Tryz.results98 J J XR ⟨?_, J⟩))
 all_goals simp_all [numberOkB]
theorem u_forms : Tryz.prog.underlying 155 = some (.map 3 153) := by kernel_rfl
theorem u_int : Tryz.prog.underlying 3 = some (.int .i64) := by kernel_rfl
def formV (s : ByteArray) (a b : Int) (body els : Bool) : Value := .agg #[.string s, .int .i64 a, .int .i64 b, .bool body, .bool els]
def isForm (x a b : Int) (body els : Bool) (o : Option Value) : Prop := ∃ s, o = some (formV s a b body els)
def formsP (f : Int → Option Value) : Prop :=
 isForm 1 3 0 false false (f 1) ∧ isForm 2 3 3 false false (f 2) ∧ isForm 3 3 3 false false (f 3) ∧ isForm 4 3 3 false false (f 4) ∧ isForm 5 3 0 false false (f 5) ∧ isForm 6 3 0 true true (f 6) ∧ isForm 7 3 0 true false (f 7) ∧ isForm 8 2 0 true false (f 8) ∧
 isForm 9 2 0 false false (f 9) ∧ isForm 10 2 0 false false (f 10) ∧ isForm 11 0 0 false false (f 11) ∧ ∀ x, ¬ (1 ≤ x ∧ x ≤ 11) → f x = none
theorem findI_none {x : Int} : ∀ {es : List MapEntry}, (∀ e ∈ es, ∃ y, e.key = .int .i64 y ∧ x ≠ y) → findI x es = none := by
 intro es
 induction es with
 | nil => intro _; rfl
 | cons e es ih =>
  intro h
  obtain ⟨y, hy, hne⟩ := h e (List.mem_cons_self ..)
  obtain ⟨key, val, born⟩ := e
  simp only at hy
  subst hy
  simp only [findI, if_neg hne]
  exact ih fun e he => h e (List.mem_cons_of_mem _ he)
theorem c_forms (G : PH) : Pure Tryz.prog 96 [] G fun v G' => ∃ b es clock, v = .map (some b) ∧ G' b = some (.map es clock) ∧ (∀ e ∈ es.toList, ∃ y, e.key = .int .i64 y) ∧ formsP (fun x => findI x es.toList) := by
 refine Pure.intro Tryz.func96 Tryz.ntmps96 J J fun w => ?_; refine Va J J ?_;refine S_makeMap 1 J J fun b => ?_;refine Va J J ?_
 iterate 11
  refine S_insert 1 u_forms u_int J J J J J J J ?_;refine Va J J ?_
 refine S_freezeO 1 J J (fun _ h => h) fun hext => ?_;refine S_retP Tryz.results96 J J hext ⟨b, _, _, J, PH.add_self _ _ _, ?_, ?_⟩
 ·intro e he
  simp at he
  rcases he with rfl | rfl | rfl | rfl | rfl | rfl | rfl | rfl | rfl | rfl | rfl <;> exact ⟨_, J⟩
 ·refine ⟨⟨_, J⟩, ⟨_, J⟩, ⟨_, J⟩, ⟨_, J⟩, ⟨_, J⟩, ⟨_, J⟩, ⟨_, J⟩, ⟨_, J⟩, ⟨_, J⟩, ⟨_, J⟩, ⟨_, J⟩, ?_⟩
  intro x hx
  refine findI_none fun e he => ?_
  simp at he
  rcases he with rfl | rfl | rfl | rfl | rfl | rfl | rfl | rfl | rfl | rfl | rfl <;> exact ⟨_, J, by omega⟩
end
section
attribute [local irreducible] X Pure Mod
def byteRep (n : Int) (cs : List Value) : Prop := cs = [.int .u8 n] ∧ 0 ≤ n ∧ n ≤ 255
abbrev Byts (G : PH) (l : List Int) (v : Value) : Prop := Sr G 1 byteRep l v
theorem Byts_le {G G' : PH} (hl : G.le G') {l : List Int} {v : Value} (h : Byts G l v) : Byts G' l v := Sr_mono hl (fun _ _ _ h => h) h
def rdHP (b : Nat) (sv : Value) (N : Nat) : HP := packHP fun ι L => ∃ p : Nat, p ≤ N ∧ ι = [(900, b)] ∧ L = [.blk 900 76 [.v sv, .v (.int .i64 (p : Nat))]]
def Drw (f : Nat) (b : Nat) (sv : Value) (args : List Value) (N K : Nat) (G : PH) (Post : Value → PH → Prop) : Prop :=
 Mod Tryz.prog f (.pointer (some ⟨b, 0, none⟩) :: args) G (rdHP b sv N) fun v G' A' => A' = rdHP b sv (N + K) ∧ Post v G'
theorem u_u8 : Tryz.prog.underlying 5 = some (.int .u8) := by kernel_rfl
theorem rem_bnd {a n : Int} (h : 0 < n) : 0 ≤ a % n ∧ a % n < n := ⟨Int.emod_nonneg _ (by omega), Int.emod_lt_of_pos _ h⟩
section
variable {C : Ctx} {k : List It} {E : Env} {ι : Ids} {L : List Ent} {G : PH}
theorem S_openR (κ d : Nat) {b N : Nat} {sv : Value} {L' : List Ent} (hL : getH κ L = some (rdHP b sv N)) (hL' : delH κ L = some L') (hf : freshB [900] ι = true) (hE : look d E = some (.val (.pointer (some ⟨b, 0, none⟩))))
  (hk : ∀ p : Nat, p ≤ N → X C k ((d, .ptr 900 0) :: E) ((900, b) :: ι) (.blk 900 76 [.v sv, .v (.int .i64 (p : Nat))] :: L') G) : X C k E ι L G := by
 refine S_unpack κ [900] hL hL' ?_ hf ?_
 ·rintro ι0 L0 ⟨p, _, rfl, rfl⟩; rfl
 ·rintro ι0 L0 ⟨p, hp, rfl, rfl⟩
  refine S_reE d (.ptr 900 0) hE ?_ (hk p hp)
  rfl
end
theorem byte_at {G : PH} {l : List Int} {A : Option Addr} {n c : Nat} (h : Byts G l (.slice A n c)) {i : Int} (h0 : 0 ≤ i) (h1 : i < l.length) : ∃ ad x, A = some ad ∧ gcell G (ad.add (i.toNat * 1)) = some (.int .u8 x) ∧ 0 ≤ x ∧ x ≤ 255 := by
 obtain ⟨ad, cs, rfl, hcs, rfl, hx0, hx1⟩ := Sr_at h (k := i.toNat) (by omega)
 exact ⟨ad, _, J, hcs.1, hx0, hx1⟩
theorem c_l1Max (a b : Int) (G : PH) : Pure Tryz.prog 49 [.int .i64 a, .int .i64 b] G fun v G' => v = .int .i64 (max a b) ∧ G' = G := by
 refine Pure.intro Tryz.func49 Tryz.ntmps49 J J fun w => ?_; refine Va J J ?_
 refine S_condp J (fun h => ?_) (fun h => ?_) <;> refine Va J J ?_
 ·exact S_retp (Res.t1 Tryz.results49 J J) XR ⟨by congr 1; omega, rfl⟩
 ·exact S_retp (Res.t1 Tryz.results49 J J) XR ⟨by congr 1; omega, rfl⟩
theorem c_pick (b : Nat) (l : List Int) (sv : Value) (n : Int) (N : Nat) (G : PH) (hl : Byts G l sv) (hn : I64 n) (hN : N + 1 ≤ 1000000000) : Drw 22 b sv [.int .i64 n] N 1 G fun v G' => G' = G ∧ ∃ m : Int, v = .int .i64 m ∧ 0 ≤ m ∧ (m < n ∨ m = 0) := by
 obtain ⟨A, c, rfl, _⟩ := id hl
 refine Mod.intro Tryz.func22 Tryz.ntmps22 J J fun w S => ?_;refine S_openR 1 0 J J J J fun p hp => ?_;refine Va J J ?_;refine S_add J J J J (by omega) ?_;refine Va J J ?_
 have hb : ∀ b0 : Bool, b0 = (decide (n < 1) || decide ((l.length : Int) = 0)) → b0 = false → 1 ≤ n ∧ 0 < l.length := by
  intro b0 h1 h2
  rw [h1] at h2
  simp only [Bool.or_eq_false_iff, decide_eq_false_iff_not] at h2
  omega
 refine S_cond J (fun h => ?_) (fun h => ?_) <;> refine Va J J ?_
 ·exact RK [900] (Res.t1 Tryz.results22 J J) ⟨J, J, 0, J, by omega, .inr J⟩ ⟨p + 1, by omega, J, J⟩ J (.blk J J .nil) XR
 obtain ⟨hn1, hl0⟩ := hb _ rfl h
 refine S_subI J J J J (by omega) ?_;refine Va J J ?_
 have ep : ((p : Int) + 1 - 1) = p := by omega
 rw [ep]
 refine S_condp J (fun h2 => ?_) (fun h2 => ?_) <;> refine Va J J ?_
 ·have hpl : p < l.length := by omega
  obtain ⟨ad, x, rfl, hcs, hx0, hx1⟩ := byte_at hl (i := p) (by omega) (by omega)
  refine S_index Tk J J J J J J (by omega) (by omega) ?_;refine Va J J ?_;refine S_load Tk J J J J J (by simpa using hcs) ?_;refine Va J J ?_;refine S_valV J J J (V_conv J u_u8 u_int (by rw [IntKind.wrap_i64]; omega)) ?_;refine Va J J ?_;refine S_valV J J J (V_rem J J hx0 (by omega)) ?_;refine Va J J ?_
  have hr := rem_bnd (a := x) (n := n) (by omega)
  exact RK [900] (Res.t1 Tryz.results22 J J) ⟨J, J, _, J, hr.1, .inl hr.2⟩ ⟨p + 1, by omega, J, J⟩ J (.blk J J .nil) XR
 ·have r1 := rem_bnd (a := (p : Int)) (n := (l.length : Int)) (by omega)
  have r2 := rem_bnd (a := (p : Int) * 7 + 3) (n := (l.length : Int)) (by omega)
  obtain ⟨ad, x, rfl, hcs, hx0, hx1⟩ := byte_at hl r1.1 r1.2
  obtain ⟨ad2, y, e2, hcs2, hy0, hy1⟩ := byte_at hl r2.1 r2.2
  cases e2
  have hq : 0 ≤ (p : Int) / l.length ∧ (p : Int) / l.length ≤ p := ⟨Int.ediv_nonneg (by omega) (by omega), Int.ediv_le_self _ (by omega)⟩
  refine Ds J J J ?_;refine Da J J ?_;refine D_val 10 J J J J J J J J J (V_rem J J (by omega) (by omega)) ?_;refine Da J J ?_;refine D_val 11 J J J J J J J J J (V_index Tk J J J J (by omega) (by omega)) ?_;refine Da J J ?_;refine D_val 12 J J J J J J J J J (V_load Tk J J J hcs) ?_;refine Da J J ?_;refine D_val 13 J J J J J J J J J (V_conv J u_u8 u_int (by rw [IntKind.wrap_i64]; omega)) ?_;refine Da J J ?_
  refine D_val 14 J J J J J J J J J (V_mul J J (by omega)) ?_;refine Da J J ?_;refine D_val 20 J J J J J J J J J (V_mul J J (by omega)) ?_;refine Da J J ?_;refine D_val 21 J J J J J J J J J (V_add J J (by omega)) ?_;refine Da J J ?_;refine D_val 27 J J J J J J J J J (V_rem J J (by omega) (by omega)) ?_;refine Da J J ?_;refine D_val 28 J J J J J J J J J (V_index Tk J J J J (by omega) (by omega)) ?_
  refine Da J J ?_;refine D_val 29 J J J J J J J J J (V_load Tk J J J hcs2) ?_;refine Da J J ?_;refine D_val 30 J J J J J J J J J (V_conv J u_u8 u_int (by rw [IntKind.wrap_i64]; omega)) ?_;refine Da J J ?_;refine D_val 31 J J J J J J J J J (V_mul J J (by omega)) ?_;refine Da J J ?_;refine D_val 32 J J J J J J J J J (V_add J J (by omega)) ?_;refine Da J J ?_;refine D_val 34 J J J J J J J J J (V_mul J J (by omega)) ?_
  refine Da J J ?_;refine D_val 35 J J J J J J J J J (V_add J J (by omega)) ?_;refine Da J J ?_;refine D_val 42 J J J J J J J J J (V_quo J J (by omega) (by omega) (by omega)) ?_;refine Da J J ?_;refine D_val 43 J J J J J J J J J (V_mul J J (by omega)) ?_;refine Da J J ?_;refine D_val 44 J J J J J J J J J (V_add J J (by omega)) ?_;refine Da J J ?_;refine DD ?_;refine Va J J ?_
  generalize hz : x * 131 + y * 1117 + (p : Int) * 29 + (p : Int) / l.length * 53 = z
  have hz0 : 0 ≤ z ∧ z ≤ 9223372036854775807 := by omega
  have hz1 : 0 ≤ z / 64 ∧ z / 64 ≤ z := by omega
  refine S_valV J J J (V_quo J J hz0.1 hz0.2 (by omega)) ?_;refine Va J J ?_;refine S_valV J J J (V_xor J J hz0 (by omega)) ?_;refine Va J J ?_;refine S_valV J J J (V_rem J J (by omega) (by omega)) ?_;refine Va J J ?_
  have hr := rem_bnd (a := ((z.toNat ^^^ (z / 64).toNat : Nat) : Int)) (n := n) (by omega)
  exact RK [900] (Res.t1 Tryz.results22 J J) ⟨J, J, _, J, hr.1, .inl hr.2⟩ ⟨p + 1, by omega, J, J⟩ J (.blk J J .nil) XR
theorem c_num (b : Nat) (l : List Int) (sv : Value) (q : List Int) (qv : Value) (N : Nat) (G : PH) (hl : Byts G l sv) (hq : Ints G q qv) (hn : 0 < q.length) (hN : N + 1 ≤ 1000000000) : Drw 46 b sv [qv] N 1 G fun v G' => G' = G ∧ ∃ m ∈ q, v = .int .i64 m := by
 obtain ⟨A, c, rfl, hq1, _⟩ := id hq
 refine Mod.intro Tryz.func46 Tryz.ntmps46 J J fun w S => ?_;refine Va J J ?_;refine S_callM 1 Tryz.call22 (c_pick b l sv q.length N G hl ⟨by omega, by omega⟩ hN) J J J J (fun _ => J) ?_;rintro v G2 A' ⟨rfl, rfl, m, rfl, h0, h1⟩ _
 refine Va J J ?_;obtain ⟨ad, cs, rfl, hcs, rfl, hi⟩ := Sr_at hq (k := m.toNat) (by omega)
 refine S_index Tk J J J J J J (by omega) (by omega) ?_;refine Va J J ?_;refine S_load Tk J J J J J hcs.1 ?_;refine Va J J ?_;exact S_retm 1 (Res.t1 Tryz.results46 J J) J XR ⟨J, J, _, List.getElem_mem _, J⟩
end
section
def pairHP (A B : HP) : HP where
 holds w S := ∃ S1 S2, A.holds w S1 ∧ B.holds w S2 ∧ (∀ b, S1 b → S2 b → False) ∧ ∀ b, S b ↔ S1 b ∨ S2 b
 loc w w' S h hs := by
  obtain ⟨S1, S2, h1, h2, h3, h4⟩ := h
  exact ⟨S1, S2, A.loc w w' S1 h1 (fun b hb => hs b ((h4 b).2 (.inl hb))), B.loc w w' S2 h2 (fun b hb => hs b ((h4 b).2 (.inr hb))), h3, h4⟩
 lt w S h b hb := by
  obtain ⟨S1, S2, h1, h2, h3, h4⟩ := h
  rcases (h4 b).1 hb with hb | hb
  ·exact A.lt w S1 h1 b hb
  ·exact B.lt w S2 h2 b hb
def Covers (A A' : HP) : Prop := ∀ w w' S S', A.holds w S → A'.holds w' S' → ∀ b, S b → S' b
theorem SatW.turn2 {C : Ctx} {ι : Ids} {L : List Ent} {G : PH} {w : World} (h : SatW C ι L G w) {κ : Nat} {A : HP} (hg : getH κ L = some A) :
  ∃ S, A.holds w S ∧ (∀ b, S b → G b = none) ∧ ∀ (κ' : Nat) (A' B' : HP) (L' : List Ent) (G' : PH) (w' : World) (S1 S2 : Nat → Prop), setH κ A' L = some L' → A'.holds w' S1 → B'.holds w' S2 → (∀ b, S1 b → S2 b → False) → Emb G' w' → PH.ext w.heap.size G G' → (∀ b, S1 b → G' b = none ∧ (S b ∨ w.heap.size ≤ b)) → (∀ b, S2 b → G' b = none ∧ w.heap.size ≤ b) →
   w'.os = w.os → w'.tape = w.tape → w'.output = w.output → w.heap.size ≤ w'.heap.size → (∀ b, b < w.heap.size → ¬ S b → w'.heap[b]? = w.heap[b]?) → SatW C ι (.hp κ' (newHP C.w0.heap.size B') :: L') G' w' := by
 obtain ⟨Ss, ho, hS⟩ := h.own
 obtain ⟨S, hA, hm, hk⟩ := owns_split ho hg
 refine ⟨S, hA, fun b hb => (hS S hm b hb).1, fun κ' A' B' L' G' w' S1 S2 hs hA' hB' hdis hemb hext hS1 hS2 e1 e2 e3 e4 hkeep => ?_⟩
 have hlt := owns_lt ho
 obtain ⟨Ss', ho', hm'⟩ := hk A' L' hs w' S1 (fun x => S x ∨ w.heap.size ≤ x) hA' (fun x hx => hkeep x (by omega) (fun h => hx (.inl h))) (fun T hT x hx hx' => by
   rcases (hS1 x hx).2 with h1 | h1
   ·exact h1
   ·have := hlt T hT x hx'; omega) (fun T hT x hx hn => by
   rintro (hx' | hx')
   ·exact hn hx'
   ·have := hlt T hT x hx; omega)
 have hsz := h.size
 refine ⟨e1.trans h.os, e2.trans h.tape, e3.trans h.output, Nat.le_trans h.size e4, ?_, hemb, S2 :: Ss', ⟨⟨hB', fun b hb => Nat.le_trans hsz (hS2 b hb).2⟩, fun T hT b hb hb' => ?_, ho'⟩, ?_⟩
 ·intro b hb hn
  rw [hkeep b (Nat.lt_of_lt_of_le hb h.size) (fun hSb => by
   rcases (hS S hm b hSb).2 with h1 | h1
   ·exact hn h1
   ·omega)]
  exact h.keep b hb hn
 ·rcases hm' T hT with hT' | rfl
  ·have := hlt T hT' b hb'
   have := (hS2 b hb).2
   omega
  ·exact hdis b hb' hb
 ·intro T hT b hb
  rcases List.mem_cons.1 hT with rfl | hT
  ·exact ⟨(hS2 b hb).1, .inr (Nat.le_trans hsz (hS2 b hb).2)⟩
  rcases hm' T hT with hT' | rfl
  ·obtain ⟨g1, g2⟩ := hS T hT' b hb
   refine ⟨?_, g2⟩
   cases hq : G' b with
   | none => rfl
   | some o =>
    have := hext.new b o hq g1
    have := hlt T hT' b hb
    omega
  ·obtain ⟨g1, g2⟩ := hS1 b hb
   refine ⟨g1, ?_⟩
   rcases g2 with g2 | g2
   ·exact (hS S hm b g2).2
   ·exact .inr (Nat.le_trans h.size g2)
section
variable {C : Ctx} {k : List It} {E : Env} {ι : Ids} {L : List Ent} {G : PH} {all : Array Oper} {l : List Oper}
theorem S_callPr (κ κ' : Nat) {A : HP} {d f : Nat} {xs : Array Operand} {ats : Array TypeId} {ty : Nat} {pos : String} {af : Array Edge} {g : Option (Nat × Bool)} {vs : List Value} {Post : Value → PH → HP → HP → Prop} {L' : HP → List Ent}
  (hcf : ∀ args w, (callFunc f args).run C.P w = .ok (.enter f args) w)
  (hc : Mod C.P f vs G A fun v G' R => ∃ A' B', R = pairHP A' B' ∧ Covers A A' ∧ Post v G' A' B') (hg : guardOf all E g = .on) (hN : Nat.ble (d + 1) C.n = true) (hxs : evs ι E xs.toList = some vs) (hL : getH κ L = some A) (hL' : ∀ A', setH κ A' L = some (L' A'))
  (hk : ∀ v G' A' B', Post v G' A' B' → PH.ext C.w0.heap.size G G' → X C (.ops all l :: k) ((d, .val v) :: E) ι (.hp κ' (newHP C.w0.heap.size B') :: L' A') G') : X C (.ops all (⟨some d, .call ⟨.value (.func f), xs, ats⟩, ty, pos, af, g⟩ :: l) :: k) E ι L G := by
 intro a w h1 h2 h3 h4
 have hdn : d < a.tmps.size := by rw [h2]; exact Nat.le_of_ble_eq_true hN
 obtain ⟨S, hA, hSG, hturn⟩ := h4.turn2 hL
 have hcc := hc w S h4.emb hA hSG
 refine wpE_call (f := f) (cap := #[]) (vs := vs) (guardOf_on h3 hg) J (evs_sound h3 hxs) hcf (R := fun v w' => ∃ G' A' B', Post v G' A' B' ∧ PH.ext C.w0.heap.size G G' ∧ SatW C ι (.hp κ' (newHP C.w0.heap.size B') :: L' A') G' w') ?_ ?_
 ·simp only [List.append_nil, List.toList_toArray]
  refine hcc.mono ?_;rintro e w' ⟨v, G', R, S', rfl, ⟨A', B', rfl, hcov, hp⟩, ⟨S1, S2, hA', hB', hdis, hS12⟩, hext, hemb, hS', e1, e2, e3, e4, hkeep⟩
  refine ⟨v, J, G', A', B', hp, hext.mono h4.size, ?_⟩
  refine hturn κ' A' B' _ G' w' S1 S2 (hL' A') hA' hB' hdis hemb hext (fun b hb => hS' b ((hS12 b).2 (.inl hb))) (fun b hb => ?_) e1 e2 e3 e4 hkeep
  obtain ⟨q1, q2⟩ := hS' b ((hS12 b).2 (.inr hb))
  exact ⟨q1, q2.resolve_left fun hSb => hdis b (hcov _ _ _ _ hA hA' b hSb) hb⟩
 ·rintro v w' ⟨G', A', B', hp, hext, hsat⟩
  exact hk v G' A' B' hp hext _ _ (h1.mono hext.le) (by simp [Act.put, h2]) (h3.put hdn J) hsat
end
section
variable {P : Program} {fn : Func} {n : Nat} {G0 G : PH} {w0 : World} {S0 : Nat → Prop} {k : List It} {E : Env} {ι : Ids} {L L1 : List Ent} {v : Value}
theorem SatW.pair {C : Ctx} {w : World} (κ κ' κ1 : Nat) (h4 : SatW C ι L G w) {A B : HP} {L2 : List Ent} (hL : getH κ L = some A) (hd : delH κ L = some L1) (hL1 : getH κ' L1 = some B) (hd1 : delH κ' L1 = some L2) : SatW C ι (.hp κ1 (pairHP A B) :: L2) G w := by
 obtain ⟨Ss, ho, hS⟩ := h4.own
 obtain ⟨S1, Ss1, hA, hm, ho1, hT1⟩ := owns_del ho hL hd
 obtain ⟨S2, Ss2, hB, hm2, ho2, hT2⟩ := owns_del ho1 hL1 hd1
 refine ⟨h4.os, h4.tape, h4.output, h4.size, h4.keep, h4.emb, (fun b => S1 b ∨ S2 b) :: Ss2, ⟨⟨S1, S2, hA, hB, fun b h1 h2 => (hT1 S2 hm2).2 b h2 h1, fun b => Iff.rfl⟩, ?_, ho2⟩, ?_⟩
 ·rintro T hT b (hb | hb) hb'
  ·exact (hT1 T (hT2 T hT).1).2 b hb' hb
  ·exact (hT2 T hT).2 b hb' hb
 ·intro T hT b hb
  rcases List.mem_cons.1 hT with rfl | hT
  ·rcases hb with hb | hb
   ·exact hS S1 hm b hb
   ·exact hS S2 (hT1 S2 hm2).1 b hb
  ·exact hS T (hT1 T (hT2 T hT).1).1 b hb
theorem S_pair {C : Ctx} (κ κ' κ1 : Nat) {A B : HP} {L2 : List Ent} (hL : getH κ L = some A) (hd : delH κ L = some L1) (hL1 : getH κ' L1 = some B) (hd1 : delH κ' L1 = some L2) (hk : X C k E ι (.hp κ1 (pairHP A B) :: L2) G) : X C k E ι L G :=
 fun a w h1 h2 h3 h4 => hk a w h1 h2 h3 (h4.pair κ κ' κ1 hL hd hL1 hd1)
end
section
variable {C : Ctx} {k : List It} {E : Env} {ι : Ids} {L : List Ent} {G : PH} {all : Array Oper} {l : List Oper}
theorem S_app1z {T : Tab} (hT : tabOk C.P T) (κ j : Nat) {base d t e sz' sz : Nat} {os os' : List Nat} {tk : TK} {zi : ZI} {s x : Operand} {ty ty' : Nat} {pos : String} {af : Array Edge} {g : Option (Nat × Bool)} {A : Option Addr} {n c b : Nat} {xs ns : List Value} {cs : List Cel} {L' : Option Addr → Nat → List Ent}
  (ht : lookT t T = some ⟨.slc e, sz', os'⟩) (he : lookT e T = some ⟨tk, sz, os⟩) (hz : lookZ e T.zs = some zi) (hzs : zi.zs.length = sz) (hzb : Nat.ble zi.b 1000 = true) (hsz : Nat.ble 1 sz = true)
  (hg : guardOf all E g = .on) (hN : Nat.ble (d + 1) C.n = true) (hs : ev E s = some (.val (.slice A n c))) (hx : ev E x = some (.slc j 0 1 1)) (hj : lookI j ι = some b) (hB : lookB j L = some (ty', cs)) (hcs : denL ι cs = some ns) (hns : ns.length = sz) (hone : ∀ u ∈ ns, u.oneCell' = true)
  (hL : getH κ L = some (rowO base e sz A n c xs)) (hL' : ∀ A' c', setH κ (rowO base e sz A' (n + 1) c' (xs ++ ns)) L = some (L' A' c')) (hlen : n ≤ 1000000000) (hbase : base ≤ C.w0.heap.size)
  (hk : ∀ A' c', (A' = A ∨ ∃ g, A' = some ⟨g, 0, none⟩) → X C (.ops all l :: k) ((d, .val (.slice A' (n + 1) c')) :: E) ι (L' A' c') G) : X C (.ops all (⟨some d, .call ⟨.builtin .append, #[s, x], #[t, t]⟩, ty, pos, af, g⟩ :: l) :: k) E ι L G := by
 have hzb' := Nat.le_of_ble_eq_true hzb
 have hby : (n + 1) * zi.b ≤ 140737488355328 := Nat.le_trans (Nat.mul_le_mul (by omega : n + 1 ≤ 1000000001) hzb') (by decide)
 refine S_appOz hT κ (news := ns) (m := 1) ht he hz hzs hsz hg hN hs hx (by rw [denO, hj]) hL (L' := L') hL' (src_blk j hB hcs hj (by simp [← hns]) (by simp [hns])) hone hby (by simp only [maxLen]; omega) hbase fun A' c' h => ?_;exact hk A' c' h
theorem S_app1 {T : Tab} (hT : tabOk C.P T) (κ j : Nat) {base d t e sz' sz : Nat} {os os' : List Nat} {tk : TK} {zi : ZI} {s x : Operand} {ty ty' : Nat} {pos : String} {af : Array Edge} {g : Option (Nat × Bool)} {A : Option Addr} {n c b : Nat} {xs ns : List Value} {cs : List Cel} {L' : Option Addr → Nat → List Ent}
  (ht : lookT t T = some ⟨.slc e, sz', os'⟩) (he : lookT e T = some ⟨tk, sz, os⟩) (hz : lookZ e T.zs = some zi) (hzs : zi.zs.length = sz) (hzb : Nat.ble zi.b 1000 = true) (hsz : Nat.ble 1 sz = true)
  (hg : guardOf all E g = .on) (hN : Nat.ble (d + 1) C.n = true) (hs : ev E s = some (.val (.slice A n c))) (hx : ev E x = some (.slc j 0 1 1)) (hj : lookI j ι = some b) (hB : lookB j L = some (ty', cs)) (hcs : denL ι cs = some ns) (hns : ns.length = sz) (hone : ∀ u ∈ ns, u.oneCell' = true)
  (hL : getH κ L = some (rowO base e sz A n c xs)) (hL' : ∀ A' c', setH κ (rowO base e sz A' (n + 1) c' (xs ++ ns)) L = some (L' A' c')) (hlen : n ≤ 1000000000) (hbase : base ≤ C.w0.heap.size)
  (hk : ∀ A' c', X C (.ops all l :: k) ((d, .val (.slice A' (n + 1) c')) :: E) ι (L' A' c') G) : X C (.ops all (⟨some d, .call ⟨.builtin .append, #[s, x], #[t, t]⟩, ty, pos, af, g⟩ :: l) :: k) E ι L G :=
 S_app1z hT κ j ht he hz hzs hzb hsz hg hN hs hx hj hB hcs hns hone hL hL' hlen hbase fun A' c' _ => hk A' c'
end
section
variable {C : Ctx} {k : List It} {E : Env} {ι : Ids} {L : List Ent} {G : PH} {all : Array Oper} {l : List Oper}
theorem S_buildSliceB {d t e m : Nat} {parts : Array (Nat × Operand)} {ty : Nat} {pos : String} {af : Array Edge} {g : Option (Nat × Bool)} {cs : List Cel} (hg : guardOf all E g = .on) (hN : Nat.ble (d + 1) C.n = true) (hd : lookI d ι = none)
  (hr : ∀ a w, AgE ι E a → ∃ vs, denL ι cs = some vs ∧ (Instr.buildSlice t m (parts.map fun (i, x) => (i, a.eval x))).run C.P w = .ok (.slice (some ⟨w.heap.size, 0, none⟩) m m) (w.alloc (.cells vs.toArray e)))
  (hk : ∀ b, C.w0.heap.size ≤ b → X C (.ops all l :: k) ((d, .slc d 0 m m) :: E) ((d, b) :: ι) (.blk d e cs :: L) G) : X C (.ops all (⟨some d, .buildSlice t m parts, ty, pos, af, g⟩ :: l) :: k) E ι L G := by
 intro a w h1 h2 h3 h4
 obtain ⟨vs, hvs, hr⟩ := hr a w h3
 have hrun : (execOp a.eval ⟨some d, .buildSlice t m parts, ty, pos, af, g⟩).run C.P w = .ok (.value (.slice (some ⟨w.heap.size, 0, none⟩) m m)) (w.alloc (.cells vs.toArray e)) := by
  simp only [execOp]; simp [hr]
 refine wpE_val (guardOf_on h3 hg) (by intro c h; cases h) hrun ?_
 have hdn : d < a.tmps.size := by rw [h2]; exact Nat.le_of_ble_eq_true hN
 exact hk w.heap.size h4.size _ _ h1 (by simp [Act.put, h2]) ((h3.ids hd).put hdn (by simp [denO, lookI])) (h4.alloc hd cs hvs)
theorem S_sliceB {T : Tab} {Z : ZTab} (hT : tabOk C.P T) (hZ : zOk C.P Z) {d t e m sz sz' : Nat} {os os' : List Nat} {tk : TK} {z : ZI} {parts : Array (Nat × Operand)} {ty : Nat} {pos : String} {af : Array Edge} {g : Option (Nat × Bool)} {cs : List Cel}
  (ht : lookT t T = some ⟨.slc e, sz', os'⟩) (he : lookT e T = some ⟨tk, sz, os⟩) (hz : lookZ e Z = some z) (hl : z.zs.length = sz) (hsm : m * sz ≤ 16777216) (hpos : 0 < m * sz)
  (hg : guardOf all E g = .on) (hN : Nat.ble (d + 1) C.n = true) (hd : lookI d ι = none) (hf : fillS (seqP sz m 0) E (vL (repL m z.zs)) parts.toList = some cs)
  (hk : ∀ b, C.w0.heap.size ≤ b → X C (.ops all l :: k) ((d, .slc d 0 m m) :: E) ((d, b) :: ι) (.blk d e cs :: L) G) : X C (.ops all (⟨some d, .buildSlice t m parts, ty, pos, af, g⟩ :: l) :: k) E ι L G := by
 refine S_buildSliceB hg hN hd ?_ hk
 intro a w hE
 obtain ⟨inf, v, hi, hv, hb, hc, _⟩ := viewZ_eq (hZ _ _ hz)
 obtain ⟨dsc, inf', hu, hi', hk', hsize, _⟩ := tyOk_parts (hT _ _ he)
 rw [hi] at hi'; cases hi'
 have hus := tyOk_slice (hT _ _ ht) rfl
 obtain ⟨vs', hv1, hv2⟩ := fillS_sound (ι := ι) hE (pl := seqP sz m 0) (place := fun i => some (i * sz, sz)) (by intro i x hx; rw [seqP_at hx]; simp) hf (denL_vL ι (repL m z.zs))
 refine ⟨vs', hv1, run_buildSlice w t e m _ vs'.toArray inf v hus hi hv (by rw [hsize]; simp; omega) (by rw [hsize]; simp only; omega) ?_⟩
 rw [hsize, hc]
 simp only
 rw [← hl] at hv2 ⊢
 rw [rep_range, Array.toList_map]
 exact hv2
theorem S_keepB (key : Nat) {b ty : Nat} {cs : List Cel} {vs : List Value} {L' : List Ent} (hj : lookI key ι = some b) (hB : lookB key L = some (ty, cs)) (hd : denL ι cs = some vs) (hL' : delB key L = some L') (hb0 : C.w0.heap.size ≤ b)
  (hk : PH.ext C.w0.heap.size G (G.add b (.cells vs.toArray ty (0, 0))) → X C k E ι L' (G.add b (.cells vs.toArray ty (0, 0)))) : X C k E ι L G := by
 refine S_lendB key hj hB hd hL' fun hG _ => hk ⟨le_add hG, fun x o hx hn => ?_⟩
 unfold PH.add at hx
 split at hx
 ·omega
 ·rw [hn] at hx; cases hx
theorem gcells_add {G : PH} {b ty : Nat} : ∀ {vs : List Value} {pre : List Value}, gcells (G.add b (.cells (pre ++ vs).toArray ty (0, 0))) ⟨b, pre.length, none⟩ vs
 | [], _ => trivial
 | v :: vs, pre => by
  refine ⟨?_, ?_⟩
  ·simp [gcell, PH.add]
  ·have := gcells_add (G := G) (b := b) (ty := ty) (vs := vs) (pre := pre ++ [v])
   rw [add_lit']
   simpa using this
theorem S_sliceG {T : Tab} {Z : ZTab} (hT : tabOk C.P T) (hZ : zOk C.P Z) {d t e m sz sz' : Nat} {os os' : List Nat} {tk : TK} {z : ZI} {parts : Array (Nat × Operand)} {ty : Nat} {pos : String} {af : Array Edge} {g : Option (Nat × Bool)} {cs : List Cel} {vs : List Value}
  (ht : lookT t T = some ⟨.slc e, sz', os'⟩) (he : lookT e T = some ⟨tk, sz, os⟩) (hz : lookZ e Z = some z) (hl : z.zs.length = sz) (hsm : m * sz ≤ 16777216) (hpos : 0 < m * sz)
  (hg : guardOf all E g = .on) (hN : Nat.ble (d + 1) C.n = true) (hd : lookI d ι = none) (hf : fillS (seqP sz m 0) E (vL (repL m z.zs)) parts.toList = some cs) (hcs : ∀ b, denL ((d, b) :: ι) cs = some vs)
  (hk : ∀ b G', PH.ext C.w0.heap.size G G' → gcells G' ⟨b, 0, none⟩ vs → X C (.ops all l :: k) ((d, .val (.slice (some ⟨b, 0, none⟩) m m)) :: E) ((d, b) :: ι) L G') : X C (.ops all (⟨some d, .buildSlice t m parts, ty, pos, af, g⟩ :: l) :: k) E ι L G := by
 refine S_sliceB hT hZ ht he hz hl hsm hpos hg hN hd hf fun b hb => ?_;refine S_keepB (L' := L) (ty := e) d (by simp [lookI]) (by simp [lookB]) (hcs b) (by simp [delB]) hb fun hext => ?_;refine S_reE (s := .slc d 0 m m) d (.val (.slice (some ⟨b, 0, none⟩) m m)) (by simp [look]) (by simp [denO, lookI]) ?_
 have hg0 := gcells_add (G := G) (b := b) (ty := e) (vs := vs) (pre := [])
 intro a w q1 q2 q3 q4
 refine hk b _ hext hg0 a w q1 q2 ?_ q4
 intro i s hi
 refine q3 i s ?_
 simp only [look] at hi ⊢
 split <;> simp_all
end
end
end Go.Proofs.YtphbcboejmhaoaaGreat
