/- Walks of the program's functions, one after the other (part 3); without conditions of their own. -/
import Derived.Test.YtcbdilccmjpnbaaGreatWM1
import Derived.Test.YtcbdilccmjpnbaaGreatWM2
import Derived.Lib.AppendZeros
set_option linter.unusedVariables false
set_option linter.unusedSimpArgs false
set_option maxRecDepth 100000
set_option maxHeartbeats 4000000
open Go.RowKit
namespace Go.Proofs.YtcbdilccmjpnbaaGreat
section
structure Prc where
 r0 : Int
 r1 : Int
 r2 : Int
 todo : List Stm
 mode : Int
 on : Int
 room : Int
structure Wld where
 procs : List Prc
 c0 : Int
 c1 : Int
 c2 : Int
 m0 : Int
 m1 : Int
 q0 : List Int
 q1 : List Int
 said : List (Int × Int)
def updL {α : Type} (f : α → α) : Nat → List α → List α
 | _, [] => []
 | 0, x :: l => f x :: l
 | n + 1, x :: l => x :: updL f n l
def Prc.get (p : Prc) (k : Int) : Int := if k = 0 then p.r0 else if k = 1 then p.r1 else p.r2
def Prc.set (p : Prc) (k v : Int) : Prc := if k = 0 then { p with r0 := v } else if k = 1 then { p with r1 := v } else { p with r2 := v }
def Wld.cell (W : Wld) (k : Int) : Int := if k = 0 then W.c0 else if k = 1 then W.c1 else W.c2
def Wld.setCell (W : Wld) (k v : Int) : Wld := if k = 0 then { W with c0 := v } else if k = 1 then { W with c1 := v } else { W with c2 := v }
def Wld.rm (W : Wld) (k : Int) : Int := if k = 0 then W.m0 else W.m1
def Wld.setRm (W : Wld) (k v : Int) : Wld := if k = 0 then { W with m0 := v } else { W with m1 := v }
def Wld.que (W : Wld) (k : Int) : List Int := if k = 0 then W.q0 else W.q1
def Wld.setQue (W : Wld) (k : Int) (q : List Int) : Wld := if k = 0 then { W with q0 := q } else { W with q1 := q }
def Wld.upd (W : Wld) (i : Nat) (f : Prc → Prc) : Wld := { W with procs := updL f i W.procs }
structure WM where
 kp : Nat
 sp : List Value
 asd : Option Addr
 ksd : Nat
 aq0 : Option Addr
 kq0 : Nat
 aq1 : Option Addr
 kq1 : Nat
 kc : Nat
 spc : List Value
 kr : Nat
 spr : List Value
 ks : Nat
 sps : List Value
 kg : Nat → Nat
 spg : Nat → List Value
def mOk (kp kc kr ks : Nat) (kg : Nat → Nat) (n : Nat) : Prop := (n ≤ kp ∧ kp ≤ maxLen) ∧ (3 ≤ kc ∧ kc ≤ maxLen) ∧ (2 ≤ kr ∧ kr ≤ maxLen) ∧ (2 ≤ ks ∧ ks ≤ maxLen) ∧ ∀ i, 3 ≤ kg i ∧ kg i ≤ maxLen
def WM.ok (m : WM) (n : Nat) : Prop := mOk m.kp m.kc m.kr m.ks m.kg n
structure WX where
 ns : Nat
 xs : List Value
 n0 : Nat
 y0 : List Value
 n1 : Nat
 y1 : List Value
def vi (n : Int) : Cel := .v (.int .i64 n)
def intC : List Int → List Value
 | [] => []
 | n :: l => .int .i64 n :: intC l
def saidC : List (Int × Int) → List Value
 | [] => []
 | (a, b) :: l => .int .i64 a :: .int .i64 b :: saidC l
def procCs (kg : Nat → Nat) (sp : List Value) : Nat → List Prc → List Value → List Cel
 | i, p :: ps, t :: ts => .s (1010 + i) 0 3 (kg i) :: .v t :: vi p.mode :: vi p.on :: vi p.room :: procCs kg sp (i + 1) ps ts
 | _, _, _ => vL sp
def regEs (spg : Nat → List Value) : Nat → List Prc → List Ent
 | _, [] => []
 | i, p :: ps => .blk (1010 + i) 3 (vi p.r0 :: vi p.r1 :: vi p.r2 :: vL (spg i)) :: regEs spg (i + 1) ps
def WX.of (W : Wld) : WX := ⟨W.said.length, saidC W.said, W.q0.length, intC W.q0, W.q1.length, intC W.q1⟩
def WX.ok (x : WX) (W : Wld) : Prop := (x.ns = W.said.length ∧ x.xs = saidC W.said) ∧ (x.n0 = W.q0.length ∧ x.y0 = intC W.q0) ∧ x.n1 = W.q1.length ∧ x.y1 = intC W.q1
theorem WX.ok_eq {x : WX} {W : Wld} (h : x.ok W) : x = WX.of W := by
 obtain ⟨a, b, c, d, e, f⟩ := x
 obtain ⟨⟨h1, h2⟩, ⟨h3, h4⟩, h5, h6⟩ := h
 simp only at h1 h2 h3 h4 h5 h6
 subst h1 h2 h3 h4 h5 h6
 rfl
def wEnts (W : Wld) (ts : List Value) (m : WM) (x : WX) : List Ent :=
 .blk 1000 73 (procCs m.kg m.sp 0 W.procs ts) :: .blk 1001 3 (vi W.c0 :: vi W.c1 :: vi W.c2 :: vL m.spc) :: .blk 1002 3 (vi W.m0 :: vi W.m1 :: vL m.spr) ::
 .blk 1003 23 (.v (.slice m.aq0 x.n0 m.kq0) :: .v (.slice m.aq1 x.n1 m.kq1) :: vL m.sps) ::
 .hp 1004 (rowO 0 88 2 m.asd x.ns m.ksd x.xs) :: .hp 1005 (rowO 0 3 1 m.aq0 x.n0 m.kq0 x.y0) :: .hp 1006 (rowO 0 3 1 m.aq1 x.n1 m.kq1 x.y1) :: regEs m.spg 0 W.procs
def wCels (W : Wld) (m : WM) (x : WX) : List Cel := [.s 1000 0 W.procs.length m.kp, .s 1001 0 3 m.kc, .s 1002 0 2 m.kr, .s 1003 0 2 m.ks, .v (.slice m.asd x.ns m.ksd)]
def regIds : Nat → List Nat → Ids
 | _, [] => []
 | i, b :: bs => (1010 + i, b) :: regIds (i + 1) bs
def wIds (bp bc br bs : Nat) (bg : List Nat) : Ids := (1000, bp) :: (1001, bc) :: (1002, br) :: (1003, bs) :: regIds 0 bg
def regKeys : Nat → Nat → List Nat
 | _, 0 => []
 | i, n + 1 => (1010 + i) :: regKeys (i + 1) n
theorem regIds_keys : ∀ (i : Nat) (bg : List Nat), (regIds i bg).map (·.1) = regKeys i bg.length
 | _, [] => rfl
 | i, b :: bs => by simp [regIds, regKeys, regIds_keys (i + 1) bs]
def WVp (cs : List Value) (W : Wld) (ts : List Value) : Ids → List Ent → Prop := fun ι L => ∃ bp bc br bs bg m x, bg.length = W.procs.length ∧ m.ok W.procs.length ∧ x.ok W ∧ ι = wIds bp bc br bs bg ∧ L = wEnts W ts m x ∧ denL (wIds bp bc br bs bg) (wCels W m x) = some cs
def worldV (cs : List Value) (W : Wld) (ts : List Value) : HP := packHP (WVp cs W ts)
def WPp (b : Nat) (W : Wld) (ts : List Value) : Ids → List Ent → Prop := fun ι L => ∃ bp bc br bs bg m x, bg.length = W.procs.length ∧ m.ok W.procs.length ∧ x.ok W ∧ ι = (1007, b) :: wIds bp bc br bs bg ∧ L = .blk 1007 29 (wCels W m x) :: wEnts W ts m x
def worldP (b : Nat) (W : Wld) (ts : List Value) : HP := packHP (WPp b W ts)
def wKeys (n : Nat) : List Nat := 1000 :: 1001 :: 1002 :: 1003 :: 1004 :: 1005 :: 1006 :: regKeys 0 n
def iKeys (n : Nat) : List Nat := 1000 :: 1001 :: 1002 :: 1003 :: regKeys 0 n
def takeC : Nat → List Cel → Option (List Cel × List Cel)
 | 0, l => some ([], l)
 | n + 1, c :: l => match takeC n l with
  | some (x, r) => some (c :: x, r)
  | none => none
 | _ + 1, [] => none
theorem takeC_eq : ∀ {n : Nat} {l x r : List Cel}, takeC n l = some (x, r) → l = x ++ r
 | 0, l, x, r, h => by cases h; rfl
 | n + 1, [], x, r, h => by cases h
 | n + 1, c :: l, x, r, h => by
  simp only [takeC] at h
  split at h
  ·rename_i y q hq; cases h; rw [takeC_eq hq]; rfl
  ·cases h
theorem denL_app {ι : Ids} (l l' : List Cel) : denL ι (l ++ l') = match denL ι l with
  | some vs => (match denL ι l' with | some vs' => some (vs ++ vs') | none => none)
  | none => none := by
 induction l with
 | nil => simp only [List.nil_append, denL]; cases denL ι l' <;> rfl
 | cons c l ih =>
  simp only [List.cons_append, denL, ih]
  cases denC ι c with
  | none => rfl
  | some v => cases denL ι l with
   | none => rfl
   | some vs => cases denL ι l' <;> rfl
theorem denL_sp {ι ι' : Ids} (n : Nat) {cs cs' l l' : List Cel} {sp : List Value} (h : takeC n cs = some (l, vL sp)) (h' : takeC n cs' = some (l', vL sp)) (hd : denL ι l = denL ι' l') : denL ι cs = denL ι' cs' := by
 rw [takeC_eq h, takeC_eq h', denL_app, denL_app, hd, denL_vL, denL_vL]
section
variable {C : Ctx} {k : List It} {E : Env} {ι : Ids} {L : List Ent} {G : PH} {W : Wld} {ts : List Value} {L' L1 L2 : List Ent} {cs : List Value}
theorem S_openV (κ d : Nat) (hL : getH κ L = some (worldV cs W ts)) (hL' : delH κ L = some L') (hf : freshB (iKeys W.procs.length) ι = true) (hE : look d E = some (.val (.agg cs.toArray)))
  (hk : ∀ bp bc br bs bg m, bg.length = W.procs.length → m.ok W.procs.length → cs = [.slice (some ⟨bp, 0, none⟩) W.procs.length m.kp, .slice (some ⟨bc, 0, none⟩) 3 m.kc, .slice (some ⟨br, 0, none⟩) 2 m.kr, .slice (some ⟨bs, 0, none⟩) 2 m.ks, .slice m.asd W.said.length m.ksd] → X C k ((d, .agg (wCels W m (WX.of W))) :: E) (wIds bp bc br bs bg ++ ι) (wEnts W ts m (WX.of W) ++ L') G) : X C k E ι L G := by
 refine S_unpack κ (iKeys W.procs.length) hL hL' ?_ hf ?_
 ·rintro ι0 L0 ⟨bp, bc, br, bs, bg, m, x, hl, hmk, hx, rfl, rfl, _⟩
  simp [wIds, iKeys, regIds_keys, hl]
 ·rintro ι0 L0 ⟨bp, bc, br, bs, bg, m, x, hl, hmk, hx, rfl, rfl, hcs⟩
  rw [WX.ok_eq hx] at hcs ⊢
  refine S_reE d (.agg (wCels W m (WX.of W))) hE ?_ (hk bp bc br bs bg m hl hmk ?_)
  ·simp only [denO]
   rw [denL_le (IdsLe.left _ ι) hcs]
  have : denL (wIds bp bc br bs bg) (wCels W m (WX.of W)) = some [.slice (some ⟨bp, 0, none⟩) W.procs.length m.kp, .slice (some ⟨bc, 0, none⟩) 3 m.kc, .slice (some ⟨br, 0, none⟩) 2 m.kr, .slice (some ⟨bs, 0, none⟩) 2 m.ks, .slice m.asd W.said.length m.ksd] := rfl
  rw [hcs] at this
  exact Option.some.inj this
theorem S_csV (κ : Nat) (hL : getH κ L = some (worldV cs W ts)) (hk : ∀ bp bc br bs kp asd ksd kc kr ks, cs = [.slice (some ⟨bp, 0, none⟩) W.procs.length kp, .slice (some ⟨bc, 0, none⟩) 3 kc, .slice (some ⟨br, 0, none⟩) 2 kr, .slice (some ⟨bs, 0, none⟩) 2 ks, .slice asd W.said.length ksd] → X C k E ι L G) : X C k E ι L G := by
 intro a w h1 h2 h3 h4
 obtain ⟨Ss, ho, _⟩ := h4.own
 obtain ⟨S, ⟨ι0, L0, Ss0, ⟨bp, bc, br, bs, bg, m, x, hl, hmk, hx, rfl, rfl, hcs⟩, _⟩, _⟩ := owns_split ho hL
 rw [WX.ok_eq hx] at hcs
 have : denL (wIds bp bc br bs bg) (wCels W m (WX.of W)) = some [.slice (some ⟨bp, 0, none⟩) W.procs.length m.kp, .slice (some ⟨bc, 0, none⟩) 3 m.kc, .slice (some ⟨br, 0, none⟩) 2 m.kr, .slice (some ⟨bs, 0, none⟩) 2 m.ks, .slice m.asd W.said.length m.ksd] := rfl
 rw [hcs] at this
 exact hk bp bc br bs m.kp m.asd m.ksd m.kc m.kr m.ks (Option.some.inj this) a w h1 h2 h3 h4
theorem S_openP (κ d : Nat) {b : Nat} (hL : getH κ L = some (worldP b W ts)) (hL' : delH κ L = some L') (hf : freshB (1007 :: iKeys W.procs.length) ι = true) (hE : look d E = some (.val (.pointer (some ⟨b, 0, none⟩))))
  (hk : ∀ bp bc br bs bg m, bg.length = W.procs.length → m.ok W.procs.length → X C k ((d, .ptr 1007 0) :: E) ((1007, b) :: wIds bp bc br bs bg ++ ι) (.blk 1007 29 (wCels W m (WX.of W)) :: wEnts W ts m (WX.of W) ++ L') G) : X C k E ι L G := by
 refine S_unpack κ (1007 :: iKeys W.procs.length) hL hL' ?_ hf ?_
 ·rintro ι0 L0 ⟨bp, bc, br, bs, bg, m, x, hl, hmk, hx, rfl, rfl⟩
  simp [wIds, iKeys, regIds_keys, hl]
 ·rintro ι0 L0 ⟨bp, bc, br, bs, bg, m, x, hl, hmk, hx, rfl, rfl⟩
  rw [WX.ok_eq hx]
  refine S_reE d (.ptr 1007 0) hE ?_ (hk bp bc br bs bg m hl hmk)
  simp [denO, lookI]
end
def Tds (G : PH) : List Prc → List Value → Prop
 | [], [] => True
 | p :: ps, v :: vs => Sts G p.todo v ∧ Tds G ps vs
 | _, _ => False
theorem Tds_le {G G' : PH} (hl : G.le G') : ∀ {ps : List Prc} {vs : List Value}, Tds G ps vs → Tds G' ps vs
 | [], [], h => h
 | p :: ps, v :: vs, h => ⟨Sts_le hl h.1, Tds_le hl h.2⟩
 | [], _ :: _, h => h
 | _ :: _, [], h => h
theorem intC_length : ∀ l : List Int, (intC l).length = l.length
 | [] => rfl
 | _ :: l => by simp [intC, intC_length l]
theorem intC_append : ∀ l l' : List Int, intC (l ++ l') = intC l ++ intC l'
 | [], _ => rfl
 | n :: l, l' => by simp [intC, intC_append l l']
theorem saidC_append : ∀ l l' : List (Int × Int), saidC (l ++ l') = saidC l ++ saidC l'
 | [], _ => rfl
 | (a, b) :: l, l' => by simp [saidC, saidC_append l l']
theorem Bs {ι ι' : Ids} {k k' t : Nat} {L L' : List Ent} (n : Nat) {cs cs' l l' : List Cel} {sp : List Value} (h0 : lookI k ι = lookI k' ι') (h : takeC n cs = some (l, vL sp)) (h' : takeC n cs' = some (l', vL sp)) (hd : denL ι l = denL ι' l') (r : subL ι ι' L L') : subL ι ι' (.blk k t cs :: L) (.blk k' t cs' :: L') := .blk h0 (denL_sp n h h' hd) r
theorem Wsub {ι ι' : Ids} {L L' : List Ent} (n : Nat) {k1 k2 k3 k4 j1 j2 j3 j4 t1 t2 t3 t4 p1 p2 p3 q1 q2 q3 : Nat} {A1 A2 A3 : HP} {c1 d1 l1 m1 c2 d2 l2 m2 c3 d3 l3 m3 c4 d4 l4 m4 : List Cel} {s1 s2 s3 s4 : List Value} (a1 : lookI k1 ι = lookI j1 ι') (b1 : takeC n c1 = some (l1, vL s1)) (e1 : takeC n d1 = some (m1, vL s1)) (f1 : denL ι l1 = denL ι' m1) (a2 : lookI k2 ι = lookI j2 ι') (b2 : takeC 3 c2 = some (l2, vL s2)) (e2 : takeC 3 d2 = some (m2, vL s2)) (f2 : denL ι l2 = denL ι' m2) (a3 : lookI k3 ι = lookI j3 ι') (b3 : takeC 2 c3 = some (l3, vL s3)) (e3 : takeC 2 d3 = some (m3, vL s3)) (f3 : denL ι l3 = denL ι' m3) (a4 : lookI k4 ι = lookI j4 ι') (b4 : takeC 2 c4 = some (l4, vL s4)) (e4 : takeC 2 d4 = some (m4, vL s4)) (f4 : denL ι l4 = denL ι' m4) (r : subL ι ι' L L') : subL ι ι' (.blk k1 t1 c1 :: .blk k2 t2 c2 :: .blk k3 t3 c3 :: .blk k4 t4 c4 :: .hp p1 A1 :: .hp p2 A2 :: .hp p3 A3 :: L) (.blk j1 t1 d1 :: .blk j2 t2 d2 :: .blk j3 t3 d3 :: .blk j4 t4 d4 :: .hp q1 A1 :: .hp q2 A2 :: .hp q3 A3 :: L') := Bs n a1 b1 e1 f1 (Bs 3 a2 b2 e2 f2 (Bs 2 a3 b3 e3 f3 (Bs 2 a4 b4 e4 f4 (.hp (.hp (.hp r))))))
theorem Wpp {b : Nat} {W : Wld} {ts : List Value} {ι : Ids} {L : List Ent} {bp bc br bs : Nat} (bg : List Nat) {kp : Nat} {sp : List Value} {asd : Option Addr} {ksd : Nat} {aq0 : Option Addr} {kq0 : Nat} {aq1 : Option Addr} {kq1 kc : Nat} {spc : List Value} {kr : Nat} {spr : List Value} {ks : Nat} {sps : List Value} (kg : Nat → Nat) (spg : Nat → List Value) {ns : Nat} {xs : List Value} {n0 : Nat} {y0 : List Value} {n1 : Nat} {y1 : List Value} (h1 : bg.length = W.procs.length) (h2 : mOk kp kc kr ks kg W.procs.length) (h3 : ns = W.said.length) (h4 : xs = saidC W.said) (h5 : n0 = W.q0.length) (h6 : y0 = intC W.q0) (h7 : n1 = W.q1.length) (h8 : y1 = intC W.q1) (h9 : ι = (1007, b) :: wIds bp bc br bs bg) (h10 : L = .blk 1007 29 (wCels W ⟨kp, sp, asd, ksd, aq0, kq0, aq1, kq1, kc, spc, kr, spr, ks, sps, kg, spg⟩ ⟨ns, xs, n0, y0, n1, y1⟩) :: wEnts W ts ⟨kp, sp, asd, ksd, aq0, kq0, aq1, kq1, kc, spc, kr, spr, ks, sps, kg, spg⟩ ⟨ns, xs, n0, y0, n1, y1⟩) : WPp b W ts ι L := ⟨bp, bc, br, bs, bg, ⟨kp, sp, asd, ksd, aq0, kq0, aq1, kq1, kc, spc, kr, spr, ks, sps, kg, spg⟩, ⟨ns, xs, n0, y0, n1, y1⟩, h1, h2, ⟨⟨h3, h4⟩, ⟨h5, h6⟩, h7, h8⟩, h9, h10⟩
theorem Wvp {cs ts : List Value} {W : Wld} {ι : Ids} {L : List Ent} {bp bc br bs : Nat} (bg : List Nat) {kp : Nat} {sp : List Value} {asd : Option Addr} {ksd : Nat} {aq0 : Option Addr} {kq0 : Nat} {aq1 : Option Addr} {kq1 kc : Nat} {spc : List Value} {kr : Nat} {spr : List Value} {ks : Nat} {sps : List Value} (kg : Nat → Nat) (spg : Nat → List Value) {ns : Nat} {xs : List Value} {n0 : Nat} {y0 : List Value} {n1 : Nat} {y1 : List Value} (h1 : bg.length = W.procs.length) (h2 : mOk kp kc kr ks kg W.procs.length) (h3 : ns = W.said.length) (h4 : xs = saidC W.said) (h5 : n0 = W.q0.length) (h6 : y0 = intC W.q0) (h7 : n1 = W.q1.length) (h8 : y1 = intC W.q1) (h9 : ι = wIds bp bc br bs bg) (h10 : L = wEnts W ts ⟨kp, sp, asd, ksd, aq0, kq0, aq1, kq1, kc, spc, kr, spr, ks, sps, kg, spg⟩ ⟨ns, xs, n0, y0, n1, y1⟩) (h11 : denL (wIds bp bc br bs bg) (wCels W ⟨kp, sp, asd, ksd, aq0, kq0, aq1, kq1, kc, spc, kr, spr, ks, sps, kg, spg⟩ ⟨ns, xs, n0, y0, n1, y1⟩) = some cs) : WVp cs W ts ι L := ⟨bp, bc, br, bs, bg, ⟨kp, sp, asd, ksd, aq0, kq0, aq1, kq1, kc, spc, kr, spr, ks, sps, kg, spg⟩, ⟨ns, xs, n0, y0, n1, y1⟩, h1, h2, ⟨⟨h3, h4⟩, ⟨h5, h6⟩, h7, h8⟩, h9, h10, h11⟩
section
variable {C : Ctx} {k : List It} {E : Env} {ι : Ids} {L : List Ent} {G : PH} {W : Wld} {ts : List Value} {L' L1 L2 : List Ent} {cs : List Value}
theorem OvV (κ d : Nat) (hL : getH κ L = some (worldV cs W ts)) (hL' : delH κ L = some L') (hf : freshB (iKeys W.procs.length) ι = true) (hE : look d E = some (.val (.agg cs.toArray))) (hk : ∀ bp bc br bs bg kp sp asd ksd aq0 kq0 aq1 kq1 kc spc kr spr ks sps kg spg, bg.length = W.procs.length → mOk kp kc kr ks kg W.procs.length → cs = [.slice (some ⟨bp, 0, none⟩) W.procs.length kp, .slice (some ⟨bc, 0, none⟩) 3 kc, .slice (some ⟨br, 0, none⟩) 2 kr, .slice (some ⟨bs, 0, none⟩) 2 ks, .slice asd W.said.length ksd] → X C k ((d, .agg (wCels W ⟨kp, sp, asd, ksd, aq0, kq0, aq1, kq1, kc, spc, kr, spr, ks, sps, kg, spg⟩ (WX.of W))) :: E) (wIds bp bc br bs bg ++ ι) (wEnts W ts ⟨kp, sp, asd, ksd, aq0, kq0, aq1, kq1, kc, spc, kr, spr, ks, sps, kg, spg⟩ (WX.of W) ++ L') G) : X C k E ι L G := S_openV κ d hL hL' hf hE fun bp bc br bs bg m h1 h2 h3 => hk bp bc br bs bg m.kp m.sp m.asd m.ksd m.aq0 m.kq0 m.aq1 m.kq1 m.kc m.spc m.kr m.spr m.ks m.sps m.kg m.spg h1 h2 h3
theorem OpP (κ d : Nat) {b : Nat} (hL : getH κ L = some (worldP b W ts)) (hL' : delH κ L = some L') (hf : freshB (1007 :: iKeys W.procs.length) ι = true) (hE : look d E = some (.val (.pointer (some ⟨b, 0, none⟩)))) (hk : ∀ bp bc br bs bg kp sp asd ksd aq0 kq0 aq1 kq1 kc spc kr spr ks sps kg spg, bg.length = W.procs.length → mOk kp kc kr ks kg W.procs.length → X C k ((d, .ptr 1007 0) :: E) ((1007, b) :: wIds bp bc br bs bg ++ ι) (.blk 1007 29 (wCels W ⟨kp, sp, asd, ksd, aq0, kq0, aq1, kq1, kc, spc, kr, spr, ks, sps, kg, spg⟩ (WX.of W)) :: wEnts W ts ⟨kp, sp, asd, ksd, aq0, kq0, aq1, kq1, kc, spc, kr, spr, ks, sps, kg, spg⟩ (WX.of W) ++ L') G) : X C k E ι L G := S_openP κ d hL hL' hf hE fun bp bc br bs bg m h1 h2 => hk bp bc br bs bg m.kp m.sp m.asd m.ksd m.aq0 m.kq0 m.aq1 m.kq1 m.kc m.spc m.kr m.spr m.ks m.sps m.kg m.spg h1 h2
end
end
section
theorem run_eqNil {P : Program} (w : World) {t e : TypeId} (A : Option Addr) (n c : Nat) (ht : P.underlying t = some (.slice e)) : (binOp .eql t (.slice A n c) (.slice none 0 0)).run P w = .ok (.bool A.isNone) w := by
 have h : ∀ d : Nat, (Op.equalIn (d + 1) t (.slice A n c) (.slice none 0 0)).run P w = .ok A.isNone w := fun d => by
  cases A <;> simp [Op.equalIn, run_underlying ht]
 simp only [binOp]
 simp [Op.equal, Op.maxDepth, h 9999]
section
variable {C : Ctx} {E : Env} {ι : Ids} {L : List Ent} {G : PH} {d : Option Nat} {ty : Nat} {pos : String} {af : Array Edge} {g : Option (Nat × Bool)}
theorem V_eqNil {T : Tab} (hT : tabOk C.P T) {t t' e sz : Nat} {os : List Nat} {x : Operand} {A : Option Addr} {n c : Nat} (ht : lookT t T = some ⟨.slc e, sz, os⟩) (hx : ev E x = some (.val (.slice A n c))) : Vl C ι E L G ⟨d, .binOp .eql t x (.const (.slice none 0 0)) t', ty, pos, af, g⟩ (.bool A.isNone) := by
 intro a w hE hw
 have ex := ev_sound hE hx
 simp only [denO, Option.some.injEq] at ex
 have ey : a.eval (.const (.slice none 0 0)) = .slice none 0 0 := rfl
 have hr := run_eqNil (P := C.P) w A n c (tyOk_slice (hT _ _ ht) rfl)
 simp only [execOp, ← ex, ey]
 simp [eqGuard, hr]
theorem V_cap {T : Tab} (hT : tabOk C.P T) {t e sz : Nat} {os : List Nat} {x : Operand} {A : Option Addr} {n c : Nat} (ht : lookT t T = some ⟨.slc e, sz, os⟩) (hx : ev E x = some (.val (.slice A n c))) : Vl C ι E L G ⟨d, .call ⟨.builtin .cap, #[x], #[t]⟩, ty, pos, af, g⟩ (.int .i64 c) := by
 intro a w hE hw
 have ex := ev_sound hE hx
 simp only [denO, Option.some.injEq] at ex
 have hu := tyOk_slice (hT _ _ ht) rfl
 simp only [execOp, resolve, invoke, List.map_toArray, List.map_cons, List.map_nil, ← ex]
 simp [go_sem, Builtin.cap_, run_underlying hu, goInt]
theorem V_max {t t' : Nat} {x y : Operand} {p q : Int} (hx : ev E x = some (.val (.int .i64 p))) (hy : ev E y = some (.val (.int .i64 q))) : Vl C ι E L G ⟨d, .call ⟨.builtin .max, #[x, y], #[t, t']⟩, ty, pos, af, g⟩ (.int .i64 (max p q)) := by
 intro a w hE hw
 have ex := ev_sound hE hx
 have ey := ev_sound hE hy
 simp only [denO, Option.some.injEq] at ex ey
 simp only [execOp, resolve, invoke, List.map_toArray, List.map_cons, List.map_nil, ← ex, ← ey]
 have : (if q > p then q else p) = max p q := by split <;> omega
 simp [builtin, Builtin.max_, Builtin.max2, this]
theorem V_min {t t' : Nat} {x y : Operand} {p q : Int} (hx : ev E x = some (.val (.int .i64 p))) (hy : ev E y = some (.val (.int .i64 q))) : Vl C ι E L G ⟨d, .call ⟨.builtin .min, #[x, y], #[t, t']⟩, ty, pos, af, g⟩ (.int .i64 (min p q)) := by
 intro a w hE hw
 have ex := ev_sound hE hx
 have ey := ev_sound hE hy
 simp only [denO, Option.some.injEq] at ex ey
 simp only [execOp, resolve, invoke, List.map_toArray, List.map_cons, List.map_nil, ← ex, ← ey]
 have : (if q < p then q else p) = min p q := by split <;> omega
 simp [builtin, Builtin.min_, Builtin.min2, this]
theorem V_iface {t : Nat} {x : Operand} {s : Sym} {v : Value} (hu : (match C.P.underlying t with | some (.struct _) => true | _ => false) = true) (hx : ev E x = some s) (hv : denO ι s = some v) : Vl C ι E L G ⟨d, .makeInterface t x, ty, pos, af, g⟩ (.iface t v) := by
 intro a w hE hw
 have ex := ev_sound hE hx
 rw [hv] at ex; cases ex
 split at hu
 ·rename_i fs hq
  simp only [execOp]
  simp [Instr.makeInterface, run_underlying hq]
 ·cases hu
theorem V_build0 {t : Nat} (hb : C.P.built t [] = some #[]) : Vl C ι E L G ⟨d, .build t #[], ty, pos, af, g⟩ (.agg #[]) := by
 intro a w hE hw
 simp only [execOp]
 simp [run_build w t #[] _ hb]
theorem V_builtC {t : Nat} {parts : Array (Nat × Operand)} {vs : List (Nat × Value)} {cs : Array Value} (hp : parts.toList.map (fun x => (x.1, ev E x.2)) = vs.map (fun x => (x.1, some (Sym.val x.2)))) (hb : C.P.built t vs = some cs) : Vl C ι E L G ⟨d, .build t parts, ty, pos, af, g⟩ (.agg cs) := by
 intro a w hE hw
 have hq : (parts.map fun (i, x) => (i, a.eval x)).toList = vs := by
  rw [Array.toList_map]
  generalize parts.toList = l at hp
  clear hb
  induction l generalizing vs with
  | nil => cases vs with
   | nil => rfl
   | cons => simp at hp
  | cons y l ih =>
   cases vs with
   | nil => simp at hp
   | cons z vs =>
    simp only [List.map_cons, List.cons.injEq, Prod.mk.injEq] at hp
    obtain ⟨⟨h1, h2⟩, h3⟩ := hp
    have e := ev_sound hE h2
    simp only [denO, Option.some.injEq] at e
    rw [List.map_cons, ih h3]
    obtain ⟨i, y⟩ := y
    obtain ⟨j, z⟩ := z
    simp only at h1 e
    subst h1
    show (_, a.eval y) :: vs = _
    rw [← e]
 simp only [execOp]
 simp [run_build w t _ _ (by rw [hq]; exact hb)]
theorem V_slice0 {T : Tab} (hT : tabOk C.P T) {t e sz sz' : Nat} {os os' : List Nat} {tk : TK} {x y : Operand} {A : Option Addr} {n c : Nat} (ht : lookT t T = some ⟨.slc e, sz', os'⟩) (he : lookT e T = some ⟨tk, sz, os⟩) (hx : ev E x = some (.val (.slice A n c))) (hy : ev E y = some (.val (.int .i64 0))) :
  Vl C ι E L G ⟨d, .slice t x none (some y) none, ty, pos, af, g⟩ (.slice A 0 c) := by
 intro a w hE hw
 have ex := ev_sound hE hx
 have ey := ev_sound hE hy
 simp only [denO, Option.some.injEq] at ex ey
 have hu := tyOk_slice (hT _ _ ht) rfl
 simp only [execOp, ← ex, Option.map_some, Option.map_none, ← ey]
 simp only [Instr.sliceAt, Sem.run_bind, run_underlying hu, Result.andThen_ok]
 simp [Instr.slice, run_underlying hu, Instr.sliceBounds, Instr.sliceBound, asIntOf, tyOk_size (hT _ _ he)]
 cases A <;> simp [Addr.add]
theorem V_slice1 {T : Tab} (hT : tabOk C.P T) {t e sz sz' : Nat} {os os' : List Nat} {tk : TK} {x : Operand} {A : Option Addr} {n c : Nat} (ht : lookT t T = some ⟨.slc e, sz', os'⟩) (he : lookT e T = some ⟨tk, sz, os⟩) (hx : ev E x = some (.val (.slice A (n + 1) c))) :
  Vl C ι E L G ⟨d, .slice t x (some (.const (.int .i64 1))) none none, ty, pos, af, g⟩ (.slice (if c = 1 then A else A.map (·.add (1 * sz))) n (c - 1)) := by
 intro a w hE hw
 have ex := ev_sound hE hx
 simp only [denO, Option.some.injEq] at ex
 have hu := tyOk_slice (hT _ _ ht) rfl
 simp only [execOp, Option.map_some, Option.map_none, ← ex]
 have : a.eval (.const (.int .i64 1)) = .int .i64 1 := rfl
 rw [this]
 have h1 : (1 : Int) ≤ (n : Int) + 1 := by omega
 simp only [Instr.sliceAt, Sem.run_bind, run_underlying hu, Result.andThen_ok]
 simp [Instr.slice, run_underlying hu, Instr.sliceBounds, Instr.sliceBound, asIntOf, tyOk_size (hT _ _ he), h1]
theorem V_field {T : Tab} (hT : tabOk C.P T) {t m o : Nat} {os : List Nat} {x : Operand} {f : Nat} {cs : Array Value} {v : Value} (ht : lookT t T = some ⟨.agg, m, os⟩) (hx : ev E x = some (.val (.agg cs))) (ho : nthO f os = some o) (hc : nthN o cs.toList = some v)
  (hft : (match C.P.underlying t with | some (.struct fs) => (match fs[f]? with | some fd => (match C.P.underlying fd.type with | some (.int _) => true | _ => false) | _ => false) | _ => false) = true) : Vl C ι E L G ⟨d, .field t x f, ty, pos, af, g⟩ v := by
 intro a w hE hw
 have ex := ev_sound hE hx
 simp only [denO, Option.some.injEq] at ex
 split at hft
 ·rename_i fs hfs
  split at hft
  ·rename_i fd hfd
   split at hft
   ·rename_i k hk
    obtain ⟨dsc, inf, hu, hi, hkk, hsz, hoffs, _⟩ := tyOk_parts (hT _ _ ht)
    rw [hfs] at hu; cases hu
    simp only [offsOk, Bool.and_eq_true, beq_iff_eq] at hoffs
    have hd' := nthO_eq ho
    rw [← hoffs.1, List.getElem?_map] at hd'
    obtain ⟨fd', hfd', hoff⟩ := Option.map_eq_some_iff.1 hd'
    rw [Array.getElem?_toList, hfd] at hfd'
    cases hfd'
    have hcv := nthN_eq hc
    rw [Array.getElem?_toList] at hcv
    have hfd'' : fs.toList[f]? = some fd := by simpa using hfd
    simp only [execOp, ← ex]
    simp [Instr.field, run_underlying hfs, hfd, asAgg, part, isAgg, run_underlying hk, hoff, hcv]
   ·cases hft
  ·cases hft
 ·cases hft
end
theorem S_growNil {C : Ctx} {k : List It} {E : Env} {ι : Ids} {L : List Ent} {G : PH} {all : Array Oper} {l : List Oper} {T : Tab} (hT : tabOk C.P T) (κ : Nat) {d t tn e sz' sz : Nat} {os os' : List Nat} {tk : TK} {zi : ZI} {s x : Operand} {ty : Nat} {pos : String} {af : Array Edge} {g : Option (Nat × Bool)} {n : Nat} {kn : IntKind}
  (ht : lookT t T = some ⟨.slc e, sz', os'⟩) (he : lookT e T = some ⟨tk, sz, os⟩) (hz : lookZ e T.zs = some zi) (hzs : zi.zs.length = sz) (hsz : Nat.ble 1 sz = true) (htn : C.P.underlying tn = some (.int kn))
  (hg : guardOf all E g = .on) (hN : Nat.ble (d + 1) C.n = true) (hs : ev E s = some (.val (.slice none 0 0))) (hx : ev E x = some (.val (.int .i64 n))) (h0 : 0 < n) (h63 : n ≤ maxLen) (hby : n * zi.b ≤ 281474976710656)
  (hk : ∀ A c, n ≤ c → X C (.ops all l :: k) ((d, .val (.slice A n c)) :: E) ι (.hp κ (rowO C.w0.heap.size e sz A 0 c []) :: L) G) : X C (.ops all (⟨some d, .call ⟨.builtin .append, #[s, x], #[t, tn]⟩, ty, pos, af, g⟩ :: l) :: k) E ι L G := by
 intro a w h1 h2 h3 h4
 have hdn : d < a.tmps.size := by rw [h2]; exact Nat.le_of_ble_eq_true hN
 have es := ev_sound h3 hs
 have ex := ev_sound h3 hx
 simp only [denO, Option.some.injEq] at es ex
 have hu := tyOk_slice (hT _ _ ht) rfl
 obtain ⟨dsc, inf, _, hi, _, hsize, _⟩ := tyOk_parts (hT _ _ he)
 obtain ⟨inf', vz, hi', hv, hb, hc, _⟩ := viewZ_eq (hT.z _ _ hz)
 rw [hi] at hi'; cases hi'
 simp only at hsize
 have hsp : 0 < sz := Nat.le_of_ble_eq_true hsz
 have hr := Go.Lib.run_append_nil_zeros (P := C.P) w t tn ty e inf vz .i64 kn hu htn hi hv n h0 (by omega) (by simp only [maxLen] at h63; omega) (by rw [hb]; exact hby)
 have hrun : (execOp a.eval ⟨some d, .call ⟨.builtin .append, #[s, x], #[t, tn]⟩, ty, pos, af, g⟩).run C.P w = .ok (.value (.slice (some ⟨w.heap.size, 0, none⟩) n (grownCap w n 0 e))) (w.drew.alloc (.cells (Builtin.zeroCells vz.cells n ++ Builtin.zeroCells vz.cells (grownCap w n 0 e - n)) e)) := by
  simp only [execOp, resolve, invoke, List.map_toArray, List.map_cons, List.map_nil, ← es, ← ex]
  simp [builtin, hr]
 have hge := grownCap_ge w n 0 e
 have hcm := grownCap_le_maxLen w n 0 e h63
 refine wpE_val (guardOf_on h3 hg) (by intro c h; cases h) hrun ?_;refine hk _ _ hge _ _ h1 (by simp [Act.put, h2]) (h3.put hdn J) ?_
 have h4' : SatW C ι L G w.drew := ⟨h4.os, h4.tape, h4.output, h4.size, h4.keep, h4.emb, by
  obtain ⟨Ss, ho, hS⟩ := h4.own
  exact ⟨Ss, owns_far ho (fun _ => False) (fun _ _ => J) (fun _ _ _ _ h => h), hS⟩⟩
 have hal := h4'.allocH κ (.cells (Builtin.zeroCells vz.cells n ++ Builtin.zeroCells vz.cells (grownCap w n 0 e - n)) e)
 obtain ⟨Ss, ho, hS⟩ := hal.own
 cases Ss with
 | nil => simp [owns] at ho
 | cons S Ss =>
  obtain ⟨hA, hd, hr⟩ := ho
  refine ⟨hal.os, hal.tape, hal.output, hal.size, hal.keep, hal.emb, S :: Ss, ⟨⟨by simp, hcm, Nat.zero_le _, .inr ⟨_, 0, _, J, h4.size, hA.1, ?_, by simp, hA.2⟩⟩, hd, hr⟩, hS⟩
  simp only [Array.size_append, size_zeroCells, hc, ← Nat.add_mul, List.size_toArray, hzs]
  rw [Nat.zero_add]
  exact Nat.mul_le_mul_right _ (by omega)
def emptyHP : HP := packHP fun ι L => ι = [] ∧ L = []
theorem S_newE {C : Ctx} {k : List It} {E : Env} {ι : Ids} {L : List Ent} {G : PH} (κ : Nat) (hx : X C k E ι (.hp κ emptyHP :: L) G) : X C k E ι L G := by
 refine S_pack (ι1 := []) (L1 := []) (L2 := L) (Ls := []) κ [] J .nil ⟨J, J⟩ hx
theorem S_rebase {C : Ctx} {k : List It} {E : Env} {ι : Ids} {L : List Ent} {G : PH} (κ : Nat) {base e sz : Nat} {A : Option Addr} {n c : Nat} {xs : List Value} {L' : List Ent} (hS0 : ∀ b, ¬ C.S0 b) (hL : getH κ L = some (rowO base e sz A n c xs)) (hL' : setH κ (rowO C.w0.heap.size e sz A n c xs) L = some L') (hx : X C k E ι L' G) : X C k E ι L G := by
 intro a w h1 h2 h3 h4
 refine hx a w h1 h2 h3 ?_;obtain ⟨S, hA, hSG, hturn⟩ := h4.turn hL
 obtain ⟨Ss, ho, hS⟩ := h4.own
 obtain ⟨S2, hA2, hm2, _⟩ := owns_split ho hL
 refine hturn _ _ G w S hL' ?_ h4.emb XR (fun b hb => ⟨hSG b hb, .inl hb⟩) J J J (Nat.le_refl _) fun _ _ _ => J
 obtain ⟨q1, q2, q3, q4⟩ := hA
 refine ⟨q1, q2, q3, ?_⟩
 rcases q4 with q4 | ⟨g, off, cur, rfl, q0, q5, q6, q7, q8⟩
 ·exact .inl q4
 ·refine .inr ⟨g, off, cur, J, ?_, q5, q6, q7, q8⟩
  obtain ⟨r1, r2, r3, r4⟩ := hA2
  rcases r4 with ⟨r4, _⟩ | ⟨g', off', cur', r, r0, r5, r6, r7, r8⟩
  ·cases r4
  ·cases r
   rcases (hS S2 hm2 _ ((r8 _).2 rfl)).2 with h | h
   ·exact absurd h (hS0 _)
   ·exact h
theorem S_base0 {C : Ctx} {k : List It} {E : Env} {ι : Ids} {L : List Ent} {G : PH} (κ : Nat) {base e sz : Nat} {A : Option Addr} {n c : Nat} {xs : List Value} {L' : List Ent} (hL : getH κ L = some (rowO base e sz A n c xs)) (hL' : setH κ (rowO 0 e sz A n c xs) L = some L') (hx : X C k E ι L' G) : X C k E ι L G := by
 intro a w h1 h2 h3 h4
 refine hx a w h1 h2 h3 ?_;obtain ⟨S, hA, hSG, hturn⟩ := h4.turn hL
 refine hturn _ _ G w S hL' ?_ h4.emb XR (fun b hb => ⟨hSG b hb, .inl hb⟩) J J J (Nat.le_refl _) fun _ _ _ => J
 obtain ⟨q1, q2, q3, q4⟩ := hA
 refine ⟨q1, q2, q3, ?_⟩
 rcases q4 with q4 | ⟨g, off, cur, rfl, q0, q5, q6, q7, q8⟩
 ·exact .inl q4
 ·exact .inr ⟨g, off, cur, J, Nat.zero_le _, q5, q6, q7, q8⟩
def newHP (B : Nat) (A : HP) : HP where
 holds w S := A.holds w S ∧ ∀ b, S b → B ≤ b
 loc w w' S h hs := ⟨A.loc w w' S h.1 hs, h.2⟩
 lt w S h := A.lt w S h.1
theorem emptyHP_holds (w : World) : emptyHP.holds w (fun _ => False) := ⟨[], [], [], ⟨rfl, rfl⟩, trivial, fun x => ⟨fun h => h.elim, fun ⟨T, hT, _⟩ => by cases hT⟩⟩
theorem S_callN {C : Ctx} {k : List It} {E : Env} {ι : Ids} {L : List Ent} {G : PH} {all : Array Oper} {l : List Oper} (κ : Nat) {d f : Nat} {xs : Array Operand} {ats : Array TypeId} {ty : Nat} {pos : String} {af : Array Edge} {g : Option (Nat × Bool)} {vs : List Value} {Post : Value → PH → HP → Prop} (hcf : ∀ args w, (callFunc f args).run C.P w = .ok (.enter f args) w)
  (hc : Mod C.P f vs G emptyHP Post) (hg : guardOf all E g = .on) (hN : Nat.ble (d + 1) C.n = true) (hxs : evs ι E xs.toList = some vs)
  (hk : ∀ v G' A', Post v G' A' → PH.ext C.w0.heap.size G G' → X C (.ops all l :: k) ((d, .val v) :: E) ι (.hp κ (newHP C.w0.heap.size A') :: L) G') : X C (.ops all (⟨some d, .call ⟨.value (.func f), xs, ats⟩, ty, pos, af, g⟩ :: l) :: k) E ι L G := by
 intro a w h1 h2 h3 h4
 have hdn : d < a.tmps.size := by rw [h2]; exact Nat.le_of_ble_eq_true hN
 have hcc := hc w (fun _ => False) h4.emb (emptyHP_holds w) (fun _ h => h.elim)
 refine wpE_call (f := f) (cap := #[]) (vs := vs) (guardOf_on h3 hg) J (evs_sound h3 hxs) hcf (R := fun v w' => ∃ G' A', Post v G' A' ∧ PH.ext C.w0.heap.size G G' ∧ SatW C ι (.hp κ (newHP C.w0.heap.size A') :: L) G' w') ?_ ?_
 ·simp only [List.append_nil, List.toList_toArray]
  refine hcc.mono ?_;rintro e w' ⟨v, G', A', S', rfl, hp, hA', hext, hemb, hS', e1, e2, e3, e4, hkeep⟩
  refine ⟨v, J, G', A', hp, hext.mono h4.size, ?_⟩
  obtain ⟨Ss, ho, hS⟩ := h4.own
  have hlt := owns_lt ho
  have hge : ∀ b, S' b → w.heap.size ≤ b := fun b hb => (hS' b hb).2.resolve_left id
  have hk' : ∀ b, b < w.heap.size → w'.heap[b]? = w.heap[b]? := fun b hb => hkeep b hb id
  refine ⟨e1.trans h4.os, e2.trans h4.tape, e3.trans h4.output, Nat.le_trans h4.size e4, fun b hb hn => ?_, hemb, S' :: Ss, ⟨⟨hA', fun b hb => Nat.le_trans h4.size (hge b hb)⟩, fun T hT b hb hb' => ?_, owns_far ho (fun b => w.heap.size ≤ b) (fun x hx => hk' x (by omega)) (fun T hT x hx => by have := hlt T hT x hx; omega)⟩, ?_⟩
  ·have := h4.size
   rw [hk' b (by omega)]; exact h4.keep b hb hn
  ·have := hlt T hT b hb'; have := hge b hb; omega
  ·intro T hT b hb
   rcases List.mem_cons.1 hT with rfl | hT
   ·exact ⟨(hS' b hb).1, .inr (Nat.le_trans h4.size (hge b hb))⟩
   ·refine ⟨?_, (hS T hT b hb).2⟩
    cases hq : G' b with
    | none => rfl
    | some o => have := hext.new b o hq (hS T hT b hb).1; have := hlt T hT b hb; omega
 ·rintro v w' ⟨G', A', hp, hext, hsat⟩
  exact hk v G' A' hp hext _ _ (h1.mono hext.le) (by simp [Act.put, h2]) (h3.put hdn J) hsat
theorem S_newRow {C : Ctx} {k : List It} {E : Env} {ι : Ids} {L : List Ent} {G : PH} (κ : Nat) {B base e sz : Nat} {A : Option Addr} {n c : Nat} {xs : List Value} {L' : List Ent} (hL : getH κ L = some (newHP B (rowO base e sz A n c xs))) (hL' : setH κ (rowO B e sz A n c xs) L = some L') (hx : X C k E ι L' G) : X C k E ι L G := by
 intro a w h1 h2 h3 h4
 refine hx a w h1 h2 h3 ?_;obtain ⟨S, ⟨hA, hB⟩, hSG, hturn⟩ := h4.turn hL
 refine hturn _ _ G w S hL' ?_ h4.emb XR (fun b hb => ⟨hSG b hb, .inl hb⟩) J J J (Nat.le_refl _) fun _ _ _ => J
 obtain ⟨q1, q2, q3, q4⟩ := hA
 refine ⟨q1, q2, q3, ?_⟩
 rcases q4 with q4 | ⟨g, off, cur, rfl, q0, q5, q6, q7, q8⟩
 ·exact .inl q4
 ·exact .inr ⟨g, off, cur, J, hB g ((q8 g).2 J), q5, q6, q7, q8⟩
end
section
def Sx (G : PH) (sz : Nat) (v : Value) (n : Nat) (xs : List Value) : Prop :=
 ∃ A c, v = .slice A n c ∧ n ≤ 1000000000 ∧ n ≤ c ∧ c ≤ maxLen ∧ xs.length = n * sz ∧ (n = 0 ∨ ∃ a, A = some a ∧ gcells G a xs)
theorem Sx_le {G G' : PH} (hl : G.le G') {sz n : Nat} {v : Value} {xs : List Value} (h : Sx G sz v n xs) : Sx G' sz v n xs := by
 obtain ⟨A, c, h1, h2, h3, h4, h5, h6⟩ := h
 refine ⟨A, c, h1, h2, h3, h4, h5, ?_⟩
 rcases h6 with h6 | ⟨a, h6, h7⟩
 ·exact .inl h6
 ·exact .inr ⟨a, h6, gcells_le hl h7⟩
section
variable {α : Type} {G : PH} {sz : Nat} {rep : α → List Value → Prop}
theorem gcells_app {ad : Addr} : ∀ {cs ys : List Value}, gcells G ad cs → gcells G (ad.add cs.length) ys → gcells G ad (cs ++ ys) := by
 intro cs
 induction cs generalizing ad with
 | nil => intro ys _ h; rw [List.length_nil, add_zero'] at h; exact h
 | cons c cs ih =>
  intro ys h h'
  refine ⟨h.1, ih h.2 ?_⟩
  rw [add_add', Nat.add_comm]; exact h'
theorem Rw_cells (hr : ∀ x cs, rep x cs → cs.length = sz) : ∀ {L : List α} {ad : Addr}, Rw G sz rep L ad → ∃ xs, gcells G ad xs ∧ Cs sz rep L xs := by
 intro L
 induction L with
 | nil => intro ad _; exact ⟨[], trivial, J⟩
 | cons x L ih =>
  rintro ad ⟨⟨cs, h1, h2⟩, h3⟩
  obtain ⟨ys, h4, h5⟩ := ih h3
  have hl := hr x cs h2
  exact ⟨cs ++ ys, gcells_app h1 (by rw [hl]; exact h4), cs, ys, J, hl, h2, h5⟩
theorem Sr_Sx (hr : ∀ x cs, rep x cs → cs.length = sz) {L : List α} {v : Value} (h : Sr G sz rep L v) : ∃ xs, Sx G sz v L.length xs ∧ Cs sz rep L xs := by
 obtain ⟨A, c, h1, h2, h3, h4, h5⟩ := h
 by_cases hn : L.length = 0
 ·have : L = [] := List.eq_nil_of_length_eq_zero hn
  subst this
  exact ⟨[], ⟨A, c, h1, h2, h3, h4, by simp, .inl J⟩, J⟩
 ·rcases h5 with h5 | ⟨ad, h5, h6⟩
  ·exact absurd h5 hn
  ·obtain ⟨xs, h7, h8⟩ := Rw_cells hr h6
   exact ⟨xs, ⟨A, c, h1, h2, h3, h4, Cs_length h8, .inr ⟨ad, h5, h7⟩⟩, h8⟩
theorem Sx_Sr {L : List α} {v : Value} {n : Nat} {xs : List Value} (h : Sx G sz v n xs) (hn : n = L.length) (hc : Cs sz rep L xs) : Sr G sz rep L v := by
 subst hn
 obtain ⟨A, c, h1, h2, h3, h4, h5, h6⟩ := h
 refine ⟨A, c, h1, h2, h3, h4, ?_⟩
 rcases h6 with h6 | ⟨a, h6, h7⟩
 ·exact .inl h6
 ·exact .inr ⟨a, h6, Rw_of hc h7⟩
theorem Cs_one {L : List α} {xs : List Value} (h1 : ∀ x cs, rep x cs → ∀ u ∈ cs, u.oneCell' = true) (h : Cs sz rep L xs) : ∀ u ∈ xs, u.oneCell' = true := by
 induction L generalizing xs with
 | nil => cases h; intro u hu; cases hu
 | cons x L ih =>
  obtain ⟨cs, ys, rfl, _, h3, h4⟩ := h
  intro u hu
  rcases List.mem_append.1 hu with hu | hu
  ·exact h1 x cs h3 u hu
  ·exact ih h4 u hu
theorem Cs_append2 {L L' : List α} {xs ys : List Value} (h : Cs sz rep L xs) (h' : Cs sz rep L' ys) : Cs sz rep (L ++ L') (xs ++ ys) := by
 induction L generalizing xs with
 | nil => cases h; exact h'
 | cons x L ih =>
  obtain ⟨cs, zs, rfl, h2, h3, h4⟩ := h
  exact ⟨cs, zs ++ ys, by simp, h2, h3, ih h4⟩
end
theorem Stm.rep_one {G : PH} (s : Stm) (cs : List Value) (h : Stm.rep G s cs) : ∀ u ∈ cs, u.oneCell' = true := by
 cases s
 obtain ⟨vx, vy, rfl, _, _, _, _, ⟨Ax, cx, rfl, _⟩, ⟨Ay, cy, rfl, _⟩⟩ := Stm.rep_iff.1 h
 intro u hu
 simp at hu
 rcases hu with rfl | rfl | rfl | rfl | rfl | rfl <;> rfl
theorem intC_one (l : List Int) : ∀ u ∈ intC l, u.oneCell' = true := by
 induction l with
 | nil => intro u hu; cases hu
 | cons n l ih => intro u hu; rcases List.mem_cons.1 hu with rfl | hu; rfl; exact ih u hu
theorem saidC_one (l : List (Int × Int)) : ∀ u ∈ saidC l, u.oneCell' = true := by
 induction l with
 | nil => intro u hu; cases hu
 | cons n l ih =>
  obtain ⟨a, b⟩ := n
  intro u hu
  simp only [saidC, List.mem_cons] at hu
  rcases hu with rfl | rfl | hu
  ·rfl
  ·rfl
  ·exact ih u hu
theorem saidC_snoc (l : List (Int × Int)) (a b : Int) : saidC l ++ [.int .i64 a, .int .i64 b] = saidC (l ++ [(a, b)]) := by simp [saidC_append, saidC]
theorem intC_snoc (l : List Int) (a : Int) : intC l ++ [.int .i64 a] = intC (l ++ [a]) := by simp [intC_append, intC]
section
variable {C : Ctx} {k : List It} {E : Env} {ι : Ids} {L : List Ent} {G : PH} {all : Array Oper} {l : List Oper}
theorem S_appSaid {T : Tab} (hT : tabOk C.P T) (κ j : Nat) {d t e sz' : Nat} {os os' : List Nat} {tk : TK} {zi : ZI} {s x : Operand} {ty ty' : Nat} {pos : String} {af : Array Edge} {g : Option (Nat × Bool)} {A : Option Addr} {c b : Nat} {sd : List (Int × Int)} {p q : Int} {cs : List Cel} {L' : Option Addr → Nat → List Ent}
  (ht : lookT t T = some ⟨.slc e, sz', os'⟩) (he : lookT e T = some ⟨tk, 2, os⟩) (hz : lookZ e T.zs = some zi) (hzs : zi.zs.length = 2) (hzb : zi.b = 16)
  (hg : guardOf all E g = .on) (hN : Nat.ble (d + 1) C.n = true) (hs : ev E s = some (.val (.slice A sd.length c))) (hx : ev E x = some (.slc j 0 1 1)) (hj : lookI j ι = some b) (hB : lookB j L = some (ty', cs)) (hcs : denL ι cs = some [.int .i64 p, .int .i64 q])
  (hL : getH κ L = some (rowO 0 e 2 A sd.length c (saidC sd))) (hL' : ∀ A' c', setH κ (rowO 0 e 2 A' (sd ++ [(p, q)]).length c' (saidC (sd ++ [(p, q)]))) L = some (L' A' c')) (hlen : sd.length ≤ 1000000)
  (hk : ∀ A' c', X C (.ops all l :: k) ((d, .val (.slice A' (sd ++ [(p, q)]).length c')) :: E) ι (L' A' c') G) : X C (.ops all (⟨some d, .call ⟨.builtin .append, #[s, x], #[t, t]⟩, ty, pos, af, g⟩ :: l) :: k) E ι L G := by
 refine S_appO hT κ (news := [.int .i64 p, .int .i64 q]) (m := 1) ht he hz hzs J hg hN hs hx (by rw [denO, hj]) hL (L' := L') (fun A' c' => ?_) (src_blk j hB hcs hj J J) (by intro u hu; simp at hu; rcases hu with rfl | rfl <;> rfl) (by rw [hzb]; omega) (by simp only [maxLen]; omega) (Nat.zero_le _) fun A' c' => ?_
 ·rw [saidC_snoc, ← hL' A' c']; simp
 ·have := hk A' c'; rwa [List.length_append] at this
theorem S_appInt {T : Tab} (hT : tabOk C.P T) (κ j : Nat) {base d t e sz' : Nat} {os os' : List Nat} {tk : TK} {zi : ZI} {s x : Operand} {ty ty' : Nat} {pos : String} {af : Array Edge} {g : Option (Nat × Bool)} {A : Option Addr} {c b : Nat} {sd : List Int} {p : Int} {cs : List Cel} {L' : Option Addr → Nat → List Ent}
  (ht : lookT t T = some ⟨.slc e, sz', os'⟩) (he : lookT e T = some ⟨tk, 1, os⟩) (hz : lookZ e T.zs = some zi) (hzs : zi.zs.length = 1) (hzb : zi.b = 8)
  (hg : guardOf all E g = .on) (hN : Nat.ble (d + 1) C.n = true) (hs : ev E s = some (.val (.slice A sd.length c))) (hx : ev E x = some (.slc j 0 1 1)) (hj : lookI j ι = some b) (hB : lookB j L = some (ty', cs)) (hcs : denL ι cs = some [.int .i64 p])
  (hL : getH κ L = some (rowO base e 1 A sd.length c (intC sd))) (hL' : ∀ A' c', setH κ (rowO base e 1 A' (sd ++ [p]).length c' (intC (sd ++ [p]))) L = some (L' A' c')) (hlen : sd.length ≤ 1000000) (hbase : base ≤ C.w0.heap.size)
  (hk : ∀ A' c', X C (.ops all l :: k) ((d, .val (.slice A' (sd ++ [p]).length c')) :: E) ι (L' A' c') G) : X C (.ops all (⟨some d, .call ⟨.builtin .append, #[s, x], #[t, t]⟩, ty, pos, af, g⟩ :: l) :: k) E ι L G := by
 refine S_appO hT κ (news := [.int .i64 p]) (m := 1) ht he hz hzs J hg hN hs hx (by rw [denO, hj]) hL (L' := L') (fun A' c' => ?_) (src_blk j hB hcs hj J J) (by intro u hu; simp at hu; rcases hu with rfl; rfl) (by rw [hzb]; omega) (by simp only [maxLen]; omega) hbase fun A' c' => ?_
 ·rw [intC_snoc, ← hL' A' c']; simp
 ·have := hk A' c'; rwa [List.length_append] at this
end
end
section
attribute [local irreducible] X Pure Mod
section
variable {C : Ctx} {ι : Ids} {E : Env} {L : List Ent} {G : PH} {d : Option Nat} {ty : Nat} {pos : String} {af : Array Edge} {g : Option (Nat × Bool)}
end
end
section
def pairHP (A B : HP) : HP where
 holds w S := ∃ S1 S2, A.holds w S1 ∧ B.holds w S2 ∧ (∀ b, S1 b → S2 b → False) ∧ ∀ b, S b ↔ S1 b ∨ S2 b
 loc w w' S h hs := by
  obtain ⟨S1, S2, h1, h2, h3, h4⟩ := h
  exact ⟨S1, S2, A.loc w w' S1 h1 (fun b hb => hs b ((h4 b).2 (.inl hb))), B.loc w w' S2 h2 (fun b hb => hs b ((h4 b).2 (.inr hb))), h3, h4⟩
 lt w S h b hb := by
  obtain ⟨S1, S2, h1, h2, h3, h4⟩ := h
  rcases (h4 b).1 hb with hb | hb
  ·exact A.lt w S1 h1 b hb
  ·exact B.lt w S2 h2 b hb
section
variable {C : Ctx} {k : List It} {E : Env} {ι : Ids} {L : List Ent} {G : PH} {all : Array Oper} {l : List Oper}
end
section
variable {P : Program} {fn : Func} {n : Nat} {G0 G : PH} {w0 : World} {S0 : Nat → Prop} {k : List It} {E : Env} {ι : Ids} {L L1 : List Ent} {v : Value}
theorem SatW.pair {C : Ctx} {w : World} (κ κ' κ1 : Nat) (h4 : SatW C ι L G w) {A B : HP} {L2 : List Ent} (hL : getH κ L = some A) (hd : delH κ L = some L1) (hL1 : getH κ' L1 = some B) (hd1 : delH κ' L1 = some L2) : SatW C ι (.hp κ1 (pairHP A B) :: L2) G w := by
 obtain ⟨Ss, ho, hS⟩ := h4.own
 obtain ⟨S1, Ss1, hA, hm, ho1, hT1⟩ := owns_del ho hL hd
 obtain ⟨S2, Ss2, hB, hm2, ho2, hT2⟩ := owns_del ho1 hL1 hd1
 refine ⟨h4.os, h4.tape, h4.output, h4.size, h4.keep, h4.emb, (fun b => S1 b ∨ S2 b) :: Ss2, ⟨⟨S1, S2, hA, hB, fun b h1 h2 => (hT1 S2 hm2).2 b h2 h1, fun b => Iff.rfl⟩, ?_, ho2⟩, ?_⟩
 ·rintro T hT b (hb | hb) hb'
  ·exact (hT1 T (hT2 T hT).1).2 b hb' hb
  ·exact (hT2 T hT).2 b hb' hb
 ·intro T hT b hb
  rcases List.mem_cons.1 hT with rfl | hT
  ·rcases hb with hb | hb
   ·exact hS S1 hm b hb
   ·exact hS S2 (hT1 S2 hm2).1 b hb
  ·exact hS T (hT1 T (hT2 T hT).1).1 b hb
theorem S_pair {C : Ctx} (κ κ' κ1 : Nat) {A B : HP} {L2 : List Ent} (hL : getH κ L = some A) (hd : delH κ L = some L1) (hL1 : getH κ' L1 = some B) (hd1 : delH κ' L1 = some L2) (hk : X C k E ι (.hp κ1 (pairHP A B) :: L2) G) : X C k E ι L G :=
 fun a w h1 h2 h3 h4 => hk a w h1 h2 h3 (h4.pair κ κ' κ1 hL hd hL1 hd1)
end
section
variable {C : Ctx} {k : List It} {E : Env} {ι : Ids} {L : List Ent} {G : PH} {all : Array Oper} {l : List Oper}
theorem S_app1z {T : Tab} (hT : tabOk C.P T) (κ j : Nat) {base d t e sz' sz : Nat} {os os' : List Nat} {tk : TK} {zi : ZI} {s x : Operand} {ty ty' : Nat} {pos : String} {af : Array Edge} {g : Option (Nat × Bool)} {A : Option Addr} {n c b : Nat} {xs ns : List Value} {cs : List Cel} {L' : Option Addr → Nat → List Ent}
  (ht : lookT t T = some ⟨.slc e, sz', os'⟩) (he : lookT e T = some ⟨tk, sz, os⟩) (hz : lookZ e T.zs = some zi) (hzs : zi.zs.length = sz) (hzb : Nat.ble zi.b 1000 = true) (hsz : Nat.ble 1 sz = true)
  (hg : guardOf all E g = .on) (hN : Nat.ble (d + 1) C.n = true) (hs : ev E s = some (.val (.slice A n c))) (hx : ev E x = some (.slc j 0 1 1)) (hj : lookI j ι = some b) (hB : lookB j L = some (ty', cs)) (hcs : denL ι cs = some ns) (hns : ns.length = sz) (hone : ∀ u ∈ ns, u.oneCell' = true)
  (hL : getH κ L = some (rowO base e sz A n c xs)) (hL' : ∀ A' c', setH κ (rowO base e sz A' (n + 1) c' (xs ++ ns)) L = some (L' A' c')) (hlen : n ≤ 1000000000) (hbase : base ≤ C.w0.heap.size)
  (hk : ∀ A' c', (A' = A ∨ ∃ g, A' = some ⟨g, 0, none⟩) → X C (.ops all l :: k) ((d, .val (.slice A' (n + 1) c')) :: E) ι (L' A' c') G) : X C (.ops all (⟨some d, .call ⟨.builtin .append, #[s, x], #[t, t]⟩, ty, pos, af, g⟩ :: l) :: k) E ι L G := by
 have hzb' := Nat.le_of_ble_eq_true hzb
 have hby : (n + 1) * zi.b ≤ 140737488355328 := Nat.le_trans (Nat.mul_le_mul (by omega : n + 1 ≤ 1000000001) hzb') (by decide)
 refine S_appOz hT κ (news := ns) (m := 1) ht he hz hzs hsz hg hN hs hx (by rw [denO, hj]) hL (L' := L') hL' (src_blk j hB hcs hj (by simp [← hns]) (by simp [hns])) hone hby (by simp only [maxLen]; omega) hbase fun A' c' h => ?_;exact hk A' c' h
theorem S_app1 {T : Tab} (hT : tabOk C.P T) (κ j : Nat) {base d t e sz' sz : Nat} {os os' : List Nat} {tk : TK} {zi : ZI} {s x : Operand} {ty ty' : Nat} {pos : String} {af : Array Edge} {g : Option (Nat × Bool)} {A : Option Addr} {n c b : Nat} {xs ns : List Value} {cs : List Cel} {L' : Option Addr → Nat → List Ent}
  (ht : lookT t T = some ⟨.slc e, sz', os'⟩) (he : lookT e T = some ⟨tk, sz, os⟩) (hz : lookZ e T.zs = some zi) (hzs : zi.zs.length = sz) (hzb : Nat.ble zi.b 1000 = true) (hsz : Nat.ble 1 sz = true)
  (hg : guardOf all E g = .on) (hN : Nat.ble (d + 1) C.n = true) (hs : ev E s = some (.val (.slice A n c))) (hx : ev E x = some (.slc j 0 1 1)) (hj : lookI j ι = some b) (hB : lookB j L = some (ty', cs)) (hcs : denL ι cs = some ns) (hns : ns.length = sz) (hone : ∀ u ∈ ns, u.oneCell' = true)
  (hL : getH κ L = some (rowO base e sz A n c xs)) (hL' : ∀ A' c', setH κ (rowO base e sz A' (n + 1) c' (xs ++ ns)) L = some (L' A' c')) (hlen : n ≤ 1000000000) (hbase : base ≤ C.w0.heap.size)
  (hk : ∀ A' c', X C (.ops all l :: k) ((d, .val (.slice A' (n + 1) c')) :: E) ι (L' A' c') G) : X C (.ops all (⟨some d, .call ⟨.builtin .append, #[s, x], #[t, t]⟩, ty, pos, af, g⟩ :: l) :: k) E ι L G :=
 S_app1z hT κ j ht he hz hzs hzb hsz hg hN hs hx hj hB hcs hns hone hL hL' hlen hbase fun A' c' _ => hk A' c'
end
section
variable {C : Ctx} {k : List It} {E : Env} {ι : Ids} {L : List Ent} {G : PH} {all : Array Oper} {l : List Oper}
theorem S_keepB (key : Nat) {b ty : Nat} {cs : List Cel} {vs : List Value} {L' : List Ent} (hj : lookI key ι = some b) (hB : lookB key L = some (ty, cs)) (hd : denL ι cs = some vs) (hL' : delB key L = some L') (hb0 : C.w0.heap.size ≤ b)
  (hk : PH.ext C.w0.heap.size G (G.add b (.cells vs.toArray ty (0, 0))) → X C k E ι L' (G.add b (.cells vs.toArray ty (0, 0)))) : X C k E ι L G := by
 refine S_lendB key hj hB hd hL' fun hG _ => hk ⟨le_add hG, fun x o hx hn => ?_⟩
 unfold PH.add at hx
 split at hx
 ·omega
 ·rw [hn] at hx; cases hx
end
end
section
section
variable {C : Ctx} {k : List It} {E : Env} {ι : Ids} {L : List Ent} {G : PH} {all : Array Oper} {l : List Oper}
theorem set_mid {l : List Value} {o : Nat} {v : Value} (h : o < l.length) : l.take o ++ [v] ++ l.drop (o + 1) = l.set o v := by
 rw [List.set_eq_take_append_cons_drop, if_pos h]; simp
theorem S_storeO {T : Tab} (hT : tabOk C.P T) (κ : Nat) {base e sz t : Nat} {i : TyI} {x y : Operand} {s : Sym} {gb off o n c ty : Nat} {v : Value} {xs : List Value} {L' : List Ent} {pos : String} {af : Array Edge} {g : Option (Nat × Bool)} {ad : Addr}
  (hL : getH κ L = some (rowO base e sz (some ⟨gb, off, none⟩) n c xs)) (hL' : setH κ (rowO base e sz (some ⟨gb, off, none⟩) n c (xs.set o v)) L = some L')
  (hx : ev E x = some (.val (.pointer (some ad)))) (had : ad = ⟨gb, off + o, none⟩) (hy : ev E y = some s) (hys : denO ι s = some v) (hone : v.oneCell' = true) (ht : lookT t T = some i) (hsz : i.size = 1) (ho : o < xs.length) (hg : guardOf all E g = .on)
  (hk : X C (.ops all l :: k) E ι L' G) : X C (.ops all (⟨none, .store t x y, ty, pos, af, g⟩ :: l) :: k) E ι L G := by
 intro a w h1 h2 h3 h4
 obtain ⟨S, hA, hSG, hturn⟩ := h4.turn hL
 obtain ⟨q1, q2, q3, q4⟩ := hA
 rcases q4 with ⟨q, _⟩ | ⟨g', off', cur, q, q0, q5, q6, q7, q8⟩
 ·cases q
 cases q
 have ex := ev_sound h3 hx
 have ey := ev_sound h3 hy
 subst had
 rw [hys] at ey
 simp only [denO, Option.some.injEq] at ex ey
 have hfit : off + o + [v].length ≤ cur.toList.length := by
  have h6 : xs.length ≤ cur.toList.length - off := by
   have := congrArg List.length q7
   simp only [List.length_take, List.length_drop] at this
   omega
  simp only [List.length_singleton]
  omega
 obtain ⟨w', hr, hh', hoth, e1, e2, e3, e4⟩ := run_storeCells_blk (P := C.P) (w := w) (b := gb) (o := off + o) (ty := e) (cs := cur.toList) (vs := [v]) (by simpa using q5) hfit (by intro u hu; rw [List.mem_singleton.1 hu]; exact hone)
 have hrun : (execOp a.eval ⟨none, .store t x y, ty, pos, af, g⟩).run C.P w = .ok .skip w' := by
  have hcells : (a.eval y).cells = [v].toArray := by
   rw [← ey]; exact oneCell_of (P := C.P) hone
  simp only [execOp, ← ex]
  simp [Instr.storeAt, Instr.sureAddr, storeVar, tyOk_size (hT _ _ ht), hsz, hcells]
  rw [hr]
  try simp
 refine wpE_skipv (guardOf_on h3 hg) (by rintro c h; cases h) hrun ?_;refine hk _ _ h1 h2 h3 ?_;refine hturn _ _ G w' S hL' ?_ (fun b o' hb => ?_) XR (fun b hb => ⟨hSG b hb, .inl hb⟩) e1 e2 e3 (by rw [e4]; exact Nat.le_refl _) fun b _ hn => hoth b fun h => hn ((q8 b).2 h)
 ·refine ⟨by simpa using q1, q2, q3, .inr ⟨gb, off, _, J, q0, hh', ?_, ?_, q8⟩⟩
  ·simp at hfit ⊢; omega
  ·rw [List.length_singleton, set_mid (by simp at hfit ⊢; omega)]
   simp only [List.toList_toArray, List.length_set]
   rw [List.drop_set, if_neg (by omega), List.take_set, q7]
   congr 1
   omega
 ·rw [hoth b (by rintro rfl; have := hSG _ ((q8 _).2 rfl); rw [this] at hb; cases hb)]
  exact h4.emb b o' hb
end
end
section
def blkHP (b ty : Nat) (vs : List Value) : HP := packHP fun ι L => ι = [(900, b)] ∧ L = [.blk 900 ty (vL vs)]
theorem le_del {G G3 : PH} {b : Nat} {o : Obj} (h : (G.add b o).le G3) (hb : G b = none) : G.le (G3.del b) := by
 intro x o' hx
 unfold PH.del
 have hne : x ≠ b := by rintro rfl; rw [hb] at hx; cases hx
 rw [if_neg hne]
 refine h x o' ?_
 unfold PH.add
 rw [if_neg hne]; exact hx
theorem gcells_own {G : PH} {b ty : Nat} {vs : List Value} : gcells (G.add b (.cells vs.toArray ty (0, 0))) ⟨b, 0, none⟩ vs := by
 refine gcells_row (cur := vs.toArray) (e := ty) (fr := (0, 0)) (by simp [PH.add]) vs 0 ?_
 simp
theorem blkHP_holds {b ty : Nat} {vs : List Value} {w : World} {S : Nat → Prop} : (blkHP b ty vs).holds w S ↔ w.heap[b]? = some (.cells vs.toArray ty (0, 0)) ∧ ∀ x, S x ↔ x = b := by
 constructor
 ·rintro ⟨ι, L, Ss, ⟨rfl, rfl⟩, ho, hS⟩
  match Ss, ho with
  | [T], ⟨⟨c, us, h1, h2, h3, h4⟩, _⟩ =>
   simp only [lookI, if_true, Option.some.injEq] at h1
   subst h1
   rw [denL_vL] at h2; cases h2
   exact ⟨h3, fun x => by rw [hS x, ← h4 x]; simp⟩
 ·rintro ⟨h1, h2⟩
  exact ⟨_, _, [S], ⟨rfl, rfl⟩, ⟨⟨b, vs, by simp [lookI], denL_vL _ _, h1, h2⟩, by simp, trivial⟩, fun x => by simp⟩
theorem denL_spV {ι : Ids} (n : Nat) {cs l : List Cel} {sp us : List Value} (h : takeC n cs = some (l, vL sp)) (hd : denL ι l = some us) : denL ι cs = some (us ++ sp) := by
 rw [takeC_eq h, denL_app, hd, denL_vL]
theorem denL_put {ι : Ids} {o : Nat} {c : Cel} {v : Value} {cs cs' : List Cel} {us : List Value} (hp : putN o [c] cs = some cs') (hd : denL ι cs = some us) (hv : denC ι c = some v) : denL ι cs' = some (us.set o v) := by
 obtain ⟨rfl, hle⟩ := putN_eq hp
 have hl := denL_length hd
 have h1 : denL ι (cs.take o ++ [c] ++ cs.drop (o + [c].length)) = some (us.take o ++ [v] ++ us.drop (o + 1)) := denL_append (denL_append (denL_take hd o) (by simp [denL, hv])) (denL_drop hd _)
 rw [h1]
 congr 1
 simp at hle
 rw [List.set_eq_take_append_cons_drop, if_pos (by omega)]
 simp
section
variable {C : Ctx} {k : List It} {E : Env} {ι : Ids} {L : List Ent} {G : PH} {all : Array Oper} {l : List Oper}
theorem S_callIns (key o : Nat) {d f b ty : Nat} {xs : Array Operand} {ats : Array TypeId} {ty' : Nat} {pos : String} {af : Array Edge} {g : Option (Nat × Bool)} {vs us : List Value} {cs : List Cel} {Qp : PH → Value → Prop} {L1 : List Ent} {cs' : Value → List Cel} (hcf : ∀ args w, (callFunc f args).run C.P w = .ok (.enter f args) w)
  (hB : lookB key L = some (ty, cs)) (hj : lookI key ι = some b) (hd : denL ι cs = some us) (hc : Mod C.P f vs G (blkHP b ty us) fun _ G' A' => ∃ tv', Qp G' tv' ∧ A' = blkHP b ty (us.set o tv')) (hdel : delB key L = some L1) (hput : ∀ tv', putN o [.v tv'] cs = some (cs' tv'))
  (hg : guardOf all E g = .on) (hN : Nat.ble (d + 1) C.n = true) (hxs : evs ι E xs.toList = some vs)
  (hk : ∀ v G' tv', Qp G' tv' → PH.ext C.w0.heap.size G G' → X C (.ops all l :: k) ((d, .val v) :: E) ι (.blk key ty (cs' tv') :: L1) G') : X C (.ops all (⟨some d, .call ⟨.value (.func f), xs, ats⟩, ty', pos, af, g⟩ :: l) :: k) E ι L G := by
 intro a w h1 h2 h3 h4
 obtain ⟨Ss, ho, hS⟩ := h4.own
 obtain ⟨S, Ss', b', hb', hh, hSb, hm, ho', hT⟩ := owns_delB hd ho hB hdel
 rw [hj] at hb'; cases hb'
 have h4' : SatW C ι (.hp 0 (blkHP b ty us) :: L1) G w := by
  refine ⟨h4.os, h4.tape, h4.output, h4.size, h4.keep, h4.emb, S :: Ss', ⟨blkHP_holds.2 ⟨hh, hSb⟩, fun T hT' x hx hx' => (hT T hT').2 x hx' hx, ho'⟩, ?_⟩
  intro T hT' x hx
  rcases List.mem_cons.1 hT' with rfl | hT'
  ·exact hS T hm x hx
  ·exact hS T (hT T hT').1 x hx
 refine S_callM (L' := fun A' => .hp 0 A' :: L1) 0 hcf hc hg hN hxs (by simp [getH]) (fun A' => by simp [setH]) ?_ a w h1 h2 h3 h4'
 rintro v G' A' ⟨tv', hq, rfl⟩ hext a w h1 h2 h3 h4
 refine hk v G' tv' hq hext a w h1 h2 h3 ?_;obtain ⟨Ss, ho, hS⟩ := h4.own
 match Ss, ho with
 | T :: Ss, ⟨hA, hd', ho'⟩ =>
  obtain ⟨q1, q2⟩ := blkHP_holds.1 hA
  exact ⟨h4.os, h4.tape, h4.output, h4.size, h4.keep, h4.emb, T :: Ss, ⟨⟨b, _, hj, denL_put (hput tv') hd J, q1, q2⟩, hd', ho'⟩, hS⟩
end
end
section
section
variable {C : Ctx} {ks : List Nat} {all : Array Oper} {k : List It} {E : Env} {ι : Ids} {L : List Ent} {G : PH} {R : List Nat} {pend : List Pd}
def rdyL (all : Array Oper) (R : List Nat) : List Nat → Option (List Nat)
 | [] => some []
 | i :: l => match nthOp i all.toList with
  | some o => match clearOf R o.after.toList with
   | true => match rdyL all R l with
    | some r => some (i :: r)
    | none => none
   | false => rdyL all R l
  | none => none
theorem rdyL_sound : ∀ {l r : List Nat}, rdyL all R l = some r → ∀ i ∈ l, ∀ o, all[i]? = some o → (∀ e ∈ edgesA o, e ∉ R) → i ∈ r := by
 intro l
 induction l with
 | nil => intro r _ i hi; cases hi
 | cons x l ih =>
  intro r h i hi o ho he
  simp only [rdyL] at h
  split at h
  ·rename_i o' ho'
   split at h
   ·split at h
    ·rename_i r' hr'
     cases h
     rcases List.mem_cons.1 hi with rfl | hi
     ·exact List.mem_cons_self ..
     ·exact List.mem_cons_of_mem _ (ih hr' i hi o ho he)
    ·cases h
   ·rename_i hc
    rcases List.mem_cons.1 hi with rfl | hi
    ·have ho'' : all[i]? = some o' := by simpa using nthOp_eq ho'
     rw [ho] at ho''; cases ho''
     obtain ⟨e, h1, h2, h3⟩ := clearOf_eq hc
     exact absurd h3 (he e.on (List.mem_map.2 ⟨e, List.mem_filter.2 ⟨h1, h2⟩, J⟩))
    ·exact ih h i hi o ho he
  ·cases h
def AllN (P : Nat → Prop) : List Nat → Prop
 | [] => True
 | j :: l => P j ∧ AllN P l
theorem AllN_mem {P : Nat → Prop} : ∀ {l : List Nat}, AllN P l → ∀ j ∈ l, P j
 | [], _, j, hj => by cases hj
 | x :: l, h, j, hj => by
  rcases List.mem_cons.1 hj with rfl | hj
  ·exact h.1
  ·exact AllN_mem h.2 j hj
theorem D_list {j0 : Nat} {js : List Nat} (hs : rdyL all R R = some (j0 :: js)) (h : AllN (Nx C ks all k R pend E ι L G) (j0 :: js)) : D C ks all k R pend E ι L G := by
 intro hok hp hdis
 refine DR_core hok hp hdis (fun h => by subst h; cases hs) ?_
 intro i hi o' ho' he
 exact AllN_mem h i (rdyL_sound hs i hi o' ho' he) hok hp hdis o' ho'
end
section
variable {C : Ctx} {k : List It} {E : Env} {ι : Ids} {L : List Ent} {G : PH} {all : Array Oper} {l : List Oper}
theorem S_Bhp (key κ : Nat) {b ty : Nat} {cs : List Cel} {vs : List Value} {L' : List Ent} (hj : lookI key ι = some b) (hB : lookB key L = some (ty, cs)) (hd : denL ι cs = some vs) (hL' : delB key L = some L') (hk : X C k E ι (.hp κ (blkHP b ty vs) :: L') G) : X C k E ι L G := by
 intro a w g1 g2 g3 g4
 obtain ⟨Ss, ho, hS⟩ := g4.own
 obtain ⟨S, Ss', b', hb', hh, hSb, hm, ho', hT⟩ := owns_delB hd ho hB hL'
 rw [hj] at hb'; cases hb'
 refine hk a w g1 g2 g3 ⟨g4.os, g4.tape, g4.output, g4.size, g4.keep, g4.emb, S :: Ss', ⟨blkHP_holds.2 ⟨hh, hSb⟩, fun T hT' x hx hx' => (hT T hT').2 x hx' hx, ho'⟩, ?_⟩
 intro T hT' x hx
 rcases List.mem_cons.1 hT' with rfl | hT'
 ·exact hS T hm x hx
 ·exact hS T (hT T hT').1 x hx
theorem S_hpB (κ key : Nat) {b ty : Nat} {vs : List Value} {L' : List Ent} (hL : getH κ L = some (blkHP b ty vs)) (hL' : delH κ L = some L') (hf : lookI key ι = none) (hk : X C k E ((key, b) :: ι) (.blk key ty (vL vs) :: L') G) : X C k E ι L G := by
 intro a w g1 g2 g3 g4
 obtain ⟨Ss, ho, hS⟩ := g4.own
 obtain ⟨S, Ss', hA, hm, ho', hT⟩ := owns_del ho hL hL'
 obtain ⟨hh, hSb⟩ := blkHP_holds.1 hA
 refine hk a w g1 g2 (g3.ids hf) ⟨g4.os, g4.tape, g4.output, g4.size, g4.keep, g4.emb, S :: Ss', ⟨⟨b, vs, by simp [lookI], denL_vL _ _, hh, hSb⟩, fun T hT' x hx hx' => (hT T hT').2 x hx' hx, owns_ids ho' hf⟩, ?_⟩
 intro T hT' x hx
 rcases List.mem_cons.1 hT' with rfl | hT'
 ·exact hS T hm x hx
 ·exact hS T (hT T hT').1 x hx
theorem S_unpair (κ κ1 κ2 : Nat) {A B : HP} {L' : List Ent} (hL : getH κ L = some (pairHP A B)) (hL' : delH κ L = some L') (hk : X C k E ι (.hp κ1 A :: .hp κ2 B :: L') G) : X C k E ι L G := by
 intro a w g1 g2 g3 g4
 obtain ⟨Ss, ho, hS⟩ := g4.own
 obtain ⟨S, Ss', ⟨S1, S2, hA, hB, hd, hSS⟩, hm, ho', hT⟩ := owns_del ho hL hL'
 refine hk a w g1 g2 g3 ⟨g4.os, g4.tape, g4.output, g4.size, g4.keep, g4.emb, S1 :: S2 :: Ss', ⟨hA, ?_, hB, ?_, ho'⟩, ?_⟩
 ·intro T hT' x hx hx'
  rcases List.mem_cons.1 hT' with rfl | hT'
  ·exact hd x hx hx'
  ·exact (hT T hT').2 x hx' ((hSS x).2 (.inl hx))
 ·intro T hT' x hx hx'
  exact (hT T hT').2 x hx' ((hSS x).2 (.inr hx))
 ·intro T hT' x hx
  rcases List.mem_cons.1 hT' with rfl | hT'
  ·exact hS S hm x ((hSS x).2 (.inl hx))
  rcases List.mem_cons.1 hT' with rfl | hT'
  ·exact hS S hm x ((hSS x).2 (.inr hx))
  ·exact hS T (hT T hT').1 x hx
theorem S_pick (kk : List Nat) {L1 L2 : List Ent} (hL : pickE kk L = some (L1, L2)) (hk : X C k E ι L1 G) : X C k E ι L G := by
 intro a w h1 h2 h3 h4
 obtain ⟨Ss, ho, hS⟩ := h4.own
 obtain ⟨Sx, Sr, g1, g2, g3, g4⟩ := pickE_sound hL ho
 exact hk a w h1 h2 h3 ⟨h4.os, h4.tape, h4.output, h4.size, h4.keep, h4.emb, Sx, g1, fun T hT => hS T ((g4 T).1 (.inl hT))⟩
theorem S_newHP (κ : Nat) {B : Nat} {A : HP} {L' : List Ent} (hL : getH κ L = some (newHP B A)) (hL' : setH κ A L = some L') (hk : X C k E ι L' G) : X C k E ι L G := by
 intro a w h1 h2 h3 h4
 refine hk a w h1 h2 h3 ?_;obtain ⟨S, ⟨hA, hB⟩, hSG, hturn⟩ := h4.turn hL
 exact hturn _ _ G w S hL' hA h4.emb XR (fun b hb => ⟨hSG b hb, .inl hb⟩) J J J (Nat.le_refl _) fun _ _ _ => J
end
section
variable {C : Ctx} {k : List It} {E : Env} {ι : Ids} {L : List Ent} {G : PH}
theorem S_cut {α : Type} {c : Code} (inv : α → Prop) (ι2 : α → Ids) (E2 : α → Env) (L2 : α → List Ent) (G2 : α → PH) (h1 : X C (.code c :: .stop (fun a w => ∃ y, inv y ∧ St C (E2 y) (ι2 y) (L2 y) (G2 y) a w) :: k) E ι L G)
  (h2 : ∀ y, inv y → X C k (E2 y) (ι2 y) (L2 y) (G2 y)) : X C (.code c :: k) E ι L G := by
 intro a w q1 q2 q3 q4
 refine wpIn_mono (h1 a w q1 q2 q3 q4) ?_
 intro e a' w' q
 cases e with
 | normal =>
  obtain ⟨y, hy, g1, g2, g3, g4⟩ := q
  exact h2 y hy a' w' g1 g2 g3 g4
 | _ => exact q
theorem S_meet {α : Type} {inv : α → Prop} {ι2 : α → Ids} {E2 : α → Env} {L2 : α → List Ent} {G2 : α → PH} (y : α) (hy : inv y) (hG : G = G2 y) (hE : subE ι E (ι2 y) (E2 y)) (hL : subL ι (ι2 y) L (L2 y)) : X C (.stop (fun a w => ∃ y, inv y ∧ St C (E2 y) (ι2 y) (L2 y) (G2 y) a w) :: k) E ι L G :=
 S_stop fun a w h => ⟨y, hy, by subst hG; exact h.sub hE hL⟩
end
def starHP : List HP → HP
 | [] => emptyHP
 | A :: r => pairHP A (starHP r)
section
variable {C : Ctx} {ι : Ids} {E : Env} {L : List Ent} {G : PH} {d : Option Nat} {ty : Nat} {pos : String} {af : Array Edge} {g : Option (Nat × Bool)}
end
end
section
attribute [local irreducible] X Pure Mod
def numOk (n : Int) : Bool := decide (-999 ≤ n) && decide (n ≤ 999)
theorem c_NumOk (n : Int) (G : PH) : Pure Tryz.prog 83 [.int .i64 n] G fun v G' => v = .bool (numOk n) ∧ G' = G := by
 refine Pure.intro Tryz.func83 Tryz.ntmps83 J J fun w => ?_;refine Va J J ?_;exact S_retP Tryz.results83 J J XR ⟨J, J⟩
def leafOk (k a b n room : Int) : Bool :=
 let reg := decide (0 ≤ a) && decide (a < 3)
 let two := decide (0 ≤ b) && decide (b < 3)
 if k = 1 then reg && decide (b = 0) && numOk n
 else if k = 2 then reg && two && decide (1 ≤ n) && decide (n ≤ 5)
 else if k = 3 then reg && decide (0 ≤ b) && decide (b < 3) && decide (n = 0)
 else if k = 4 then decide (0 ≤ a) && decide (a < 3) && two && decide (n = 0)
 else if k = 5 then reg && decide (b = 0) && decide (n = 0)
 else if k = 9 then decide (0 ≤ room) && decide (0 ≤ a) && decide (a < 2) && decide (b = 0) && decide (n = 0)
 else if k = 10 then decide (0 ≤ a) && decide (a < 2) && decide (b = 0) && decide (n = 0)
 else if k = 11 then decide (a = 0) && decide (b = 0) && decide (n = 0)
 else false
theorem c_l2Leaf (k a b n room : Int) (vx vy : Value) (G : PH) : Pure Tryz.prog 82 [.agg #[.int .i64 k, .int .i64 a, .int .i64 b, .int .i64 n, vx, vy], .int .i64 room] G fun v G' => v = .bool (leafOk k a b n room) ∧ G' = G := by
 refine Pure.intro Tryz.func82 Tryz.ntmps82 J J fun w => ?_;refine Va J J ?_
 repeat' (first
  | (refine S_condp J (fun h => ?_) (fun h => ?_) <;> refine Va J J ?_)
  | (refine S_box J J J J J fun b => ?_; refine Va J J ?_)
  | (refine S_guard J J (fun h => ?_) (fun h => ?_) <;> refine Va J J ?_)
  | (refine S_call Tryz.call83 (c_NumOk _ _) J J J ?_; rintro v G' ⟨rfl, rfl⟩ _; refine Va J J ?_)
  | (refine S_retP Tryz.results82 J J XR ⟨?_, J⟩))
 all_goals simp_all [leafOk]
end
section
attribute [local irreducible] X Pure Mod
theorem Stm.row_at {G : PH} {L : List Stm} {ad : Addr} (h : Stm.row G L ad) {k : Nat} (hk : k < L.length) : ∃ cs, gcells G (ad.add (k * 6)) cs ∧ Stm.rep G L[k] cs := by
 induction L generalizing ad k with
 | nil => simp at hk
 | cons s r ih =>
  obtain ⟨h1, h2⟩ := (show (∃ cs, gcells G ad cs ∧ Stm.rep G s cs) ∧ Stm.row G r (ad.add 6) from by simpa [Stm.row] using h)
  cases k with
  | zero => simpa [add_zero'] using h1
  | succ k =>
   obtain ⟨cs, h3, h4⟩ := ih h2 (k := k) (by simpa using hk)
   rw [add_add'] at h3
   exact ⟨cs, by rw [show (k + 1) * 6 = 6 + k * 6 by omega]; exact h3, by simpa using h4⟩
mutual
def stmtOk : Stm → Int → Int → Bool
 | .mk k a b n x y, deep, room =>
  if (decide (k ≠ 6) && decide (0 < y.length)) || decide (deep < 1) then false
  else if k = 6 ∨ k = 7 then decide (0 ≤ a) && decide (a < 3) && decide (b = 0) && decide (n = 0) && listOk x (deep - 1) room && listOk y (deep - 1) room
  else if k = 8 then decide (room < 0) && decide (0 ≤ a) && decide (a < 2) && decide (b = 0) && decide (n = 0) && listOk x (deep - 1) a
  else decide (x.length = 0) && leafOk k a b n room
def listOk : List Stm → Int → Int → Bool
 | [], _, _ => true
 | s :: r, deep, room => stmtOk s deep room && listOk r deep room
end
theorem listOk_all (L : List Stm) (d r : Int) : listOk L d r = L.all (stmtOk · d r) := by
 induction L with
 | nil => simp [listOk]
 | cons s L ih => simp [listOk, ih]
theorem listOk_false {L : List Stm} {d r : Int} {k : Nat} (hk : k < L.length) (h : stmtOk L[k] d r = false) : listOk L d r = false := by
 rw [listOk_all, List.all_eq_false]
 exact ⟨L[k], List.getElem_mem hk, by simp [h]⟩
theorem listOk_true {L : List Stm} {d r : Int} (h : ∀ k (hk : k < L.length), stmtOk L[k] d r = true) : listOk L d r = true := by
 rw [listOk_all, List.all_eq_true]
 intro s hs
 obtain ⟨k, hk, rfl⟩ := List.getElem_of_mem hs
 exact h k hk
theorem c_l2List_of (L : List Stm) (deep room : Int) (v : Value) (G : PH) (hL : Sl G (Stm.row G L) L.length v) (h1 : ∀ k (hk : k < L.length) cs, Stm.rep G L[k] cs → Pure Tryz.prog 75 [.agg cs.toArray, .int .i64 deep, .int .i64 room] G fun v G' => v = .bool (stmtOk L[k] deep room) ∧ G' = G) :
  Pure Tryz.prog 66 [v, .int .i64 deep, .int .i64 room] G fun v G' => v = .bool (listOk L deep room) ∧ G' = G := by
 obtain ⟨A, c, rfl, hn, hc1, hc2, hr⟩ := hL
 refine Pure.intro Tryz.func66 Tryz.ntmps66 J J fun w => ?_;refine Va J J ?_;refine S_loop (α := Nat) (fun k => k ≤ L.length ∧ ∀ j (hj : j < L.length), j < k → stmtOk L[j] deep room = true) (fun k => L.length - k) []
  (fun k => [(7, .val (.int .i64 k)), (0, .val (.slice A L.length c)), (1, .val (.int .i64 deep)), (2, .val (.int .i64 room))]) (fun _ => []) (fun _ => G) 0 ⟨Nat.zero_le _, fun j _ h => by omega⟩ rfl ⟨⟨_, rfl, rfl⟩, ⟨_, rfl, rfl⟩, ⟨_, rfl, rfl⟩, ⟨_, rfl, rfl⟩, trivial⟩ .nil ?_
 rintro k ⟨hk, hall⟩
 refine Va J J ?_
 refine S_condp J (fun h => ?_) (fun h => ?_) <;> refine Va J J ?_
 ·have hkl : k < L.length := by omega
  obtain ⟨ad, rfl, hrow⟩ : ∃ ad, A = some ad ∧ Stm.row G L ad := by
   rcases hr with h0 | h0
   ·omega
   ·exact h0
  obtain ⟨cs, hcs, hrep⟩ := Stm.row_at hrow hkl
  have hlen : cs.length = 6 := by
   cases hs : L[k]; rw [hs] at hrep; obtain ⟨vx, vy, e, _⟩ := (by simpa [Stm.rep] using hrep); simp [e]
  refine S_index Tk J J J J J J (by omega) (by omega) ?_;refine Va J J ?_;refine S_loadA Tk J J J J hlen hcs ?_;refine Va J J ?_;refine S_call Tryz.call75 (h1 k hkl cs hrep) J J J ?_;rintro v G' ⟨rfl, rfl⟩ _
  refine Va J J ?_
  refine S_cond J (fun h => ?_) (fun h => ?_) <;> refine Va J J ?_
  ·refine S_retP Tryz.results66 J J XR ⟨?_, J⟩
   rw [listOk_false hkl (by simpa using h)]
  ·refine S_add J J J J (by omega) ?_
   refine Va J J ?_;refine S_again (k + 1) ⟨by omega, fun j hj hjk => ?_⟩ (by omega) J ⟨⟨_, J, J⟩, ⟨_, J, J⟩, ⟨_, J, J⟩, ⟨_, J, J⟩, trivial⟩ .nil
   rcases Nat.lt_or_ge j k with h' | h'
   ·exact hall j hj h'
   ·obtain rfl : j = k := by omega
    simpa using h
 ·refine S_retP Tryz.results66 J J XR ⟨?_, J⟩
  rw [listOk_true fun j hj => hall j hj (by omega)]
end
section
attribute [local irreducible] X Pure Mod
def L2ok (L : List Stm) : Prop := ∀ (deep room : Int) (v : Value) (G : PH), I64 deep → Sts G L v → Pure Tryz.prog 66 [v, .int .i64 deep, .int .i64 room] G fun v G' => v = .bool (listOk L deep room) ∧ G' = G
theorem c_l2Stmt_of (s : Stm) (hx : L2ok s.body) (hy : L2ok s.els) (deep room : Int) (hd : I64 deep) (cs : List Value) (G : PH) (hs : Stm.rep G s cs) :
  Pure Tryz.prog 75 [.agg cs.toArray, .int .i64 deep, .int .i64 room] G fun v G' => v = .bool (stmtOk s deep room) ∧ G' = G := by
 obtain ⟨k, a, b, n, x, y⟩ := s
 obtain ⟨vx, vy, rfl, hk, ha, hb, hn, h1, h2⟩ := Stm.rep_iff.1 hs
 have gx := hx
 have gy := hy
 simp only [Stm.body, Stm.els] at gx gy
 obtain ⟨Ax, cx, rfl, _⟩ := id h1
 obtain ⟨Ay, cy, rfl, _⟩ := id h2
 unfold I64 at hd ha
 refine Pure.intro Tryz.func75 Tryz.ntmps75 J J fun w => ?_; refine Va J J ?_
 repeat' (first
  | (refine S_condp J (fun h => ?_) (fun h => ?_) <;> refine Va J J ?_) | (refine S_cond J (fun h => ?_) (fun h => ?_) <;> refine Va J J ?_) | (refine S_box J J J J J fun b => ?_; refine Va J J ?_) | (refine AZ ZT_ok J J J J fun b => ?_; refine Va J J ?_) | (refine S_guardp J J (fun h => ?_) (fun h => ?_) <;> refine Va J J ?_) | (refine S_guard J J (fun h => ?_) (fun h => ?_) <;> refine Va J J ?_)
  | (refine S_subI J J J J (by simp_all; omega) ?_; refine Va J J ?_)
  | (refine S_call Tryz.call66 (gx _ _ _ _ (by unfold I64; simp_all; omega) h1) rfl rfl rfl ?_; rintro v G' ⟨rfl, rfl⟩ _; refine Va J J ?_)
  | (refine S_call Tryz.call66 (gy _ _ _ _ (by unfold I64; simp_all; omega) h2) rfl rfl rfl ?_; rintro v G' ⟨rfl, rfl⟩ _; refine Va J J ?_)
  | (refine S_call Tryz.call82 (c_l2Leaf _ _ _ _ _ _ _ _) J J J ?_; rintro v G' ⟨rfl, rfl⟩ _; refine Va J J ?_)
  | (refine S_retP Tryz.results75 J J XR ⟨?_, J⟩))
 all_goals (try simp_all [stmtOk, Stm.body, Stm.els])
 all_goals (try omega)
end
section
attribute [local irreducible] X Pure Mod
theorem L2ok_of (L : List Stm) (h : ∀ k (hk : k < L.length), L2ok L[k].body ∧ L2ok L[k].els) : L2ok L := by
 intro deep room v G hd hv
 refine c_l2List_of L deep room v G (Sts_Sl.1 hv) fun k hk cs hs => ?_;exact c_l2Stmt_of L[k] (h k hk).1 (h k hk).2 deep room hd cs G hs
mutual
theorem L2ok_stm : ∀ (s : Stm), L2ok s.body ∧ L2ok s.els
 | .mk k a b n x y => ⟨L2ok_all x, L2ok_all y⟩
theorem L2ok_at : ∀ (L : List Stm) (k : Nat) (hk : k < L.length), L2ok L[k].body ∧ L2ok L[k].els
 | [], k, hk => absurd hk (by simp)
 | s :: L, 0, _ => L2ok_stm s
 | s :: L, k + 1, hk => L2ok_at L k (by simpa using hk)
theorem L2ok_all : ∀ (L : List Stm), L2ok L
 | L => L2ok_of L (L2ok_at L)
end
mutual
def manyS : Stm → Int → Int
 | .mk _ _ _ _ x y, d => 1 + many x (d - 1) + many y (d - 1)
def many : List Stm → Int → Int
 | [], _ => 0
 | s :: r, d => (if 0 < d then manyS s d else 0) + many r d
end
theorem many_append (L M : List Stm) (d : Int) : many (L ++ M) d = many L d + many M d := by
 induction L with
 | nil => simp [many]
 | cons s L ih => simp only [List.cons_append, many, ih]; omega
theorem many_zero (L : List Stm) {d : Int} (h : ¬ 0 < d) : many L d = 0 := by
 induction L with
 | nil => simp [many]
 | cons s L ih => simp only [many, ih, if_neg h]; omega
theorem manyS_eq (s : Stm) (d : Int) : manyS s d = 1 + many s.body (d - 1) + many s.els (d - 1) := by cases s; simp [manyS, Stm.body, Stm.els]
def L2many (L : List Stm) : Prop := ∀ (deep : Int) (v : Value) (G : PH), I64 deep → Sts G L v → Pure Tryz.prog 67 [v, .int .i64 deep] G fun v G' => v = .int .i64 (w64 (many L deep)) ∧ G' = G
theorem L2many_of (L : List Stm) (h : ∀ k (hk : k < L.length), L2many L[k].body ∧ L2many L[k].els) : L2many L := by
 intro deep v G hd hv
 obtain ⟨A, c, rfl, hn, hc1, hc2, hr⟩ := id hv
 unfold I64 at hd
 refine Pure.intro Tryz.func67 Tryz.ntmps67 J J fun w => ?_; refine Va J J ?_;refine S_loop (α := Nat) (fun k => k ≤ L.length) (fun k => L.length - k) []
  (fun k => [(6, .val (.int .i64 k)), (5, .val (.int .i64 (w64 (many (L.take k) deep)))), (0, .val (.slice A L.length c)), (1, .val (.int .i64 deep))]) (fun _ => []) (fun _ => G) 0 (Nat.zero_le _) rfl
  ⟨⟨_, rfl, rfl⟩, ⟨_, rfl, rfl⟩, ⟨_, rfl, rfl⟩, ⟨_, rfl, rfl⟩, trivial⟩ .nil ?_
 intro k hk
 refine Va J J ?_
 refine S_cond J (fun h0 => ?_) (fun h0 => ?_) <;> refine Va J J ?_
 ·obtain ⟨h1, h2⟩ : k < L.length ∧ 0 < deep := by simpa using h0
  have hkl : k < L.length := by omega
  obtain ⟨ad, cs, rfl, hcs1, hrep⟩ := Sr_at hv hkl
  obtain ⟨hbk, hek⟩ := h k hkl
  have hmk := manyS_eq L[k] deep
  rcases hs : L[k] with ⟨q1, q2, q3, q4, x, y⟩
  rw [hs] at hrep hbk hek hmk
  obtain ⟨vx, vy, rfl, i1, i2, i3, i4, hx, hy⟩ := Stm.rep_iff.1 hrep
  obtain ⟨Ax, cx, rfl, _⟩ := id hx
  obtain ⟨Ay, cy, rfl, _⟩ := id hy
  have hdx : I64 (deep - 1) := by unfold I64; omega
  refine D_startK [5] (by exact MO) J J J (by kernel_rfl) ?_;refine Da J J ?_;refine D_val 1 J J J J J J J J J (V_addW J J) ?_;refine D_val 4 J J J J J J J J J (V_index Tk J J J J (by omega) (by omega)) ?_;refine D_val 13 J J J J J J J J J (V_index Tk J J J J (by omega) (by omega)) ?_;refine D_val 8 J J J J J J J J J (V_sub J J (by omega)) ?_;refine D_val 17 J J J J J J J J J (V_sub J J (by omega)) ?_
  refine Da J J ?_;refine D_val 6 J J J J J J J J J (V_load Tk J J J (by simpa using gcells_at hcs1 4 _ J)) ?_;refine D_val 15 J J J J J J J J J (V_load Tk J J J (by simpa using gcells_at hcs1 5 _ J)) ?_;refine D_sole 9 J J (N_call 9 Tryz.call67 (hbk _ _ _ hdx hx) J J J J J J J J J J ?_)
  rintro v1 G1 ⟨rfl, rfl⟩ _
  refine D_val 10 J J J J J J J J J (V_addW J J) ?_;refine D_sole 18 J J (N_call 18 Tryz.call67 (hek _ _ _ hdx hy) J J J J J J J J J J ?_)
  rintro v1 G1 ⟨rfl, rfl⟩ _
  refine D_val 19 J J J J J J J J J (V_addW J J) ?_;refine D_sole 20 J J (N_assign Tk 20 J J J J J J J J J (by kernel_rfl) ?_)
  refine DD ?_;refine Va J J ?_;refine S_add J J J J (by omega) ?_;refine Va J J ?_;refine S_again (k + 1) (by omega) (by omega) J ⟨⟨_, J, J⟩, ⟨_, J, ?_⟩, ⟨_, J, J⟩, ⟨_, J, J⟩, trivial⟩ .nil
  simp only [denO]
  congr 2
  rw [List.take_succ_eq_append_getElem hkl, many_append, hs]
  simp only [many, if_pos h2, hmk, Stm.body, Stm.els, w64_l, w64_r]
  simp only [w64_l, w64_r, Int.add_assoc]
  simp only [Int.add_zero]
 ·refine S_retP Tryz.results67 J J XR ⟨?_, J⟩
  congr 2
  by_cases hd0 : 0 < deep
  ·have hk' : k = L.length := by
    rcases Nat.lt_or_ge k L.length with h1 | h1
    ·simp [hd0, h1] at h0
    ·omega
   rw [hk', List.take_length]
  ·rw [many_zero _ hd0, many_zero _ hd0]
mutual
theorem L2many_stm : ∀ (s : Stm), L2many s.body ∧ L2many s.els
 | .mk k a b n x y => ⟨L2many_all x, L2many_all y⟩
theorem L2many_at : ∀ (L : List Stm) (k : Nat) (hk : k < L.length), L2many L[k].body ∧ L2many L[k].els
 | [], k, hk => absurd hk (by simp)
 | s :: L, 0, _ => L2many_stm s
 | s :: L, k + 1, hk => L2many_at L k (by simpa using hk)
theorem L2many_all : ∀ (L : List Stm), L2many L
 | L => L2many_of L (L2many_at L)
end
def stmtsOk (L : List Stm) : Bool := listOk L 3 (-1) && decide (w64 (many L 3) ≤ 14)
theorem c_StmtsOk (L : List Stm) (v : Value) (G : PH) (hv : Sts G L v) : Pure Tryz.prog 43 [v] G fun v G' => v = .bool (stmtsOk L) ∧ G' = G := by
 obtain ⟨A, c, rfl, _⟩ := id hv
 have i3 : I64 3 := by unfold I64; omega
 refine Pure.intro Tryz.func43 Tryz.ntmps43 J J fun w => ?_; refine Va J J ?_;refine S_call Tryz.call66 (L2ok_all L _ _ _ _ i3 hv) J J J ?_;rintro v1 G1 ⟨rfl, rfl⟩ _
 refine Va J J ?_
 refine S_guard J J (fun h => ?_) (fun h => ?_) <;> refine Va J J ?_
 ·refine S_call Tryz.call67 (L2many_all L _ _ _ i3 hv) J J J ?_
  rintro v1 G1 ⟨rfl, rfl⟩ _
  refine Va J J ?_;refine S_retP Tryz.results43 J J XR ⟨?_, J⟩
  simp [stmtsOk, h]
 ·refine S_retP Tryz.results43 J J XR ⟨?_, J⟩
  simp [stmtsOk, h]
def progOk (p : List (List Stm)) : Bool := p.all stmtsOk && decide (1 ≤ p.length) && decide (p.length ≤ 3)
theorem c_ProgOk (p : List (List Stm)) (v : Value) (G : PH) (hv : Prg G p v) : Pure Tryz.prog 17 [v] G fun v G' => v = .bool (progOk p) ∧ G' = G := by
 obtain ⟨A, c, rfl, hn, hc1, hc2, hr⟩ := id hv
 refine Pure.intro Tryz.func17 Tryz.ntmps17 J J fun w => ?_; refine Va J J ?_;refine S_loop (α := Nat) (fun k => k ≤ p.length ∧ ∀ j (hj : j < p.length), j < k → stmtsOk p[j] = true) (fun k => p.length - k) []
  (fun k => [(3, .val (.int .i64 k)), (0, .val (.slice A p.length c))]) (fun _ => []) (fun _ => G) 0 ⟨Nat.zero_le _, fun j _ h => by omega⟩ rfl ⟨⟨_, rfl, rfl⟩, ⟨_, rfl, rfl⟩, trivial⟩ .nil ?_
 rintro k ⟨hk, hall⟩
 refine Va J J ?_
 refine S_condp J (fun h => ?_) (fun h => ?_) <;> refine Va J J ?_
 ·have hkl : k < p.length := by omega
  obtain ⟨ad, cs, rfl, hcs, v1, rfl, hv1⟩ := Sr_at hv hkl
  obtain ⟨A1, c1, rfl, _⟩ := id hv1
  refine S_index Tk J J J J J J (by omega) (by omega) ?_;refine Va J J ?_;refine S_load Tk J J J J J (by simpa using hcs.1) ?_;refine Va J J ?_;refine S_call Tryz.call43 (c_StmtsOk _ _ _ hv1) J J J ?_;rintro v1 G1 ⟨rfl, rfl⟩ _
  refine Va J J ?_
  refine S_cond J (fun h => ?_) (fun h => ?_) <;> refine Va J J ?_
  ·refine S_retP Tryz.results17 J J XR ⟨?_, J⟩
   have : p.all stmtsOk = false := by
    rw [List.all_eq_false]
    exact ⟨_, List.getElem_mem hkl, by simpa using h⟩
   simp [progOk, this]
  ·refine S_add J J J J (by omega) ?_
   refine Va J J ?_;refine S_again (k + 1) ⟨by omega, fun j hj hjk => ?_⟩ (by omega) J ⟨⟨_, J, J⟩, ⟨_, J, J⟩, trivial⟩ .nil
   rcases Nat.lt_or_ge j k with h' | h'
   ·exact hall j hj h'
   ·obtain rfl : j = k := by omega
    simpa using h
 ·have hall' : p.all stmtsOk = true := by
   rw [List.all_eq_true]
   intro s hs
   obtain ⟨j, hj, rfl⟩ := List.getElem_of_mem hs
   exact hall j hj (by omega)
  refine S_retP Tryz.results17 J J XR ⟨?_, J⟩
  simp only [progOk, hall', Bool.true_and]
  congr 2
  ·exact decide_eq_decide.2 (by omega)
  ·exact decide_eq_decide.2 (by omega)
end
section
attribute [local irreducible] X Pure Mod
theorem c_iNumOk (n : Int) (G : PH) : Pure Tryz.prog 95 [.int .i64 n] G fun v G' => v = .bool (numOk n) ∧ G' = G := by
 refine Pure.intro Tryz.func95 Tryz.ntmps95 J J fun w => ?_; refine Va J J ?_;exact S_retP Tryz.results95 J J XR ⟨J, J⟩
def opOk (n : Int) : Bool := decide (1 ≤ n) && decide (n ≤ 5)
theorem c_isOp (n : Int) (G : PH) : Pure Tryz.prog 96 [.int .i64 n] G fun v G' => v = .bool (opOk n) ∧ G' = G := by
 refine Pure.intro Tryz.func96 Tryz.ntmps96 J J fun w => ?_; refine Va J J ?_;exact S_retP Tryz.results96 J J XR ⟨J, J⟩
def fitsB (n l : Int) : Bool := decide (n = 0) || (decide (0 < n) && decide (n < l))
theorem c_fits (n l : Int) (G : PH) : Pure Tryz.prog 93 [.int .i64 n, .int .i64 l] G fun v G' => v = .bool (fitsB n l) ∧ G' = G := by
 refine Pure.intro Tryz.func93 Tryz.ntmps93 J J fun w => ?_; refine Va J J ?_
 repeat' (first
  | (refine S_condp J (fun h => ?_) (fun h => ?_) <;> refine Va J J ?_) | (refine S_cond J (fun h => ?_) (fun h => ?_) <;> refine Va J J ?_) | (refine S_box J J J J J fun b => ?_; refine Va J J ?_) | (refine AZ ZT_ok J J J J fun b => ?_; refine Va J J ?_) | (refine S_guardp J J (fun h => ?_) (fun h => ?_) <;> refine Va J J ?_) | (refine S_guard J J (fun h => ?_) (fun h => ?_) <;> refine Va J J ?_)
  | (refine S_retP Tryz.results93 J J XR ⟨?_, J⟩))
 all_goals (try simp_all [fitsB])
 all_goals (try omega)
def numberOkB (k n : Int) : Bool := if k = 1 then numOk n else if k = 2 then opOk n else decide (n = 0)
theorem c_numberOk (k a b n : Int) (vx vy : Value) (G : PH) : Pure Tryz.prog 94 [.agg #[.int .i64 k, .int .i64 a, .int .i64 b, .int .i64 n, vx, vy]] G fun v G' => v = .bool (numberOkB k n) ∧ G' = G := by
 refine Pure.intro Tryz.func94 Tryz.ntmps94 J J fun w => ?_; refine Va J J ?_
 repeat' (first
  | (refine S_condp J (fun h => ?_) (fun h => ?_) <;> refine Va J J ?_) | (refine S_cond J (fun h => ?_) (fun h => ?_) <;> refine Va J J ?_) | (refine S_box J J J J J fun b => ?_; refine Va J J ?_) | (refine AZ ZT_ok J J J J fun b => ?_; refine Va J J ?_) | (refine S_guardp J J (fun h => ?_) (fun h => ?_) <;> refine Va J J ?_) | (refine S_guard J J (fun h => ?_) (fun h => ?_) <;> refine Va J J ?_)
  | (refine S_call Tryz.call95 (c_iNumOk _ _) J J J ?_; rintro v G' ⟨rfl, rfl⟩ _; refine Va J J ?_)
  | (refine S_call Tryz.call96 (c_isOp _ _) J J J ?_; rintro v G' ⟨rfl, rfl⟩ _; refine Va J J ?_)
  | (refine S_retP Tryz.results94 J J XR ⟨?_, J⟩))
 all_goals simp_all [numberOkB]
theorem u_forms : Tryz.prog.underlying 141 = some (.map 3 139) := by kernel_rfl
theorem u_int : Tryz.prog.underlying 3 = some (.int .i64) := by kernel_rfl
def formV (s : ByteArray) (a b : Int) (body els : Bool) : Value := .agg #[.string s, .int .i64 a, .int .i64 b, .bool body, .bool els]
def isForm (x a b : Int) (body els : Bool) (o : Option Value) : Prop := ∃ s, o = some (formV s a b body els)
def formsP (f : Int → Option Value) : Prop :=
 isForm 1 3 0 false false (f 1) ∧ isForm 2 3 3 false false (f 2) ∧ isForm 3 3 3 false false (f 3) ∧ isForm 4 3 3 false false (f 4) ∧ isForm 5 3 0 false false (f 5) ∧ isForm 6 3 0 true true (f 6) ∧ isForm 7 3 0 true false (f 7) ∧ isForm 8 2 0 true false (f 8) ∧
 isForm 9 2 0 false false (f 9) ∧ isForm 10 2 0 false false (f 10) ∧ isForm 11 0 0 false false (f 11) ∧ ∀ x, ¬ (1 ≤ x ∧ x ≤ 11) → f x = none
theorem findI_none {x : Int} : ∀ {es : List MapEntry}, (∀ e ∈ es, ∃ y, e.key = .int .i64 y ∧ x ≠ y) → findI x es = none := by
 intro es
 induction es with
 | nil => intro _; rfl
 | cons e es ih =>
  intro h
  obtain ⟨y, hy, hne⟩ := h e (List.mem_cons_self ..)
  obtain ⟨key, val, born⟩ := e
  simp only at hy
  subst hy
  simp only [findI, if_neg hne]
  exact ih fun e he => h e (List.mem_cons_of_mem _ he)
theorem c_forms (G : PH) : Pure Tryz.prog 92 [] G fun v G' => ∃ b es clock, v = .map (some b) ∧ G' b = some (.map es clock) ∧ (∀ e ∈ es.toList, ∃ y, e.key = .int .i64 y) ∧ formsP (fun x => findI x es.toList) := by
 refine Pure.intro Tryz.func92 Tryz.ntmps92 J J fun w => ?_; refine Va J J ?_;refine S_makeMap 1 J J fun b => ?_;refine Va J J ?_
 iterate 11
  refine S_insert 1 u_forms u_int J J J J J J J ?_;refine Va J J ?_
 refine S_freezeO 1 J J (fun _ h => h) fun hext => ?_;refine S_retP Tryz.results92 J J hext ⟨b, _, _, J, PH.add_self _ _ _, ?_, ?_⟩
 ·intro e he
  simp at he
  rcases he with rfl | rfl | rfl | rfl | rfl | rfl | rfl | rfl | rfl | rfl | rfl <;> exact ⟨_, J⟩
 ·refine ⟨⟨_, J⟩, ⟨_, J⟩, ⟨_, J⟩, ⟨_, J⟩, ⟨_, J⟩, ⟨_, J⟩, ⟨_, J⟩, ⟨_, J⟩, ⟨_, J⟩, ⟨_, J⟩, ⟨_, J⟩, ?_⟩
  intro x hx
  refine findI_none fun e he => ?_
  simp at he
  rcases he with rfl | rfl | rfl | rfl | rfl | rfl | rfl | rfl | rfl | rfl | rfl <;> exact ⟨_, J, by omega⟩
end
section
attribute [local irreducible] X Pure Mod
mutual
/-- no list within is long -/
def Stm.short : Stm → Prop
 | .mk _ _ _ _ x y => (x.length ≤ 1048576 ∧ shL x) ∧ y.length ≤ 1048576 ∧ shL y
def shL : List Stm → Prop
 | [] => True
 | s :: r => Stm.short s ∧ shL r
end
def Sh (l : List Stm) : Prop := l.length ≤ 1048576 ∧ shL l
theorem Stm.short_mk {k a b n : Int} {x y : List Stm} : Stm.short (.mk k a b n x y) ↔ Sh x ∧ Sh y := by simp [Stm.short, Sh]
theorem frz {α : Type} {G G' : PH} {sz : Nat} {rep : α → List Value → Prop} {L : List α} {A : Option Addr} {n c : Nat} {xs : List Value} (hcs : Cs sz rep L xs) (hn : n = L.length) (hb : n ≤ 1000000000) (hnc : n ≤ c) (hcm : c ≤ maxLen) (hcl : n = 0 ∨ ∃ a, A = some a ∧ gcells (newp G G') a xs) : Sr G' sz rep L (.slice A n c) := by
 subst hn
 refine Sx_Sr ⟨A, c, J, hb, hnc, hcm, Cs_length hcs, ?_⟩ J hcs
 rcases hcl with hcl | ⟨a, h1, h2⟩
 ·exact .inl hcl
 ·exact .inr ⟨a, h1, gcells_le (newp_le _ _) h2⟩
theorem sts_cells {G : PH} {l : List Stm} {v : Value} (h : Sts G l v) : ∃ A c xs, v = .slice A l.length c ∧ xs.length = l.length * 6 ∧ (l.length = 0 ∨ ∃ a, A = some a ∧ gcells G a xs) ∧ Cs 6 (Stm.rep G) l xs := by
 obtain ⟨xs, hx, hc⟩ := Sr_Sx (fun s cs h => Stm.rep_len h) h
 obtain ⟨A, c, rfl, _, _, _, hl, hr⟩ := hx
 exact ⟨A, c, xs, J, hl, hr, hc⟩
theorem six {cs : List Value} (h : cs.length = 6) : ∃ c0 c1 c2 c3 c4 c5, cs = [c0, c1, c2, c3, c4, c5] := by
 match cs, h with
 | [a0, a1, a2, a3, a4, a5], _ => exact ⟨a0, a1, a2, a3, a4, a5, rfl⟩
def PrgS (G : PH) (p : List (List Stm)) (v : Value) : Prop := Prg G p v ∧ (∀ l ∈ p, Sh l) ∧ p.length ≤ 1048576
theorem Cs_intC {l : List Int} (h : ∀ x ∈ l, I64 x) : Cs 1 intRep l (intC l) := by
 induction l with
 | nil => rfl
 | cons n l ih => exact ⟨[.int .i64 n], intC l, rfl, rfl, ⟨rfl, h n (List.mem_cons_self ..)⟩, ih fun x hx => h x (List.mem_cons_of_mem _ hx)⟩
theorem gcells_of {G : PH} {a : Addr} : ∀ {cs : List Value}, (∀ j v, cs[j]? = some v → gcell G (a.add j) = some v) → gcells G a cs := by
 intro cs
 induction cs generalizing a with
 | nil => intro _; trivial
 | cons v cs ih =>
  intro h
  refine ⟨by have := h 0 v J; rwa [add_zero'] at this, ih fun j u hj => ?_⟩
  rw [add_add', Nat.add_comm 1 j]
  exact h (j + 1) u (by simpa using hj)
end
section
attribute [local irreducible] X Pure Mod
mutual
/-- a copy, so deep at most -/
def cpS : Stm → Nat → Stm
 | .mk k a b n x y, d => .mk k a b n (cpL x d) (cpL y d)
def cpL : List Stm → Nat → List Stm
 | _, 0 => []
 | [], _ + 1 => []
 | s :: r, d + 1 => cpS s d :: cpL r (d + 1)
end
theorem cpL_succ (L : List Stm) (d : Nat) : cpL L (d + 1) = L.map (cpS · d) := by
 induction L with
 | nil => rfl
 | cons s r ih => simp [cpL, ih]
def Cp (L : List Stm) : Prop := ∀ (d : Nat) (v : Value) (G : PH), Sts G L v → d ≤ 1000 → Pure Tryz.prog 48 [v, .int .i64 (d : Nat)] G fun v' G' => Sts G' (cpL L d) v'
theorem c_l2Copy (L : List Stm) (hb : ∀ k (hk : k < L.length), Cp L[k].body ∧ Cp L[k].els) : Cp L := by
 intro d v G hst hd3
 obtain ⟨A, c, rfl, hl1, _⟩ := id hst
 refine Pure.intro Tryz.func48 Tryz.ntmps48 J J fun w => ?_; refine Va J J ?_;refine S_emptyO Tk 5 J J J J fun A0 => ?_;refine Va J J ?_;refine S_loop (α := Nat × Option Addr × Nat × List Value × PH) (fun y => y.1 ≤ L.length ∧ (0 < y.1 → 0 < d) ∧ PH.ext w.heap.size G y.2.2.2.2 ∧ Cs 6 (Stm.rep y.2.2.2.2) ((L.take y.1).map (cpS · (d - 1))) y.2.2.2.1) (fun y => L.length - y.1) []
  (fun y => [(6, .val (.int .i64 (y.1 : Nat))), (5, .val (.slice y.2.1 y.1 y.2.2.1)), (0, .val (.slice A L.length c)), (1, .val (.int .i64 (d : Nat)))])
  (fun y => [.hp 5 (rowO w.heap.size 76 6 y.2.1 y.1 y.2.2.1 y.2.2.2.1)]) (fun y => y.2.2.2.2) (0, A0, 0, [], G) ⟨Nat.zero_le _, fun h => absurd h (by simp), PH.ext.refl _ _, rfl⟩ rfl ?_ ?_ ?_
 ·exact ⟨⟨_, J, J⟩, ⟨_, J, J⟩, ⟨_, J, J⟩, ⟨_, J, J⟩, trivial⟩
 ·exact .hp .nil
 rintro ⟨i, A5, c5, xs5, G2⟩ ⟨hi, hid, hext, hcs5⟩
 simp only at hi hid hext hcs5 ⊢
 refine Va J J ?_
 refine S_cond J (fun h => ?_) (fun h => ?_) <;> refine Va J J ?_
 ·simp only [Bool.and_eq_true, decide_eq_true_eq] at h
  have hkl : i < L.length := by omega
  obtain ⟨e, rfl⟩ : ∃ e, d = e + 1 := ⟨d - 1, by omega⟩
  obtain ⟨ad, cs, rfl, hcs, hrep⟩ := Sr_at (Sts_le hext.le hst) hkl
  obtain ⟨hbx, hby⟩ := hb i hkl
  generalize hs : L[i] = s at hrep hbx hby
  obtain ⟨q1, q2, q3, q4, q5, q6⟩ := s
  obtain ⟨vx, vy, rfl, i1, i2, i3, i4, hx, hy⟩ := Stm.rep_iff.1 hrep
  simp only [Stm.body, Stm.els] at hbx hby
  obtain ⟨Ax, cx, rfl, hx1, _⟩ := id hx
  obtain ⟨Ay, cy, rfl, hy1, _⟩ := id hy
  refine S_index Tk J J J J J J (by omega) (by omega) ?_;refine Va J J ?_;refine S_loadA Tk J J J J J (by simpa using hcs) ?_;refine Va J J ?_;refine AZ ZT_ok J J J J fun b7 => ?_;refine Va J J ?_;refine S_subI J J J J (by omega) ?_;refine Va J J ?_
  rw [show (((e + 1 : Nat) : Int) - 1) = ((e : Nat) : Int) by omega]
  refine S_call Tryz.call48 (hbx e _ _ hx (by omega)) J J J ?_;rintro v3 G3 hv3 hext3
  obtain ⟨A31, c31, rfl, _⟩ := id hv3
  refine Va J J ?_;refine S_subI J J J J (by omega) ?_;refine Va J J ?_
  rw [show (((e + 1 : Nat) : Int) - 1) = ((e : Nat) : Int) by omega]
  refine S_call Tryz.call48 (hby e _ _ (Sts_le hext3.le hy) (by omega)) J J J ?_;rintro v4 G4 hv4 hext4
  obtain ⟨A41, c41, rfl, _⟩ := id hv4
  refine Va J J ?_;refine S_slice Tk ZT_ok J J J J (by decide) (by decide) J J J J fun b2 => ?_;refine Va J J ?_
  refine S_app1 Tk 5 37 J J J J J J J J J J J J J J (by intro u hu; simp at hu; rcases hu with rfl | rfl | rfl | rfl | rfl | rfl <;> rfl) rfl (fun _ _ => rfl) (by omega) (Nat.le_refl _) fun A6 c6 => ?_
  refine Va J J ?_;refine S_add J J J J (by omega) ?_;refine Va J J ?_;refine S_again (i + 1, A6, c6, _, G4) ⟨by simp only; omega, fun _ => by omega, (hext.trans hext3).trans hext4, ?_⟩ (by simp only; omega) rfl ⟨⟨_, rfl, by simp [denO]⟩, ⟨_, rfl, by simp [denO]⟩, ⟨_, rfl, rfl⟩, ⟨_, rfl, rfl⟩, trivial⟩ (by first | exact .drop (.hp .nil) | exact .drop (.drop (.hp .nil)))
  simp only
  rw [List.take_succ_eq_append_getElem hkl, List.map_append, hs]
  exact Cs_append (Cs_mono (Stm.reps_le (hext3.trans hext4).le _) hcs5) (Stm.rep_iff.2 ⟨_, _, J, i1, i2, i3, i4, Sts_le hext4.le hv3, hv4⟩) J
 ·refine S_freezeR 5 J J (Nat.le_refl _) fun Gf hextf hncf hcmf hclf => ?_
  have hvf : Sts Gf _ _ := frz (Cs_mono (Stm.reps_le hextf.le _) hcs5) (by simp; omega) (by omega) hncf hcmf hclf
  refine S_retp (Res.t1 Tryz.results48 J J) (hext.trans hextf) ?_
  have h' : ¬ (i < L.length ∧ 0 < d) := by simpa using h
  rcases Nat.eq_zero_or_pos d with rfl | hd
  ·have : i = 0 := by
    rcases Nat.eq_zero_or_pos i with h | h
    ·exact h
    ·have := hid h; omega
   subst this
   simpa [cpL] using hvf
  ·obtain ⟨e, rfl⟩ : ∃ e, d = e + 1 := ⟨d - 1, by omega⟩
   have : i = L.length := by omega
   subst this
   rw [List.take_length] at hvf
   rw [cpL_succ]
   exact hvf
mutual
theorem Cp_stm : ∀ (s : Stm), Cp s.body ∧ Cp s.els
 | .mk k a b n x y => ⟨Cp_all x, Cp_all y⟩
theorem Cp_at : ∀ (L : List Stm) (k : Nat) (hk : k < L.length), Cp L[k].body ∧ Cp L[k].els
 | [], k, hk => absurd hk (by simp)
 | s :: L, 0, _ => Cp_stm s
 | s :: L, k + 1, hk => Cp_at L k (by simpa using hk)
theorem Cp_all : ∀ (L : List Stm), Cp L
 | L => c_l2Copy L fun k hk => Cp_at L k hk
end
end
section
def intU (n : Int) (cs : List Value) : Prop := cs = [.int .i64 n]
abbrev IntsU (G : PH) (l : List Int) (v : Value) : Prop := Sr G 1 intU l v
theorem IntsU_le {G G' : PH} (hl : G.le G') {l : List Int} {v : Value} (h : IntsU G l v) : IntsU G' l v := Sr_mono hl (fun _ _ _ h => h) h
def sayU (x : Int × Int) (cs : List Value) : Prop := cs = [.int .i64 x.1, .int .i64 x.2]
abbrev SaysU (G : PH) (l : List (Int × Int)) (v : Value) : Prop := Sr G 2 sayU l v
def intsRep (G : PH) (l : List Int) (cs : List Value) : Prop := ∃ v, cs = [v] ∧ IntsU G l v
def prcRep (G : PH) (p : Prc) (cs : List Value) : Prop := ∃ vr vt, cs = [vr, vt, .int .i64 p.mode, .int .i64 p.on, .int .i64 p.room] ∧ IntsU G [p.r0, p.r1, p.r2] vr ∧ Sts G p.todo vt
theorem intsRep_le {G G' : PH} (hl : G.le G') {l : List Int} {cs : List Value} (h : intsRep G l cs) : intsRep G' l cs := let ⟨v, h1, h2⟩ := h; ⟨v, h1, IntsU_le hl h2⟩
theorem prcRep_le {G G' : PH} (hl : G.le G') {p : Prc} {cs : List Value} (h : prcRep G p cs) : prcRep G' p cs := let ⟨v, u, h1, h2, h3⟩ := h; ⟨v, u, h1, IntsU_le hl h2, Sts_le hl h3⟩
structure WGr (G : PH) (W : Wld) (vp vc vr vs vd : Value) : Prop where
 pr : Sr G 5 (prcRep G) W.procs vp
 ce : IntsU G [W.c0, W.c1, W.c2] vc
 ro : IntsU G [W.m0, W.m1] vr
 sg : Sr G 1 (intsRep G) [W.q0, W.q1] vs
 sd : SaysU G W.said vd
def WG (G : PH) (W : Wld) (v : Value) : Prop := ∃ vp vc vr vs vd, v = .agg #[vp, vc, vr, vs, vd] ∧ WGr G W vp vc vr vs vd
section
variable {C : Ctx} {k : List It} {E : Env} {ι : Ids} {L : List Ent} {G : PH}
theorem SatW.frz {a : Act} {w : World} (h : SatW C ι L G w) {κ : Nat} {A : HP} {L' : List Ent} (hL : getH κ L = some A) (hL' : delH κ L = some L') (hS0 : ∀ b, ¬ C.S0 b) :
  ∃ S G', A.holds w S ∧ (∀ b, S b → G' b = w.heap[b]?) ∧ PH.ext C.w0.heap.size G G' ∧ SatW C ι L' G' w := by
 obtain ⟨Ss, ho, hS⟩ := h.own
 obtain ⟨S, Ss', hA, hm, ho', hT⟩ := owns_del ho hL hL'
 have hlt := A.lt w S hA
 classical
 refine ⟨S, fun b => if S b then w.heap[b]? else G b, hA, fun b hb => by simp [hb], ⟨fun b o hb => ?_, fun b o hb hn => ?_⟩, ⟨h.os, h.tape, h.output, h.size, h.keep, fun b o hb => ?_, Ss', ho', fun T hT' b hb => ⟨?_, (hS T (hT T hT').1 b hb).2⟩⟩⟩
 ·have : ¬ S b := fun hs => by rw [(hS S hm b hs).1] at hb; cases hb
  simp [this, hb]
 ·by_cases hs : S b
  ·rcases (hS S hm b hs).2 with h1 | h1
   ·exact absurd h1 (hS0 b)
   ·exact h1
  ·simp only [hs, if_false] at hb
   rw [hn] at hb; cases hb
 ·by_cases hs : S b
  ·simpa [hs] using hb
  ·simp only [hs, if_false] at hb
   exact h.emb b o hb
 ·have : ¬ S b := fun hs => (hT T hT').2 b hb hs
  simp [this, (hS T (hT T hT').1 b hb).1]
end
theorem blk_frz {ι : Ids} {w : World} {key ty : Nat} {cs : List Cel} {T S : Nat → Prop} {G' : PH} (h : Ent.holds ι w (.blk key ty cs) T) (hT : ∀ x, T x → S x) (hG : ∀ b, S b → G' b = w.heap[b]?) : ∃ b vs, lookI key ι = some b ∧ denL ι cs = some vs ∧ gcells G' ⟨b, 0, none⟩ vs := by
 obtain ⟨b, vs, h1, h2, h3, h4⟩ := h
 refine ⟨b, vs, h1, h2, ?_⟩
 have hb : G' b = some (.cells vs.toArray ty (0, 0)) := by rw [hG b (hT b ((h4 b).2 rfl)), h3]
 refine gcells_row (cur := vs.toArray) (e := ty) (fr := (0, 0)) hb vs 0 ?_
 simp
theorem row_frz {w : World} {base e sz n c : Nat} {A : Option Addr} {xs : List Value} {T S : Nat → Prop} {G' : PH} (h : (rowO base e sz A n c xs).holds w T) (hT : ∀ x, T x → S x) (hG : ∀ b, S b → G' b = w.heap[b]?) : n ≤ c ∧ c ≤ maxLen ∧ xs.length = n * sz ∧ (n = 0 ∨ ∃ a, A = some a ∧ gcells G' a xs) := by
 obtain ⟨h1, h2, h3, h4⟩ := h
 refine ⟨h3, h2, h1, ?_⟩
 rcases h4 with ⟨_, h4, _⟩ | ⟨g, off, cur, rfl, _, h5, _, h6, h7⟩
 ·exact .inl (by omega)
 ·exact .inr ⟨_, J, gcells_row (cur := cur) (e := e) (fr := (0, 0)) (by rw [hG g (hT g ((h7 g).2 J)), h5]) xs off h6⟩
theorem gcells_pre {G : PH} {ad : Addr} {xs ys : List Value} (h : gcells G ad (xs ++ ys)) : gcells G ad xs := (gcells_append h).1
theorem Cs_intU (l : List Int) : Cs 1 intU l (intC l) := by
 induction l with
 | nil => rfl
 | cons n l ih => exact ⟨[.int .i64 n], intC l, rfl, rfl, rfl, ih⟩
theorem Cs_sayU (l : List (Int × Int)) : Cs 2 sayU l (saidC l) := by
 induction l with
 | nil => rfl
 | cons x l ih => exact ⟨[.int .i64 x.1, .int .i64 x.2], saidC l, rfl, rfl, rfl, ih⟩
theorem intsU_blk {G : PH} {b n c : Nat} {l : List Int} {sp : List Value} (h : gcells G ⟨b, 0, none⟩ (intC l ++ sp)) (hn : n = l.length) (hb : n ≤ 1000000000) (hnc : n ≤ c) (hcm : c ≤ maxLen) : IntsU G l (.slice (some ⟨b, 0, none⟩) n c) :=
 Sx_Sr ⟨some ⟨b, 0, none⟩, c, rfl, hb, hnc, hcm, by rw [intC_length, hn]; omega, .inr ⟨_, rfl, gcells_pre h⟩⟩ hn (Cs_intU l)
theorem denL_intC {ι : Ids} {l : List Int} {sp vs : List Value} {cs : List Cel} (h : denL ι cs = some vs) (hc : cs = l.map vi ++ vL sp) : vs = intC l ++ sp := by
 subst hc
 induction l generalizing vs with
 | nil => simp [denL_vL] at h; simpa [intC] using h.symm
 | cons n l ih =>
  obtain ⟨v, r, rfl, h1, h2⟩ := denL_cons h
  simp only [vi, denC, Option.some.injEq] at h1
  subst h1
  rw [ih h2]; rfl
theorem frz_procs {ι : Ids} {w : World} {S : Nat → Prop} {G' : PH} {kg : Nat → Nat} {spg : Nat → List Value} {sp : List Value} (hG : ∀ b, S b → G' b = w.heap[b]?) (hk : ∀ i, 3 ≤ kg i ∧ kg i ≤ maxLen) : ∀ {ps : List Prc} {ts : List Value} {i : Nat} {vs : List Value} {Ss : List (Nat → Prop)} {ad : Addr},
  owns ι w (regEs spg i ps) Ss → (∀ T ∈ Ss, ∀ x, T x → S x) → denL ι (procCs kg sp i ps ts) = some vs → Tds G' ps ts → gcells G' ad vs → Rw G' 5 (prcRep G') ps ad := by
 intro ps
 induction ps with
 | nil => intros; trivial
 | cons p ps ih =>
  intro ts i vs Ss ad ho hT hd ht hg
  cases ts with
  | nil => exact absurd ht id
  | cons t ts =>
   cases Ss with
   | nil => simp [regEs, owns] at ho
   | cons T Ss =>
    obtain ⟨h1, _, h3⟩ := ho
    obtain ⟨b, us, hb, hus, hgb⟩ := blk_frz h1 (hT T (List.mem_cons_self ..)) hG
    have hus' := denL_intC (l := [p.r0, p.r1, p.r2]) (sp := spg i) hus rfl
    simp only [procCs] at hd
    obtain ⟨v1, r1, rfl, e1, d1⟩ := denL_cons hd
    obtain ⟨v2, r2, rfl, e2, d2⟩ := denL_cons d1
    obtain ⟨v3, r3, rfl, e3, d3⟩ := denL_cons d2
    obtain ⟨v4, r4, rfl, e4, d4⟩ := denL_cons d3
    obtain ⟨v5, r5, rfl, e5, d5⟩ := denL_cons d4
    simp only [denC, hb, vi, Option.some.injEq] at e1 e2 e3 e4 e5
    subst e1 e2 e3 e4 e5 hus'
    have hg2 : gcells G' ad ([.slice (some ⟨b, 0, none⟩) 3 (kg i), t, .int .i64 p.mode, .int .i64 p.on, .int .i64 p.room] ++ r5) := hg
    obtain ⟨q1, q2⟩ := gcells_append hg2
    exact ⟨⟨_, q1, _, _, rfl, intsU_blk hgb rfl (by simp) (hk i).1 (hk i).2, ht.1⟩, ih h3 (fun T hT' => hT T (List.mem_cons_of_mem _ hT')) d5 ht.2 q2⟩
theorem worldV_frz {cs ts : List Value} {W : Wld} {w : World} {S : Nat → Prop} {G G' : PH} (h : (worldV cs W ts).holds w S) (hG : ∀ b, S b → G' b = w.heap[b]?) (hle : G.le G') (ht : Tds G W.procs ts) (hn : W.procs.length ≤ 3) (hl : W.said.length ≤ 1000000000 ∧ W.q0.length ≤ 1000000000 ∧ W.q1.length ≤ 1000000000) : WG G' W (.agg cs.toArray) := by
 obtain ⟨ι, L, Ss, ⟨bp, bc, br, bs, bg, m, x, hbg, hm, hx, rfl, rfl, hcs⟩, ho, hSS⟩ := h
 obtain ⟨⟨k1, k2⟩, ⟨k3, k4⟩, ⟨k5, k6⟩, ⟨k7, k8⟩, k9⟩ := hm
 rw [WX.ok_eq hx] at ho hcs
 have hTS : ∀ T ∈ Ss, ∀ x, T x → S x := fun T hT x hx => (hSS x).2 ⟨T, hT, hx⟩
 match Ss, ho, hTS with
 | T1 :: T2 :: T3 :: T4 :: T5 :: T6 :: T7 :: Tr, ⟨h1, _, h2, _, h3, _, h4, _, h5, _, h6, _, h7, _, h8⟩, hTS =>
  obtain ⟨b1, vs1, e1, d1, g1⟩ := blk_frz h1 (hTS T1 (by simp)) hG
  obtain ⟨b2, vs2, e2, d2, g2⟩ := blk_frz h2 (hTS T2 (by simp)) hG
  obtain ⟨b3, vs3, e3, d3, g3⟩ := blk_frz h3 (hTS T3 (by simp)) hG
  obtain ⟨b4, vs4, e4, d4, g4⟩ := blk_frz h4 (hTS T4 (by simp)) hG
  obtain ⟨n5, c5, l5, g5⟩ := row_frz h5 (hTS T5 (by simp)) hG
  obtain ⟨n6, c6, l6, g6⟩ := row_frz h6 (hTS T6 (by simp)) hG
  obtain ⟨n7, c7, l7, g7⟩ := row_frz h7 (hTS T7 (by simp)) hG
  simp only [wIds, lookI, if_true, Option.some.injEq] at e1 e2 e3 e4
  simp at e1 e2 e3 e4
  subst e1 e2 e3 e4
  have d2' := denL_intC (l := [W.c0, W.c1, W.c2]) (sp := m.spc) d2 rfl
  have d3' := denL_intC (l := [W.m0, W.m1]) (sp := m.spr) d3 rfl
  subst d2' d3'
  have hcs' : cs = [.slice (some ⟨bp, 0, none⟩) W.procs.length m.kp, .slice (some ⟨bc, 0, none⟩) 3 m.kc, .slice (some ⟨br, 0, none⟩) 2 m.kr, .slice (some ⟨bs, 0, none⟩) 2 m.ks, .slice m.asd W.said.length m.ksd] := by
   have : denL (wIds bp bc br bs bg) (wCels W m (WX.of W)) = some [.slice (some ⟨bp, 0, none⟩) W.procs.length m.kp, .slice (some ⟨bc, 0, none⟩) 3 m.kc, .slice (some ⟨br, 0, none⟩) 2 m.kr, .slice (some ⟨bs, 0, none⟩) 2 m.ks, .slice m.asd W.said.length m.ksd] := rfl
   rw [hcs] at this
   exact Option.some.inj this
  subst hcs'
  refine ⟨_, _, _, _, _, J, ?_, intsU_blk g2 J (by simp) k3 k4, intsU_blk g3 J (by simp) k5 k6, ?_, ?_⟩
  ·refine ⟨_, _, J, by omega, k1, k2, .inr ⟨_, J, ?_⟩⟩
   exact frz_procs hG k9 h8 (fun T hT => hTS T (by simp [hT])) d1 (Tds_le hle ht) g1
  ·obtain ⟨u1, r1, rfl, f1, d5⟩ := denL_cons d4
   obtain ⟨u2, r2, rfl, f2, d6⟩ := denL_cons d5
   simp only [denC, Option.some.injEq] at f1 f2
   subst f1 f2
   have a1 : IntsU G' W.q0 (.slice m.aq0 W.q0.length m.kq0) := Sx_Sr ⟨_, _, rfl, hl.2.1, n6, c6, l6, g6⟩ rfl (Cs_intU _)
   have a2 : IntsU G' W.q1 (.slice m.aq1 W.q1.length m.kq1) := Sx_Sr ⟨_, _, rfl, hl.2.2, n7, c7, l7, g7⟩ rfl (Cs_intU _)
   refine ⟨_, _, J, by simp, k7, k8, .inr ⟨_, J, ⟨[_], (show gcells G' _ [_] from ⟨g4.1, trivial⟩), _, J, a1⟩, ⟨[_], (show gcells G' _ [_] from ⟨g4.2.1, trivial⟩), _, J, a2⟩, trivial⟩⟩
  ·exact Sx_Sr ⟨_, _, J, hl.1, n5, c5, l5, g5⟩ J (Cs_sayU _)
section
variable {C : Ctx} {k : List It} {E : Env} {ι : Ids} {L : List Ent} {G : PH}
theorem S_frzV (κ : Nat) {cs ts : List Value} {W : Wld} {L' : List Ent} (hL : getH κ L = some (worldV cs W ts)) (hL' : delH κ L = some L') (hS0 : ∀ b, ¬ C.S0 b) (ht : Tds G W.procs ts) (hn : W.procs.length ≤ 3) (hl : W.said.length ≤ 1000000000 ∧ W.q0.length ≤ 1000000000 ∧ W.q1.length ≤ 1000000000)
  (hk : ∀ G', PH.ext C.w0.heap.size G G' → WG G' W (.agg cs.toArray) → X C k E ι L' G') : X C k E ι L G := by
 intro a w h1 h2 h3 h4
 obtain ⟨S, G', hA, hG, hext, hsat⟩ := h4.frz (a := a) hL hL' hS0
 exact hk G' hext (worldV_frz hA hG hext.le ht hn hl) a w (h1.mono hext.le) h2 h3 hsat
end
def celNo (k : Nat) : Cel → Prop
 | .v _ => True
 | .p j _ => j ≠ k
 | .s j _ _ _ => j ≠ k
def entNo (k : Nat) : Ent → Prop
 | .blk j _ cs => j ≠ k ∧ ∀ c ∈ cs, celNo k c
 | .hp _ _ => True
theorem denC_no {k b : Nat} {ι : Ids} {c : Cel} (h : celNo k c) : denC ((k, b) :: ι) c = denC ι c := by
 cases c with
 | v x => rfl
 | p j o => simp only [denC, lookI]; rw [if_neg h]
 | s j o n m => simp only [denC, lookI]; rw [if_neg h]
theorem denL_no {k b : Nat} {ι : Ids} : ∀ {cs : List Cel}, (∀ c ∈ cs, celNo k c) → denL ((k, b) :: ι) cs = denL ι cs
 | [], _ => rfl
 | c :: cs, h => by
  simp only [denL, denC_no (h c (List.mem_cons_self ..)), denL_no (fun c hc => h c (List.mem_cons_of_mem _ hc))]
theorem owns_no {k b : Nat} {ι : Ids} {w : World} : ∀ {L : List Ent} {Ss : List (Nat → Prop)}, (∀ e ∈ L, entNo k e) → (owns ((k, b) :: ι) w L Ss ↔ owns ι w L Ss)
 | [], [], _ => Iff.rfl
 | [], _ :: _, _ => Iff.rfl
 | _ :: _, [], _ => Iff.rfl
 | e :: L, S :: Ss, h => by
  have he : Ent.holds ((k, b) :: ι) w e S ↔ Ent.holds ι w e S := by
   have := h e (List.mem_cons_self ..)
   cases e with
   | blk j ty cs => simp only [Ent.holds, lookI, denL_no this.2, if_neg this.1]
   | hp j A => exact Iff.rfl
  simp only [owns, he, owns_no (fun e he => h e (List.mem_cons_of_mem _ he))]
theorem vL_no {k : Nat} {l : List Value} : ∀ c ∈ vL l, celNo k c := by
 induction l with
 | nil => intro c hc; cases hc
 | cons v l ih => intro c hc; rcases List.mem_cons.1 hc with rfl | hc; trivial; exact ih c hc
theorem procCs_no {kg : Nat → Nat} {sp : List Value} : ∀ {ps : List Prc} {ts : List Value} {i : Nat}, ∀ c ∈ procCs kg sp i ps ts, celNo 1007 c
 | [], ts, i, c, hc => vL_no c (by cases ts <;> exact hc)
 | p :: ps, [], i, c, hc => vL_no c hc
 | p :: ps, t :: ts, i, c, hc => by
  simp only [procCs, List.mem_cons] at hc
  rcases hc with rfl | rfl | rfl | rfl | rfl | hc
  ·show 1010 + i ≠ 1007; omega
  ·trivial
  ·trivial
  ·trivial
  ·trivial
  ·exact procCs_no c hc
theorem regEs_no {spg : Nat → List Value} : ∀ {ps : List Prc} {i : Nat}, ∀ e ∈ regEs spg i ps, entNo 1007 e
 | [], _, e, he => by cases he
 | p :: ps, i, e, he => by
  rcases List.mem_cons.1 he with rfl | he
  ·refine ⟨by show 1010 + i ≠ 1007; omega, ?_⟩
   intro c hc
   simp only [List.mem_cons] at hc
   rcases hc with rfl | rfl | rfl | hc
   ·trivial
   ·trivial
   ·trivial
   ·exact vL_no c hc
  ·exact regEs_no e he
theorem wEnts_no {W : Wld} {ts : List Value} {m : WM} {x : WX} : ∀ e ∈ wEnts W ts m x, entNo 1007 e := by
 intro e he
 simp only [wEnts, List.mem_cons] at he
 rcases he with rfl | rfl | rfl | rfl | rfl | rfl | rfl | he
 ·exact ⟨by decide, procCs_no⟩
 ·refine ⟨by decide, ?_⟩
  intro c hc
  simp only [List.mem_cons] at hc
  rcases hc with rfl | rfl | rfl | hc
  ·trivial
  ·trivial
  ·trivial
  ·exact vL_no c hc
 ·refine ⟨by decide, ?_⟩
  intro c hc
  simp only [List.mem_cons] at hc
  rcases hc with rfl | rfl | hc
  ·trivial
  ·trivial
  ·exact vL_no c hc
 ·refine ⟨by decide, ?_⟩
  intro c hc
  simp only [List.mem_cons] at hc
  rcases hc with rfl | rfl | hc
  ·trivial
  ·trivial
  ·exact vL_no c hc
 ·trivial
 ·trivial
 ·trivial
 ·exact regEs_no e he
theorem wCels_no {W : Wld} {m : WM} {x : WX} : ∀ c ∈ wCels W m x, celNo 1007 c := by
 intro c hc
 simp only [wCels, List.mem_cons, List.not_mem_nil, or_false] at hc
 rcases hc with rfl | rfl | rfl | rfl | rfl
 ·show 1000 ≠ 1007; decide
 ·show 1001 ≠ 1007; decide
 ·show 1002 ≠ 1007; decide
 ·show 1003 ≠ 1007; decide
 ·trivial
section
variable {C : Ctx} {k : List It} {E : Env} {ι : Ids} {L : List Ent} {G : PH}
theorem S_V2P (key κ κ' : Nat) {b : Nat} {cs ts : List Value} {cels : List Cel} {W : Wld} {L1 L2 : List Ent} (hj : lookI key ι = some b) (hB : lookB key L = some (29, cels)) (hd : denL ι cels = some cs) (hL1 : delB key L = some L1) (hL : getH κ L1 = some (worldV cs W ts)) (hL2 : delH κ L1 = some L2)
  (hk : X C k E ι (.hp κ' (worldP b W ts) :: L2) G) : X C k E ι L G := by
 intro a w g1 g2 g3 g4
 obtain ⟨Ss, ho, hS⟩ := g4.own
 obtain ⟨S, Ss', b', hb', hh, hSb, hm, ho', hT⟩ := owns_delB hd ho hB hL1
 rw [hj] at hb'; cases hb'
 obtain ⟨U, Ss2, ⟨ι0, L0, Ss0, ⟨bp, bc, br, bs, bg, m, x, hbg, hmk, hx, rfl, rfl, hcs⟩, hown, hU⟩, hm2, ho2, hT2⟩ := owns_del ho' hL hL2
 refine hk a w g1 g2 g3 ⟨g4.os, g4.tape, g4.output, g4.size, g4.keep, g4.emb, (fun x => S x ∨ U x) :: Ss2, ⟨⟨_, _, S :: Ss0, ⟨bp, bc, br, bs, bg, m, x, hbg, hmk, hx, J, J⟩, ⟨⟨b, cs, by simp [lookI], by rw [denL_no wCels_no]; exact hcs, hh, hSb⟩, fun T hT' y hy hy' => ?_, (owns_no wEnts_no).2 hown⟩, fun y => ?_⟩, ?_, ho2⟩, ?_⟩
 ·exact (hT U hm2).2 y ((hU y).2 ⟨T, hT', hy'⟩) hy
 ·constructor
  ·rintro (h | h)
   ·exact ⟨S, List.mem_cons_self .., h⟩
   ·obtain ⟨T, hT', hy⟩ := (hU y).1 h
    exact ⟨T, List.mem_cons_of_mem _ hT', hy⟩
  ·rintro ⟨T, hT', hy⟩
   rcases List.mem_cons.1 hT' with rfl | hT'
   ·exact .inl hy
   ·exact .inr ((hU y).2 ⟨T, hT', hy⟩)
 ·rintro T hT' y (hy | hy) hy'
  ·exact (hT T (hT2 T hT').1).2 y hy' hy
  ·exact (hT2 T hT').2 y hy' hy
 ·intro T hT' y hy
  rcases List.mem_cons.1 hT' with rfl | hT'
  ·rcases hy with hy | hy
   ·exact hS S hm y hy
   ·exact hS U (hT U hm2).1 y hy
  ·exact hS T (hT T (hT2 T hT').1).1 y hy
theorem S_P2V (κ key κ' : Nat) {b : Nat} {ts : List Value} {W : Wld} {L1 : List Ent} (hL : getH κ L = some (worldP b W ts)) (hL1 : delH κ L = some L1) (hf : lookI key ι = none)
  (hk : ∀ cs, X C k E ((key, b) :: ι) (.blk key 29 (vL cs) :: .hp κ' (worldV cs W ts) :: L1) G) : X C k E ι L G := by
 intro a w g1 g2 g3 g4
 obtain ⟨Ss, ho, hS⟩ := g4.own
 obtain ⟨S, Ss', ⟨ι0, L0, Ss0, ⟨bp, bc, br, bs, bg, m, x, hbg, hmk, hx, rfl, rfl⟩, hown, hU⟩, hm, ho', hT⟩ := owns_del ho hL hL1
 cases Ss0 with
 | nil => exact absurd hown id
 | cons B Bs =>
  obtain ⟨⟨b', cs, hb', hd, hh, hB⟩, hdis, hown⟩ := hown
  simp only [lookI, if_true, Option.some.injEq] at hb'
  subst hb'
  rw [denL_no wCels_no] at hd
  rw [owns_no wEnts_no] at hown
  refine hk cs a w g1 g2 (g3.ids hf) ⟨g4.os, g4.tape, g4.output, g4.size, g4.keep, g4.emb, B :: (fun x => ∃ T ∈ Bs, T x) :: Ss', ⟨⟨b, cs, by simp [lookI], denL_vL _ _, hh, hB⟩, ?_, ⟨_, _, Bs, ⟨bp, bc, br, bs, bg, m, x, hbg, hmk, hx, rfl, rfl, hd⟩, hown, fun y => Iff.rfl⟩, ?_, owns_ids ho' hf⟩, ?_⟩
  ·intro T hT' y hy hy'
   rcases List.mem_cons.1 hT' with rfl | hT'
   ·obtain ⟨T, hT2, hy2⟩ := hy'
    exact hdis T hT2 y hy hy2
   ·exact (hT T hT').2 y hy' ((hU y).2 ⟨B, List.mem_cons_self .., hy⟩)
  ·rintro T hT' y ⟨T2, hT2, hy2⟩ hy'
   exact (hT T hT').2 y hy' ((hU y).2 ⟨T2, List.mem_cons_of_mem _ hT2, hy2⟩)
  ·intro T hT' y hy
   rcases List.mem_cons.1 hT' with rfl | hT'
   ·exact hS S hm y ((hU y).2 ⟨_, List.mem_cons_self .., hy⟩)
   rcases List.mem_cons.1 hT' with rfl | hT'
   ·obtain ⟨T2, hT2, hy2⟩ := hy
    exact hS S hm y ((hU y).2 ⟨T2, List.mem_cons_of_mem _ hT2, hy2⟩)
   ·exact hS T (hT T hT').1 y hy
end
end
end Go.Proofs.YtcbdilccmjpnbaaGreat
