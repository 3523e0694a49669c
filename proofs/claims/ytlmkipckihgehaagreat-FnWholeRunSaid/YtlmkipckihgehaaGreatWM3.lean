/- Walks of the program's functions, one after the other (part 3); without conditions of their own. -/
import Derived.Test.YtlmkipckihgehaaGreatWM2
import Derived.Lib.AppendZeros
set_option linter.unusedVariables false
set_option linter.unusedSimpArgs false
set_option maxRecDepth 100000
set_option maxHeartbeats 4000000
open Go.RowKit
namespace Go.Proofs.YtlmkipckihgehaaGreat
section
def Res (C : Ctx) (fn : Func) (E : Env) (ι : Ids) (L : List Ent) (G : PH) (v : Value) : Prop := ∀ a w, AgE ι E a → SatW C ι L G w → (results fn a.tmps).run C.P w = .ok v w
section
variable {C : Ctx} {fn : Func} {E : Env} {ι : Ids} {L : List Ent} {G : PH} {T : Tab}
theorem res_load (hT : tabOk C.P T) {t ty : Nat} {s : Sym} {v : Value} (h : pureOp T E L (.load ty (.tmp t)) = some s) (hv : denO ι s = some v) {a : Act} {w : World} (hE : AgE ι E a) (hw : SatW C ι L G w) : ∃ ad, a.tmps[t]?.getD undef = .pointer (some ad) ∧ (loadVar ty ad).run C.P w = .ok v w := by
 obtain ⟨Ss, ho, _⟩ := hw.own
 obtain ⟨v', hv', hr⟩ := pureOp_sound hT hE ho h none 0 "" #[] none
 rw [hv] at hv'; cases hv'
 have hp : ∃ ad, a.eval (.tmp t) = .pointer (some ad) := by
  simp only [pureOp] at h
  split at h
  ·rename_i k o hx
   have ex := ev_sound hE hx
   simp only [denO] at ex
   split at ex
   ·simp only [Option.some.injEq] at ex; exact ⟨_, ex.symm⟩
   ·cases ex
  ·cases h
 obtain ⟨ad, had⟩ := hp
 refine ⟨ad, by rw [← Array.getD_eq_getD_getElem?]; exact had, ?_⟩
 simp only [execOp, had] at hr
 simp [Instr.loadAt, Instr.sureAddr] at hr
 cases hq : (loadVar ty ad).run C.P w with
 | ok u w' => rw [hq] at hr; simpa using hr
 | halt x w' => rw [hq] at hr; simp at hr
theorem res_tmp {t : Nat} {s : Sym} {v : Value} (hl : look t E = some s) (hv : denO ι s = some v) {a : Act} (hE : AgE ι E a) : a.tmps[t]?.getD undef = v := by
 obtain ⟨u, hu, ht⟩ := hE t s hl
 rw [hv] at hu; cases hu
 simp [ht]
theorem Res.t0 (hr : fn.results = #[]) : Res C fn E ι L G (.tuple #[]) := fun a w _ _ => by simp [results, hr]
theorem Res.t1 {t : Nat} {s : Sym} {v : Value} (hr : fn.results = #[.tmp t]) (hl : look t E = some s) (hv : denO ι s = some v) : Res C fn E ι L G v := fun a w hE _ => by
 simp [results, hr, res_tmp hl hv hE]
theorem Res.t2 {t t' : Nat} {s s' : Sym} {v v' : Value} (hr : fn.results = #[.tmp t, .tmp t']) (hl : look t E = some s) (hv : denO ι s = some v) (hl' : look t' E = some s') (hv' : denO ι s' = some v') : Res C fn E ι L G (.tuple #[v, v']) := fun a w hE _ => by
 simp [results, hr, res_tmp hl hv hE, res_tmp hl' hv' hE]
theorem Res.c1 (hT : tabOk C.P T) {t ty : Nat} {s : Sym} {v : Value} (hr : fn.results = #[.cell t ty]) (h : pureOp T E L (.load ty (.tmp t)) = some s) (hv : denO ι s = some v) : Res C fn E ι L G v := fun a w hE hw => by
 obtain ⟨ad, h0, h1⟩ := res_load hT h hv hE hw
 simp [results, hr, asAddr, h0, h1]
theorem Res.c2 (hT : tabOk C.P T) {t ty t' : Nat} {s s' : Sym} {v v' : Value} (hr : fn.results = #[.cell t ty, .tmp t']) (h : pureOp T E L (.load ty (.tmp t)) = some s) (hv : denO ι s = some v) (hl' : look t' E = some s') (hv' : denO ι s' = some v') : Res C fn E ι L G (.tuple #[v, v']) := fun a w hE hw => by
 obtain ⟨ad, h0, h1⟩ := res_load hT h hv hE hw
 simp [results, hr, asAddr, h0, h1, res_tmp hl' hv' hE]
theorem Res.c3 (hT : tabOk C.P T) {t ty t' t'' : Nat} {s s' s'' : Sym} {v v' v'' : Value} (hr : fn.results = #[.cell t ty, .tmp t', .tmp t'']) (h : pureOp T E L (.load ty (.tmp t)) = some s) (hv : denO ι s = some v) (hl' : look t' E = some s') (hv' : denO ι s' = some v')
  (hl'' : look t'' E = some s'') (hv'' : denO ι s'' = some v'') : Res C fn E ι L G (.tuple #[v, v', v'']) := fun a w hE hw => by
 obtain ⟨ad, h0, h1⟩ := res_load hT h hv hE hw
 simp [results, hr, asAddr, h0, h1, res_tmp hl' hv' hE, res_tmp hl'' hv'' hE]
end
section
variable {P : Program} {fn : Func} {R : Ending → World → Prop} {n : Nat} {G0 G : PH} {w0 : World} {S0 : Nat → Prop} {k : List It} {E : Env} {ι : Ids} {L : List Ent} {v : Value}
theorem S_retR {C : Ctx} (hQ : C.Q = bodyPost C.P fn R ∧ C.ms = false) (hr : Res C fn E ι L G v) (h : ∀ w, SatW C ι L G w → R (.returned v) w) : X C (.code .ret :: k) E ι L G := by
 intro a w h1 h2 h3 h4
 refine wpE_ret (wpE_out k ?_)
 rw [hQ.1]
 exact ⟨h1.eq hQ.2, v, hr a w h3 h4, h w h4⟩
theorem S_endR {C : Ctx} (hQ : C.Q = bodyPost C.P fn R ∧ C.ms = false) (hr : Res C fn E ι L G v) (h : ∀ w, SatW C ι L G w → R (.returned v) w) : X C [] E ι L G := by
 intro a w h1 h2 h3 h4
 show C.Q .normal a w
 rw [hQ.1]
 exact ⟨h1.eq hQ.2, v, hr a w h3 h4, h w h4⟩
theorem S_retp {Post : Value → PH → Prop} (hr : Res (PC P n fn G0 Post w0) fn E ι L G v) (hx : PH.ext w0.heap.size G0 G) (hp : Post v G) : X (PC P n fn G0 Post w0) (.code .ret :: k) E ι L G :=
 S_retR ⟨rfl, rfl⟩ hr fun w hw => hw.pureR hx hp
theorem S_retm (κ : Nat) {Post : Value → PH → HP → Prop} {A' : HP} (hr : Res (MC P n fn G0 Post w0 S0) fn E ι L G v) (hL : getH κ L = some A') (hx : PH.ext w0.heap.size G0 G) (hp : Post v G A') : X (MC P n fn G0 Post w0 S0) (.code .ret :: k) E ι L G :=
 S_retR ⟨rfl, rfl⟩ hr fun w hw => hw.modR hL hx hp
theorem S_endm (κ : Nat) {Post : Value → PH → HP → Prop} {A' : HP} (hr : Res (MC P n fn G0 Post w0 S0) fn E ι L G v) (hL : getH κ L = some A') (hx : PH.ext w0.heap.size G0 G) (hp : Post v G A') : X (MC P n fn G0 Post w0 S0) [] E ι L G :=
 S_endR ⟨rfl, rfl⟩ hr fun w hw => hw.modR hL hx hp
end
section
variable {P : Program} {fn : Func} {n : Nat} {G0 G : PH} {Post : Value → PH → HP → Prop} {w0 : World} {S0 : Nat → Prop} {k : List It} {E : Env} {ι ι1 : Ids} {L L1 L2 Ls : List Ent} {v : Value} {p : Ids → List Ent → Prop}
theorem SatW.packed {C : Ctx} {w : World} (κ : Nat) (h4 : SatW C ι L G w) (ks : List Nat) (hL : pickE ks L = some (L1, L2)) (hs : subL ι ι1 L1 Ls) (hp : p ι1 Ls) : SatW C ι (.hp κ (packHP p) :: L2) G w := by
 obtain ⟨Ss, ho, hS⟩ := h4.own
 obtain ⟨Sx, Sr, g1, g2, g3, g4⟩ := pickE_sound hL ho
 obtain ⟨Ss', ho', hsub⟩ := subL_sound hs g1
 refine ⟨h4.os, h4.tape, h4.output, h4.size, h4.keep, h4.emb, (fun x => ∃ T ∈ Ss', T x) :: Sr, ⟨⟨ι1, Ls, Ss', hp, ho', fun x => Iff.rfl⟩, ?_, g2⟩, ?_⟩
 ·rintro T hT b ⟨U, hU, hb⟩ hb'
  exact g3 U (hsub U hU) T hT b hb hb'
 ·intro T hT b hb
  rcases List.mem_cons.1 hT with rfl | hT
  ·obtain ⟨U, hU, hb⟩ := hb
   exact hS U ((g4 U).1 (.inl (hsub U hU))) b hb
  ·exact hS T ((g4 T).1 (.inr hT)) b hb
theorem RK (ks : List Nat) (hr : Res (MC P n fn G0 Post w0 S0) fn E ι L G v) (hp : Post v G (packHP p)) (hpp : p ι1 Ls) (hL : pickE ks L = some (L1, L2)) (hs : subL ι ι1 L1 Ls) (hx : PH.ext w0.heap.size G0 G) : X (MC P n fn G0 Post w0 S0) (.code .ret :: k) E ι L G :=
 S_retR ⟨rfl, rfl⟩ hr fun w hw => (hw.packed 0 ks hL hs hpp).modR (κ := 0) rfl hx hp
theorem EK (ks : List Nat) (hr : Res (MC P n fn G0 Post w0 S0) fn E ι L G v) (hp : Post v G (packHP p)) (hpp : p ι1 Ls) (hL : pickE ks L = some (L1, L2)) (hs : subL ι ι1 L1 Ls) (hx : PH.ext w0.heap.size G0 G) : X (MC P n fn G0 Post w0 S0) [] E ι L G :=
 S_endR ⟨rfl, rfl⟩ hr fun w hw => (hw.packed 0 ks hL hs hpp).modR (κ := 0) rfl hx hp
end
section
variable {C : Ctx} {k : List It} {E : Env} {ι ι1 : Ids} {L L1 L2 Ls : List Ent} {G : PH} {all : Array Oper} {l : List Oper} {p : Ids → List Ent → Prop}
theorem S_callPk (κ : Nat) (ks : List Nat) {d f : Nat} {xs : Array Operand} {ats : Array TypeId} {ty : Nat} {pos : String} {af : Array Edge} {g : Option (Nat × Bool)} {vs : List Value} {Post : Value → PH → HP → Prop} (hcf : ∀ args w, (callFunc f args).run C.P w = .ok (.enter f args) w)
  (hc : Mod C.P f vs G (packHP p) Post) (hpp : p ι1 Ls) (hL : pickE ks L = some (L1, L2)) (hs : subL ι ι1 L1 Ls) (hg : guardOf all E g = .on) (hN : Nat.ble (d + 1) C.n = true) (hxs : evs ι E xs.toList = some vs)
  (hk : ∀ v G' A', Post v G' A' → PH.ext C.w0.heap.size G G' → X C (.ops all l :: k) ((d, .val v) :: E) ι (.hp κ A' :: L2) G') : X C (.ops all (⟨some d, .call ⟨.value (.func f), xs, ats⟩, ty, pos, af, g⟩ :: l) :: k) E ι L G :=
 S_pack κ ks hL hs hpp (S_callM (L' := fun A' => .hp κ A' :: L2) κ hcf hc hg hN hxs (by simp [getH]) (fun A' => by simp [setH]) hk)
theorem S_invokePk (κ : Nat) (ks : List Nat) {d f t : Nat} {x : Operand} {name : String} {rv : Value} {xs : Array Operand} {ats : Array TypeId} {ty : Nat} {pos : String} {af : Array Edge} {g : Option (Nat × Bool)} {vs : List Value} {Post : Value → PH → HP → Prop}
  (hcm : ∀ args w, (callMethod (.iface t rv) name args).run C.P w = .ok (.enter f (#[rv] ++ args)) w) (hc : Mod C.P f (rv :: vs) G (packHP p) Post) (hpp : p ι1 Ls) (hL : pickE ks L = some (L1, L2)) (hs : subL ι ι1 L1 Ls) (hx : ev E x = some (.val (.iface t rv)))
  (hg : guardOf all E g = .on) (hN : Nat.ble (d + 1) C.n = true) (hxs : evs ι E xs.toList = some vs)
  (hk : ∀ v G' A', Post v G' A' → PH.ext C.w0.heap.size G G' → X C (.ops all l :: k) ((d, .val v) :: E) ι (.hp κ A' :: L2) G') : X C (.ops all (⟨some d, .call ⟨.invoke x name, xs, ats⟩, ty, pos, af, g⟩ :: l) :: k) E ι L G :=
 S_pack κ ks hL hs hpp (S_invokeM (L' := fun A' => .hp κ A' :: L2) κ hx hcm hc hg hN hxs (by simp [getH]) (fun A' => by simp [setH]) hk)
end
theorem len1 {α : Type} {l : List α} (h : l.length = 1) : ∃ a, l = [a] := by
 match l, h with
 | [a], _ => exact ⟨a, rfl⟩
theorem len2 {α : Type} {l : List α} (h : l.length = 2) : ∃ a b, l = [a, b] := by
 match l, h with
 | [a, b], _ => exact ⟨a, b, rfl⟩
theorem len3 {α : Type} {l : List α} (h : l.length = 3) : ∃ a b c, l = [a, b, c] := by
 match l, h with
 | [a, b, c], _ => exact ⟨a, b, c, rfl⟩
end
section
structure Prc where
 r0 : Int
 r1 : Int
 r2 : Int
 todo : List Stm
 mode : Int
 on : Int
 room : Int
structure Wld where
 procs : List Prc
 c0 : Int
 c1 : Int
 c2 : Int
 m0 : Int
 m1 : Int
 q0 : List Int
 q1 : List Int
 said : List (Int × Int)
def updL {α : Type} (f : α → α) : Nat → List α → List α
 | _, [] => []
 | 0, x :: l => f x :: l
 | n + 1, x :: l => x :: updL f n l
def Prc.get (p : Prc) (k : Int) : Int := if k = 0 then p.r0 else if k = 1 then p.r1 else p.r2
def Prc.set (p : Prc) (k v : Int) : Prc := if k = 0 then { p with r0 := v } else if k = 1 then { p with r1 := v } else { p with r2 := v }
def Wld.cell (W : Wld) (k : Int) : Int := if k = 0 then W.c0 else if k = 1 then W.c1 else W.c2
def Wld.setCell (W : Wld) (k v : Int) : Wld := if k = 0 then { W with c0 := v } else if k = 1 then { W with c1 := v } else { W with c2 := v }
def Wld.rm (W : Wld) (k : Int) : Int := if k = 0 then W.m0 else W.m1
def Wld.setRm (W : Wld) (k v : Int) : Wld := if k = 0 then { W with m0 := v } else { W with m1 := v }
def Wld.que (W : Wld) (k : Int) : List Int := if k = 0 then W.q0 else W.q1
def Wld.setQue (W : Wld) (k : Int) (q : List Int) : Wld := if k = 0 then { W with q0 := q } else { W with q1 := q }
def Wld.upd (W : Wld) (i : Nat) (f : Prc → Prc) : Wld := { W with procs := updL f i W.procs }
structure WM where
 kp : Nat
 sp : List Value
 asd : Option Addr
 ksd : Nat
 aq0 : Option Addr
 kq0 : Nat
 aq1 : Option Addr
 kq1 : Nat
 kc : Nat
 spc : List Value
 kr : Nat
 spr : List Value
 ks : Nat
 sps : List Value
 kg : Nat → Nat
 spg : Nat → List Value
def mOk (kp kc kr ks : Nat) (kg : Nat → Nat) (n : Nat) : Prop := (n ≤ kp ∧ kp ≤ maxLen) ∧ (3 ≤ kc ∧ kc ≤ maxLen) ∧ (2 ≤ kr ∧ kr ≤ maxLen) ∧ (2 ≤ ks ∧ ks ≤ maxLen) ∧ ∀ i, 3 ≤ kg i ∧ kg i ≤ maxLen
def WM.ok (m : WM) (n : Nat) : Prop := mOk m.kp m.kc m.kr m.ks m.kg n
structure WX where
 ns : Nat
 xs : List Value
 n0 : Nat
 y0 : List Value
 n1 : Nat
 y1 : List Value
def vi (n : Int) : Cel := .v (.int .i64 n)
def intC : List Int → List Value
 | [] => []
 | n :: l => .int .i64 n :: intC l
def saidC : List (Int × Int) → List Value
 | [] => []
 | (a, b) :: l => .int .i64 a :: .int .i64 b :: saidC l
def procCs (kg : Nat → Nat) (sp : List Value) : Nat → List Prc → List Value → List Cel
 | i, p :: ps, t :: ts => .s (1010 + i) 0 3 (kg i) :: .v t :: vi p.mode :: vi p.on :: vi p.room :: procCs kg sp (i + 1) ps ts
 | _, _, _ => vL sp
def regEs (spg : Nat → List Value) : Nat → List Prc → List Ent
 | _, [] => []
 | i, p :: ps => .blk (1010 + i) 3 (vi p.r0 :: vi p.r1 :: vi p.r2 :: vL (spg i)) :: regEs spg (i + 1) ps
def WX.of (W : Wld) : WX := ⟨W.said.length, saidC W.said, W.q0.length, intC W.q0, W.q1.length, intC W.q1⟩
def WX.ok (x : WX) (W : Wld) : Prop := (x.ns = W.said.length ∧ x.xs = saidC W.said) ∧ (x.n0 = W.q0.length ∧ x.y0 = intC W.q0) ∧ x.n1 = W.q1.length ∧ x.y1 = intC W.q1
theorem WX.ok_eq {x : WX} {W : Wld} (h : x.ok W) : x = WX.of W := by
 obtain ⟨a, b, c, d, e, f⟩ := x
 obtain ⟨⟨h1, h2⟩, ⟨h3, h4⟩, h5, h6⟩ := h
 simp only at h1 h2 h3 h4 h5 h6
 subst h1 h2 h3 h4 h5 h6
 rfl
def wEnts (W : Wld) (ts : List Value) (m : WM) (x : WX) : List Ent :=
 .blk 1000 38 (procCs m.kg m.sp 0 W.procs ts) :: .blk 1001 3 (vi W.c0 :: vi W.c1 :: vi W.c2 :: vL m.spc) :: .blk 1002 3 (vi W.m0 :: vi W.m1 :: vL m.spr) ::
 .blk 1003 24 (.v (.slice m.aq0 x.n0 m.kq0) :: .v (.slice m.aq1 x.n1 m.kq1) :: vL m.sps) ::
 .hp 1004 (rowO 0 104 2 m.asd x.ns m.ksd x.xs) :: .hp 1005 (rowO 0 3 1 m.aq0 x.n0 m.kq0 x.y0) :: .hp 1006 (rowO 0 3 1 m.aq1 x.n1 m.kq1 x.y1) :: regEs m.spg 0 W.procs
def wCels (W : Wld) (m : WM) (x : WX) : List Cel := [.s 1000 0 W.procs.length m.kp, .s 1001 0 3 m.kc, .s 1002 0 2 m.kr, .s 1003 0 2 m.ks, .v (.slice m.asd x.ns m.ksd)]
def regIds : Nat → List Nat → Ids
 | _, [] => []
 | i, b :: bs => (1010 + i, b) :: regIds (i + 1) bs
def wIds (bp bc br bs : Nat) (bg : List Nat) : Ids := (1000, bp) :: (1001, bc) :: (1002, br) :: (1003, bs) :: regIds 0 bg
def regKeys : Nat → Nat → List Nat
 | _, 0 => []
 | i, n + 1 => (1010 + i) :: regKeys (i + 1) n
theorem regIds_keys : ∀ (i : Nat) (bg : List Nat), (regIds i bg).map (·.1) = regKeys i bg.length
 | _, [] => rfl
 | i, b :: bs => by simp [regIds, regKeys, regIds_keys (i + 1) bs]
def WVp (cs : List Value) (W : Wld) (ts : List Value) : Ids → List Ent → Prop := fun ι L => ∃ bp bc br bs bg m x, bg.length = W.procs.length ∧ m.ok W.procs.length ∧ x.ok W ∧ ι = wIds bp bc br bs bg ∧ L = wEnts W ts m x ∧ denL (wIds bp bc br bs bg) (wCels W m x) = some cs
def worldV (cs : List Value) (W : Wld) (ts : List Value) : HP := packHP (WVp cs W ts)
def WPp (b : Nat) (W : Wld) (ts : List Value) : Ids → List Ent → Prop := fun ι L => ∃ bp bc br bs bg m x, bg.length = W.procs.length ∧ m.ok W.procs.length ∧ x.ok W ∧ ι = (1007, b) :: wIds bp bc br bs bg ∧ L = .blk 1007 31 (wCels W m x) :: wEnts W ts m x
def worldP (b : Nat) (W : Wld) (ts : List Value) : HP := packHP (WPp b W ts)
def wKeys (n : Nat) : List Nat := 1000 :: 1001 :: 1002 :: 1003 :: 1004 :: 1005 :: 1006 :: regKeys 0 n
def iKeys (n : Nat) : List Nat := 1000 :: 1001 :: 1002 :: 1003 :: regKeys 0 n
def takeC : Nat → List Cel → Option (List Cel × List Cel)
 | 0, l => some ([], l)
 | n + 1, c :: l => match takeC n l with
  | some (x, r) => some (c :: x, r)
  | none => none
 | _ + 1, [] => none
theorem takeC_eq : ∀ {n : Nat} {l x r : List Cel}, takeC n l = some (x, r) → l = x ++ r
 | 0, l, x, r, h => by cases h; rfl
 | n + 1, [], x, r, h => by cases h
 | n + 1, c :: l, x, r, h => by
  simp only [takeC] at h
  split at h
  ·rename_i y q hq; cases h; rw [takeC_eq hq]; rfl
  ·cases h
theorem denL_app {ι : Ids} (l l' : List Cel) : denL ι (l ++ l') = match denL ι l with
  | some vs => (match denL ι l' with | some vs' => some (vs ++ vs') | none => none)
  | none => none := by
 induction l with
 | nil => simp only [List.nil_append, denL]; cases denL ι l' <;> rfl
 | cons c l ih =>
  simp only [List.cons_append, denL, ih]
  cases denC ι c with
  | none => rfl
  | some v => cases denL ι l with
   | none => rfl
   | some vs => cases denL ι l' <;> rfl
theorem denL_sp {ι ι' : Ids} (n : Nat) {cs cs' l l' : List Cel} {sp : List Value} (h : takeC n cs = some (l, vL sp)) (h' : takeC n cs' = some (l', vL sp)) (hd : denL ι l = denL ι' l') : denL ι cs = denL ι' cs' := by
 rw [takeC_eq h, takeC_eq h', denL_app, denL_app, hd, denL_vL, denL_vL]
section
variable {C : Ctx} {k : List It} {E : Env} {ι : Ids} {L : List Ent} {G : PH} {W : Wld} {ts : List Value} {L' L1 L2 : List Ent} {cs : List Value}
theorem S_openV (κ d : Nat) (hL : getH κ L = some (worldV cs W ts)) (hL' : delH κ L = some L') (hf : freshB (iKeys W.procs.length) ι = true) (hE : look d E = some (.val (.agg cs.toArray)))
  (hk : ∀ bp bc br bs bg m, bg.length = W.procs.length → m.ok W.procs.length → cs = [.slice (some ⟨bp, 0, none⟩) W.procs.length m.kp, .slice (some ⟨bc, 0, none⟩) 3 m.kc, .slice (some ⟨br, 0, none⟩) 2 m.kr, .slice (some ⟨bs, 0, none⟩) 2 m.ks, .slice m.asd W.said.length m.ksd] → X C k ((d, .agg (wCels W m (WX.of W))) :: E) (wIds bp bc br bs bg ++ ι) (wEnts W ts m (WX.of W) ++ L') G) : X C k E ι L G := by
 refine S_unpack κ (iKeys W.procs.length) hL hL' ?_ hf ?_
 ·rintro ι0 L0 ⟨bp, bc, br, bs, bg, m, x, hl, hmk, hx, rfl, rfl, _⟩
  simp [wIds, iKeys, regIds_keys, hl]
 ·rintro ι0 L0 ⟨bp, bc, br, bs, bg, m, x, hl, hmk, hx, rfl, rfl, hcs⟩
  rw [WX.ok_eq hx] at hcs ⊢
  refine S_reE d (.agg (wCels W m (WX.of W))) hE ?_ (hk bp bc br bs bg m hl hmk ?_)
  ·simp only [denO]
   rw [denL_le (IdsLe.left _ ι) hcs]
  have : denL (wIds bp bc br bs bg) (wCels W m (WX.of W)) = some [.slice (some ⟨bp, 0, none⟩) W.procs.length m.kp, .slice (some ⟨bc, 0, none⟩) 3 m.kc, .slice (some ⟨br, 0, none⟩) 2 m.kr, .slice (some ⟨bs, 0, none⟩) 2 m.ks, .slice m.asd W.said.length m.ksd] := rfl
  rw [hcs] at this
  exact Option.some.inj this
theorem S_csV (κ : Nat) (hL : getH κ L = some (worldV cs W ts)) (hk : ∀ bp bc br bs kp asd ksd kc kr ks, cs = [.slice (some ⟨bp, 0, none⟩) W.procs.length kp, .slice (some ⟨bc, 0, none⟩) 3 kc, .slice (some ⟨br, 0, none⟩) 2 kr, .slice (some ⟨bs, 0, none⟩) 2 ks, .slice asd W.said.length ksd] → X C k E ι L G) : X C k E ι L G := by
 intro a w h1 h2 h3 h4
 obtain ⟨Ss, ho, _⟩ := h4.own
 obtain ⟨S, ⟨ι0, L0, Ss0, ⟨bp, bc, br, bs, bg, m, x, hl, hmk, hx, rfl, rfl, hcs⟩, _⟩, _⟩ := owns_split ho hL
 rw [WX.ok_eq hx] at hcs
 have : denL (wIds bp bc br bs bg) (wCels W m (WX.of W)) = some [.slice (some ⟨bp, 0, none⟩) W.procs.length m.kp, .slice (some ⟨bc, 0, none⟩) 3 m.kc, .slice (some ⟨br, 0, none⟩) 2 m.kr, .slice (some ⟨bs, 0, none⟩) 2 m.ks, .slice m.asd W.said.length m.ksd] := rfl
 rw [hcs] at this
 exact hk bp bc br bs m.kp m.asd m.ksd m.kc m.kr m.ks (Option.some.inj this) a w h1 h2 h3 h4
theorem S_openP (κ d : Nat) {b : Nat} (hL : getH κ L = some (worldP b W ts)) (hL' : delH κ L = some L') (hf : freshB (1007 :: iKeys W.procs.length) ι = true) (hE : look d E = some (.val (.pointer (some ⟨b, 0, none⟩))))
  (hk : ∀ bp bc br bs bg m, bg.length = W.procs.length → m.ok W.procs.length → X C k ((d, .ptr 1007 0) :: E) ((1007, b) :: wIds bp bc br bs bg ++ ι) (.blk 1007 31 (wCels W m (WX.of W)) :: wEnts W ts m (WX.of W) ++ L') G) : X C k E ι L G := by
 refine S_unpack κ (1007 :: iKeys W.procs.length) hL hL' ?_ hf ?_
 ·rintro ι0 L0 ⟨bp, bc, br, bs, bg, m, x, hl, hmk, hx, rfl, rfl⟩
  simp [wIds, iKeys, regIds_keys, hl]
 ·rintro ι0 L0 ⟨bp, bc, br, bs, bg, m, x, hl, hmk, hx, rfl, rfl⟩
  rw [WX.ok_eq hx]
  refine S_reE d (.ptr 1007 0) hE ?_ (hk bp bc br bs bg m hl hmk)
  simp [denO, lookI]
end
def Tds (G : PH) : List Prc → List Value → Prop
 | [], [] => True
 | p :: ps, v :: vs => Sts G p.todo v ∧ Tds G ps vs
 | _, _ => False
theorem Tds_le {G G' : PH} (hl : G.le G') : ∀ {ps : List Prc} {vs : List Value}, Tds G ps vs → Tds G' ps vs
 | [], [], h => h
 | p :: ps, v :: vs, h => ⟨Sts_le hl h.1, Tds_le hl h.2⟩
 | [], _ :: _, h => h
 | _ :: _, [], h => h
theorem intC_length : ∀ l : List Int, (intC l).length = l.length
 | [] => rfl
 | _ :: l => by simp [intC, intC_length l]
theorem intC_append : ∀ l l' : List Int, intC (l ++ l') = intC l ++ intC l'
 | [], _ => rfl
 | n :: l, l' => by simp [intC, intC_append l l']
theorem saidC_append : ∀ l l' : List (Int × Int), saidC (l ++ l') = saidC l ++ saidC l'
 | [], _ => rfl
 | (a, b) :: l, l' => by simp [saidC, saidC_append l l']
theorem Bs {ι ι' : Ids} {k k' t : Nat} {L L' : List Ent} (n : Nat) {cs cs' l l' : List Cel} {sp : List Value} (h0 : lookI k ι = lookI k' ι') (h : takeC n cs = some (l, vL sp)) (h' : takeC n cs' = some (l', vL sp)) (hd : denL ι l = denL ι' l') (r : subL ι ι' L L') : subL ι ι' (.blk k t cs :: L) (.blk k' t cs' :: L') := .blk h0 (denL_sp n h h' hd) r
theorem Wsub {ι ι' : Ids} {L L' : List Ent} (n : Nat) {k1 k2 k3 k4 j1 j2 j3 j4 t1 t2 t3 t4 p1 p2 p3 q1 q2 q3 : Nat} {A1 A2 A3 : HP} {c1 d1 l1 m1 c2 d2 l2 m2 c3 d3 l3 m3 c4 d4 l4 m4 : List Cel} {s1 s2 s3 s4 : List Value} (a1 : lookI k1 ι = lookI j1 ι') (b1 : takeC n c1 = some (l1, vL s1)) (e1 : takeC n d1 = some (m1, vL s1)) (f1 : denL ι l1 = denL ι' m1) (a2 : lookI k2 ι = lookI j2 ι') (b2 : takeC 3 c2 = some (l2, vL s2)) (e2 : takeC 3 d2 = some (m2, vL s2)) (f2 : denL ι l2 = denL ι' m2) (a3 : lookI k3 ι = lookI j3 ι') (b3 : takeC 2 c3 = some (l3, vL s3)) (e3 : takeC 2 d3 = some (m3, vL s3)) (f3 : denL ι l3 = denL ι' m3) (a4 : lookI k4 ι = lookI j4 ι') (b4 : takeC 2 c4 = some (l4, vL s4)) (e4 : takeC 2 d4 = some (m4, vL s4)) (f4 : denL ι l4 = denL ι' m4) (r : subL ι ι' L L') : subL ι ι' (.blk k1 t1 c1 :: .blk k2 t2 c2 :: .blk k3 t3 c3 :: .blk k4 t4 c4 :: .hp p1 A1 :: .hp p2 A2 :: .hp p3 A3 :: L) (.blk j1 t1 d1 :: .blk j2 t2 d2 :: .blk j3 t3 d3 :: .blk j4 t4 d4 :: .hp q1 A1 :: .hp q2 A2 :: .hp q3 A3 :: L') := Bs n a1 b1 e1 f1 (Bs 3 a2 b2 e2 f2 (Bs 2 a3 b3 e3 f3 (Bs 2 a4 b4 e4 f4 (.hp (.hp (.hp r))))))
theorem Wpp {b : Nat} {W : Wld} {ts : List Value} {ι : Ids} {L : List Ent} {bp bc br bs : Nat} (bg : List Nat) {kp : Nat} {sp : List Value} {asd : Option Addr} {ksd : Nat} {aq0 : Option Addr} {kq0 : Nat} {aq1 : Option Addr} {kq1 kc : Nat} {spc : List Value} {kr : Nat} {spr : List Value} {ks : Nat} {sps : List Value} (kg : Nat → Nat) (spg : Nat → List Value) {ns : Nat} {xs : List Value} {n0 : Nat} {y0 : List Value} {n1 : Nat} {y1 : List Value} (h1 : bg.length = W.procs.length) (h2 : mOk kp kc kr ks kg W.procs.length) (h3 : ns = W.said.length) (h4 : xs = saidC W.said) (h5 : n0 = W.q0.length) (h6 : y0 = intC W.q0) (h7 : n1 = W.q1.length) (h8 : y1 = intC W.q1) (h9 : ι = (1007, b) :: wIds bp bc br bs bg) (h10 : L = .blk 1007 31 (wCels W ⟨kp, sp, asd, ksd, aq0, kq0, aq1, kq1, kc, spc, kr, spr, ks, sps, kg, spg⟩ ⟨ns, xs, n0, y0, n1, y1⟩) :: wEnts W ts ⟨kp, sp, asd, ksd, aq0, kq0, aq1, kq1, kc, spc, kr, spr, ks, sps, kg, spg⟩ ⟨ns, xs, n0, y0, n1, y1⟩) : WPp b W ts ι L := ⟨bp, bc, br, bs, bg, ⟨kp, sp, asd, ksd, aq0, kq0, aq1, kq1, kc, spc, kr, spr, ks, sps, kg, spg⟩, ⟨ns, xs, n0, y0, n1, y1⟩, h1, h2, ⟨⟨h3, h4⟩, ⟨h5, h6⟩, h7, h8⟩, h9, h10⟩
theorem Wvp {cs ts : List Value} {W : Wld} {ι : Ids} {L : List Ent} {bp bc br bs : Nat} (bg : List Nat) {kp : Nat} {sp : List Value} {asd : Option Addr} {ksd : Nat} {aq0 : Option Addr} {kq0 : Nat} {aq1 : Option Addr} {kq1 kc : Nat} {spc : List Value} {kr : Nat} {spr : List Value} {ks : Nat} {sps : List Value} (kg : Nat → Nat) (spg : Nat → List Value) {ns : Nat} {xs : List Value} {n0 : Nat} {y0 : List Value} {n1 : Nat} {y1 : List Value} (h1 : bg.length = W.procs.length) (h2 : mOk kp kc kr ks kg W.procs.length) (h3 : ns = W.said.length) (h4 : xs = saidC W.said) (h5 : n0 = W.q0.length) (h6 : y0 = intC W.q0) (h7 : n1 = W.q1.length) (h8 : y1 = intC W.q1) (h9 : ι = wIds bp bc br bs bg) (h10 : L = wEnts W ts ⟨kp, sp, asd, ksd, aq0, kq0, aq1, kq1, kc, spc, kr, spr, ks, sps, kg, spg⟩ ⟨ns, xs, n0, y0, n1, y1⟩) (h11 : denL (wIds bp bc br bs bg) (wCels W ⟨kp, sp, asd, ksd, aq0, kq0, aq1, kq1, kc, spc, kr, spr, ks, sps, kg, spg⟩ ⟨ns, xs, n0, y0, n1, y1⟩) = some cs) : WVp cs W ts ι L := ⟨bp, bc, br, bs, bg, ⟨kp, sp, asd, ksd, aq0, kq0, aq1, kq1, kc, spc, kr, spr, ks, sps, kg, spg⟩, ⟨ns, xs, n0, y0, n1, y1⟩, h1, h2, ⟨⟨h3, h4⟩, ⟨h5, h6⟩, h7, h8⟩, h9, h10, h11⟩
section
variable {C : Ctx} {k : List It} {E : Env} {ι : Ids} {L : List Ent} {G : PH} {W : Wld} {ts : List Value} {L' L1 L2 : List Ent} {cs : List Value}
theorem OvV (κ d : Nat) (hL : getH κ L = some (worldV cs W ts)) (hL' : delH κ L = some L') (hf : freshB (iKeys W.procs.length) ι = true) (hE : look d E = some (.val (.agg cs.toArray))) (hk : ∀ bp bc br bs bg kp sp asd ksd aq0 kq0 aq1 kq1 kc spc kr spr ks sps kg spg, bg.length = W.procs.length → mOk kp kc kr ks kg W.procs.length → cs = [.slice (some ⟨bp, 0, none⟩) W.procs.length kp, .slice (some ⟨bc, 0, none⟩) 3 kc, .slice (some ⟨br, 0, none⟩) 2 kr, .slice (some ⟨bs, 0, none⟩) 2 ks, .slice asd W.said.length ksd] → X C k ((d, .agg (wCels W ⟨kp, sp, asd, ksd, aq0, kq0, aq1, kq1, kc, spc, kr, spr, ks, sps, kg, spg⟩ (WX.of W))) :: E) (wIds bp bc br bs bg ++ ι) (wEnts W ts ⟨kp, sp, asd, ksd, aq0, kq0, aq1, kq1, kc, spc, kr, spr, ks, sps, kg, spg⟩ (WX.of W) ++ L') G) : X C k E ι L G := S_openV κ d hL hL' hf hE fun bp bc br bs bg m h1 h2 h3 => hk bp bc br bs bg m.kp m.sp m.asd m.ksd m.aq0 m.kq0 m.aq1 m.kq1 m.kc m.spc m.kr m.spr m.ks m.sps m.kg m.spg h1 h2 h3
theorem OpP (κ d : Nat) {b : Nat} (hL : getH κ L = some (worldP b W ts)) (hL' : delH κ L = some L') (hf : freshB (1007 :: iKeys W.procs.length) ι = true) (hE : look d E = some (.val (.pointer (some ⟨b, 0, none⟩)))) (hk : ∀ bp bc br bs bg kp sp asd ksd aq0 kq0 aq1 kq1 kc spc kr spr ks sps kg spg, bg.length = W.procs.length → mOk kp kc kr ks kg W.procs.length → X C k ((d, .ptr 1007 0) :: E) ((1007, b) :: wIds bp bc br bs bg ++ ι) (.blk 1007 31 (wCels W ⟨kp, sp, asd, ksd, aq0, kq0, aq1, kq1, kc, spc, kr, spr, ks, sps, kg, spg⟩ (WX.of W)) :: wEnts W ts ⟨kp, sp, asd, ksd, aq0, kq0, aq1, kq1, kc, spc, kr, spr, ks, sps, kg, spg⟩ (WX.of W) ++ L') G) : X C k E ι L G := S_openP κ d hL hL' hf hE fun bp bc br bs bg m h1 h2 => hk bp bc br bs bg m.kp m.sp m.asd m.ksd m.aq0 m.kq0 m.aq1 m.kq1 m.kc m.spc m.kr m.spr m.ks m.sps m.kg m.spg h1 h2
end
end
section
theorem run_eqNil {P : Program} (w : World) {t e : TypeId} (A : Option Addr) (n c : Nat) (ht : P.underlying t = some (.slice e)) : (binOp .eql t (.slice A n c) (.slice none 0 0)).run P w = .ok (.bool A.isNone) w := by
 have h : ∀ d : Nat, (Op.equalIn (d + 1) t (.slice A n c) (.slice none 0 0)).run P w = .ok A.isNone w := fun d => by
  cases A <;> simp [Op.equalIn, run_underlying ht]
 simp only [binOp]
 simp [Op.equal, Op.maxDepth, h 9999]
section
variable {C : Ctx} {E : Env} {ι : Ids} {L : List Ent} {G : PH} {d : Option Nat} {ty : Nat} {pos : String} {af : Array Edge} {g : Option (Nat × Bool)}
theorem V_eqNil {T : Tab} (hT : tabOk C.P T) {t t' e sz : Nat} {os : List Nat} {x : Operand} {A : Option Addr} {n c : Nat} (ht : lookT t T = some ⟨.slc e, sz, os⟩) (hx : ev E x = some (.val (.slice A n c))) : Vl C ι E L G ⟨d, .binOp .eql t x (.const (.slice none 0 0)) t', ty, pos, af, g⟩ (.bool A.isNone) := by
 intro a w hE hw
 have ex := ev_sound hE hx
 simp only [denO, Option.some.injEq] at ex
 have ey : a.eval (.const (.slice none 0 0)) = .slice none 0 0 := rfl
 have hr := run_eqNil (P := C.P) w A n c (tyOk_slice (hT _ _ ht) rfl)
 simp only [execOp, ← ex, ey]
 simp [eqGuard, hr]
theorem V_cap {T : Tab} (hT : tabOk C.P T) {t e sz : Nat} {os : List Nat} {x : Operand} {A : Option Addr} {n c : Nat} (ht : lookT t T = some ⟨.slc e, sz, os⟩) (hx : ev E x = some (.val (.slice A n c))) : Vl C ι E L G ⟨d, .call ⟨.builtin .cap, #[x], #[t]⟩, ty, pos, af, g⟩ (.int .i64 c) := by
 intro a w hE hw
 have ex := ev_sound hE hx
 simp only [denO, Option.some.injEq] at ex
 have hu := tyOk_slice (hT _ _ ht) rfl
 simp only [execOp, resolve, invoke, List.map_toArray, List.map_cons, List.map_nil, ← ex]
 simp [go_sem, Builtin.cap_, run_underlying hu, goInt]
theorem V_max {t t' : Nat} {x y : Operand} {p q : Int} (hx : ev E x = some (.val (.int .i64 p))) (hy : ev E y = some (.val (.int .i64 q))) : Vl C ι E L G ⟨d, .call ⟨.builtin .max, #[x, y], #[t, t']⟩, ty, pos, af, g⟩ (.int .i64 (max p q)) := by
 intro a w hE hw
 have ex := ev_sound hE hx
 have ey := ev_sound hE hy
 simp only [denO, Option.some.injEq] at ex ey
 simp only [execOp, resolve, invoke, List.map_toArray, List.map_cons, List.map_nil, ← ex, ← ey]
 have : (if q > p then q else p) = max p q := by split <;> omega
 simp [builtin, Builtin.max_, Builtin.max2, this]
theorem V_min {t t' : Nat} {x y : Operand} {p q : Int} (hx : ev E x = some (.val (.int .i64 p))) (hy : ev E y = some (.val (.int .i64 q))) : Vl C ι E L G ⟨d, .call ⟨.builtin .min, #[x, y], #[t, t']⟩, ty, pos, af, g⟩ (.int .i64 (min p q)) := by
 intro a w hE hw
 have ex := ev_sound hE hx
 have ey := ev_sound hE hy
 simp only [denO, Option.some.injEq] at ex ey
 simp only [execOp, resolve, invoke, List.map_toArray, List.map_cons, List.map_nil, ← ex, ← ey]
 have : (if q < p then q else p) = min p q := by split <;> omega
 simp [builtin, Builtin.min_, Builtin.min2, this]
theorem V_iface {t : Nat} {x : Operand} {s : Sym} {v : Value} (hu : (match C.P.underlying t with | some (.struct _) => true | _ => false) = true) (hx : ev E x = some s) (hv : denO ι s = some v) : Vl C ι E L G ⟨d, .makeInterface t x, ty, pos, af, g⟩ (.iface t v) := by
 intro a w hE hw
 have ex := ev_sound hE hx
 rw [hv] at ex; cases ex
 split at hu
 ·rename_i fs hq
  simp only [execOp]
  simp [Instr.makeInterface, run_underlying hq]
 ·cases hu
theorem V_build0 {t : Nat} (hb : C.P.built t [] = some #[]) : Vl C ι E L G ⟨d, .build t #[], ty, pos, af, g⟩ (.agg #[]) := by
 intro a w hE hw
 simp only [execOp]
 simp [run_build w t #[] _ hb]
theorem V_builtC {t : Nat} {parts : Array (Nat × Operand)} {vs : List (Nat × Value)} {cs : Array Value} (hp : parts.toList.map (fun x => (x.1, ev E x.2)) = vs.map (fun x => (x.1, some (Sym.val x.2)))) (hb : C.P.built t vs = some cs) : Vl C ι E L G ⟨d, .build t parts, ty, pos, af, g⟩ (.agg cs) := by
 intro a w hE hw
 have hq : (parts.map fun (i, x) => (i, a.eval x)).toList = vs := by
  rw [Array.toList_map]
  generalize parts.toList = l at hp
  clear hb
  induction l generalizing vs with
  | nil => cases vs with
   | nil => rfl
   | cons => simp at hp
  | cons y l ih =>
   cases vs with
   | nil => simp at hp
   | cons z vs =>
    simp only [List.map_cons, List.cons.injEq, Prod.mk.injEq] at hp
    obtain ⟨⟨h1, h2⟩, h3⟩ := hp
    have e := ev_sound hE h2
    simp only [denO, Option.some.injEq] at e
    rw [List.map_cons, ih h3]
    obtain ⟨i, y⟩ := y
    obtain ⟨j, z⟩ := z
    simp only at h1 e
    subst h1
    show (_, a.eval y) :: vs = _
    rw [← e]
 simp only [execOp]
 simp [run_build w t _ _ (by rw [hq]; exact hb)]
theorem V_slice0 {T : Tab} (hT : tabOk C.P T) {t e sz sz' : Nat} {os os' : List Nat} {tk : TK} {x y : Operand} {A : Option Addr} {n c : Nat} (ht : lookT t T = some ⟨.slc e, sz', os'⟩) (he : lookT e T = some ⟨tk, sz, os⟩) (hx : ev E x = some (.val (.slice A n c))) (hy : ev E y = some (.val (.int .i64 0))) :
  Vl C ι E L G ⟨d, .slice t x none (some y) none, ty, pos, af, g⟩ (.slice A 0 c) := by
 intro a w hE hw
 have ex := ev_sound hE hx
 have ey := ev_sound hE hy
 simp only [denO, Option.some.injEq] at ex ey
 have hu := tyOk_slice (hT _ _ ht) rfl
 simp only [execOp, ← ex, Option.map_some, Option.map_none, ← ey]
 simp only [Instr.sliceAt, Sem.run_bind, run_underlying hu, Result.andThen_ok]
 simp [Instr.slice, run_underlying hu, Instr.sliceBounds, Instr.sliceBound, asIntOf, tyOk_size (hT _ _ he)]
 cases A <;> simp [Addr.add]
theorem V_slice1 {T : Tab} (hT : tabOk C.P T) {t e sz sz' : Nat} {os os' : List Nat} {tk : TK} {x : Operand} {A : Option Addr} {n c : Nat} (ht : lookT t T = some ⟨.slc e, sz', os'⟩) (he : lookT e T = some ⟨tk, sz, os⟩) (hx : ev E x = some (.val (.slice A (n + 1) c))) :
  Vl C ι E L G ⟨d, .slice t x (some (.const (.int .i64 1))) none none, ty, pos, af, g⟩ (.slice (if c = 1 then A else A.map (·.add (1 * sz))) n (c - 1)) := by
 intro a w hE hw
 have ex := ev_sound hE hx
 simp only [denO, Option.some.injEq] at ex
 have hu := tyOk_slice (hT _ _ ht) rfl
 simp only [execOp, Option.map_some, Option.map_none, ← ex]
 have : a.eval (.const (.int .i64 1)) = .int .i64 1 := rfl
 rw [this]
 have h1 : (1 : Int) ≤ (n : Int) + 1 := by omega
 simp only [Instr.sliceAt, Sem.run_bind, run_underlying hu, Result.andThen_ok]
 simp [Instr.slice, run_underlying hu, Instr.sliceBounds, Instr.sliceBound, asIntOf, tyOk_size (hT _ _ he), h1]
theorem V_field {T : Tab} (hT : tabOk C.P T) {t m o : Nat} {os : List Nat} {x : Operand} {f : Nat} {cs : Array Value} {v : Value} (ht : lookT t T = some ⟨.agg, m, os⟩) (hx : ev E x = some (.val (.agg cs))) (ho : nthO f os = some o) (hc : nthN o cs.toList = some v)
  (hft : (match C.P.underlying t with | some (.struct fs) => (match fs[f]? with | some fd => (match C.P.underlying fd.type with | some (.int _) => true | _ => false) | _ => false) | _ => false) = true) : Vl C ι E L G ⟨d, .field t x f, ty, pos, af, g⟩ v := by
 intro a w hE hw
 have ex := ev_sound hE hx
 simp only [denO, Option.some.injEq] at ex
 split at hft
 ·rename_i fs hfs
  split at hft
  ·rename_i fd hfd
   split at hft
   ·rename_i k hk
    obtain ⟨dsc, inf, hu, hi, hkk, hsz, hoffs, _⟩ := tyOk_parts (hT _ _ ht)
    rw [hfs] at hu; cases hu
    simp only [offsOk, Bool.and_eq_true, beq_iff_eq] at hoffs
    have hd' := nthO_eq ho
    rw [← hoffs.1, List.getElem?_map] at hd'
    obtain ⟨fd', hfd', hoff⟩ := Option.map_eq_some_iff.1 hd'
    rw [Array.getElem?_toList, hfd] at hfd'
    cases hfd'
    have hcv := nthN_eq hc
    rw [Array.getElem?_toList] at hcv
    have hfd'' : fs.toList[f]? = some fd := by simpa using hfd
    simp only [execOp, ← ex]
    simp [Instr.field, run_underlying hfs, hfd, asAgg, part, isAgg, run_underlying hk, hoff, hcv]
   ·cases hft
  ·cases hft
 ·cases hft
end
theorem S_growNil {C : Ctx} {k : List It} {E : Env} {ι : Ids} {L : List Ent} {G : PH} {all : Array Oper} {l : List Oper} {T : Tab} (hT : tabOk C.P T) (κ : Nat) {d t tn e sz' sz : Nat} {os os' : List Nat} {tk : TK} {zi : ZI} {s x : Operand} {ty : Nat} {pos : String} {af : Array Edge} {g : Option (Nat × Bool)} {n : Nat} {kn : IntKind}
  (ht : lookT t T = some ⟨.slc e, sz', os'⟩) (he : lookT e T = some ⟨tk, sz, os⟩) (hz : lookZ e T.zs = some zi) (hzs : zi.zs.length = sz) (hsz : Nat.ble 1 sz = true) (htn : C.P.underlying tn = some (.int kn))
  (hg : guardOf all E g = .on) (hN : Nat.ble (d + 1) C.n = true) (hs : ev E s = some (.val (.slice none 0 0))) (hx : ev E x = some (.val (.int .i64 n))) (h0 : 0 < n) (h63 : n ≤ maxLen) (hby : n * zi.b ≤ 281474976710656)
  (hk : ∀ A c, n ≤ c → X C (.ops all l :: k) ((d, .val (.slice A n c)) :: E) ι (.hp κ (rowO C.w0.heap.size e sz A 0 c []) :: L) G) : X C (.ops all (⟨some d, .call ⟨.builtin .append, #[s, x], #[t, tn]⟩, ty, pos, af, g⟩ :: l) :: k) E ι L G := by
 intro a w h1 h2 h3 h4
 have hdn : d < a.tmps.size := by rw [h2]; exact Nat.le_of_ble_eq_true hN
 have es := ev_sound h3 hs
 have ex := ev_sound h3 hx
 simp only [denO, Option.some.injEq] at es ex
 have hu := tyOk_slice (hT _ _ ht) rfl
 obtain ⟨dsc, inf, _, hi, _, hsize, _⟩ := tyOk_parts (hT _ _ he)
 obtain ⟨inf', vz, hi', hv, hb, hc, _⟩ := viewZ_eq (hT.z _ _ hz)
 rw [hi] at hi'; cases hi'
 simp only at hsize
 have hsp : 0 < sz := Nat.le_of_ble_eq_true hsz
 have hr := Go.Lib.run_append_nil_zeros (P := C.P) w t tn ty e inf vz .i64 kn hu htn hi hv n h0 (by omega) (by simp only [maxLen] at h63; omega) (by rw [hb]; exact hby)
 have hrun : (execOp a.eval ⟨some d, .call ⟨.builtin .append, #[s, x], #[t, tn]⟩, ty, pos, af, g⟩).run C.P w = .ok (.value (.slice (some ⟨w.heap.size, 0, none⟩) n (grownCap w n 0 e))) (w.drew.alloc (.cells (Builtin.zeroCells vz.cells n ++ Builtin.zeroCells vz.cells (grownCap w n 0 e - n)) e)) := by
  simp only [execOp, resolve, invoke, List.map_toArray, List.map_cons, List.map_nil, ← es, ← ex]
  simp [builtin, hr]
 have hge := grownCap_ge w n 0 e
 have hcm := grownCap_le_maxLen w n 0 e h63
 refine wpE_val (guardOf_on h3 hg) (by intro c h; cases h) hrun ?_;refine hk _ _ hge _ _ h1 (by simp [Act.put, h2]) (h3.put hdn J) ?_
 have h4' : SatW C ι L G w.drew := ⟨h4.os, h4.tape, h4.output, h4.size, h4.keep, h4.emb, by
  obtain ⟨Ss, ho, hS⟩ := h4.own
  exact ⟨Ss, owns_far ho (fun _ => False) (fun _ _ => J) (fun _ _ _ _ h => h), hS⟩⟩
 have hal := h4'.allocH κ (.cells (Builtin.zeroCells vz.cells n ++ Builtin.zeroCells vz.cells (grownCap w n 0 e - n)) e)
 obtain ⟨Ss, ho, hS⟩ := hal.own
 cases Ss with
 | nil => simp [owns] at ho
 | cons S Ss =>
  obtain ⟨hA, hd, hr⟩ := ho
  refine ⟨hal.os, hal.tape, hal.output, hal.size, hal.keep, hal.emb, S :: Ss, ⟨⟨by simp, hcm, Nat.zero_le _, .inr ⟨_, 0, _, J, h4.size, hA.1, ?_, by simp, hA.2⟩⟩, hd, hr⟩, hS⟩
  simp only [Array.size_append, size_zeroCells, hc, ← Nat.add_mul, List.size_toArray, hzs]
  rw [Nat.zero_add]
  exact Nat.mul_le_mul_right _ (by omega)
def emptyHP : HP := packHP fun ι L => ι = [] ∧ L = []
theorem S_newE {C : Ctx} {k : List It} {E : Env} {ι : Ids} {L : List Ent} {G : PH} (κ : Nat) (hx : X C k E ι (.hp κ emptyHP :: L) G) : X C k E ι L G := by
 refine S_pack (ι1 := []) (L1 := []) (L2 := L) (Ls := []) κ [] J .nil ⟨J, J⟩ hx
theorem S_rebase {C : Ctx} {k : List It} {E : Env} {ι : Ids} {L : List Ent} {G : PH} (κ : Nat) {base e sz : Nat} {A : Option Addr} {n c : Nat} {xs : List Value} {L' : List Ent} (hS0 : ∀ b, ¬ C.S0 b) (hL : getH κ L = some (rowO base e sz A n c xs)) (hL' : setH κ (rowO C.w0.heap.size e sz A n c xs) L = some L') (hx : X C k E ι L' G) : X C k E ι L G := by
 intro a w h1 h2 h3 h4
 refine hx a w h1 h2 h3 ?_;obtain ⟨S, hA, hSG, hturn⟩ := h4.turn hL
 obtain ⟨Ss, ho, hS⟩ := h4.own
 obtain ⟨S2, hA2, hm2, _⟩ := owns_split ho hL
 refine hturn _ _ G w S hL' ?_ h4.emb XR (fun b hb => ⟨hSG b hb, .inl hb⟩) J J J (Nat.le_refl _) fun _ _ _ => J
 obtain ⟨q1, q2, q3, q4⟩ := hA
 refine ⟨q1, q2, q3, ?_⟩
 rcases q4 with q4 | ⟨g, off, cur, rfl, q0, q5, q6, q7, q8⟩
 ·exact .inl q4
 ·refine .inr ⟨g, off, cur, J, ?_, q5, q6, q7, q8⟩
  obtain ⟨r1, r2, r3, r4⟩ := hA2
  rcases r4 with ⟨r4, _⟩ | ⟨g', off', cur', r, r0, r5, r6, r7, r8⟩
  ·cases r4
  ·cases r
   rcases (hS S2 hm2 _ ((r8 _).2 rfl)).2 with h | h
   ·exact absurd h (hS0 _)
   ·exact h
theorem S_base0 {C : Ctx} {k : List It} {E : Env} {ι : Ids} {L : List Ent} {G : PH} (κ : Nat) {base e sz : Nat} {A : Option Addr} {n c : Nat} {xs : List Value} {L' : List Ent} (hL : getH κ L = some (rowO base e sz A n c xs)) (hL' : setH κ (rowO 0 e sz A n c xs) L = some L') (hx : X C k E ι L' G) : X C k E ι L G := by
 intro a w h1 h2 h3 h4
 refine hx a w h1 h2 h3 ?_;obtain ⟨S, hA, hSG, hturn⟩ := h4.turn hL
 refine hturn _ _ G w S hL' ?_ h4.emb XR (fun b hb => ⟨hSG b hb, .inl hb⟩) J J J (Nat.le_refl _) fun _ _ _ => J
 obtain ⟨q1, q2, q3, q4⟩ := hA
 refine ⟨q1, q2, q3, ?_⟩
 rcases q4 with q4 | ⟨g, off, cur, rfl, q0, q5, q6, q7, q8⟩
 ·exact .inl q4
 ·exact .inr ⟨g, off, cur, J, Nat.zero_le _, q5, q6, q7, q8⟩
def newHP (B : Nat) (A : HP) : HP where
 holds w S := A.holds w S ∧ ∀ b, S b → B ≤ b
 loc w w' S h hs := ⟨A.loc w w' S h.1 hs, h.2⟩
 lt w S h := A.lt w S h.1
theorem emptyHP_none {w : World} {S : Nat → Prop} (h : emptyHP.holds w S) : ∀ b, ¬ S b := by
 obtain ⟨ι, L, Ss, ⟨rfl, rfl⟩, ho, hS⟩ := h
 intro b hb
 obtain ⟨T, hT, _⟩ := (hS b).1 hb
 cases Ss with
 | nil => cases hT
 | cons => simp [owns] at ho
theorem emptyHP_holds (w : World) : emptyHP.holds w (fun _ => False) := ⟨[], [], [], ⟨rfl, rfl⟩, trivial, fun x => ⟨fun h => h.elim, fun ⟨T, hT, _⟩ => by cases hT⟩⟩
theorem S_callN {C : Ctx} {k : List It} {E : Env} {ι : Ids} {L : List Ent} {G : PH} {all : Array Oper} {l : List Oper} (κ : Nat) {d f : Nat} {xs : Array Operand} {ats : Array TypeId} {ty : Nat} {pos : String} {af : Array Edge} {g : Option (Nat × Bool)} {vs : List Value} {Post : Value → PH → HP → Prop} (hcf : ∀ args w, (callFunc f args).run C.P w = .ok (.enter f args) w)
  (hc : Mod C.P f vs G emptyHP Post) (hg : guardOf all E g = .on) (hN : Nat.ble (d + 1) C.n = true) (hxs : evs ι E xs.toList = some vs)
  (hk : ∀ v G' A', Post v G' A' → PH.ext C.w0.heap.size G G' → X C (.ops all l :: k) ((d, .val v) :: E) ι (.hp κ (newHP C.w0.heap.size A') :: L) G') : X C (.ops all (⟨some d, .call ⟨.value (.func f), xs, ats⟩, ty, pos, af, g⟩ :: l) :: k) E ι L G := by
 intro a w h1 h2 h3 h4
 have hdn : d < a.tmps.size := by rw [h2]; exact Nat.le_of_ble_eq_true hN
 have hcc := hc w (fun _ => False) h4.emb (emptyHP_holds w) (fun _ h => h.elim)
 refine wpE_call (f := f) (cap := #[]) (vs := vs) (guardOf_on h3 hg) J (evs_sound h3 hxs) hcf (R := fun v w' => ∃ G' A', Post v G' A' ∧ PH.ext C.w0.heap.size G G' ∧ SatW C ι (.hp κ (newHP C.w0.heap.size A') :: L) G' w') ?_ ?_
 ·simp only [List.append_nil, List.toList_toArray]
  refine hcc.mono ?_;rintro e w' ⟨v, G', A', S', rfl, hp, hA', hext, hemb, hS', e1, e2, e3, e4, hkeep⟩
  refine ⟨v, J, G', A', hp, hext.mono h4.size, ?_⟩
  obtain ⟨Ss, ho, hS⟩ := h4.own
  have hlt := owns_lt ho
  have hge : ∀ b, S' b → w.heap.size ≤ b := fun b hb => (hS' b hb).2.resolve_left id
  have hk' : ∀ b, b < w.heap.size → w'.heap[b]? = w.heap[b]? := fun b hb => hkeep b hb id
  refine ⟨e1.trans h4.os, e2.trans h4.tape, e3.trans h4.output, Nat.le_trans h4.size e4, fun b hb hn => ?_, hemb, S' :: Ss, ⟨⟨hA', fun b hb => Nat.le_trans h4.size (hge b hb)⟩, fun T hT b hb hb' => ?_, owns_far ho (fun b => w.heap.size ≤ b) (fun x hx => hk' x (by omega)) (fun T hT x hx => by have := hlt T hT x hx; omega)⟩, ?_⟩
  ·have := h4.size
   rw [hk' b (by omega)]; exact h4.keep b hb hn
  ·have := hlt T hT b hb'; have := hge b hb; omega
  ·intro T hT b hb
   rcases List.mem_cons.1 hT with rfl | hT
   ·exact ⟨(hS' b hb).1, .inr (Nat.le_trans h4.size (hge b hb))⟩
   ·refine ⟨?_, (hS T hT b hb).2⟩
    cases hq : G' b with
    | none => rfl
    | some o => have := hext.new b o hq (hS T hT b hb).1; have := hlt T hT b hb; omega
 ·rintro v w' ⟨G', A', hp, hext, hsat⟩
  exact hk v G' A' hp hext _ _ (h1.mono hext.le) (by simp [Act.put, h2]) (h3.put hdn J) hsat
theorem S_newRow {C : Ctx} {k : List It} {E : Env} {ι : Ids} {L : List Ent} {G : PH} (κ : Nat) {B base e sz : Nat} {A : Option Addr} {n c : Nat} {xs : List Value} {L' : List Ent} (hL : getH κ L = some (newHP B (rowO base e sz A n c xs))) (hL' : setH κ (rowO B e sz A n c xs) L = some L') (hx : X C k E ι L' G) : X C k E ι L G := by
 intro a w h1 h2 h3 h4
 refine hx a w h1 h2 h3 ?_;obtain ⟨S, ⟨hA, hB⟩, hSG, hturn⟩ := h4.turn hL
 refine hturn _ _ G w S hL' ?_ h4.emb XR (fun b hb => ⟨hSG b hb, .inl hb⟩) J J J (Nat.le_refl _) fun _ _ _ => J
 obtain ⟨q1, q2, q3, q4⟩ := hA
 refine ⟨q1, q2, q3, ?_⟩
 rcases q4 with q4 | ⟨g, off, cur, rfl, q0, q5, q6, q7, q8⟩
 ·exact .inl q4
 ·exact .inr ⟨g, off, cur, J, hB g ((q8 g).2 J), q5, q6, q7, q8⟩
end
section
def Sx (G : PH) (sz : Nat) (v : Value) (n : Nat) (xs : List Value) : Prop :=
 ∃ A c, v = .slice A n c ∧ n ≤ 1000000000 ∧ n ≤ c ∧ c ≤ maxLen ∧ xs.length = n * sz ∧ (n = 0 ∨ ∃ a, A = some a ∧ gcells G a xs)
theorem Sx_le {G G' : PH} (hl : G.le G') {sz n : Nat} {v : Value} {xs : List Value} (h : Sx G sz v n xs) : Sx G' sz v n xs := by
 obtain ⟨A, c, h1, h2, h3, h4, h5, h6⟩ := h
 refine ⟨A, c, h1, h2, h3, h4, h5, ?_⟩
 rcases h6 with h6 | ⟨a, h6, h7⟩
 ·exact .inl h6
 ·exact .inr ⟨a, h6, gcells_le hl h7⟩
section
variable {α : Type} {G : PH} {sz : Nat} {rep : α → List Value → Prop}
theorem gcells_app {ad : Addr} : ∀ {cs ys : List Value}, gcells G ad cs → gcells G (ad.add cs.length) ys → gcells G ad (cs ++ ys) := by
 intro cs
 induction cs generalizing ad with
 | nil => intro ys _ h; rw [List.length_nil, add_zero'] at h; exact h
 | cons c cs ih =>
  intro ys h h'
  refine ⟨h.1, ih h.2 ?_⟩
  rw [add_add', Nat.add_comm]; exact h'
theorem Rw_cells (hr : ∀ x cs, rep x cs → cs.length = sz) : ∀ {L : List α} {ad : Addr}, Rw G sz rep L ad → ∃ xs, gcells G ad xs ∧ Cs sz rep L xs := by
 intro L
 induction L with
 | nil => intro ad _; exact ⟨[], trivial, J⟩
 | cons x L ih =>
  rintro ad ⟨⟨cs, h1, h2⟩, h3⟩
  obtain ⟨ys, h4, h5⟩ := ih h3
  have hl := hr x cs h2
  exact ⟨cs ++ ys, gcells_app h1 (by rw [hl]; exact h4), cs, ys, J, hl, h2, h5⟩
theorem Sr_Sx (hr : ∀ x cs, rep x cs → cs.length = sz) {L : List α} {v : Value} (h : Sr G sz rep L v) : ∃ xs, Sx G sz v L.length xs ∧ Cs sz rep L xs := by
 obtain ⟨A, c, h1, h2, h3, h4, h5⟩ := h
 by_cases hn : L.length = 0
 ·have : L = [] := List.eq_nil_of_length_eq_zero hn
  subst this
  exact ⟨[], ⟨A, c, h1, h2, h3, h4, by simp, .inl J⟩, J⟩
 ·rcases h5 with h5 | ⟨ad, h5, h6⟩
  ·exact absurd h5 hn
  ·obtain ⟨xs, h7, h8⟩ := Rw_cells hr h6
   exact ⟨xs, ⟨A, c, h1, h2, h3, h4, Cs_length h8, .inr ⟨ad, h5, h7⟩⟩, h8⟩
theorem Sx_Sr {L : List α} {v : Value} {n : Nat} {xs : List Value} (h : Sx G sz v n xs) (hn : n = L.length) (hc : Cs sz rep L xs) : Sr G sz rep L v := by
 subst hn
 obtain ⟨A, c, h1, h2, h3, h4, h5, h6⟩ := h
 refine ⟨A, c, h1, h2, h3, h4, ?_⟩
 rcases h6 with h6 | ⟨a, h6, h7⟩
 ·exact .inl h6
 ·exact .inr ⟨a, h6, Rw_of hc h7⟩
theorem Cs_one {L : List α} {xs : List Value} (h1 : ∀ x cs, rep x cs → ∀ u ∈ cs, u.oneCell' = true) (h : Cs sz rep L xs) : ∀ u ∈ xs, u.oneCell' = true := by
 induction L generalizing xs with
 | nil => cases h; intro u hu; cases hu
 | cons x L ih =>
  obtain ⟨cs, ys, rfl, _, h3, h4⟩ := h
  intro u hu
  rcases List.mem_append.1 hu with hu | hu
  ·exact h1 x cs h3 u hu
  ·exact ih h4 u hu
theorem Cs_append2 {L L' : List α} {xs ys : List Value} (h : Cs sz rep L xs) (h' : Cs sz rep L' ys) : Cs sz rep (L ++ L') (xs ++ ys) := by
 induction L generalizing xs with
 | nil => cases h; exact h'
 | cons x L ih =>
  obtain ⟨cs, zs, rfl, h2, h3, h4⟩ := h
  exact ⟨cs, zs ++ ys, by simp, h2, h3, ih h4⟩
end
theorem Stm.rep_one {G : PH} (s : Stm) (cs : List Value) (h : Stm.rep G s cs) : ∀ u ∈ cs, u.oneCell' = true := by
 cases s
 obtain ⟨vx, vy, rfl, _, _, _, _, ⟨Ax, cx, rfl, _⟩, ⟨Ay, cy, rfl, _⟩⟩ := Stm.rep_iff.1 h
 intro u hu
 simp at hu
 rcases hu with rfl | rfl | rfl | rfl | rfl | rfl <;> rfl
theorem Sx_Ints {G : PH} {l : List Int} {v : Value} {n : Nat} (h : Sx G 1 v n (intC l)) (hn : n = l.length) (hi : ∀ n ∈ l, I64 n) : Ints G l v := by
 refine Sx_Sr h hn ?_
 clear h hn
 induction l with
 | nil => rfl
 | cons n l ih => exact ⟨[.int .i64 n], intC l, rfl, rfl, ⟨rfl, hi n (List.mem_cons_self ..)⟩, ih fun m hm => hi m (List.mem_cons_of_mem _ hm)⟩
theorem intC_one (l : List Int) : ∀ u ∈ intC l, u.oneCell' = true := by
 induction l with
 | nil => intro u hu; cases hu
 | cons n l ih => intro u hu; rcases List.mem_cons.1 hu with rfl | hu; rfl; exact ih u hu
theorem saidC_one (l : List (Int × Int)) : ∀ u ∈ saidC l, u.oneCell' = true := by
 induction l with
 | nil => intro u hu; cases hu
 | cons n l ih =>
  obtain ⟨a, b⟩ := n
  intro u hu
  simp only [saidC, List.mem_cons] at hu
  rcases hu with rfl | rfl | hu
  ·rfl
  ·rfl
  ·exact ih u hu
theorem saidC_snoc (l : List (Int × Int)) (a b : Int) : saidC l ++ [.int .i64 a, .int .i64 b] = saidC (l ++ [(a, b)]) := by simp [saidC_append, saidC]
theorem intC_snoc (l : List Int) (a : Int) : intC l ++ [.int .i64 a] = intC (l ++ [a]) := by simp [intC_append, intC]
section
variable {C : Ctx} {k : List It} {E : Env} {ι : Ids} {L : List Ent} {G : PH} {all : Array Oper} {l : List Oper}
theorem S_appSaid {T : Tab} (hT : tabOk C.P T) (κ j : Nat) {d t e sz' : Nat} {os os' : List Nat} {tk : TK} {zi : ZI} {s x : Operand} {ty ty' : Nat} {pos : String} {af : Array Edge} {g : Option (Nat × Bool)} {A : Option Addr} {c b : Nat} {sd : List (Int × Int)} {p q : Int} {cs : List Cel} {L' : Option Addr → Nat → List Ent}
  (ht : lookT t T = some ⟨.slc e, sz', os'⟩) (he : lookT e T = some ⟨tk, 2, os⟩) (hz : lookZ e T.zs = some zi) (hzs : zi.zs.length = 2) (hzb : zi.b = 16)
  (hg : guardOf all E g = .on) (hN : Nat.ble (d + 1) C.n = true) (hs : ev E s = some (.val (.slice A sd.length c))) (hx : ev E x = some (.slc j 0 1 1)) (hj : lookI j ι = some b) (hB : lookB j L = some (ty', cs)) (hcs : denL ι cs = some [.int .i64 p, .int .i64 q])
  (hL : getH κ L = some (rowO 0 e 2 A sd.length c (saidC sd))) (hL' : ∀ A' c', setH κ (rowO 0 e 2 A' (sd ++ [(p, q)]).length c' (saidC (sd ++ [(p, q)]))) L = some (L' A' c')) (hlen : sd.length ≤ 1000000)
  (hk : ∀ A' c', X C (.ops all l :: k) ((d, .val (.slice A' (sd ++ [(p, q)]).length c')) :: E) ι (L' A' c') G) : X C (.ops all (⟨some d, .call ⟨.builtin .append, #[s, x], #[t, t]⟩, ty, pos, af, g⟩ :: l) :: k) E ι L G := by
 refine S_appO hT κ (news := [.int .i64 p, .int .i64 q]) (m := 1) ht he hz hzs J hg hN hs hx (by rw [denO, hj]) hL (L' := L') (fun A' c' => ?_) (src_blk j hB hcs hj J J) (by intro u hu; simp at hu; rcases hu with rfl | rfl <;> rfl) (by rw [hzb]; omega) (by simp only [maxLen]; omega) (Nat.zero_le _) fun A' c' => ?_
 ·rw [saidC_snoc, ← hL' A' c']; simp
 ·have := hk A' c'; rwa [List.length_append] at this
theorem S_appInt {T : Tab} (hT : tabOk C.P T) (κ j : Nat) {base d t e sz' : Nat} {os os' : List Nat} {tk : TK} {zi : ZI} {s x : Operand} {ty ty' : Nat} {pos : String} {af : Array Edge} {g : Option (Nat × Bool)} {A : Option Addr} {c b : Nat} {sd : List Int} {p : Int} {cs : List Cel} {L' : Option Addr → Nat → List Ent}
  (ht : lookT t T = some ⟨.slc e, sz', os'⟩) (he : lookT e T = some ⟨tk, 1, os⟩) (hz : lookZ e T.zs = some zi) (hzs : zi.zs.length = 1) (hzb : zi.b = 8)
  (hg : guardOf all E g = .on) (hN : Nat.ble (d + 1) C.n = true) (hs : ev E s = some (.val (.slice A sd.length c))) (hx : ev E x = some (.slc j 0 1 1)) (hj : lookI j ι = some b) (hB : lookB j L = some (ty', cs)) (hcs : denL ι cs = some [.int .i64 p])
  (hL : getH κ L = some (rowO base e 1 A sd.length c (intC sd))) (hL' : ∀ A' c', setH κ (rowO base e 1 A' (sd ++ [p]).length c' (intC (sd ++ [p]))) L = some (L' A' c')) (hlen : sd.length ≤ 1000000) (hbase : base ≤ C.w0.heap.size)
  (hk : ∀ A' c', X C (.ops all l :: k) ((d, .val (.slice A' (sd ++ [p]).length c')) :: E) ι (L' A' c') G) : X C (.ops all (⟨some d, .call ⟨.builtin .append, #[s, x], #[t, t]⟩, ty, pos, af, g⟩ :: l) :: k) E ι L G := by
 refine S_appO hT κ (news := [.int .i64 p]) (m := 1) ht he hz hzs J hg hN hs hx (by rw [denO, hj]) hL (L' := L') (fun A' c' => ?_) (src_blk j hB hcs hj J J) (by intro u hu; simp at hu; rcases hu with rfl; rfl) (by rw [hzb]; omega) (by simp only [maxLen]; omega) hbase fun A' c' => ?_
 ·rw [intC_snoc, ← hL' A' c']; simp
 ·have := hk A' c'; rwa [List.length_append] at this
end
end
section
attribute [local irreducible] X Pure Mod
def numOk (n : Int) : Bool := decide (-999 ≤ n) && decide (n ≤ 999)
theorem c_NumOk (n : Int) (G : PH) : Pure Tryz.prog 123 [.int .i64 n] G fun v G' => v = .bool (numOk n) ∧ G' = G := by
 refine Pure.intro Tryz.func123 Tryz.ntmps123 J J fun w => ?_;refine Va J J ?_;exact S_retP Tryz.results123 J J XR ⟨J, J⟩
def leafOk (k a b n room : Int) : Bool :=
 let reg := decide (0 ≤ a) && decide (a < 3)
 let two := decide (0 ≤ b) && decide (b < 3)
 if k = 1 then reg && decide (b = 0) && numOk n
 else if k = 2 then reg && two && decide (1 ≤ n) && decide (n ≤ 5)
 else if k = 3 then reg && decide (0 ≤ b) && decide (b < 3) && decide (n = 0)
 else if k = 4 then decide (0 ≤ a) && decide (a < 3) && two && decide (n = 0)
 else if k = 5 then reg && decide (b = 0) && decide (n = 0)
 else if k = 9 then decide (0 ≤ room) && decide (0 ≤ a) && decide (a < 2) && decide (b = 0) && decide (n = 0)
 else if k = 10 then decide (0 ≤ a) && decide (a < 2) && decide (b = 0) && decide (n = 0)
 else if k = 11 then decide (a = 0) && decide (b = 0) && decide (n = 0)
 else false
theorem c_l2Leaf (k a b n room : Int) (vx vy : Value) (G : PH) : Pure Tryz.prog 127 [.agg #[.int .i64 k, .int .i64 a, .int .i64 b, .int .i64 n, vx, vy], .int .i64 room] G fun v G' => v = .bool (leafOk k a b n room) ∧ G' = G := by
 refine Pure.intro Tryz.func127 Tryz.ntmps127 J J fun w => ?_;refine Va J J ?_
 repeat' (first
  | (refine S_condp J (fun h => ?_) (fun h => ?_) <;> refine Va J J ?_)
  | (refine S_box J J J J J fun b => ?_; refine Va J J ?_)
  | (refine S_guard J J (fun h => ?_) (fun h => ?_) <;> refine Va J J ?_)
  | (refine S_call Tryz.call123 (c_NumOk _ _) J J J ?_; rintro v G' ⟨rfl, rfl⟩ _; refine Va J J ?_)
  | (refine S_retP Tryz.results127 J J XR ⟨?_, J⟩))
 all_goals simp_all [leafOk]
end
section
attribute [local irreducible] X Pure Mod
theorem c_iNumOk (n : Int) (G : PH) : Pure Tryz.prog 132 [.int .i64 n] G fun v G' => v = .bool (numOk n) ∧ G' = G := by
 refine Pure.intro Tryz.func132 Tryz.ntmps132 J J fun w => ?_; refine Va J J ?_;exact S_retP Tryz.results132 J J XR ⟨J, J⟩
def opOk (n : Int) : Bool := decide (1 ≤ n) && decide (n ≤ 5)
theorem c_isOp (n : Int) (G : PH) : Pure Tryz.prog 133 [.int .i64 n] G fun v G' => v = .bool (opOk n) ∧ G' = G := by
 refine Pure.intro Tryz.func133 Tryz.ntmps133 J J fun w => ?_; refine Va J J ?_;exact S_retP Tryz.results133 J J XR ⟨J, J⟩
def fitsB (n l : Int) : Bool := decide (n = 0) || (decide (0 < n) && decide (n < l))
theorem c_fits (n l : Int) (G : PH) : Pure Tryz.prog 130 [.int .i64 n, .int .i64 l] G fun v G' => v = .bool (fitsB n l) ∧ G' = G := by
 refine Pure.intro Tryz.func130 Tryz.ntmps130 J J fun w => ?_; refine Va J J ?_
 repeat' (first
  | (refine S_condp J (fun h => ?_) (fun h => ?_) <;> refine Va J J ?_) | (refine S_cond J (fun h => ?_) (fun h => ?_) <;> refine Va J J ?_) | (refine S_box J J J J J fun b => ?_; refine Va J J ?_) | (refine AZ ZT_ok J J J J fun b => ?_; refine Va J J ?_) | (refine S_guardp J J (fun h => ?_) (fun h => ?_) <;> refine Va J J ?_) | (refine S_guard J J (fun h => ?_) (fun h => ?_) <;> refine Va J J ?_)
  | (refine S_retP Tryz.results130 J J XR ⟨?_, J⟩))
 all_goals (try simp_all [fitsB])
 all_goals (try omega)
def numberOkB (k n : Int) : Bool := if k = 1 then numOk n else if k = 2 then opOk n else decide (n = 0)
theorem c_numberOk (k a b n : Int) (vx vy : Value) (G : PH) : Pure Tryz.prog 131 [.agg #[.int .i64 k, .int .i64 a, .int .i64 b, .int .i64 n, vx, vy]] G fun v G' => v = .bool (numberOkB k n) ∧ G' = G := by
 refine Pure.intro Tryz.func131 Tryz.ntmps131 J J fun w => ?_; refine Va J J ?_
 repeat' (first
  | (refine S_condp J (fun h => ?_) (fun h => ?_) <;> refine Va J J ?_) | (refine S_cond J (fun h => ?_) (fun h => ?_) <;> refine Va J J ?_) | (refine S_box J J J J J fun b => ?_; refine Va J J ?_) | (refine AZ ZT_ok J J J J fun b => ?_; refine Va J J ?_) | (refine S_guardp J J (fun h => ?_) (fun h => ?_) <;> refine Va J J ?_) | (refine S_guard J J (fun h => ?_) (fun h => ?_) <;> refine Va J J ?_)
  | (refine S_call Tryz.call132 (c_iNumOk _ _) J J J ?_; rintro v G' ⟨rfl, rfl⟩ _; refine Va J J ?_)
  | (refine S_call Tryz.call133 (c_isOp _ _) J J J ?_; rintro v G' ⟨rfl, rfl⟩ _; refine Va J J ?_)
  | (refine S_retP Tryz.results131 J J XR ⟨?_, J⟩))
 all_goals simp_all [numberOkB]
theorem u_forms : Tryz.prog.underlying 178 = some (.map 3 176) := by kernel_rfl
theorem u_int : Tryz.prog.underlying 3 = some (.int .i64) := by kernel_rfl
def formV (s : ByteArray) (a b : Int) (body els : Bool) : Value := .agg #[.string s, .int .i64 a, .int .i64 b, .bool body, .bool els]
def isForm (x a b : Int) (body els : Bool) (o : Option Value) : Prop := ∃ s, o = some (formV s a b body els)
def formsP (f : Int → Option Value) : Prop :=
 isForm 1 3 0 false false (f 1) ∧ isForm 2 3 3 false false (f 2) ∧ isForm 3 3 3 false false (f 3) ∧ isForm 4 3 3 false false (f 4) ∧ isForm 5 3 0 false false (f 5) ∧ isForm 6 3 0 true true (f 6) ∧ isForm 7 3 0 true false (f 7) ∧ isForm 8 2 0 true false (f 8) ∧
 isForm 9 2 0 false false (f 9) ∧ isForm 10 2 0 false false (f 10) ∧ isForm 11 0 0 false false (f 11) ∧ ∀ x, ¬ (1 ≤ x ∧ x ≤ 11) → f x = none
theorem findI_none {x : Int} : ∀ {es : List MapEntry}, (∀ e ∈ es, ∃ y, e.key = .int .i64 y ∧ x ≠ y) → findI x es = none := by
 intro es
 induction es with
 | nil => intro _; rfl
 | cons e es ih =>
  intro h
  obtain ⟨y, hy, hne⟩ := h e (List.mem_cons_self ..)
  obtain ⟨key, val, born⟩ := e
  simp only at hy
  subst hy
  simp only [findI, if_neg hne]
  exact ih fun e he => h e (List.mem_cons_of_mem _ he)
theorem c_forms (G : PH) : Pure Tryz.prog 129 [] G fun v G' => ∃ b es clock, v = .map (some b) ∧ G' b = some (.map es clock) ∧ (∀ e ∈ es.toList, ∃ y, e.key = .int .i64 y) ∧ formsP (fun x => findI x es.toList) := by
 refine Pure.intro Tryz.func129 Tryz.ntmps129 J J fun w => ?_; refine Va J J ?_;refine S_makeMap 1 J J fun b => ?_;refine Va J J ?_
 iterate 11
  refine S_insert 1 u_forms u_int J J J J J J J ?_;refine Va J J ?_
 refine S_freezeO 1 J J (fun _ h => h) fun hext => ?_;refine S_retP Tryz.results129 J J hext ⟨b, _, _, J, PH.add_self _ _ _, ?_, ?_⟩
 ·intro e he
  simp at he
  rcases he with rfl | rfl | rfl | rfl | rfl | rfl | rfl | rfl | rfl | rfl | rfl <;> exact ⟨_, J⟩
 ·refine ⟨⟨_, J⟩, ⟨_, J⟩, ⟨_, J⟩, ⟨_, J⟩, ⟨_, J⟩, ⟨_, J⟩, ⟨_, J⟩, ⟨_, J⟩, ⟨_, J⟩, ⟨_, J⟩, ⟨_, J⟩, ?_⟩
  intro x hx
  refine findI_none fun e he => ?_
  simp at he
  rcases he with rfl | rfl | rfl | rfl | rfl | rfl | rfl | rfl | rfl | rfl | rfl <;> exact ⟨_, J, by omega⟩
end
section
attribute [local irreducible] X Pure Mod
theorem c_CloneInt (v : Value) (n : Nat) (xs : List Value) (G : PH) (h : Sx G 1 v n xs) (h1 : ∀ u ∈ xs, u.oneCell' = true) : Pure Tryz.prog 76 [v] G fun v' G' => Sx (newp G G') 1 v' n xs := by
 obtain ⟨A, c, rfl, hn, hnc, hcm, hlen, hrow⟩ := h
 refine Pure.intro Tryz.func76 Tryz.ntmps76 J J fun w => ?_; refine Va J J ?_
 cases A with
 | none =>
  refine S_valV J J J (V_eqNil Tk J J) ?_;refine Va J J ?_;refine RT J J ?_;refine Va J J ?_;refine S_retp (Res.t1 Tryz.results76 J J) XR ⟨none, 0, ?_, by omega, ?_, by simp [maxLen], hlen, ?_⟩
  ·rcases hrow with rfl | ⟨a, h, _⟩
   ·rfl
   ·cases h
  ·rcases hrow with rfl | ⟨a, h, _⟩
   ·exact Nat.le_refl _
   ·cases h
  ·rcases hrow with rfl | ⟨a, h, _⟩
   ·exact .inl J
   ·cases h
 | some a =>
  refine S_valV J J J (V_eqNil Tk J J) ?_;refine Va J J ?_;refine RF J J ?_;refine Va J J ?_;refine S_emptyO Tk 5 J J J J fun A => ?_;refine Va J J ?_;refine S_appO Tk 5 J J J J J J J J J J J (fun _ _ => J) (src_G hlen (by
   rcases hrow with h | ⟨a', h, h2⟩
   ·exact .inl h
   ·exact .inr ⟨a', h, h2⟩)) h1 (by simp only; omega) (by simp only [maxLen]; omega) (Nat.le_refl _) fun A' c' => ?_
  refine Va J J ?_;refine S_freezeR 5 J J (Nat.le_refl _) fun G' hext hnc' hcm' hcells => ?_;refine S_retp (Res.t1 Tryz.results76 J J) hext ⟨A', c', by simp [denO], hn, by simpa using hnc', hcm', hlen, ?_⟩
  simpa using hcells
theorem c_CloneSay (v : Value) (n : Nat) (xs : List Value) (G : PH) (h : Sx G 2 v n xs) (h1 : ∀ u ∈ xs, u.oneCell' = true) : Pure Tryz.prog 77 [v] G fun v' G' => Sx (newp G G') 2 v' n xs := by
 obtain ⟨A, c, rfl, hn, hnc, hcm, hlen, hrow⟩ := h
 refine Pure.intro Tryz.func77 Tryz.ntmps77 J J fun w => ?_; refine Va J J ?_
 cases A with
 | none =>
  refine S_valV J J J (V_eqNil Tk J J) ?_;refine Va J J ?_;refine RT J J ?_;refine Va J J ?_;refine S_retp (Res.t1 Tryz.results77 J J) XR ⟨none, 0, ?_, by omega, ?_, by simp [maxLen], hlen, ?_⟩
  ·rcases hrow with rfl | ⟨a, h, _⟩
   ·rfl
   ·cases h
  ·rcases hrow with rfl | ⟨a, h, _⟩
   ·exact Nat.le_refl _
   ·cases h
  ·rcases hrow with rfl | ⟨a, h, _⟩
   ·exact .inl J
   ·cases h
 | some a =>
  refine S_valV J J J (V_eqNil Tk J J) ?_;refine Va J J ?_;refine RF J J ?_;refine Va J J ?_;refine S_emptyO Tk 5 J J J J fun A => ?_;refine Va J J ?_;refine S_appO Tk 5 J J J J J J J J J J J (fun _ _ => J) (src_G hlen (by
   rcases hrow with h | ⟨a', h, h2⟩
   ·exact .inl h
   ·exact .inr ⟨a', h, h2⟩)) h1 (by simp only; omega) (by simp only [maxLen]; omega) (Nat.le_refl _) fun A' c' => ?_
  refine Va J J ?_;refine S_freezeR 5 J J (Nat.le_refl _) fun G' hext hnc' hcm' hcells => ?_;refine S_retp (Res.t1 Tryz.results77 J J) hext ⟨A', c', by simp [denO], hn, by simpa using hnc', hcm', hlen, ?_⟩
  simpa using hcells
theorem c_CloneIntN (v : Value) (n : Nat) (xs : List Value) (G : PH) (h : Sx G 1 v n xs) (h1 : ∀ u ∈ xs, u.oneCell' = true) : Mod Tryz.prog 76 [v] G emptyHP fun v' G' A' => ∃ A c base, v' = .slice A n c ∧ G' = G ∧ A' = rowO base 3 1 A n c xs := by
 obtain ⟨A, c, rfl, hn, hnc, hcm, hlen, hrow⟩ := h
 refine Mod.intro Tryz.func76 Tryz.ntmps76 J J fun w S => ?_;refine Va J J ?_
 cases A with
 | none =>
  obtain rfl : n = 0 := by rcases hrow with h | ⟨a, h, _⟩; exact h; cases h
  obtain rfl : xs = [] := List.eq_nil_of_length_eq_zero (by simpa using hlen)
  refine S_valV J J J (V_eqNil Tk J J) ?_;refine Va J J ?_;refine RT J J ?_;refine Va J J ?_;refine S_nilO 5 (base := w.heap.size) (e := 3) (size := 1) ?_;exact S_retm 5 (Res.t1 Tryz.results76 J J) J XR ⟨none, 0, _, J, J, J⟩
 | some a =>
  refine S_valV J J J (V_eqNil Tk J J) ?_;refine Va J J ?_;refine RF J J ?_;refine Va J J ?_;refine S_emptyO Tk 5 J J J J fun A => ?_;refine Va J J ?_;refine S_appO Tk 5 J J J J J J J J J J J (fun _ _ => J) (src_G hlen (by
   rcases hrow with h | ⟨a', h, h2⟩
   ·exact .inl h
   ·exact .inr ⟨a', h, h2⟩)) h1 (by simp only; omega) (by simp only [maxLen]; omega) (Nat.le_refl _) fun A' c' => ?_
  refine Va J J ?_;refine S_retm 5 (Res.t1 Tryz.results76 J J) J XR ⟨A', c', w.heap.size, ?_, J, ?_⟩
  ·simp
  ·simp; rfl
theorem c_CloneStmN (v : Value) (n : Nat) (xs : List Value) (G : PH) (h : Sx G 6 v n xs) (h1 : ∀ u ∈ xs, u.oneCell' = true) : Mod Tryz.prog 170 [v] G emptyHP fun v' G' A' => ∃ A c base, v' = .slice A n c ∧ G' = G ∧ A' = rowO base 40 6 A n c xs := by
 obtain ⟨A, c, rfl, hn, hnc, hcm, hlen, hrow⟩ := h
 refine Mod.intro Tryz.func170 Tryz.ntmps170 J J fun w S => ?_;refine Va J J ?_
 cases A with
 | none =>
  obtain rfl : n = 0 := by rcases hrow with h | ⟨a, h, _⟩; exact h; cases h
  obtain rfl : xs = [] := List.eq_nil_of_length_eq_zero (by simpa using hlen)
  refine S_valV J J J (V_eqNil Tk J J) ?_;refine Va J J ?_;refine RT J J ?_;refine Va J J ?_;refine S_nilO 5 (base := w.heap.size) (e := 40) (size := 6) ?_;exact S_retm 5 (Res.t1 Tryz.results170 J J) J XR ⟨none, 0, _, J, J, J⟩
 | some a =>
  refine S_valV J J J (V_eqNil Tk J J) ?_;refine Va J J ?_;refine RF J J ?_;refine Va J J ?_;refine S_emptyO Tk 5 J J J J fun A => ?_;refine Va J J ?_;refine S_appO Tk 5 J J J J J J J J J J J (fun _ _ => J) (src_G hlen (by
   rcases hrow with h | ⟨a', h, h2⟩
   ·exact .inl h
   ·exact .inr ⟨a', h, h2⟩)) h1 (by simp only; omega) (by simp only [maxLen]; omega) (Nat.le_refl _) fun A' c' => ?_
  refine Va J J ?_;refine S_retm 5 (Res.t1 Tryz.results170 J J) J XR ⟨A', c', w.heap.size, ?_, J, ?_⟩
  ·simp
  ·simp; rfl
theorem c_Grow (n : Nat) (G : PH) (hn : n ≤ 3000000000) : Mod Tryz.prog 168 [.slice none 0 0, .int .i64 n] G emptyHP fun v G' A' => ∃ A c base, v = .slice A 0 c ∧ G' = G ∧ n ≤ c ∧ A' = rowO base 40 6 A 0 c [] := by
 refine Mod.intro Tryz.func168 Tryz.ntmps168 J J fun w S => ?_;refine Va J J ?_;refine RF J (by simp) ?_;refine Va J J ?_;refine S_valV J J J (V_cap Tk J J) ?_;refine Va J J ?_;refine S_subI J J J J (by omega) ?_;refine S_subI J J J J (by omega) ?_;refine Va J J ?_
 by_cases h0 : n = 0
 ·subst h0
  refine RF J J ?_;refine Va J J ?_;refine S_nilO 5 (base := w.heap.size) (e := 40) (size := 6) ?_;exact S_retm 5 (Res.t1 Tryz.results168 J J) J XR ⟨none, 0, w.heap.size, J, J, Nat.le_refl _, J⟩
 ·refine RT J (by simp; omega) ?_
  refine Va J J ?_;refine S_valV J J J (V_cap Tk J J) ?_;refine S_valV J J J (V_slice0 Tk J J J J) ?_;refine Va J J ?_
  refine S_growNil Tk 5 (n := n) J J J J J u_int J J J (by show some _ = some _; congr 3 <;> omega) (by omega) (by simp only [maxLen]; omega) (by simp only; omega) fun A c hc => ?_
  refine Va J J ?_;refine S_valV J J J (V_slice0 Tk J J J J) ?_;refine Va J J ?_;exact S_retm 5 (Res.t1 Tryz.results168 J J) J XR ⟨A, c, w.heap.size, J, J, hc, J⟩
theorem c_Concat (v v1 v2 : Value) (n1 n2 : Nat) (xs1 xs2 : List Value) (G : PH) (h : Sx G 1 v 2 [v1, v2]) (h1 : Sx G 6 v1 n1 xs1) (h2 : Sx G 6 v2 n2 xs2) (o1 : ∀ u ∈ xs1, u.oneCell' = true) (o2 : ∀ u ∈ xs2, u.oneCell' = true) (hsum : n1 + n2 ≤ 1000000000) :
  Pure Tryz.prog 167 [v] G fun v' G' => Sx (newp G G') 6 v' (n1 + n2) (xs1 ++ xs2) := by
 obtain ⟨A, c, rfl, hn, hnc, hcm, hlen, hrow⟩ := h
 obtain ⟨A1, c1, rfl, hn1, hnc1, hcm1, hlen1, hrow1⟩ := h1
 obtain ⟨A2, c2, rfl, hn2, hnc2, hcm2, hlen2, hrow2⟩ := h2
 obtain ⟨ad, rfl, hcells⟩ : ∃ ad, A = some ad ∧ gcells G ad [.slice A1 n1 c1, .slice A2 n2 c2] := by
  rcases hrow with h | h
  ·omega
  ·exact h
 refine Pure.intro Tryz.func167 Tryz.ntmps167 J J fun w => ?_; refine Va J J ?_;refine S_unroll 2 ?_;refine Va J J ?_;refine RT J J ?_;refine Va J J ?_;refine S_index Tk J J J J J J (by omega) (by omega) ?_;refine S_load Tk J J J J J (by simpa [add_zero'] using hcells.1) ?_;refine Va J J ?_;refine S_add J J J J (by omega) ?_;refine Va J J ?_;refine RF J (by simp) ?_;refine Va J J ?_;refine S_add J J J J (by omega) ?_
 refine Va J J ?_;refine S_next ?_;refine Va J J ?_;refine RT J J ?_;refine Va J J ?_;refine S_index Tk J J J J J J (by omega) (by omega) ?_;refine S_load Tk J J J J J (by simpa using hcells.2.1) ?_;refine Va J J ?_;refine S_add J J J J (by omega) ?_;refine Va J J ?_;refine RF J (by simp; omega) ?_;refine Va J J ?_;refine S_add J J J J (by omega) ?_;refine Va J J ?_;refine S_next ?_;refine Va J J ?_
 refine RF J J ?_;refine Va J J ?_;refine S_newE 7 ?_;refine S_callM 7 Tryz.call168 (c_Grow (n1 + n2) _ (by omega)) J J (by show some [Value.slice none 0 0, Value.int .i64 (0 + (n1 : Int) + n2)] = _; rw [show ((0 : Int) + n1 + n2) = ((n1 + n2 : Nat) : Int) by omega]) rfl (fun _ => rfl) ?_;rintro v' G' A' ⟨A, cg, base, rfl, rfl, hcg, rfl⟩ hext
 refine S_rebase 7 (fun _ h => h) J J ?_;refine Va J J ?_;refine S_unroll 2 ?_;refine Va J J ?_;refine RT J J ?_;refine Va J J ?_;refine S_index Tk J J J J J J (by omega) (by omega) ?_;refine S_load Tk J J J J J (by simpa [add_zero'] using hcells.1) ?_;refine Va J J ?_;refine S_appO Tk 7 J J J J J J J J J J J (fun _ _ => J) (src_G hlen1 hrow1) o1 (by simp only; omega) (by simp only [maxLen]; omega) (Nat.le_refl _) fun A1' c1' => ?_
 refine Va J J ?_;refine S_add J J J J (by omega) ?_;refine Va J J ?_;refine S_next ?_;refine Va J J ?_;refine RT J J ?_;refine Va J J ?_;refine S_index Tk J J J J J J (by omega) (by omega) ?_;refine S_load Tk J J J J J (by simpa using hcells.2.1) ?_;refine Va J J ?_;refine S_appO Tk 7 J J J J J J J J J J J (fun _ _ => J) (src_G hlen2 hrow2) o2 (by simp only; omega) (by simp only [maxLen]; omega) (Nat.le_refl _) fun A2' c2' => ?_
 refine Va J J ?_;refine S_add J J J J (by omega) ?_;refine Va J J ?_;refine S_next ?_;refine Va J J ?_;refine RF J J ?_;refine Va J J ?_;refine S_freezeR 7 J J (Nat.le_refl _) fun G' hext' hnc' hcm' hcl => ?_;refine S_retp (Res.t1 Tryz.results167 J J) hext' ⟨A2', c2', by simp, hsum, by simpa using hnc', hcm', by rw [List.length_append, hlen1, hlen2, Nat.add_mul], ?_⟩
 simpa using hcl
end
section
attribute [local irreducible] X Pure Mod
def cutN (n : Int) : Int := if 999 < n then 999 else if n < -999 then -999 else n
def b2i (b : Bool) : Int := if b then 1 else 0
def doOp (op a b : Int) : Int :=
 if op = 1 then cutN (a + b) else if op = 2 then cutN (a - b) else if op = 3 then cutN (a * b) else if op = 4 then b2i (decide (a < b)) else if op = 5 then b2i (decide (a = b)) else 0
def numDo (op a b : Int) : Int × Bool := if numOk a && numOk b && opOk op then (doOp op a b, true) else (0, false)
theorem c_NumCut (n : Int) (G : PH) : Pure Tryz.prog 124 [.int .i64 n] G fun v G' => v = .int .i64 (cutN n) ∧ G' = G := by
 refine Pure.intro Tryz.func124 Tryz.ntmps124 J J fun w => ?_; refine Va J J ?_
 repeat' (first
  | (refine S_condp J (fun h => ?_) (fun h => ?_) <;> refine Va J J ?_) | (refine S_cond J (fun h => ?_) (fun h => ?_) <;> refine Va J J ?_) | (refine S_box J J J J J fun b => ?_; refine Va J J ?_) | (refine AZ ZT_ok J J J J fun b => ?_; refine Va J J ?_) | (refine S_guardp J J (fun h => ?_) (fun h => ?_) <;> refine Va J J ?_) | (refine S_guard J J (fun h => ?_) (fun h => ?_) <;> refine Va J J ?_)
  | (refine S_retP Tryz.results124 J J XR ⟨?_, J⟩))
 all_goals (congr 1; simp only [cutN]; repeat' split)
 all_goals omega
theorem c_l1If (b : Bool) (G : PH) : Pure Tryz.prog 125 [.bool b] G fun v G' => v = .int .i64 (b2i b) ∧ G' = G := by
 refine Pure.intro Tryz.func125 Tryz.ntmps125 J J fun w => ?_; refine Va J J ?_
 refine S_cond J (fun h => ?_) (fun h => ?_) <;> refine Va J J ?_ <;> (refine S_retP Tryz.results125 J J XR ⟨?_, J⟩) <;> simp [b2i, h]
theorem numOk_iff {n : Int} : numOk n = true ↔ -999 ≤ n ∧ n ≤ 999 := by simp [numOk]
theorem mul_bnd {a b : Int} (ha : -999 ≤ a ∧ a ≤ 999) (hb : -999 ≤ b ∧ b ≤ 999) : -998001 ≤ a * b ∧ a * b ≤ 998001 := by
 have h1 : a.natAbs ≤ 999 := by omega
 have h2 : b.natAbs ≤ 999 := by omega
 have h3 : (a * b).natAbs ≤ 998001 := by rw [Int.natAbs_mul]; exact Nat.le_trans (Nat.mul_le_mul h1 h2) (by decide)
 omega
theorem c_NumDo (op a b : Int) (G : PH) : Pure Tryz.prog 117 [.int .i64 op, .int .i64 a, .int .i64 b] G fun v G' => v = .tuple #[.int .i64 (numDo op a b).1, .bool (numDo op a b).2] ∧ G' = G := by
 refine Pure.intro Tryz.func117 Tryz.ntmps117 J J fun w => ?_; refine Va J J ?_;refine S_call Tryz.call123 (c_NumOk _ _) J J J ?_;rintro v G' ⟨rfl, rfl⟩ _
 refine Va J J ?_
 by_cases ha : numOk a = true
 rotate_left
 ·refine GT J J (by simp [ha]) ?_
  refine Va J J ?_;exact S_retp (Res.t2 Tryz.results117 J J J J) XR ⟨by simp [numDo, ha], J⟩
 refine GF J J (by simp [ha]) ?_;refine Va J J ?_;refine S_call Tryz.call123 (c_NumOk _ _) J J J ?_;rintro v G' ⟨rfl, rfl⟩ _
 refine Va J J ?_
 by_cases hb : numOk b = true
 rotate_left
 ·refine RT J (by simp [hb]) ?_
  refine Va J J ?_;exact S_retp (Res.t2 Tryz.results117 J J J J) XR ⟨by simp [numDo, hb], J⟩
 refine RF J (by simp [hb]) ?_;refine Va J J ?_
 have qa := numOk_iff.1 ha
 have qb := numOk_iff.1 hb
 have qm := mul_bnd qa qb
 repeat' (first
  | (refine S_condp J (fun h => ?_) (fun h => ?_) <;> refine Va J J ?_)
  | (refine S_add J J J J (by omega) ?_; refine Va J J ?_)
  | (refine S_subI J J J J (by omega) ?_; refine Va J J ?_)
  | (refine S_mul J J J J (by omega) ?_; refine Va J J ?_)
  | (refine S_call Tryz.call124 (c_NumCut _ _) J J J ?_; rintro v G' ⟨rfl, rfl⟩ _; refine Va J J ?_)
  | (refine S_call Tryz.call125 (c_l1If _ _) J J J ?_; rintro v G' ⟨rfl, rfl⟩ _; refine Va J J ?_)
  | exact S_retp (Res.t2 Tryz.results117 J J J J) XR ⟨by first | (simp_all [numDo, doOp, opOk]; done) | (rw [numDo, if_neg (by simp [opOk]; omega)]), rfl⟩)
theorem c_truth (b : Bool) (G : PH) : Pure Tryz.prog 162 [.bool b] G fun v G' => v = .int .i64 (b2i b) ∧ G' = G := by
 refine Pure.intro Tryz.func162 Tryz.ntmps162 J J fun w => ?_; refine Va J J ?_
 refine S_cond J (fun h => ?_) (fun h => ?_) <;> refine Va J J ?_ <;> (refine S_retP Tryz.results162 J J XR ⟨?_, J⟩) <;> simp [b2i, h]
theorem c_iNumCut (n : Int) (G : PH) : Pure Tryz.prog 161 [.int .i64 n] G fun v G' => v = .int .i64 (cutN n) ∧ G' = G := by
 refine Pure.intro Tryz.func161 Tryz.ntmps161 J J fun w => ?_; refine Va J J ?_;refine S_valV J J J (V_min J J) ?_;refine S_valV J J J (V_max J J) ?_;refine Va J J ?_;refine S_retp (Res.t1 Tryz.results161 J J) XR ⟨?_, J⟩
 congr 1
 unfold cutN
 repeat' split
 all_goals omega
theorem c_nadd (a b : Int) (G : PH) (h : -1998 ≤ a + b ∧ a + b ≤ 1998) : Pure Tryz.prog 156 [.int .i64 a, .int .i64 b] G fun v G' => v = .int .i64 (a + b) ∧ G' = G := by
 refine Pure.intro Tryz.func156 Tryz.ntmps156 J J fun w => ?_; refine Va J J ?_;refine S_add J J J J (by omega) ?_;refine Va J J ?_;exact S_retp (Res.t1 Tryz.results156 J J) XR ⟨J, J⟩
theorem c_nsub (a b : Int) (G : PH) (h : -1998 ≤ a - b ∧ a - b ≤ 1998) : Pure Tryz.prog 157 [.int .i64 a, .int .i64 b] G fun v G' => v = .int .i64 (a - b) ∧ G' = G := by
 refine Pure.intro Tryz.func157 Tryz.ntmps157 J J fun w => ?_; refine Va J J ?_;refine S_subI J J J J (by omega) ?_;refine Va J J ?_;exact S_retp (Res.t1 Tryz.results157 J J) XR ⟨J, J⟩
theorem c_nmul (a b : Int) (G : PH) (h : -998001 ≤ a * b ∧ a * b ≤ 998001) : Pure Tryz.prog 158 [.int .i64 a, .int .i64 b] G fun v G' => v = .int .i64 (a * b) ∧ G' = G := by
 refine Pure.intro Tryz.func158 Tryz.ntmps158 J J fun w => ?_; refine Va J J ?_;refine S_mul J J J J (by omega) ?_;refine Va J J ?_;exact S_retp (Res.t1 Tryz.results158 J J) XR ⟨J, J⟩
theorem c_nless (a b : Int) (G : PH) : Pure Tryz.prog 159 [.int .i64 a, .int .i64 b] G fun v G' => v = .int .i64 (b2i (decide (a < b))) ∧ G' = G := by
 refine Pure.intro Tryz.func159 Tryz.ntmps159 J J fun w => ?_; refine Va J J ?_
 (refine S_call Tryz.call162 (c_truth _ _) J J J ?_; rintro v G' ⟨rfl, rfl⟩ _; refine Va J J ?_)
 exact S_retp (Res.t1 Tryz.results159 J J) XR ⟨J, J⟩
theorem c_nsame (a b : Int) (G : PH) : Pure Tryz.prog 160 [.int .i64 a, .int .i64 b] G fun v G' => v = .int .i64 (b2i (decide (a = b))) ∧ G' = G := by
 refine Pure.intro Tryz.func160 Tryz.ntmps160 J J fun w => ?_; refine Va J J ?_
 (refine S_call Tryz.call162 (c_truth _ _) J J J ?_; rintro v G' ⟨rfl, rfl⟩ _; refine Va J J ?_)
 exact S_retp (Res.t1 Tryz.results160 J J) XR ⟨J, J⟩
theorem cutN_b2i (b : Bool) : cutN (b2i b) = b2i b := by cases b <;> rfl
theorem built_table : Tryz.prog.built 203 [(1, .func (.func 156) #[] #[]), (2, .func (.func 157) #[] #[]), (3, .func (.func 158) #[] #[]), (4, .func (.func 159) #[] #[]), (5, .func (.func 160) #[] #[])] =
  some #[.nilFunc, .func (.func 156) #[] #[], .func (.func 157) #[] #[], .func (.func 158) #[] #[], .func (.func 159) #[] #[], .func (.func 160) #[] #[]] := by kernel_rfl
theorem c_iNumDo (op a b : Int) (G : PH) : Pure Tryz.prog 155 [.int .i64 op, .int .i64 a, .int .i64 b] G fun v G' => v = .tuple #[.int .i64 (numDo op a b).1, .bool (numDo op a b).2] ∧ G' = G := by
 refine Pure.intro Tryz.func155 Tryz.ntmps155 J J fun w => ?_; refine Va J J ?_;refine S_valV (v := .agg #[.nilFunc, .func (.func 156) #[] #[], .func (.func 157) #[] #[], .func (.func 158) #[] #[], .func (.func 159) #[] #[], .func (.func 160) #[] #[]]) J J J (V_builtC J built_table) ?_;refine AZ ZT_ok J J J J fun b5 => ?_;refine Va J J ?_
 (refine S_call Tryz.call133 (c_isOp _ _) J J J ?_; rintro v G' ⟨rfl, rfl⟩ _; refine Va J J ?_)
 by_cases ho : opOk op = true
 rotate_left
 ·refine GT J J (by simp [ho]) ?_
  refine Va J J ?_;exact S_retp (Res.t2 Tryz.results155 J J J J) XR ⟨by simp [numDo, ho], J⟩
 refine GF J J (by simp [ho]) ?_;refine Va J J ?_
 (refine S_call Tryz.call132 (c_iNumOk _ _) J J J ?_; rintro v G' ⟨rfl, rfl⟩ _; refine Va J J ?_)
 by_cases ha : numOk a = true
 rotate_left
 ·refine GT J J (by simp [ho, ha]) ?_
  refine Va J J ?_;exact S_retp (Res.t2 Tryz.results155 J J J J) XR ⟨by simp [numDo, ha], J⟩
 refine GF J J (by simp [ho, ha]) ?_;refine Va J J ?_
 (refine S_call Tryz.call132 (c_iNumOk _ _) J J J ?_; rintro v G' ⟨rfl, rfl⟩ _; refine Va J J ?_)
 by_cases hb : numOk b = true
 rotate_left
 ·refine RT J (by simp [ho, ha, hb]) ?_
  refine Va J J ?_;exact S_retp (Res.t2 Tryz.results155 J J J J) XR ⟨by simp [numDo, hb], J⟩
 refine RF J (by simp [ho, ha, hb]) ?_
 have qa := numOk_iff.1 ha
 have qb := numOk_iff.1 hb
 have qm := mul_bnd qa qb
 have qo : op = 1 ∨ op = 2 ∨ op = 3 ∨ op = 4 ∨ op = 5 := by simp [opOk] at ho; omega
 rcases qo with rfl | rfl | rfl | rfl | rfl
 ·refine Va J J ?_
  refine S_callV (vs := [.int .i64 a, .int .i64 b]) (cap := #[]) J Tryz.call156 (c_nadd a b _ (by omega)) J J J ?_;rintro v G' ⟨rfl, rfl⟩ _
  (refine S_call Tryz.call161 (c_iNumCut _ _) J J J ?_; rintro v G' ⟨rfl, rfl⟩ _; refine Va J J ?_)
  exact S_retp (Res.t2 Tryz.results155 J J J J) XR ⟨by simp [numDo, ha, hb, ho, doOp], J⟩
 ·refine Va J J ?_
  refine S_callV (vs := [.int .i64 a, .int .i64 b]) (cap := #[]) J Tryz.call157 (c_nsub a b _ (by omega)) J J J ?_;rintro v G' ⟨rfl, rfl⟩ _
  (refine S_call Tryz.call161 (c_iNumCut _ _) J J J ?_; rintro v G' ⟨rfl, rfl⟩ _; refine Va J J ?_)
  exact S_retp (Res.t2 Tryz.results155 J J J J) XR ⟨by simp [numDo, ha, hb, ho, doOp], J⟩
 ·refine Va J J ?_
  refine S_callV (vs := [.int .i64 a, .int .i64 b]) (cap := #[]) J Tryz.call158 (c_nmul a b _ (by omega)) J J J ?_;rintro v G' ⟨rfl, rfl⟩ _
  (refine S_call Tryz.call161 (c_iNumCut _ _) J J J ?_; rintro v G' ⟨rfl, rfl⟩ _; refine Va J J ?_)
  exact S_retp (Res.t2 Tryz.results155 J J J J) XR ⟨by simp [numDo, ha, hb, ho, doOp], J⟩
 ·refine Va J J ?_
  refine S_callV (vs := [.int .i64 a, .int .i64 b]) (cap := #[]) J Tryz.call159 (c_nless a b _) J J J ?_;rintro v G' ⟨rfl, rfl⟩ _
  (refine S_call Tryz.call161 (c_iNumCut _ _) J J J ?_; rintro v G' ⟨rfl, rfl⟩ _; refine Va J J ?_)
  exact S_retp (Res.t2 Tryz.results155 J J J J) XR ⟨by simp [numDo, ha, hb, ho, doOp, cutN_b2i], J⟩
 ·refine Va J J ?_
  refine S_callV (vs := [.int .i64 a, .int .i64 b]) (cap := #[]) J Tryz.call160 (c_nsame a b _) J J J ?_;rintro v G' ⟨rfl, rfl⟩ _
  (refine S_call Tryz.call161 (c_iNumCut _ _) J J J ?_; rintro v G' ⟨rfl, rfl⟩ _; refine Va J J ?_)
  exact S_retp (Res.t2 Tryz.results155 J J J J) XR ⟨by simp [numDo, ha, hb, ho, doOp, cutN_b2i], J⟩
end
section
attribute [local irreducible] X Pure Mod
theorem shape {G : PH} {ps : List Prc} {ts : List Value} (h1 : 1 ≤ ps.length) (h3 : ps.length ≤ 3) (ht : Tds G ps ts) :
  (∃ p0 A0 c0, ps = [p0] ∧ ts = [.slice A0 p0.todo.length c0] ∧ Sts G p0.todo (.slice A0 p0.todo.length c0)) ∨
  (∃ p0 A0 c0 p1 A1 c1, ps = [p0, p1] ∧ ts = [.slice A0 p0.todo.length c0, .slice A1 p1.todo.length c1] ∧ Sts G p0.todo (.slice A0 p0.todo.length c0) ∧ Sts G p1.todo (.slice A1 p1.todo.length c1)) ∨
  (∃ p0 A0 c0 p1 A1 c1 p2 A2 c2, ps = [p0, p1, p2] ∧ ts = [.slice A0 p0.todo.length c0, .slice A1 p1.todo.length c1, .slice A2 p2.todo.length c2] ∧ Sts G p0.todo (.slice A0 p0.todo.length c0) ∧ Sts G p1.todo (.slice A1 p1.todo.length c1) ∧ Sts G p2.todo (.slice A2 p2.todo.length c2)) := by
 have one : ∀ {p : Prc} {v : Value}, Sts G p.todo v → ∃ A c, v = .slice A p.todo.length c := fun h => ⟨h.choose, h.choose_spec.choose, h.choose_spec.choose_spec.1⟩
 match ps, ts, ht, h1, h3 with
 | [p0], [v0], h, _, _ =>
  obtain ⟨A0, c0, rfl⟩ := one h.1
  exact .inl ⟨p0, A0, c0, J, J, h.1⟩
 | [p0, p1], [v0, v1], h, _, _ =>
  obtain ⟨A0, c0, rfl⟩ := one h.1
  obtain ⟨A1, c1, rfl⟩ := one h.2.1
  exact .inr (.inl ⟨p0, A0, c0, p1, A1, c1, J, J, h.1, h.2.1⟩)
 | [p0, p1, p2], [v0, v1, v2], h, _, _ =>
  obtain ⟨A0, c0, rfl⟩ := one h.1
  obtain ⟨A1, c1, rfl⟩ := one h.2.1
  obtain ⟨A2, c2, rfl⟩ := one h.2.2.1
  exact .inr (.inr ⟨p0, A0, c0, p1, A1, c1, p2, A2, c2, J, J, h.1, h.2.1, h.2.2.1⟩)
 | _ :: _ :: _ :: _ :: _, _, _, _, h3 => simp at h3
 | [], _, _, h1, _ => simp at h1
def codeP (W : Wld) (p : Prc) : Int :=
 if p.mode = 1 then 2
 else if p.mode = 2 then (if W.rm p.room = 0 then 0 else 2)
 else match p.todo with
  | [] => 1
  | s :: _ => if s.kind = 8 then (if W.rm s.a = 0 then 0 else 2) else 0
def codeOf (W : Wld) (who : Int) : Int :=
 if who < 0 ∨ (W.procs.length : Int) ≤ who then 3 else match W.procs[who.toNat]? with
  | some p => codeP W p
  | none => 3
def HeadOk (p : Prc) : Prop := (p.mode = 2 → p.room = 0 ∨ p.room = 1) ∧ ∀ s r, p.todo = s :: r → s.kind = 8 → s.a = 0 ∨ s.a = 1
theorem Sts_head {G : PH} {s : Stm} {r : List Stm} {A : Option Addr} {n c : Nat} (h : Sts G (s :: r) (.slice A n c)) :
  ∃ ad vx vy, A = some ad ∧ gcells G ad [.int .i64 s.kind, .int .i64 s.a, .int .i64 s.b, .int .i64 s.n, vx, vy] ∧ Sts G s.body vx ∧ Sts G s.els vy ∧ I64 s.kind ∧ I64 s.a ∧ I64 s.b ∧ I64 s.n := by
 obtain ⟨ad, cs, rfl, h1, h2⟩ := Sr_at h (k := 0) (by simp)
 rw [show (0 : Nat) * 6 = 0 from rfl, add_zero'] at h1
 obtain ⟨k, a, b, n, x, y⟩ := s
 obtain ⟨vx, vy, rfl, i1, i2, i3, i4, hx, hy⟩ := Stm.rep_iff.1 h2
 exact ⟨ad, vx, vy, J, h1, hx, hy, i1, i2, i3, i4⟩
theorem c_code (W : Wld) (who : Int) (b : Nat) (ts : List Value) (G : PH) (h1 : 1 ≤ W.procs.length) (h3 : W.procs.length ≤ 3) (ht : Tds G W.procs ts) (hh : ∀ p ∈ W.procs, HeadOk p) :
  Mod Tryz.prog 46 [.pointer (some ⟨b, 0, none⟩), .int .i64 who] G (worldP b W ts) fun v G' A' => v = .int .i64 (codeOf W who) ∧ G' = G ∧ A' = worldP b W ts := by
 refine Mod.intro Tryz.func46 Tryz.ntmps46 J J fun w S => ?_;obtain ⟨ps, x0, x1, x2, m0, m1, q0, q1, sd⟩ := W
 rcases shape h1 h3 ht with ⟨⟨a0, a1, a2, td0, mo0, on0, ro0⟩, A0, k0, rfl, rfl, s0⟩ | ⟨⟨a0, a1, a2, td0, mo0, on0, ro0⟩, A0, k0, ⟨b0, b1, b2, td1, mo1, on1, ro1⟩, A1, k1, rfl, rfl, s0, s1⟩ | ⟨⟨a0, a1, a2, td0, mo0, on0, ro0⟩, A0, k0, ⟨b0, b1, b2, td1, mo1, on1, ro1⟩, A1, k1, ⟨d0, d1, d2, td2, mo2, on2, ro2⟩, A2, k2, rfl, rfl, s0, s1, s2⟩
 ·by_cases hw : who < 0 ∨ 1 ≤ who
  ·refine OpP 1 0 J J J J fun bp bc br bs bg kp sp asd ksd aq0 kq0 aq1 kq1 kc spc kr spr ks sps kg spg hbg hmk => ?_; obtain ⟨g0, rfl⟩ := len1 hbg; clear hbg; refine NM J J ?_; dsimp only [wEnts, wCels, procCs, regEs, WX.of, vi]
   refine Va J J ?_
   refine RT J (by simp <;> omega) ?_
   refine Va J J ?_
   exact RK (1007 :: wKeys 1) (Res.t1 Tryz.results46 J J) ⟨by rw [codeOf, if_pos (by simp <;> omega)], rfl, rfl⟩ (Wpp [_] kg spg rfl ‹_› rfl rfl rfl rfl rfl rfl rfl rfl) rfl (.blk rfl rfl (Wsub 5 rfl rfl rfl rfl rfl rfl rfl rfl rfl rfl rfl rfl rfl rfl rfl rfl (Bs 3 rfl rfl rfl rfl .nil))) XR
  obtain rfl : who = 0 := by omega
  have hh0 := hh _ (List.mem_cons_self ..)
  refine OpP 1 0 J J J J fun bp bc br bs bg kp sp asd ksd aq0 kq0 aq1 kq1 kc spc kr spr ks sps kg spg hbg hmk => ?_; obtain ⟨g0, rfl⟩ := len1 hbg; clear hbg; refine NM J J ?_; dsimp only [wEnts, wCels, procCs, regEs, WX.of, vi]
  refine Va J J ?_;refine RF J J ?_;refine Va J J ?_;refine AZ ZT_ok J J J J fun b5 => ?_;refine Va J J ?_
  by_cases hm1 : mo0 = 1
  ·refine RT J (by simp [hm1]) ?_
   refine Va J J ?_;refine RT J (by simp [hm1]) ?_;refine Va J J ?_;exact RK (1007 :: wKeys 1) (Res.t1 Tryz.results46 J J) ⟨by simp [codeOf, codeP, hm1], J, J⟩ (Wpp [_] kg spg J ‹_› J J J J J J J J) J (.blk J J (Wsub 5 J J J J J J J J J J J J J J J J (Bs 3 J J J J .nil))) XR
  by_cases hm2 : mo0 = 2
  ·subst hm2
   have hro := hh0.1 rfl
   simp only at hro
   rcases hro with rfl | rfl <;>
   ·refine RF J J ?_
    refine Va J J ?_;refine Ds J J J ?_;refine Da J J ?_;refine D_setP 31 (b := true) J J ?_;refine Da J J ?_;refine DD ?_;refine Va J J ?_
    refine S_condp J (fun h => ?_) (fun h => ?_) <;> refine Va J J ?_
    ·exact RK (1007 :: wKeys 1) (Res.t1 Tryz.results46 J J) ⟨by simp [codeOf, codeP, Wld.rm, h], J, J⟩ (Wpp [_] kg spg J ‹_› J J J J J J J J) J (.blk J J (Wsub 5 J J J J J J J J J J J J J J J J (Bs 3 J J J J .nil))) XR
    ·refine RT J J ?_
     refine Va J J ?_;exact RK (1007 :: wKeys 1) (Res.t1 Tryz.results46 J J) ⟨by have h' := Classical.not_not.1 h; simp [codeOf, codeP, Wld.rm, h'], rfl, rfl⟩ (Wpp [_] kg spg rfl ‹_› rfl rfl rfl rfl rfl rfl rfl rfl) rfl (.blk rfl rfl (Wsub 5 rfl rfl rfl rfl rfl rfl rfl rfl rfl rfl rfl rfl rfl rfl rfl rfl (Bs 3 rfl rfl rfl rfl .nil))) XR
  refine RF J (by simp [hm1]) ?_;refine Va J J ?_;refine Ds J J J ?_;refine Da J J ?_;refine D_split 31 J (fun _ => J) (fun h => absurd h (by simp [hm2])) (fun h => ?_)
  refine Da J J ?_;refine DD ?_;refine Va J J ?_;refine RF J (by simp [hm2]) ?_;refine Va J J ?_
  rcases hTD : td0 with _ | ⟨s, r⟩
  ·subst hTD
   refine RT J J ?_;refine Va J J ?_;exact RK (1007 :: wKeys 1) (Res.t1 Tryz.results46 J J) ⟨by simp [codeOf, codeP, hm1, hm2], J, J⟩ (Wpp [_] kg spg J ‹_› J J J J J J J J) J (.blk J J (Wsub 5 J J J J J J J J J J J J J J J J (Bs 3 J J J J .nil))) XR
  subst hTD
  obtain ⟨ad, vx, vy, rfl, hcs, _⟩ := Sts_head s0
  refine RF J (by simp <;> omega) ?_
  refine Va J J ?_
  by_cases hk8 : s.kind = 8
  ·have hsa := hh0.2 s r rfl hk8
   obtain ⟨sk, sa, sb, sn, sx, sy⟩ := s
   simp only [Stm.kind, Stm.a] at hk8 hsa hcs
   subst hk8
   rcases hsa with rfl | rfl <;>
   ·refine Ds J J J ?_
    refine Da J J ?_
    refine D_val 2 J J J J J J J J J (V_index Tk J J J J (by omega) (by simp <;> omega)) ?_
    refine Da J J ?_;refine D_val 4 J J J J J J J J J (V_load Tk J J J (by simpa [add_add', add_zero'] using gcells_at hcs 0 _ J)) ?_;refine Da J J ?_;refine D_setP 58 (b := true) J J ?_;refine Da J J ?_
    refine D_val 13 J J J J J J J J J (V_index Tk J J J J (by omega) (by simp <;> omega)) ?_
    refine Da J J ?_;refine D_val 15 J J J J J J J J J (V_load Tk J J J (by simpa [add_add', add_zero'] using gcells_at hcs 1 _ J)) ?_;refine Da J J ?_;refine DD ?_;refine Va J J ?_
    refine S_condp J (fun h => ?_) (fun h => ?_) <;> refine Va J J ?_
    ·exact RK (1007 :: wKeys 1) (Res.t1 Tryz.results46 J J) ⟨by simp [codeOf, codeP, Wld.rm, hm1, hm2, Stm.kind, Stm.a, h], J, J⟩ (Wpp [_] kg spg J ‹_› J J J J J J J J) J (.blk J J (Wsub 5 J J J J J J J J J J J J J J J J (Bs 3 J J J J .nil))) XR
    ·exact RK (1007 :: wKeys 1) (Res.t1 Tryz.results46 J J) ⟨by have h' := Classical.not_not.1 h; simp [codeOf, codeP, Wld.rm, hm1, hm2, Stm.kind, Stm.a, h'], rfl, rfl⟩ (Wpp [_] kg spg rfl ‹_› rfl rfl rfl rfl rfl rfl rfl rfl) rfl (.blk rfl rfl (Wsub 5 rfl rfl rfl rfl rfl rfl rfl rfl rfl rfl rfl rfl rfl rfl rfl rfl (Bs 3 rfl rfl rfl rfl .nil))) XR
  refine Ds J J J ?_;refine Da J J ?_
  refine D_val 2 J J J J J J J J J (V_index Tk J J J J (by omega) (by simp <;> omega)) ?_
  refine Da J J ?_;refine D_val 4 J J J J J J J J J (V_load Tk J J J (by simpa [add_add', add_zero'] using gcells_at hcs 0 _ J)) ?_;refine Da J J ?_;refine D_split 58 J (fun _ => J) (fun h => absurd h (by simp [hk8])) (fun h => ?_)
  refine Da J J ?_;refine DD ?_;refine Va J J ?_;exact RK (1007 :: wKeys 1) (Res.t1 Tryz.results46 J J) ⟨by simp [codeOf, codeP, hm1, hm2, hk8], J, J⟩ (Wpp [_] kg spg J ‹_› J J J J J J J J) J (.blk J J (Wsub 5 J J J J J J J J J J J J J J J J (Bs 3 J J J J .nil))) XR
 ·have hh0 := hh _ (List.mem_cons_self ..)
  have hh1 := hh _ (List.mem_cons_of_mem _ (List.mem_cons_self ..))
  by_cases hw : who < 0 ∨ 2 ≤ who
  ·refine OpP 1 0 J J J J fun bp bc br bs bg kp sp asd ksd aq0 kq0 aq1 kq1 kc spc kr spr ks sps kg spg hbg hmk => ?_; obtain ⟨g0, g1, rfl⟩ := len2 hbg; clear hbg; refine NM J J ?_; dsimp only [wEnts, wCels, procCs, regEs, WX.of, vi]
   refine Va J J ?_
   refine RT J (by simp <;> omega) ?_
   refine Va J J ?_
   exact RK (1007 :: wKeys 2) (Res.t1 Tryz.results46 J J) ⟨by rw [codeOf, if_pos (by simp <;> omega)], rfl, rfl⟩ (Wpp [_, _] kg spg rfl ‹_› rfl rfl rfl rfl rfl rfl rfl rfl) rfl (.blk rfl rfl (Wsub 10 rfl rfl rfl rfl rfl rfl rfl rfl rfl rfl rfl rfl rfl rfl rfl rfl (Bs 3 rfl rfl rfl rfl (Bs 3 rfl rfl rfl rfl .nil)))) XR
  rcases (by omega : who = 0 ∨ who = 1) with rfl | rfl
  ·refine OpP 1 0 J J J J fun bp bc br bs bg kp sp asd ksd aq0 kq0 aq1 kq1 kc spc kr spr ks sps kg spg hbg hmk => ?_; obtain ⟨g0, g1, rfl⟩ := len2 hbg; clear hbg; refine NM J J ?_; dsimp only [wEnts, wCels, procCs, regEs, WX.of, vi]
   refine Va J J ?_;refine RF J J ?_;refine Va J J ?_;refine AZ ZT_ok J J J J fun b5 => ?_;refine Va J J ?_
   by_cases hm1 : mo0 = 1
   ·refine RT J (by simp [hm1]) ?_
    refine Va J J ?_;refine RT J (by simp [hm1]) ?_;refine Va J J ?_;exact RK (1007 :: wKeys 2) (Res.t1 Tryz.results46 J J) ⟨by simp [codeOf, codeP, hm1], J, J⟩ (Wpp [_, _] kg spg J ‹_› J J J J J J J J) J (.blk J J (Wsub 10 J J J J J J J J J J J J J J J J (Bs 3 J J J J (Bs 3 J J J J .nil)))) XR
   by_cases hm2 : mo0 = 2
   ·subst hm2
    have hro := hh0.1 rfl
    simp only at hro
    rcases hro with rfl | rfl <;>
    ·refine RF J J ?_
     refine Va J J ?_;refine Ds J J J ?_;refine Da J J ?_;refine D_setP 31 (b := true) J J ?_;refine Da J J ?_;refine DD ?_;refine Va J J ?_
     refine S_condp J (fun h => ?_) (fun h => ?_) <;> refine Va J J ?_
     ·exact RK (1007 :: wKeys 2) (Res.t1 Tryz.results46 J J) ⟨by simp [codeOf, codeP, Wld.rm, h], J, J⟩ (Wpp [_, _] kg spg J ‹_› J J J J J J J J) J (.blk J J (Wsub 10 J J J J J J J J J J J J J J J J (Bs 3 J J J J (Bs 3 J J J J .nil)))) XR
     ·refine RT J J ?_
      refine Va J J ?_;exact RK (1007 :: wKeys 2) (Res.t1 Tryz.results46 J J) ⟨by have h' := Classical.not_not.1 h; simp [codeOf, codeP, Wld.rm, h'], rfl, rfl⟩ (Wpp [_, _] kg spg rfl ‹_› rfl rfl rfl rfl rfl rfl rfl rfl) rfl (.blk rfl rfl (Wsub 10 rfl rfl rfl rfl rfl rfl rfl rfl rfl rfl rfl rfl rfl rfl rfl rfl (Bs 3 rfl rfl rfl rfl (Bs 3 rfl rfl rfl rfl .nil)))) XR
   refine RF J (by simp [hm1]) ?_;refine Va J J ?_;refine Ds J J J ?_;refine Da J J ?_;refine D_split 31 J (fun _ => J) (fun h => absurd h (by simp [hm2])) (fun h => ?_)
   refine Da J J ?_;refine DD ?_;refine Va J J ?_;refine RF J (by simp [hm2]) ?_;refine Va J J ?_
   rcases hTD : td0 with _ | ⟨s, r⟩
   ·subst hTD
    refine RT J J ?_;refine Va J J ?_;exact RK (1007 :: wKeys 2) (Res.t1 Tryz.results46 J J) ⟨by simp [codeOf, codeP, hm1, hm2], J, J⟩ (Wpp [_, _] kg spg J ‹_› J J J J J J J J) J (.blk J J (Wsub 10 J J J J J J J J J J J J J J J J (Bs 3 J J J J (Bs 3 J J J J .nil)))) XR
   subst hTD
   obtain ⟨ad, vx, vy, rfl, hcs, _⟩ := Sts_head s0
   refine RF J (by simp <;> omega) ?_
   refine Va J J ?_
   by_cases hk8 : s.kind = 8
   ·have hsa := hh0.2 s r rfl hk8
    obtain ⟨sk, sa, sb, sn, sx, sy⟩ := s
    simp only [Stm.kind, Stm.a] at hk8 hsa hcs
    subst hk8
    rcases hsa with rfl | rfl <;>
    ·refine Ds J J J ?_
     refine Da J J ?_
     refine D_val 2 J J J J J J J J J (V_index Tk J J J J (by omega) (by simp <;> omega)) ?_
     refine Da J J ?_;refine D_val 4 J J J J J J J J J (V_load Tk J J J (by simpa [add_add', add_zero'] using gcells_at hcs 0 _ J)) ?_;refine Da J J ?_;refine D_setP 58 (b := true) J J ?_;refine Da J J ?_
     refine D_val 13 J J J J J J J J J (V_index Tk J J J J (by omega) (by simp <;> omega)) ?_
     refine Da J J ?_;refine D_val 15 J J J J J J J J J (V_load Tk J J J (by simpa [add_add', add_zero'] using gcells_at hcs 1 _ J)) ?_;refine Da J J ?_;refine DD ?_;refine Va J J ?_
     refine S_condp J (fun h => ?_) (fun h => ?_) <;> refine Va J J ?_
     ·exact RK (1007 :: wKeys 2) (Res.t1 Tryz.results46 J J) ⟨by simp [codeOf, codeP, Wld.rm, hm1, hm2, Stm.kind, Stm.a, h], J, J⟩ (Wpp [_, _] kg spg J ‹_› J J J J J J J J) J (.blk J J (Wsub 10 J J J J J J J J J J J J J J J J (Bs 3 J J J J (Bs 3 J J J J .nil)))) XR
     ·exact RK (1007 :: wKeys 2) (Res.t1 Tryz.results46 J J) ⟨by have h' := Classical.not_not.1 h; simp [codeOf, codeP, Wld.rm, hm1, hm2, Stm.kind, Stm.a, h'], rfl, rfl⟩ (Wpp [_, _] kg spg rfl ‹_› rfl rfl rfl rfl rfl rfl rfl rfl) rfl (.blk rfl rfl (Wsub 10 rfl rfl rfl rfl rfl rfl rfl rfl rfl rfl rfl rfl rfl rfl rfl rfl (Bs 3 rfl rfl rfl rfl (Bs 3 rfl rfl rfl rfl .nil)))) XR
   refine Ds J J J ?_;refine Da J J ?_
   refine D_val 2 J J J J J J J J J (V_index Tk J J J J (by omega) (by simp <;> omega)) ?_
   refine Da J J ?_;refine D_val 4 J J J J J J J J J (V_load Tk J J J (by simpa [add_add', add_zero'] using gcells_at hcs 0 _ J)) ?_;refine Da J J ?_;refine D_split 58 J (fun _ => J) (fun h => absurd h (by simp [hk8])) (fun h => ?_)
   refine Da J J ?_;refine DD ?_;refine Va J J ?_;exact RK (1007 :: wKeys 2) (Res.t1 Tryz.results46 J J) ⟨by simp [codeOf, codeP, hm1, hm2, hk8], J, J⟩ (Wpp [_, _] kg spg J ‹_› J J J J J J J J) J (.blk J J (Wsub 10 J J J J J J J J J J J J J J J J (Bs 3 J J J J (Bs 3 J J J J .nil)))) XR
  ·refine OpP 1 0 J J J J fun bp bc br bs bg kp sp asd ksd aq0 kq0 aq1 kq1 kc spc kr spr ks sps kg spg hbg hmk => ?_; obtain ⟨g0, g1, rfl⟩ := len2 hbg; clear hbg; refine NM J J ?_; dsimp only [wEnts, wCels, procCs, regEs, WX.of, vi]
   refine Va J J ?_;refine RF J J ?_;refine Va J J ?_;refine AZ ZT_ok J J J J fun b5 => ?_;refine Va J J ?_
   by_cases hm1 : mo1 = 1
   ·refine RT J (by simp [hm1]) ?_
    refine Va J J ?_;refine RT J (by simp [hm1]) ?_;refine Va J J ?_;exact RK (1007 :: wKeys 2) (Res.t1 Tryz.results46 J J) ⟨by simp [codeOf, codeP, hm1], J, J⟩ (Wpp [_, _] kg spg J ‹_› J J J J J J J J) J (.blk J J (Wsub 10 J J J J J J J J J J J J J J J J (Bs 3 J J J J (Bs 3 J J J J .nil)))) XR
   by_cases hm2 : mo1 = 2
   ·subst hm2
    have hro := hh1.1 rfl
    simp only at hro
    rcases hro with rfl | rfl <;>
    ·refine RF J J ?_
     refine Va J J ?_;refine Ds J J J ?_;refine Da J J ?_;refine D_setP 31 (b := true) J J ?_;refine Da J J ?_;refine DD ?_;refine Va J J ?_
     refine S_condp J (fun h => ?_) (fun h => ?_) <;> refine Va J J ?_
     ·exact RK (1007 :: wKeys 2) (Res.t1 Tryz.results46 J J) ⟨by simp [codeOf, codeP, Wld.rm, h], J, J⟩ (Wpp [_, _] kg spg J ‹_› J J J J J J J J) J (.blk J J (Wsub 10 J J J J J J J J J J J J J J J J (Bs 3 J J J J (Bs 3 J J J J .nil)))) XR
     ·refine RT J J ?_
      refine Va J J ?_;exact RK (1007 :: wKeys 2) (Res.t1 Tryz.results46 J J) ⟨by have h' := Classical.not_not.1 h; simp [codeOf, codeP, Wld.rm, h'], rfl, rfl⟩ (Wpp [_, _] kg spg rfl ‹_› rfl rfl rfl rfl rfl rfl rfl rfl) rfl (.blk rfl rfl (Wsub 10 rfl rfl rfl rfl rfl rfl rfl rfl rfl rfl rfl rfl rfl rfl rfl rfl (Bs 3 rfl rfl rfl rfl (Bs 3 rfl rfl rfl rfl .nil)))) XR
   refine RF J (by simp [hm1]) ?_;refine Va J J ?_;refine Ds J J J ?_;refine Da J J ?_;refine D_split 31 J (fun _ => J) (fun h => absurd h (by simp [hm2])) (fun h => ?_)
   refine Da J J ?_;refine DD ?_;refine Va J J ?_;refine RF J (by simp [hm2]) ?_;refine Va J J ?_
   rcases hTD : td1 with _ | ⟨s, r⟩
   ·subst hTD
    refine RT J J ?_;refine Va J J ?_;exact RK (1007 :: wKeys 2) (Res.t1 Tryz.results46 J J) ⟨by simp [codeOf, codeP, hm1, hm2], J, J⟩ (Wpp [_, _] kg spg J ‹_› J J J J J J J J) J (.blk J J (Wsub 10 J J J J J J J J J J J J J J J J (Bs 3 J J J J (Bs 3 J J J J .nil)))) XR
   subst hTD
   obtain ⟨ad, vx, vy, rfl, hcs, _⟩ := Sts_head s1
   refine RF J (by simp <;> omega) ?_
   refine Va J J ?_
   by_cases hk8 : s.kind = 8
   ·have hsa := hh1.2 s r rfl hk8
    obtain ⟨sk, sa, sb, sn, sx, sy⟩ := s
    simp only [Stm.kind, Stm.a] at hk8 hsa hcs
    subst hk8
    rcases hsa with rfl | rfl <;>
    ·refine Ds J J J ?_
     refine Da J J ?_
     refine D_val 2 J J J J J J J J J (V_index Tk J J J J (by omega) (by simp <;> omega)) ?_
     refine Da J J ?_;refine D_val 4 J J J J J J J J J (V_load Tk J J J (by simpa [add_add', add_zero'] using gcells_at hcs 0 _ J)) ?_;refine Da J J ?_;refine D_setP 58 (b := true) J J ?_;refine Da J J ?_
     refine D_val 13 J J J J J J J J J (V_index Tk J J J J (by omega) (by simp <;> omega)) ?_
     refine Da J J ?_;refine D_val 15 J J J J J J J J J (V_load Tk J J J (by simpa [add_add', add_zero'] using gcells_at hcs 1 _ J)) ?_;refine Da J J ?_;refine DD ?_;refine Va J J ?_
     refine S_condp J (fun h => ?_) (fun h => ?_) <;> refine Va J J ?_
     ·exact RK (1007 :: wKeys 2) (Res.t1 Tryz.results46 J J) ⟨by simp [codeOf, codeP, Wld.rm, hm1, hm2, Stm.kind, Stm.a, h], J, J⟩ (Wpp [_, _] kg spg J ‹_› J J J J J J J J) J (.blk J J (Wsub 10 J J J J J J J J J J J J J J J J (Bs 3 J J J J (Bs 3 J J J J .nil)))) XR
     ·exact RK (1007 :: wKeys 2) (Res.t1 Tryz.results46 J J) ⟨by have h' := Classical.not_not.1 h; simp [codeOf, codeP, Wld.rm, hm1, hm2, Stm.kind, Stm.a, h'], rfl, rfl⟩ (Wpp [_, _] kg spg rfl ‹_› rfl rfl rfl rfl rfl rfl rfl rfl) rfl (.blk rfl rfl (Wsub 10 rfl rfl rfl rfl rfl rfl rfl rfl rfl rfl rfl rfl rfl rfl rfl rfl (Bs 3 rfl rfl rfl rfl (Bs 3 rfl rfl rfl rfl .nil)))) XR
   refine Ds J J J ?_;refine Da J J ?_
   refine D_val 2 J J J J J J J J J (V_index Tk J J J J (by omega) (by simp <;> omega)) ?_
   refine Da J J ?_;refine D_val 4 J J J J J J J J J (V_load Tk J J J (by simpa [add_add', add_zero'] using gcells_at hcs 0 _ J)) ?_;refine Da J J ?_;refine D_split 58 J (fun _ => J) (fun h => absurd h (by simp [hk8])) (fun h => ?_)
   refine Da J J ?_;refine DD ?_;refine Va J J ?_;exact RK (1007 :: wKeys 2) (Res.t1 Tryz.results46 J J) ⟨by simp [codeOf, codeP, hm1, hm2, hk8], J, J⟩ (Wpp [_, _] kg spg J ‹_› J J J J J J J J) J (.blk J J (Wsub 10 J J J J J J J J J J J J J J J J (Bs 3 J J J J (Bs 3 J J J J .nil)))) XR
 ·have hh0 := hh _ (List.mem_cons_self ..)
  have hh1 := hh _ (List.mem_cons_of_mem _ (List.mem_cons_self ..))
  have hh2 := hh _ (List.mem_cons_of_mem _ (List.mem_cons_of_mem _ (List.mem_cons_self ..)))
  by_cases hw : who < 0 ∨ 3 ≤ who
  ·refine OpP 1 0 J J J J fun bp bc br bs bg kp sp asd ksd aq0 kq0 aq1 kq1 kc spc kr spr ks sps kg spg hbg hmk => ?_; obtain ⟨g0, g1, g2, rfl⟩ := len3 hbg; clear hbg; refine NM J J ?_; dsimp only [wEnts, wCels, procCs, regEs, WX.of, vi]
   refine Va J J ?_
   refine RT J (by simp <;> omega) ?_
   refine Va J J ?_
   exact RK (1007 :: wKeys 3) (Res.t1 Tryz.results46 J J) ⟨by rw [codeOf, if_pos (by simp <;> omega)], rfl, rfl⟩ (Wpp [_, _, _] kg spg rfl ‹_› rfl rfl rfl rfl rfl rfl rfl rfl) rfl (.blk rfl rfl (Wsub 15 rfl rfl rfl rfl rfl rfl rfl rfl rfl rfl rfl rfl rfl rfl rfl rfl (Bs 3 rfl rfl rfl rfl (Bs 3 rfl rfl rfl rfl (Bs 3 rfl rfl rfl rfl .nil))))) XR
  rcases (by omega : who = 0 ∨ who = 1 ∨ who = 2) with rfl | rfl | rfl
  ·refine OpP 1 0 J J J J fun bp bc br bs bg kp sp asd ksd aq0 kq0 aq1 kq1 kc spc kr spr ks sps kg spg hbg hmk => ?_; obtain ⟨g0, g1, g2, rfl⟩ := len3 hbg; clear hbg; refine NM J J ?_; dsimp only [wEnts, wCels, procCs, regEs, WX.of, vi]
   refine Va J J ?_;refine RF J J ?_;refine Va J J ?_;refine AZ ZT_ok J J J J fun b5 => ?_;refine Va J J ?_
   by_cases hm1 : mo0 = 1
   ·refine RT J (by simp [hm1]) ?_
    refine Va J J ?_;refine RT J (by simp [hm1]) ?_;refine Va J J ?_;exact RK (1007 :: wKeys 3) (Res.t1 Tryz.results46 J J) ⟨by simp [codeOf, codeP, hm1], J, J⟩ (Wpp [_, _, _] kg spg J ‹_› J J J J J J J J) J (.blk J J (Wsub 15 J J J J J J J J J J J J J J J J (Bs 3 J J J J (Bs 3 J J J J (Bs 3 J J J J .nil))))) XR
   by_cases hm2 : mo0 = 2
   ·subst hm2
    have hro := hh0.1 rfl
    simp only at hro
    rcases hro with rfl | rfl <;>
    ·refine RF J J ?_
     refine Va J J ?_;refine Ds J J J ?_;refine Da J J ?_;refine D_setP 31 (b := true) J J ?_;refine Da J J ?_;refine DD ?_;refine Va J J ?_
     refine S_condp J (fun h => ?_) (fun h => ?_) <;> refine Va J J ?_
     ·exact RK (1007 :: wKeys 3) (Res.t1 Tryz.results46 J J) ⟨by simp [codeOf, codeP, Wld.rm, h], J, J⟩ (Wpp [_, _, _] kg spg J ‹_› J J J J J J J J) J (.blk J J (Wsub 15 J J J J J J J J J J J J J J J J (Bs 3 J J J J (Bs 3 J J J J (Bs 3 J J J J .nil))))) XR
     ·refine RT J J ?_
      refine Va J J ?_;exact RK (1007 :: wKeys 3) (Res.t1 Tryz.results46 J J) ⟨by have h' := Classical.not_not.1 h; simp [codeOf, codeP, Wld.rm, h'], rfl, rfl⟩ (Wpp [_, _, _] kg spg rfl ‹_› rfl rfl rfl rfl rfl rfl rfl rfl) rfl (.blk rfl rfl (Wsub 15 rfl rfl rfl rfl rfl rfl rfl rfl rfl rfl rfl rfl rfl rfl rfl rfl (Bs 3 rfl rfl rfl rfl (Bs 3 rfl rfl rfl rfl (Bs 3 rfl rfl rfl rfl .nil))))) XR
   refine RF J (by simp [hm1]) ?_;refine Va J J ?_;refine Ds J J J ?_;refine Da J J ?_;refine D_split 31 J (fun _ => J) (fun h => absurd h (by simp [hm2])) (fun h => ?_)
   refine Da J J ?_;refine DD ?_;refine Va J J ?_;refine RF J (by simp [hm2]) ?_;refine Va J J ?_
   rcases hTD : td0 with _ | ⟨s, r⟩
   ·subst hTD
    refine RT J J ?_;refine Va J J ?_;exact RK (1007 :: wKeys 3) (Res.t1 Tryz.results46 J J) ⟨by simp [codeOf, codeP, hm1, hm2], J, J⟩ (Wpp [_, _, _] kg spg J ‹_› J J J J J J J J) J (.blk J J (Wsub 15 J J J J J J J J J J J J J J J J (Bs 3 J J J J (Bs 3 J J J J (Bs 3 J J J J .nil))))) XR
   subst hTD
   obtain ⟨ad, vx, vy, rfl, hcs, _⟩ := Sts_head s0
   refine RF J (by simp <;> omega) ?_
   refine Va J J ?_
   by_cases hk8 : s.kind = 8
   ·have hsa := hh0.2 s r rfl hk8
    obtain ⟨sk, sa, sb, sn, sx, sy⟩ := s
    simp only [Stm.kind, Stm.a] at hk8 hsa hcs
    subst hk8
    rcases hsa with rfl | rfl <;>
    ·refine Ds J J J ?_
     refine Da J J ?_
     refine D_val 2 J J J J J J J J J (V_index Tk J J J J (by omega) (by simp <;> omega)) ?_
     refine Da J J ?_;refine D_val 4 J J J J J J J J J (V_load Tk J J J (by simpa [add_add', add_zero'] using gcells_at hcs 0 _ J)) ?_;refine Da J J ?_;refine D_setP 58 (b := true) J J ?_;refine Da J J ?_
     refine D_val 13 J J J J J J J J J (V_index Tk J J J J (by omega) (by simp <;> omega)) ?_
     refine Da J J ?_;refine D_val 15 J J J J J J J J J (V_load Tk J J J (by simpa [add_add', add_zero'] using gcells_at hcs 1 _ J)) ?_;refine Da J J ?_;refine DD ?_;refine Va J J ?_
     refine S_condp J (fun h => ?_) (fun h => ?_) <;> refine Va J J ?_
     ·exact RK (1007 :: wKeys 3) (Res.t1 Tryz.results46 J J) ⟨by simp [codeOf, codeP, Wld.rm, hm1, hm2, Stm.kind, Stm.a, h], J, J⟩ (Wpp [_, _, _] kg spg J ‹_› J J J J J J J J) J (.blk J J (Wsub 15 J J J J J J J J J J J J J J J J (Bs 3 J J J J (Bs 3 J J J J (Bs 3 J J J J .nil))))) XR
     ·exact RK (1007 :: wKeys 3) (Res.t1 Tryz.results46 J J) ⟨by have h' := Classical.not_not.1 h; simp [codeOf, codeP, Wld.rm, hm1, hm2, Stm.kind, Stm.a, h'], rfl, rfl⟩ (Wpp [_, _, _] kg spg rfl ‹_› rfl rfl rfl rfl rfl rfl rfl rfl) rfl (.blk rfl rfl (Wsub 15 rfl rfl rfl rfl rfl rfl rfl rfl rfl rfl rfl rfl rfl rfl rfl rfl (Bs 3 rfl rfl rfl rfl (Bs 3 rfl rfl rfl rfl (Bs 3 rfl rfl rfl rfl .nil))))) XR
   refine Ds J J J ?_;refine Da J J ?_
   refine D_val 2 J J J J J J J J J (V_index Tk J J J J (by omega) (by simp <;> omega)) ?_
   refine Da J J ?_;refine D_val 4 J J J J J J J J J (V_load Tk J J J (by simpa [add_add', add_zero'] using gcells_at hcs 0 _ J)) ?_;refine Da J J ?_;refine D_split 58 J (fun _ => J) (fun h => absurd h (by simp [hk8])) (fun h => ?_)
   refine Da J J ?_;refine DD ?_;refine Va J J ?_;exact RK (1007 :: wKeys 3) (Res.t1 Tryz.results46 J J) ⟨by simp [codeOf, codeP, hm1, hm2, hk8], J, J⟩ (Wpp [_, _, _] kg spg J ‹_› J J J J J J J J) J (.blk J J (Wsub 15 J J J J J J J J J J J J J J J J (Bs 3 J J J J (Bs 3 J J J J (Bs 3 J J J J .nil))))) XR
  ·refine OpP 1 0 J J J J fun bp bc br bs bg kp sp asd ksd aq0 kq0 aq1 kq1 kc spc kr spr ks sps kg spg hbg hmk => ?_; obtain ⟨g0, g1, g2, rfl⟩ := len3 hbg; clear hbg; refine NM J J ?_; dsimp only [wEnts, wCels, procCs, regEs, WX.of, vi]
   refine Va J J ?_;refine RF J J ?_;refine Va J J ?_;refine AZ ZT_ok J J J J fun b5 => ?_;refine Va J J ?_
   by_cases hm1 : mo1 = 1
   ·refine RT J (by simp [hm1]) ?_
    refine Va J J ?_;refine RT J (by simp [hm1]) ?_;refine Va J J ?_;exact RK (1007 :: wKeys 3) (Res.t1 Tryz.results46 J J) ⟨by simp [codeOf, codeP, hm1], J, J⟩ (Wpp [_, _, _] kg spg J ‹_› J J J J J J J J) J (.blk J J (Wsub 15 J J J J J J J J J J J J J J J J (Bs 3 J J J J (Bs 3 J J J J (Bs 3 J J J J .nil))))) XR
   by_cases hm2 : mo1 = 2
   ·subst hm2
    have hro := hh1.1 rfl
    simp only at hro
    rcases hro with rfl | rfl <;>
    ·refine RF J J ?_
     refine Va J J ?_;refine Ds J J J ?_;refine Da J J ?_;refine D_setP 31 (b := true) J J ?_;refine Da J J ?_;refine DD ?_;refine Va J J ?_
     refine S_condp J (fun h => ?_) (fun h => ?_) <;> refine Va J J ?_
     ·exact RK (1007 :: wKeys 3) (Res.t1 Tryz.results46 J J) ⟨by simp [codeOf, codeP, Wld.rm, h], J, J⟩ (Wpp [_, _, _] kg spg J ‹_› J J J J J J J J) J (.blk J J (Wsub 15 J J J J J J J J J J J J J J J J (Bs 3 J J J J (Bs 3 J J J J (Bs 3 J J J J .nil))))) XR
     ·refine RT J J ?_
      refine Va J J ?_;exact RK (1007 :: wKeys 3) (Res.t1 Tryz.results46 J J) ⟨by have h' := Classical.not_not.1 h; simp [codeOf, codeP, Wld.rm, h'], rfl, rfl⟩ (Wpp [_, _, _] kg spg rfl ‹_› rfl rfl rfl rfl rfl rfl rfl rfl) rfl (.blk rfl rfl (Wsub 15 rfl rfl rfl rfl rfl rfl rfl rfl rfl rfl rfl rfl rfl rfl rfl rfl (Bs 3 rfl rfl rfl rfl (Bs 3 rfl rfl rfl rfl (Bs 3 rfl rfl rfl rfl .nil))))) XR
   refine RF J (by simp [hm1]) ?_;refine Va J J ?_;refine Ds J J J ?_;refine Da J J ?_;refine D_split 31 J (fun _ => J) (fun h => absurd h (by simp [hm2])) (fun h => ?_)
   refine Da J J ?_;refine DD ?_;refine Va J J ?_;refine RF J (by simp [hm2]) ?_;refine Va J J ?_
   rcases hTD : td1 with _ | ⟨s, r⟩
   ·subst hTD
    refine RT J J ?_;refine Va J J ?_;exact RK (1007 :: wKeys 3) (Res.t1 Tryz.results46 J J) ⟨by simp [codeOf, codeP, hm1, hm2], J, J⟩ (Wpp [_, _, _] kg spg J ‹_› J J J J J J J J) J (.blk J J (Wsub 15 J J J J J J J J J J J J J J J J (Bs 3 J J J J (Bs 3 J J J J (Bs 3 J J J J .nil))))) XR
   subst hTD
   obtain ⟨ad, vx, vy, rfl, hcs, _⟩ := Sts_head s1
   refine RF J (by simp <;> omega) ?_
   refine Va J J ?_
   by_cases hk8 : s.kind = 8
   ·have hsa := hh1.2 s r rfl hk8
    obtain ⟨sk, sa, sb, sn, sx, sy⟩ := s
    simp only [Stm.kind, Stm.a] at hk8 hsa hcs
    subst hk8
    rcases hsa with rfl | rfl <;>
    ·refine Ds J J J ?_
     refine Da J J ?_
     refine D_val 2 J J J J J J J J J (V_index Tk J J J J (by omega) (by simp <;> omega)) ?_
     refine Da J J ?_;refine D_val 4 J J J J J J J J J (V_load Tk J J J (by simpa [add_add', add_zero'] using gcells_at hcs 0 _ J)) ?_;refine Da J J ?_;refine D_setP 58 (b := true) J J ?_;refine Da J J ?_
     refine D_val 13 J J J J J J J J J (V_index Tk J J J J (by omega) (by simp <;> omega)) ?_
     refine Da J J ?_;refine D_val 15 J J J J J J J J J (V_load Tk J J J (by simpa [add_add', add_zero'] using gcells_at hcs 1 _ J)) ?_;refine Da J J ?_;refine DD ?_;refine Va J J ?_
     refine S_condp J (fun h => ?_) (fun h => ?_) <;> refine Va J J ?_
     ·exact RK (1007 :: wKeys 3) (Res.t1 Tryz.results46 J J) ⟨by simp [codeOf, codeP, Wld.rm, hm1, hm2, Stm.kind, Stm.a, h], J, J⟩ (Wpp [_, _, _] kg spg J ‹_› J J J J J J J J) J (.blk J J (Wsub 15 J J J J J J J J J J J J J J J J (Bs 3 J J J J (Bs 3 J J J J (Bs 3 J J J J .nil))))) XR
     ·exact RK (1007 :: wKeys 3) (Res.t1 Tryz.results46 J J) ⟨by have h' := Classical.not_not.1 h; simp [codeOf, codeP, Wld.rm, hm1, hm2, Stm.kind, Stm.a, h'], rfl, rfl⟩ (Wpp [_, _, _] kg spg rfl ‹_› rfl rfl rfl rfl rfl rfl rfl rfl) rfl (.blk rfl rfl (Wsub 15 rfl rfl rfl rfl rfl rfl rfl rfl rfl rfl rfl rfl rfl rfl rfl rfl (Bs 3 rfl rfl rfl rfl (Bs 3 rfl rfl rfl rfl (Bs 3 rfl rfl rfl rfl .nil))))) XR
   refine Ds J J J ?_;refine Da J J ?_
   refine D_val 2 J J J J J J J J J (V_index Tk J J J J (by omega) (by simp <;> omega)) ?_
   refine Da J J ?_;refine D_val 4 J J J J J J J J J (V_load Tk J J J (by simpa [add_add', add_zero'] using gcells_at hcs 0 _ J)) ?_;refine Da J J ?_;refine D_split 58 J (fun _ => J) (fun h => absurd h (by simp [hk8])) (fun h => ?_)
   refine Da J J ?_;refine DD ?_;refine Va J J ?_;exact RK (1007 :: wKeys 3) (Res.t1 Tryz.results46 J J) ⟨by simp [codeOf, codeP, hm1, hm2, hk8], J, J⟩ (Wpp [_, _, _] kg spg J ‹_› J J J J J J J J) J (.blk J J (Wsub 15 J J J J J J J J J J J J J J J J (Bs 3 J J J J (Bs 3 J J J J (Bs 3 J J J J .nil))))) XR
  ·refine OpP 1 0 J J J J fun bp bc br bs bg kp sp asd ksd aq0 kq0 aq1 kq1 kc spc kr spr ks sps kg spg hbg hmk => ?_; obtain ⟨g0, g1, g2, rfl⟩ := len3 hbg; clear hbg; refine NM J J ?_; dsimp only [wEnts, wCels, procCs, regEs, WX.of, vi]
   refine Va J J ?_;refine RF J J ?_;refine Va J J ?_;refine AZ ZT_ok J J J J fun b5 => ?_;refine Va J J ?_
   by_cases hm1 : mo2 = 1
   ·refine RT J (by simp [hm1]) ?_
    refine Va J J ?_;refine RT J (by simp [hm1]) ?_;refine Va J J ?_;exact RK (1007 :: wKeys 3) (Res.t1 Tryz.results46 J J) ⟨by simp [codeOf, codeP, hm1], J, J⟩ (Wpp [_, _, _] kg spg J ‹_› J J J J J J J J) J (.blk J J (Wsub 15 J J J J J J J J J J J J J J J J (Bs 3 J J J J (Bs 3 J J J J (Bs 3 J J J J .nil))))) XR
   by_cases hm2 : mo2 = 2
   ·subst hm2
    have hro := hh2.1 rfl
    simp only at hro
    rcases hro with rfl | rfl <;>
    ·refine RF J J ?_
     refine Va J J ?_;refine Ds J J J ?_;refine Da J J ?_;refine D_setP 31 (b := true) J J ?_;refine Da J J ?_;refine DD ?_;refine Va J J ?_
     refine S_condp J (fun h => ?_) (fun h => ?_) <;> refine Va J J ?_
     ·exact RK (1007 :: wKeys 3) (Res.t1 Tryz.results46 J J) ⟨by simp [codeOf, codeP, Wld.rm, h], J, J⟩ (Wpp [_, _, _] kg spg J ‹_› J J J J J J J J) J (.blk J J (Wsub 15 J J J J J J J J J J J J J J J J (Bs 3 J J J J (Bs 3 J J J J (Bs 3 J J J J .nil))))) XR
     ·refine RT J J ?_
      refine Va J J ?_;exact RK (1007 :: wKeys 3) (Res.t1 Tryz.results46 J J) ⟨by have h' := Classical.not_not.1 h; simp [codeOf, codeP, Wld.rm, h'], rfl, rfl⟩ (Wpp [_, _, _] kg spg rfl ‹_› rfl rfl rfl rfl rfl rfl rfl rfl) rfl (.blk rfl rfl (Wsub 15 rfl rfl rfl rfl rfl rfl rfl rfl rfl rfl rfl rfl rfl rfl rfl rfl (Bs 3 rfl rfl rfl rfl (Bs 3 rfl rfl rfl rfl (Bs 3 rfl rfl rfl rfl .nil))))) XR
   refine RF J (by simp [hm1]) ?_;refine Va J J ?_;refine Ds J J J ?_;refine Da J J ?_;refine D_split 31 J (fun _ => J) (fun h => absurd h (by simp [hm2])) (fun h => ?_)
   refine Da J J ?_;refine DD ?_;refine Va J J ?_;refine RF J (by simp [hm2]) ?_;refine Va J J ?_
   rcases hTD : td2 with _ | ⟨s, r⟩
   ·subst hTD
    refine RT J J ?_;refine Va J J ?_;exact RK (1007 :: wKeys 3) (Res.t1 Tryz.results46 J J) ⟨by simp [codeOf, codeP, hm1, hm2], J, J⟩ (Wpp [_, _, _] kg spg J ‹_› J J J J J J J J) J (.blk J J (Wsub 15 J J J J J J J J J J J J J J J J (Bs 3 J J J J (Bs 3 J J J J (Bs 3 J J J J .nil))))) XR
   subst hTD
   obtain ⟨ad, vx, vy, rfl, hcs, _⟩ := Sts_head s2
   refine RF J (by simp <;> omega) ?_
   refine Va J J ?_
   by_cases hk8 : s.kind = 8
   ·have hsa := hh2.2 s r rfl hk8
    obtain ⟨sk, sa, sb, sn, sx, sy⟩ := s
    simp only [Stm.kind, Stm.a] at hk8 hsa hcs
    subst hk8
    rcases hsa with rfl | rfl <;>
    ·refine Ds J J J ?_
     refine Da J J ?_
     refine D_val 2 J J J J J J J J J (V_index Tk J J J J (by omega) (by simp <;> omega)) ?_
     refine Da J J ?_;refine D_val 4 J J J J J J J J J (V_load Tk J J J (by simpa [add_add', add_zero'] using gcells_at hcs 0 _ J)) ?_;refine Da J J ?_;refine D_setP 58 (b := true) J J ?_;refine Da J J ?_
     refine D_val 13 J J J J J J J J J (V_index Tk J J J J (by omega) (by simp <;> omega)) ?_
     refine Da J J ?_;refine D_val 15 J J J J J J J J J (V_load Tk J J J (by simpa [add_add', add_zero'] using gcells_at hcs 1 _ J)) ?_;refine Da J J ?_;refine DD ?_;refine Va J J ?_
     refine S_condp J (fun h => ?_) (fun h => ?_) <;> refine Va J J ?_
     ·exact RK (1007 :: wKeys 3) (Res.t1 Tryz.results46 J J) ⟨by simp [codeOf, codeP, Wld.rm, hm1, hm2, Stm.kind, Stm.a, h], J, J⟩ (Wpp [_, _, _] kg spg J ‹_› J J J J J J J J) J (.blk J J (Wsub 15 J J J J J J J J J J J J J J J J (Bs 3 J J J J (Bs 3 J J J J (Bs 3 J J J J .nil))))) XR
     ·exact RK (1007 :: wKeys 3) (Res.t1 Tryz.results46 J J) ⟨by have h' := Classical.not_not.1 h; simp [codeOf, codeP, Wld.rm, hm1, hm2, Stm.kind, Stm.a, h'], rfl, rfl⟩ (Wpp [_, _, _] kg spg rfl ‹_› rfl rfl rfl rfl rfl rfl rfl rfl) rfl (.blk rfl rfl (Wsub 15 rfl rfl rfl rfl rfl rfl rfl rfl rfl rfl rfl rfl rfl rfl rfl rfl (Bs 3 rfl rfl rfl rfl (Bs 3 rfl rfl rfl rfl (Bs 3 rfl rfl rfl rfl .nil))))) XR
   refine Ds J J J ?_;refine Da J J ?_
   refine D_val 2 J J J J J J J J J (V_index Tk J J J J (by omega) (by simp <;> omega)) ?_
   refine Da J J ?_;refine D_val 4 J J J J J J J J J (V_load Tk J J J (by simpa [add_add', add_zero'] using gcells_at hcs 0 _ J)) ?_;refine Da J J ?_;refine D_split 58 J (fun _ => J) (fun h => absurd h (by simp [hk8])) (fun h => ?_)
   refine Da J J ?_;refine DD ?_;refine Va J J ?_;exact RK (1007 :: wKeys 3) (Res.t1 Tryz.results46 J J) ⟨by simp [codeOf, codeP, hm1, hm2, hk8], J, J⟩ (Wpp [_, _, _] kg spg J ‹_› J J J J J J J J) J (.blk J J (Wsub 15 J J J J J J J J J J J J J J J J (Bs 3 J J J J (Bs 3 J J J J (Bs 3 J J J J .nil))))) XR
end
section
attribute [local irreducible] X Pure Mod
def deedV (k a b n : Int) (vx vy : Value) : Value :=
 if k = 1 then .iface 141 (.agg #[.int .i64 a, .int .i64 n])
 else if k = 2 then .iface 143 (.agg #[.int .i64 a, .int .i64 b, .int .i64 n])
 else if k = 3 then .iface 145 (.agg #[.int .i64 a, .int .i64 b])
 else if k = 4 then .iface 147 (.agg #[.int .i64 a, .int .i64 b])
 else if k = 5 then .iface 149 (.agg #[.int .i64 a])
 else if k = 6 then .iface 151 (.agg #[.int .i64 k, .int .i64 a, .int .i64 b, .int .i64 n, vx, vy])
 else if k = 7 then .iface 152 (.agg #[.int .i64 k, .int .i64 a, .int .i64 b, .int .i64 n, vx, vy])
 else if k = 8 then .iface 153 (.agg #[.int .i64 k, .int .i64 a, .int .i64 b, .int .i64 n, vx, vy])
 else if k = 9 then .iface 155 (.agg #[.int .i64 a])
 else if k = 10 then .iface 156 (.agg #[.int .i64 a])
 else if k = 12 then .iface 158 (.agg #[.int .i64 a])
 else .iface 160 (.agg #[])
theorem c_deedOf (k a b n : Int) (A1 : Option Addr) (n1 c1 : Nat) (A2 : Option Addr) (n2 c2 : Nat) (G : PH) : Pure Tryz.prog 85 [.agg #[.int .i64 k, .int .i64 a, .int .i64 b, .int .i64 n, .slice A1 n1 c1, .slice A2 n2 c2]] G fun v G' => v = deedV k a b n (.slice A1 n1 c1) (.slice A2 n2 c2) ∧ G' = G := by
 refine Pure.intro Tryz.func85 Tryz.ntmps85 J J fun w => ?_; refine Va J J ?_
 repeat' (first
  | (refine S_condp J (fun h => ?_) (fun h => ?_) <;> refine Va J J ?_) | (refine S_cond J (fun h => ?_) (fun h => ?_) <;> refine Va J J ?_) | (refine S_box J J J J J fun b => ?_; refine Va J J ?_) | (refine AZ ZT_ok J J J J fun b => ?_; refine Va J J ?_) | (refine S_guardp J J (fun h => ?_) (fun h => ?_) <;> refine Va J J ?_) | (refine S_guard J J (fun h => ?_) (fun h => ?_) <;> refine Va J J ?_)
  | exact S_retp (Res.t1 Tryz.results85 J J) XR ⟨by simp_all [deedV], J⟩
  | (refine S_valV J J J (V_build0 (by kernel_rfl)) ?_; refine S_valV J J J (V_iface (by kernel_rfl) J J) ?_; refine Va J J ?_))
end
end Go.Proofs.YtlmkipckihgehaaGreat
